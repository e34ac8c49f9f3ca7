/- Slices of slices, of texts, of arrays; the least and the greatest. -/
import Derived.Test.YtphpkpemamccnacGreatAiPure3
namespace Go.Ai
section
variable {P : Program} {nt : Nat} {M : Mp} {D : Nat → Prop} {tm : Tr AV} {a : Act} {w : World} {H H' : Heap} {v : AV} {o : Oper}

theorem bnd_none {d m n : Nat} (h : bnd tm none d m = some n) : n = d := by
  have h' : some d = some n := h
  simpa using h'.symm
theorem bnd_some {X : Opd} {d m n : Nat} {x : Operand} (hx : opd nt x = some X) (ht : TmRel M D nt tm a) (h : bnd tm (some X) d m = some n) :
    n ≤ m ∧ ∀ y code, m ≤ y → (Instr.sliceBound (a.eval x) y code).run P w = .ok n w := by
  have h' : Option.casesOn (motive := fun _ => Option Nat) (ev tm X) none (fun v => match v with
    | .int _ i => natF i none fun n => Bool.casesOn (motive := fun _ => Option Nat) (Nat.ble n m) none (some n)
    | _ => none) = some n := h
  obtain ⟨u, hu, h1⟩ := ocase h'
  obtain ⟨e, e2⟩ := ev_ok hx ht hu
  split at h1
  · rename_i k i
    obtain ⟨h0, h2⟩ := natF_some h1
    obtain ⟨hb, h3⟩ := bcaseT h2
    have hb := Nat.le_of_ble_eq_true hb
    have hn : i.toNat = n := by simpa using h3
    subst hn
    refine ⟨hb, fun y code hy => ?_⟩
    simp only [Instr.sliceBound, e, conc, asIntOf, Sem.run_bind, Sem.run_pure, Result.andThen_ok, Sem.run_ite]
    rw [if_pos ⟨h0, by omega⟩]
  · cases h1

theorem bounds_run {isSlice : Bool} {len cap A m h l : Nat} {lo hi mx : Option Operand} {LO HI MX : Option Opd} (hA : A ≤ cap) (hlen : len ≤ A)
    (el : opdO nt lo = some LO) (eh : opdO nt hi = some HI) (em : opdO nt mx = some MX) (ht : TmRel M D nt tm a)
    (hm : bnd tm MX A A = some m) (hh : bnd tm HI len m = some h) (hl : bnd tm LO 0 h = some l) (hmh : ∀ X, MX = some X → HI ≠ none) :
    (Instr.sliceBounds isSlice len cap (lo.map a.eval) (hi.map a.eval) (mx.map a.eval)).run P w = .ok (l, h, if MX = none then cap else m) w ∧ l ≤ h ∧ h ≤ m ∧ m ≤ A ∧ (MX = none → m = A) := by
  have low : ∀ (c : Nat) (code : BoundsCode), (match (lo.map a.eval : Option Value) with
      | some v => (do let l ← Instr.sliceBound v h code; pure (l, h, c) : Sem (Nat × Nat × Nat))
      | none => (do let l ← pure 0; pure (l, h, c) : Sem (Nat × Nat × Nat))).run P w = .ok (l, h, c) w ∧ l ≤ h := by
    intro c code
    cases lo with
    | none => cases el; have := bnd_none hl; subst this; exact ⟨rfl, Nat.zero_le _⟩
    | some x =>
      simp only [opdO, Option.map_eq_some_iff] at el
      obtain ⟨X, hX, rfl⟩ := el
      obtain ⟨g1, g2⟩ := bnd_some (P := P) (w := w) hX ht hl
      exact ⟨by simp only [Option.map_some, Sem.run_bind, g2 h code (Nat.le_refl _), Result.andThen_ok, Sem.run_pure], g1⟩
  cases mx with
  | none =>
    cases em
    have hm' := bnd_none hm
    subst hm'
    cases hi with
    | none =>
      cases eh
      have hh' := bnd_none hh
      subst hh'
      obtain ⟨l1, l2⟩ := low cap .sliceB
      refine ⟨?_, l2, hlen, Nat.le_refl _, fun _ => rfl⟩
      simp only [Instr.sliceBounds, Option.map_none, Sem.run_bind, Sem.run_pure, Result.andThen_ok, Option.isSome_none, Bool.false_eq_true, if_false, if_true]
      exact l1
    | some y =>
      simp only [opdO, Option.map_eq_some_iff] at eh
      obtain ⟨Y, hY, rfl⟩ := eh
      obtain ⟨g1, g2⟩ := bnd_some (P := P) (w := w) hY ht hh
      obtain ⟨l1, l2⟩ := low cap .sliceB
      refine ⟨?_, l2, g1, Nat.le_refl _, fun _ => rfl⟩
      simp only [Instr.sliceBounds, Option.map_none, Option.map_some, Sem.run_bind, Sem.run_pure, Result.andThen_ok, g2 cap _ hA, Option.isSome_none, Bool.false_eq_true, if_false, if_true]
      exact l1
  | some z =>
    simp only [opdO, Option.map_eq_some_iff] at em
    obtain ⟨Z, hZ, rfl⟩ := em
    obtain ⟨m1, m2⟩ := bnd_some (P := P) (w := w) hZ ht hm
    cases hi with
    | none => cases eh; exact (hmh Z rfl rfl).elim
    | some y =>
      simp only [opdO, Option.map_eq_some_iff] at eh
      obtain ⟨Y, hY, rfl⟩ := eh
      obtain ⟨g1, g2⟩ := bnd_some (P := P) (w := w) hY ht hh
      obtain ⟨l1, l2⟩ := low m .slice3C
      refine ⟨?_, l2, g1, m1, fun e => by cases e⟩
      simp only [Instr.sliceBounds, Option.map_some, Sem.run_bind, Result.andThen_ok, m2 cap _ hA, g2 m _ (Nat.le_refl _), Option.isSome_some, if_true, reduceCtorEq, if_false]
      exact l1

theorem slice_ok {x x' : Option Addr} {n n' c c' : Nat} (h1 : x = x') (h2 : n = n') (h3 : c = c') : (Result.ok (Next.value (.slice x n c)) w) = .ok (.value (.slice x' n' c')) w := by
  rw [h1, h2, h3]
theorem addr_ok {b i j : Nat} (h : i = j) : (some ⟨b, i, none⟩ : Option Addr) = some ⟨b, j, none⟩ := by rw [h]

/-- what a slice expression's type is -/
def SlT (P : Program) (t : TypeId) : SlK → Prop
  | .sl s => ∃ e, P.underlying t = some (.slice e) ∧ szT P e = some s
  | .str => P.underlying t = some .string
  | .arr n s => ∃ e, P.underlying t = some (.array n e) ∧ szT P e = some s

theorem sl_sound {t : TypeId} {k : SlK} {x : Operand} {X : Opd} {lo hi mx : Option Operand} {LO HI MX : Option Opd} (ho : o.op = .slice t x lo hi mx) (hk : SlT P t k)
    (hx : opd nt x = some X) (el : opdO nt lo = some LO) (eh : opdO nt hi = some HI) (em : opdO nt mx = some MX) (ht : TmRel M D nt tm a) (hr : Rel M D H w)
    (h : opF (.sl k X LO HI MX) tm H = some (v, H')) : Sound1 P w M D H (execOp a.eval o) v H' := by
  obtain ⟨u, hu, h1⟩ := ocase h
  clear h
  obtain ⟨r, hr', h⟩ := ocase h1
  clear h1
  cases h
  obtain ⟨e, k1⟩ := ev_ok hx ht hu
  unfold slF at hr'
  split at hr'
  · -- a text
    rename_i s
    have hut : P.underlying t = some .string := hk
    split at hr'
    · cases hr'
    · obtain ⟨h, hh, hr'⟩ := ocase hr'
      obtain ⟨l, hl, hr'⟩ := ocase hr'
      cases hr'
      have hmx : mx = none := by
        cases mx with
        | none => rfl
        | some z => simp [opdO] at em
      subst hmx
      obtain ⟨g1, g2, g3, _, _⟩ := bounds_run (P := P) (M := M) (D := D) (w := w) (isSlice := false) (len := s.length) (cap := s.length) (A := s.length) (MX := none) (mx := none) (Nat.le_refl _) (Nat.le_refl _) el eh rfl ht rfl hh hl (fun X hX => by cases hX)
      refine Sound1.same hr ?_ (by simp [okv])
      simp only [execOp, ho, e, conc, Instr.sliceAt, Instr.slice, Sem.run_bind, run_underlying hut, Result.andThen_ok, bytes_size, Option.map_none, Option.isSome_none, Bool.false_eq_true, if_false] at g1 ⊢
      rw [g1]
      simp only [Result.andThen_ok, Sem.run_pure]
      congr 3
      rw [skp_eq]
      apply ByteArray.ext
      simp [ByteArray.data_extract]
  · -- a slice
    rename_i sz b off len ext opn
    obtain ⟨el', hut, hs⟩ := hk
    obtain ⟨m, hm, r1⟩ := ocase hr'
    clear hr'
    obtain ⟨h, hh, r2⟩ := ocase r1
    clear r1
    obtain ⟨l, hl, hr'⟩ := ocase r2
    clear r2
    simp only [okv] at k1
    have run : ∀ (hmh : ∀ X, MX = some X → HI ≠ none), (execOp a.eval o).run P w = .ok (.value (.slice (if (if MX = none then len + ext + (if opn = true then (M b).slack else 0) else m) = l then some ⟨(M b).blk, (M b).base + off, none⟩ else some ⟨(M b).blk, (M b).base + off + l * sz, none⟩) (h - l)
        ((if MX = none then len + ext + (if opn = true then (M b).slack else 0) else m) - l))) w ∧ l ≤ h ∧ h ≤ m ∧ m ≤ len + ext ∧ (MX = none → m = len + ext) := by
      intro hmh
      obtain ⟨g1, g2⟩ := bounds_run (P := P) (M := M) (D := D) (w := w) (isSlice := true) (len := len) (cap := len + ext + (if opn = true then (M b).slack else 0)) (A := len + ext) (by omega) (by omega) el eh em ht hm hh hl hmh
      refine ⟨?_, g2⟩
      simp only [execOp, ho, e, conc, Instr.sliceAt, Instr.slice, Sem.run_bind, run_underlying hut, Result.andThen_ok, g1, run_size hs, Sem.run_pure, Option.map_some, addr_add]
    split at hr'
    · cases hr'
    · obtain ⟨g1, g2, g3, g4, _⟩ := run (fun X hX e => by cases e)
      cases hr'
      refine Sound1.same hr ?_ (by simpa [okv] using k1)
      rw [g1]
      simp only [reduceCtorEq, if_false, conc, Bool.false_eq_true]
      by_cases hml : m = l
      · rw [if_pos hml, if_pos hml]; exact slice_ok rfl rfl (by omega)
      · rw [if_neg hml, if_neg hml]; exact slice_ok (addr_ok (by omega)) rfl (by omega)
    · obtain ⟨g1, g2, g3, g4, g5⟩ := run (fun X hX e => by cases hX)
      have g5 := g5 rfl
      subst g5
      simp only [if_true] at g1
      split at hr'
      · rename_i hopn
        subst hopn
        simp only [if_true] at g1
        split at hr'
        · rename_i hml
          cases hr'
          refine Sound1.same hr ?_ (by simpa [okv] using k1)
          rw [g1]
          simp only [conc]
          have hhl : h = l := by omega
          subst hhl
          by_cases hz : (M b).slack = 0
          · rw [if_pos (by omega), if_pos hz]; exact slice_ok rfl (by omega) (by omega)
          · rw [if_neg (by omega), if_neg hz]; exact slice_ok (addr_ok (by omega)) (by omega) (by omega)
        · rename_i hml
          cases hr'
          refine Sound1.same hr ?_ (by simpa [okv] using k1)
          rw [g1, if_neg (by omega)]
          simp only [conc, if_true]
          exact slice_ok (addr_ok (by omega)) rfl (by omega)
      · rename_i hopn
        have hopn : opn = false := by simpa using hopn
        subst hopn
        cases hr'
        refine Sound1.same hr ?_ (by simpa [okv] using k1)
        rw [g1]
        simp only [Bool.false_eq_true, if_false, conc, Nat.add_zero]
        by_cases hml : len + ext = l
        · rw [if_pos hml, if_pos hml]; exact slice_ok rfl rfl (by omega)
        · rw [if_neg hml, if_neg hml]; exact slice_ok (addr_ok (by omega)) rfl (by omega)
  · -- a nil slice
    rename_i sz
    obtain ⟨el', hut, hs⟩ := hk
    obtain ⟨m, hm, r1⟩ := ocase hr'
    clear hr'
    obtain ⟨h, hh, r2⟩ := ocase r1
    clear r1
    obtain ⟨l, hl, hr'⟩ := ocase r2
    clear r2
    split at hr'
    · cases hr'
    · rename_i hne
      cases hr'
      obtain ⟨g1, g2, g3, g4, _⟩ := bounds_run (P := P) (M := M) (D := D) (w := w) (isSlice := true) (len := 0) (cap := 0) (A := 0) (Nat.le_refl _) (Nat.le_refl _) el eh em ht hm hh hl (fun X hX e => hne X hX e)
      refine Sound1.same hr ?_ (by simp [okv])
      have : m = 0 := by omega
      subst this
      have : h = 0 := by omega
      subst this
      have : l = 0 := by omega
      subst this
      simp only [execOp, ho, e, conc, Instr.sliceAt, Instr.slice, Sem.run_bind, run_underlying hut, Result.andThen_ok, g1, run_size hs, Sem.run_pure]
      simp
  · -- an array
    rename_i n sz b off
    obtain ⟨el', hut, hs⟩ := hk
    obtain ⟨m, hm, r1⟩ := ocase hr'
    clear hr'
    obtain ⟨h, hh, r2⟩ := ocase r1
    clear r1
    obtain ⟨l, hl, hr'⟩ := ocase r2
    clear r2
    simp only [okv] at k1
    split at hr'
    · cases hr'
    · rename_i hne
      cases hr'
      obtain ⟨g1, g2, g3, g4, g5⟩ := bounds_run (P := P) (M := M) (D := D) (w := w) (isSlice := false) (len := n) (cap := n) (A := n) (Nat.le_refl _) (Nat.le_refl _) el eh em ht hm hh hl (fun X hX e => hne X hX e)
      refine Sound1.same hr ?_ (by simpa [okv] using k1)
      have hmn : (if MX = none then n else m) = m := by
        by_cases hq : MX = none
        · rw [if_pos hq, g5 hq]
        · rw [if_neg hq]
      rw [hmn] at g1
      simp only [execOp, ho, e, conc, Instr.sliceAt, Instr.sureAddr, Sem.run_bind, run_underlying hut, Result.andThen_ok, g1, run_size hs, Sem.run_pure, addr_add, Bool.false_eq_true, if_false]
      by_cases hml : m = l
      · rw [if_pos hml, if_pos hml]; exact slice_ok rfl rfl (by omega)
      · rw [if_neg hml, if_neg hml]; exact slice_ok (addr_ok (by omega)) rfl (by omega)
  · cases hr'

theorem minmaxF_cons {mx : Bool} {vs : List AV} {v y r : AV} (h : minmaxF mx v (y :: vs) = some r) : ∃ k a k' b, v = .int k a ∧ y = .int k' b ∧
    minmaxF mx (.int k (if mx then (if ltF a b then b else a) else (if ltF b a then b else a))) vs = some r := by
  cases v <;> first | (cases h; done) | skip
  cases y <;> first | (cases h; done) | exact ⟨_, _, _, _, rfl, rfl, h⟩

theorem minmaxF_ok (mx : Bool) : ∀ (vs : List AV) (v r : AV), minmaxF mx v vs = some r →
    ((vs.map (conc M)).foldlM (if mx then Builtin.max2 else Builtin.min2) (conc M v)).run P w = .ok (conc M r) w ∧ (okv D v → okv D r)
  | [], v, r, h => by
    have h' : some v = some r := h
    cases h'
    exact ⟨by simp, fun h => h⟩
  | y :: vs, v, r, h => by
    obtain ⟨k, p, k', q, rfl, rfl, h'⟩ := minmaxF_cons h
    obtain ⟨g1, g2⟩ := minmaxF_ok mx vs _ r h'
    refine ⟨?_, fun _ => g2 (by simp [okv])⟩
    rw [List.map_cons, List.foldlM_cons]
    rw [ltF_eq, ltF_eq] at g1
    cases mx with
    | true =>
      simp only [if_true, conc, Builtin.max2, Sem.run_bind, Sem.run_pure, Result.andThen_ok] at g1 ⊢
      rw [← g1]
      by_cases hlt : p < q <;> simp [hlt]
    | false =>
      simp only [Bool.false_eq_true, if_false, conc, Builtin.min2, Sem.run_bind, Sem.run_pure, Result.andThen_ok] at g1 ⊢
      rw [← g1]
      by_cases hlt : q < p <;> simp [hlt]

theorem minmax_sound {mx : Bool} {args : Array Operand} {ats : Array TypeId} {L : List Opd} (ho : o.op = .call { callee := .builtin (if mx then .max else .min), args, argTypes := ats }) (hl : opds nt args.toList = some L)
    (ht : TmRel M D nt tm a) (hr : Rel M D H w) (h : opF (.minmax mx L) tm H = some (v, H')) : Sound1 P w M D H (execOp a.eval o) v H' := by
  obtain ⟨vs, hvs, h1⟩ := ocase h
  clear h
  obtain ⟨e, k⟩ := evs_ok hl ht hvs
  split at h1
  · rename_i v0 vs0
    obtain ⟨r, hr', h2⟩ := ocase h1
    cases h2
    obtain ⟨g1, g2⟩ := minmaxF_ok (P := P) (M := M) (D := D) (w := w) mx vs0 v0 v hr'
    simp only [okL] at k
    refine Sound1.same hr ?_ (g2 k.1)
    rw [exec_builtin ho]
    have hargs : (args.map a.eval).toList = conc M v0 :: vs0.map (conc M) := by rw [Array.toList_map, e, concL_map]; rfl
    cases mx with
    | true =>
      show ((do pure (.value (← Builtin.max_ ats o.type (args.map a.eval))) : Sem Next)).run P w = _
      simp only [Builtin.max_, hargs, Sem.run_bind]
      have g1' : (List.foldlM Builtin.max2 (conc M v0) (vs0.map (conc M))).run P w = .ok (conc M v) w := by simpa using g1
      rw [g1']; rfl
    | false =>
      show ((do pure (.value (← Builtin.min_ ats o.type (args.map a.eval))) : Sem Next)).run P w = _
      simp only [Builtin.min_, hargs, Sem.run_bind]
      have g1' : (List.foldlM Builtin.min2 (conc M v0) (vs0.map (conc M))).run P w = .ok (conc M v) w := by simpa using g1
      rw [g1']; rfl
  · cases h1
end
end Go.Ai
