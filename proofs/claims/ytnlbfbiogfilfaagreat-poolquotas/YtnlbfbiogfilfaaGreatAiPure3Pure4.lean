/- The last operations that leave memory alone. -/
import Derived.Test.YtnlbfbiogfilfaaGreatAiPurePure2
set_option linter.all false
namespace Go.Ai
section
variable {P : Program} {nt : Nat} {M : Mp} {D : Nat → Prop} {tm : Tr AV} {a : Act} {w : World} {H H' : Heap} {v : AV} {o : Oper}
theorem amS (ps : List (Nat × Nat)) : ∀ {l : List (Nat × Operand)} {L : List (Nat × Nat × Opd)}, akt nt ps l = some L →
    l.length = L.length ∧ ∀ (i : Nat) (p : Nat × Operand) (q : Nat × Nat × Opd), l[i]? = some p → L[i]? = some q → ps[p.1]? = some (q.1, q.2.1) ∧ opd nt p.2 = some q.2.2
  | [], L, h => by cases h; simp
  | (j, x) :: l, L, h => by
    simp only [akt, Option.bind_eq_some_iff, Option.map_eq_some_iff] at h
    obtain ⟨p, hp, A, hA, L', hL, rfl⟩ := h
    obtain ⟨h1, h2⟩ := amS ps hL
    refine ⟨by simp [h1], fun i p' q' e1 e2 => ?_⟩
    cases i with
    | zero => simp at e1 e2; subst e1; subst e2; exact ⟨hp, hA⟩
    | succ i => exact h2 i p' q' (by simpa using e1) (by simpa using e2)
theorem agh (s : Nat) : ∀ {l : List (Nat × Operand)} {L : List (Nat × Nat × Opd)}, ady nt s l = some L →
    l.length = L.length ∧ ∀ (i : Nat) (p : Nat × Operand) (q : Nat × Nat × Opd), l[i]? = some p → L[i]? = some q → some (p.1 * s, s) = some (q.1, q.2.1) ∧ opd nt p.2 = some q.2.2
  | [], L, h => by cases h; simp
  | (j, x) :: l, L, h => by
    simp only [ady, Option.bind_eq_some_iff, Option.map_eq_some_iff] at h
    obtain ⟨A, hA, L', hL, rfl⟩ := h
    obtain ⟨h1, h2⟩ := agh s hL
    refine ⟨by simp [h1], fun i p' q' e1 e2 => ?_⟩
    cases i with
    | zero => simp at e1 e2; subst e1; subst e2; exact ⟨rfl, hA⟩
    | succ i => exact h2 i p' q' (by simpa using e1) (by simpa using e2)
theorem ak5 : ∀ {fs : List Field} {ps : List (Nat × Nat)}, afL P fs = some ps → (fs.mapM fun f => (do pure (f.offset, ← sizeOf f.type) : Sem (Nat × Nat))).run P w = .ok ps w
  | [], ps, h => by cases h; simp
  | f :: fs, ps, h => by
    simp only [afL, Option.bind_eq_some_iff, Option.map_eq_some_iff] at h
    obtain ⟨s, hs, qs, hq, rfl⟩ := h
    simp only [List.mapM_cons, Sem.run_bind, nN hs, Result.andThen_ok, Sem.run_pure, ak5 hq]
theorem ad4 {t : TypeId} {parts : Array (Nat × Operand)} {fs : Array Field} {z : List AV} {ps : List (Nat × Nat)} {L : List (Nat × Nat × Opd)} (ho : o.op = .build t parts)
    (hz : Ci P t = some (.agg z)) (hu : P.underlying t = some (.struct fs)) (hp : afL P fs.toList = some ps) (hl : akt nt ps parts.toList = some L)
    (ht : TmRel M D nt tm a) (hr : Rel M D H w) (h : opF (.build z L) tm H = some (v, H')) : Sound1 P w M D H (execOp a.eval o) v H' := by
  obtain ⟨r, hr', h⟩ := cL h
  cases h
  obtain ⟨h1, h2⟩ := amS ps hl
  obtain ⟨zc, zo, ze⟩ := zK (M := M) (D := D) hz
  obtain ⟨f1, f2⟩ := akA (M := M) (D := D) (fun i => ps[i]?) parts.toList L z r h1 h2 ht zc hr'
  refine Sound1.same hr ?_ (by simp only [okv]; exact ⟨(og D r).2 fun u hu => (f2 u hu).1, fun u hu => (f2 u hu).2⟩)
  have hm : (fs.mapM fun f => (do pure (f.offset, ← sizeOf f.type) : Sem (Nat × Nat))).run P w = .ok ps.toArray w := by
    rw [Array.mapM_eq_mapM_toList]
    simp only [Sem.run_map, ak5 hp, Result.andThen_ok]
  have ze' : (bw M (.agg z)).cells = (z.map (bw M)).toArray := ze
  have hpl : (fun (i : Nat) => ps.toArray[i]?) = fun (i : Nat) => ps[i]? := by funext i; simp
  simp only [execOp, ho, Instr.build, Sem.run_bind, E4 (M := M) hz, Result.andThen_ok, run_underlying hu, hm, ze']
  have f1' : Instr.fill (fun (i : Nat) => ps.toArray[i]?) (z.map (bw M)).toArray (parts.map fun p => (p.1, a.eval p.2)).toList = some (r.map (bw M)).toArray := by rw [hpl, Array.toList_map]; exact f1
  rw [f1']
  simp [bw, lN]
theorem afn {t e : TypeId} {n s : Nat} {parts : Array (Nat × Operand)} {z : List AV} {L : List (Nat × Nat × Opd)} (ho : o.op = .build t parts)
    (hz : Ci P t = some (.agg z)) (hu : P.underlying t = some (.array n e)) (hs : szT P e = some s) (hl : ady nt s parts.toList = some L)
    (ht : TmRel M D nt tm a) (hr : Rel M D H w) (h : opF (.build z L) tm H = some (v, H')) : Sound1 P w M D H (execOp a.eval o) v H' := by
  obtain ⟨r, hr', h⟩ := cL h
  cases h
  obtain ⟨h1, h2⟩ := agh s hl
  obtain ⟨zc, zo, ze⟩ := zK (M := M) (D := D) hz
  obtain ⟨f1, f2⟩ := akA (M := M) (D := D) (fun i => some (i * s, s)) parts.toList L z r h1 h2 ht zc hr'
  refine Sound1.same hr ?_ (by simp only [okv]; exact ⟨(og D r).2 fun u hu => (f2 u hu).1, fun u hu => (f2 u hu).2⟩)
  have ze' : (bw M (.agg z)).cells = (z.map (bw M)).toArray := ze
  simp only [execOp, ho, Instr.build, Sem.run_bind, E4 (M := M) hz, Result.andThen_ok, run_underlying hu, nN hs, ze']
  have f1' : Instr.fill (fun i => some (i * s, s)) (z.map (bw M)).toArray (parts.map fun p => (p.1, a.eval p.2)).toList = some (r.map (bw M)).toArray := by rw [Array.toList_map]; exact f1
  rw [f1']
  simp [bw, lN]
theorem af6 {t : TypeId} {s : Nat × Bool} (h : aag P t = some s) : szT P t = some s.1 ∧ Nz P t = some s.2 ∧ (s.2 = false → s.1 = 1) := by
  simp only [aag, Option.bind_eq_some_iff] at h
  obtain ⟨n, hn, g, hg, h⟩ := h
  split at h
  · rename_i hb
    cases h
    refine ⟨hn, hg, fun e => ?_⟩
    have e : g = false := e
    subst e
    simpa using hb
  · cases h
theorem aqQ {t e : TypeId} {nn : Nat} {s : Nat × Bool} {x i : Operand} {X I : Opd} (ho : o.op = .index t x i) (hu : P.underlying t = some (.array nn e)) (hs : aag P e = some s)
    (hx : opd nt x = some X) (hi : opd nt i = some I) (ht : TmRel M D nt tm a) (hr : Rel M D H w)
    (h : opF (.idxA s.1 nn s.2 X I) tm H = some (v, H')) : Sound1 P w M D H (execOp a.eval o) v H' := by
  obtain ⟨s1, s2, s3⟩ := af6 hs
  obtain ⟨u, hu', h1⟩ := cL h
  clear h
  obtain ⟨z, hz', h⟩ := cL h1
  clear h1
  obtain ⟨e1, k⟩ := lF hx ht hu'
  obtain ⟨e2, k2⟩ := lF hi ht hz'
  split at h
  · rename_i cs kk n
    obtain ⟨h0, h⟩ := Ae h
    obtain ⟨hb, h⟩ := mM h
    rw [blt_eq] at hb
    have hb : n.toNat < nn := by simpa using hb
    obtain ⟨l, hl, h⟩ := cL h
    obtain ⟨r, hr', h⟩ := cL h
    cases h
    obtain ⟨p1, p2⟩ := Y2 (M := M) hr'
    obtain ⟨q1, q2, q3⟩ := ap7 hl
    simp only [okv] at k
    refine Sound1.same hr ?_ (p2 D fun u hu => ?_)
    · rw [pM] at hl
      split at hl
      · rename_i hlen
        have hl' : (cs.drop (n.toNat * s.1)).take s.1 = l := by simpa using hl
        have hp := Z9 (M := M) (w := w) s2 s1 s3 cs (n.toNat * s.1) (by simp at hlen; omega)
        rw [hl'] at hp
        simp only [execOp, ho, e1, e2, bw, Instr.index, asIntOf, Sem.run_bind, run_underlying hu, Result.andThen_ok, Sem.run_pure, Sem.run_ite, lN]
        rw [if_pos ⟨h0, by omega⟩]
        simp only [nN s1, Result.andThen_ok, hp, p1]
      · cases hl
    · obtain ⟨j, hj⟩ := List.getElem?_of_mem hu
      have hm := List.mem_of_getElem? (q3 j u hj)
      exact ⟨(og D cs).1 k.1 u hm, k.2 u hm⟩
  · cases h
theorem UV (s : List UInt8) : (⟨s.toArray⟩ : ByteArray).size = s.length := by show s.toArray.size = _; simp
theorem aqY {t : TypeId} {x i : Operand} {X I : Opd} (ho : o.op = .index t x i) (hu : P.underlying t = some .string)
    (hx : opd nt x = some X) (hi : opd nt i = some I) (ht : TmRel M D nt tm a) (hr : Rel M D H w)
    (h : opF (.idxS X I) tm H = some (v, H')) : Sound1 P w M D H (execOp a.eval o) v H' := by
  obtain ⟨u, hu', h1⟩ := cL h
  clear h
  obtain ⟨z, hz', h⟩ := cL h1
  clear h1
  obtain ⟨e1, k⟩ := lF hx ht hu'
  obtain ⟨e2, k2⟩ := lF hi ht hz'
  split at h
  · rename_i s kk n
    obtain ⟨h0, h⟩ := Ae h
    obtain ⟨c, hc, h⟩ := cL h
    cases h
    rw [arm] at hc
    refine Sound1.same hr ?_ (by simp [okv])
    have hg : (⟨s.toArray⟩ : ByteArray)[n.toNat]? = some c := by
      obtain ⟨hlt, hge⟩ := List.getElem?_eq_some_iff.1 hc
      have hlt' : n.toNat < (⟨s.toArray⟩ : ByteArray).size := by rw [UV]; exact hlt
      rw [getElem?_pos (⟨s.toArray⟩ : ByteArray) n.toNat hlt']
      show some (s.toArray[n.toNat]) = some c
      simp [hge]
    simp [execOp, ho, e1, e2, bw, Instr.index, asIntOf, run_underlying hu, h0, hg]
  · cases h
theorem xp {ρ : Operand → Value} {o : Oper} {b : Builtin} {ats : Array TypeId} {args : Array Operand} (ho : o.op = .call { callee := .builtin b, args, argTypes := ats }) :
    execOp ρ o = builtin b ats o.type (args.map fun | .const _ => true | _ => false) (args.map ρ) := by
  obtain ⟨dst, op, type, pos, after, guard⟩ := o
  subst ho
  rfl
theorem NQ {t : TypeId} {d : TypeDesc} {k : LenK} {x : Operand} {X : Opd} {ats : Array TypeId} {args : Array Operand} (ho : o.op = .call { callee := .builtin .len, args, argTypes := ats })
    (hats : ats.toList = [t]) (hargs : args.toList = [x]) (hu : P.underlying t = some d) (hk : (d = .string ∧ k = .str) ∨ (∃ n e, d = .array n e ∧ k = .arr n) ∨ (∃ e, d = .slice e ∧ k = .sl))
    (hx : opd nt x = some X) (ht : TmRel M D nt tm a) (hr : Rel M D H w)
    (h : opF (.len k X) tm H = some (v, H')) : Sound1 P w M D H (execOp a.eval o) v H' := by
  obtain ⟨u, hu', h1⟩ := cL h
  clear h
  obtain ⟨e1, k1⟩ := lF hx ht hu'
  have hats' : ats = #[t] := by rw [← Array.toArray_toList (xs := ats), hats]
  have hargs' : args = #[x] := by rw [← Array.toArray_toList (xs := args), hargs]
  subst hats'; subst hargs'
  have hrun : (execOp a.eval o).run P w = ((Builtin.len_ #[t] o.type #[a.eval x]).run P w).andThen fun v w' => .ok (.value v) w' := by
    rw [xp ho]
    show ((do pure (.value (← Builtin.len_ #[t] o.type (#[x].map a.eval))) : Sem Next)).run P w = _
    simp
  rw [e1] at hrun
  rcases hk with ⟨rfl, rfl⟩ | ⟨n, e, rfl, rfl⟩ | ⟨e, rfl, rfl⟩
  · cases u <;> first | (cases h1; done) | skip
    rename_i s
    cases h1
    refine Sound1.same hr ?_ (by simp [okv])
    rw [hrun]
    simp [Builtin.len_, bw, run_underlying hu, goInt, jM, UV]
  · cases u <;> (cases h1; refine Sound1.same hr ?_ (by simp [okv]); rw [hrun]; simp [Builtin.len_, run_underlying hu, goInt, bw])
  · cases u <;> first | (cases h1; done) | skip
    all_goals (cases h1; refine Sound1.same hr ?_ (by simp [okv]); rw [hrun]; simp [Builtin.len_, run_underlying hu, goInt, bw])
end
end Go.Ai
/- Slices of slices, of texts, of arrays; the least and the greatest. -/
namespace Go.Ai
section
variable {P : Program} {nt : Nat} {M : Mp} {D : Nat → Prop} {tm : Tr AV} {a : Act} {w : World} {H H' : Heap} {v : AV} {o : Oper}
theorem ale {d m n : Nat} (h : bnd tm none d m = some n) : n = d := by
  have h' : some d = some n := h
  simpa using h'.symm
theorem aes {X : Opd} {d m n : Nat} {x : Operand} (hx : opd nt x = some X) (ht : TmRel M D nt tm a) (h : bnd tm (some X) d m = some n) :
    n ≤ m ∧ ∀ y code, m ≤ y → (Instr.sliceBound (a.eval x) y code).run P w = .ok n w := by
  have h' : Option.casesOn (motive := fun _ => Option Nat) (ev tm X) none (fun v => match v with
    | .int _ i => Ny i none fun n => Bool.casesOn (motive := fun _ => Option Nat) (Nat.ble n m) none (some n)
    | _ => none) = some n := h
  obtain ⟨u, hu, h1⟩ := cL h'
  obtain ⟨e, e2⟩ := lF hx ht hu
  split at h1
  · rename_i k i
    obtain ⟨h0, h2⟩ := Ae h1
    obtain ⟨hb, h3⟩ := mM h2
    have hb := Nat.le_of_ble_eq_true hb
    have hn : i.toNat = n := by simpa using h3
    subst hn
    refine ⟨hb, fun y code hy => ?_⟩
    simp only [Instr.sliceBound, e, bw, asIntOf, Sem.run_bind, Sem.run_pure, Result.andThen_ok, Sem.run_ite]
    rw [if_pos ⟨h0, by omega⟩]
  · cases h1
theorem U1 {isSlice : Bool} {len cap A m h l : Nat} {lo hi mx : Option Operand} {LO HI MX : Option Opd} (hA : A ≤ cap) (hlen : len ≤ A)
    (el : afv nt lo = some LO) (eh : afv nt hi = some HI) (em : afv nt mx = some MX) (ht : TmRel M D nt tm a)
    (hm : bnd tm MX A A = some m) (hh : bnd tm HI len m = some h) (hl : bnd tm LO 0 h = some l) (hmh : ∀ X, MX = some X → HI ≠ none) :
    (Instr.sliceBounds isSlice len cap (lo.map a.eval) (hi.map a.eval) (mx.map a.eval)).run P w = .ok (l, h, if MX = none then cap else m) w ∧ l ≤ h ∧ h ≤ m ∧ m ≤ A ∧ (MX = none → m = A) := by
  have low : ∀ (c : Nat) (code : BoundsCode), (match (lo.map a.eval : Option Value) with
      | some v => (do let l ← Instr.sliceBound v h code; pure (l, h, c) : Sem (Nat × Nat × Nat))
      | none => (do let l ← pure 0; pure (l, h, c) : Sem (Nat × Nat × Nat))).run P w = .ok (l, h, c) w ∧ l ≤ h := by
    intro c code
    cases lo with
    | none => cases el; have := ale hl; subst this; exact ⟨rfl, Nat.zero_le _⟩
    | some x =>
      simp only [afv, Option.map_eq_some_iff] at el
      obtain ⟨X, hX, rfl⟩ := el
      obtain ⟨g1, g2⟩ := aes (P := P) (w := w) hX ht hl
      exact ⟨by simp only [Option.map_some, Sem.run_bind, g2 h code (Nat.le_refl _), Result.andThen_ok, Sem.run_pure], g1⟩
  cases mx with
  | none =>
    cases em
    have hm' := ale hm
    subst hm'
    cases hi with
    | none =>
      cases eh
      have hh' := ale hh
      subst hh'
      obtain ⟨l1, l2⟩ := low cap .sliceB
      refine ⟨?_, l2, hlen, Nat.le_refl _, fun _ => rfl⟩
      simp only [Instr.sliceBounds, Option.map_none, Sem.run_bind, Sem.run_pure, Result.andThen_ok, Option.isSome_none, Bool.false_eq_true, if_false, if_true]
      exact l1
    | some y =>
      simp only [afv, Option.map_eq_some_iff] at eh
      obtain ⟨Y, hY, rfl⟩ := eh
      obtain ⟨g1, g2⟩ := aes (P := P) (w := w) hY ht hh
      obtain ⟨l1, l2⟩ := low cap .sliceB
      refine ⟨?_, l2, g1, Nat.le_refl _, fun _ => rfl⟩
      simp only [Instr.sliceBounds, Option.map_none, Option.map_some, Sem.run_bind, Sem.run_pure, Result.andThen_ok, g2 cap _ hA, Option.isSome_none, Bool.false_eq_true, if_false, if_true]
      exact l1
  | some z =>
    simp only [afv, Option.map_eq_some_iff] at em
    obtain ⟨Z, hZ, rfl⟩ := em
    obtain ⟨m1, m2⟩ := aes (P := P) (w := w) hZ ht hm
    cases hi with
    | none => cases eh; exact (hmh Z rfl rfl).elim
    | some y =>
      simp only [afv, Option.map_eq_some_iff] at eh
      obtain ⟨Y, hY, rfl⟩ := eh
      obtain ⟨g1, g2⟩ := aes (P := P) (w := w) hY ht hh
      obtain ⟨l1, l2⟩ := low m .slice3C
      refine ⟨?_, l2, g1, m1, fun e => by cases e⟩
      simp only [Instr.sliceBounds, Option.map_some, Sem.run_bind, Result.andThen_ok, m2 cap _ hA, g2 m _ (Nat.le_refl _), Option.isSome_some, if_true, reduceCtorEq, if_false]
      exact l1
theorem zj {x x' : Option Addr} {n n' c c' : Nat} (h1 : x = x') (h2 : n = n') (h3 : c = c') : (Result.ok (Next.value (.slice x n c)) w) = .ok (.value (.slice x' n' c')) w := by
  rw [h1, h2, h3]
theorem aeC {L : Loc} {i j : Nat} (h : i = j) : (some (L.at i) : Option Addr) = some (L.at j) := by rw [h]
def SlT (P : Program) (t : TypeId) : SlK → Prop
  | .sl s => ∃ e, P.underlying t = some (.slice e) ∧ szT P e = some s
  | .str => P.underlying t = some .string
  | .arr n s => ∃ e, P.underlying t = some (.array n e) ∧ szT P e = some s
theorem ajP {t : TypeId} {k : SlK} {x : Operand} {X : Opd} {lo hi mx : Option Operand} {LO HI MX : Option Opd} (ho : o.op = .slice t x lo hi mx) (hk : SlT P t k)
    (hx : opd nt x = some X) (el : afv nt lo = some LO) (eh : afv nt hi = some HI) (em : afv nt mx = some MX) (ht : TmRel M D nt tm a) (hr : Rel M D H w)
    (h : opF (.sl k X LO HI MX) tm H = some (v, H')) : Sound1 P w M D H (execOp a.eval o) v H' := by
  obtain ⟨u, hu, h1⟩ := cL h
  clear h
  obtain ⟨r, hr', h⟩ := cL h1
  clear h1
  cases h
  obtain ⟨e, k1⟩ := lF hx ht hu
  unfold slF at hr'
  split at hr'
  ·
    rename_i s
    have hut : P.underlying t = some .string := hk
    split at hr'
    · cases hr'
    · obtain ⟨h, hh, hr'⟩ := cL hr'
      obtain ⟨l, hl, hr'⟩ := cL hr'
      cases hr'
      have hmx : mx = none := by
        cases mx with
        | none => rfl
        | some z => simp [afv] at em
      subst hmx
      obtain ⟨g1, g2, g3, _, _⟩ := U1 (P := P) (M := M) (D := D) (w := w) (isSlice := false) (len := s.length) (cap := s.length) (A := s.length) (MX := none) (mx := none) (Nat.le_refl _) (Nat.le_refl _) el eh rfl ht rfl hh hl (fun X hX => by cases hX)
      refine Sound1.same hr ?_ (by simp [okv])
      simp only [execOp, ho, e, bw, Instr.sliceAt, Instr.slice, Sem.run_bind, run_underlying hut, Result.andThen_ok, UV, Option.map_none, Option.isSome_none, Bool.false_eq_true, if_false] at g1 ⊢
      rw [g1]
      simp only [Result.andThen_ok, Sem.run_pure]
      congr 3
      rw [aj8]
      apply ByteArray.ext
      simp [ByteArray.data_extract]
  ·
    rename_i sz b off len ext opn
    obtain ⟨el', hut, hs⟩ := hk
    obtain ⟨m, hm, r1⟩ := cL hr'
    clear hr'
    obtain ⟨h, hh, r2⟩ := cL r1
    clear r1
    obtain ⟨l, hl, hr'⟩ := cL r2
    clear r2
    simp only [okv] at k1
    have run : ∀ (hmh : ∀ X, MX = some X → HI ≠ none), (execOp a.eval o).run P w = .ok (.value (.slice (if (if MX = none then len + ext + (if opn = true then (M b).slack else 0) else m) = l then some ((M b).at off) else some ((M b).at (off + l * sz))) (h - l)
        ((if MX = none then len + ext + (if opn = true then (M b).slack else 0) else m) - l))) w ∧ l ≤ h ∧ h ≤ m ∧ m ≤ len + ext ∧ (MX = none → m = len + ext) := by
      intro hmh
      obtain ⟨g1, g2⟩ := U1 (P := P) (M := M) (D := D) (w := w) (isSlice := true) (len := len) (cap := len + ext + (if opn = true then (M b).slack else 0)) (A := len + ext) (by omega) (by omega) el eh em ht hm hh hl hmh
      refine ⟨?_, g2⟩
      simp only [execOp, ho, e, bw, Instr.sliceAt, Instr.slice, Sem.run_bind, run_underlying hut, Result.andThen_ok, g1, nN hs, Sem.run_pure, Option.map_some, Loc.at_add]
    split at hr'
    · cases hr'
    · obtain ⟨g1, g2, g3, g4, _⟩ := run (fun X hX e => by cases e)
      cases hr'
      refine Sound1.same hr ?_ (by simpa [okv] using k1)
      rw [g1]
      simp only [reduceCtorEq, if_false, bw, Bool.false_eq_true]
      by_cases hml : m = l
      · rw [if_pos hml, if_pos hml]; exact zj rfl rfl (by omega)
      · rw [if_neg hml, if_neg hml]; exact zj (aeC (by omega)) rfl (by omega)
    · obtain ⟨g1, g2, g3, g4, g5⟩ := run (fun X hX e => by cases hX)
      have g5 := g5 rfl
      subst g5
      simp only [if_true] at g1
      split at hr'
      · rename_i hopn
        subst hopn
        simp only [if_true] at g1
        split at hr'
        · rename_i hml
          cases hr'
          refine Sound1.same hr ?_ (by simpa [okv] using k1)
          rw [g1]
          simp only [bw]
          have hhl : h = l := by omega
          subst hhl
          by_cases hz : (M b).slack = 0
          · rw [if_pos (by omega), if_pos hz]; exact zj rfl (by omega) (by omega)
          · rw [if_neg (by omega), if_neg hz]; exact zj (aeC (by omega)) (by omega) (by omega)
        · rename_i hml
          cases hr'
          refine Sound1.same hr ?_ (by simpa [okv] using k1)
          rw [g1, if_neg (by omega)]
          simp only [bw, if_true]
          exact zj (aeC (by omega)) rfl (by omega)
      · rename_i hopn
        have hopn : opn = false := by simpa using hopn
        subst hopn
        cases hr'
        refine Sound1.same hr ?_ (by simpa [okv] using k1)
        rw [g1]
        simp only [Bool.false_eq_true, if_false, bw, Nat.add_zero]
        by_cases hml : len + ext = l
        · rw [if_pos hml, if_pos hml]; exact zj rfl rfl (by omega)
        · rw [if_neg hml, if_neg hml]; exact zj (aeC (by omega)) rfl (by omega)
  ·
    rename_i sz
    obtain ⟨el', hut, hs⟩ := hk
    obtain ⟨m, hm, r1⟩ := cL hr'
    clear hr'
    obtain ⟨h, hh, r2⟩ := cL r1
    clear r1
    obtain ⟨l, hl, hr'⟩ := cL r2
    clear r2
    split at hr'
    · cases hr'
    · rename_i hne
      cases hr'
      obtain ⟨g1, g2, g3, g4, _⟩ := U1 (P := P) (M := M) (D := D) (w := w) (isSlice := true) (len := 0) (cap := 0) (A := 0) (Nat.le_refl _) (Nat.le_refl _) el eh em ht hm hh hl (fun X hX e => hne X hX e)
      refine Sound1.same hr ?_ (by simp [okv])
      have : m = 0 := by omega
      subst this
      have : h = 0 := by omega
      subst this
      have : l = 0 := by omega
      subst this
      simp only [execOp, ho, e, bw, Instr.sliceAt, Instr.slice, Sem.run_bind, run_underlying hut, Result.andThen_ok, g1, nN hs, Sem.run_pure]
      simp
  ·
    rename_i n sz b off
    obtain ⟨el', hut, hs⟩ := hk
    obtain ⟨m, hm, r1⟩ := cL hr'
    clear hr'
    obtain ⟨h, hh, r2⟩ := cL r1
    clear r1
    obtain ⟨l, hl, hr'⟩ := cL r2
    clear r2
    simp only [okv] at k1
    split at hr'
    · cases hr'
    · rename_i hne
      cases hr'
      obtain ⟨g1, g2, g3, g4, g5⟩ := U1 (P := P) (M := M) (D := D) (w := w) (isSlice := false) (len := n) (cap := n) (A := n) (Nat.le_refl _) (Nat.le_refl _) el eh em ht hm hh hl (fun X hX e => hne X hX e)
      refine Sound1.same hr ?_ (by simpa [okv] using k1)
      have hmn : (if MX = none then n else m) = m := by
        by_cases hq : MX = none
        · rw [if_pos hq, g5 hq]
        · rw [if_neg hq]
      rw [hmn] at g1
      simp only [execOp, ho, e, bw, Instr.sliceAt, Instr.sureAddr, Sem.run_bind, run_underlying hut, Result.andThen_ok, g1, nN hs, Sem.run_pure, Loc.at_add, Bool.false_eq_true, if_false]
      by_cases hml : m = l
      · rw [if_pos hml, if_pos hml]; exact zj rfl rfl (by omega)
      · rw [if_neg hml, if_neg hml]; exact zj (aeC (by omega)) rfl (by omega)
  · cases hr'
theorem aoW {mx : Bool} {vs : List AV} {v y r : AV} (h : abq mx v (y :: vs) = some r) : ∃ k a k' b, v = .int k a ∧ y = .int k' b ∧
    abq mx (.int k (if mx then (if ltF a b then b else a) else (if ltF b a then b else a))) vs = some r := by
  cases v <;> first | (cases h; done) | skip
  cases y <;> first | (cases h; done) | exact ⟨_, _, _, _, rfl, rfl, h⟩
theorem akJ (mx : Bool) : ∀ (vs : List AV) (v r : AV), abq mx v vs = some r →
    ((vs.map (bw M)).foldlM (if mx then Builtin.max2 else Builtin.min2) (bw M v)).run P w = .ok (bw M r) w ∧ (okv D v → okv D r)
  | [], v, r, h => by
    have h' : some v = some r := h
    cases h'
    exact ⟨by simp, fun h => h⟩
  | y :: vs, v, r, h => by
    obtain ⟨k, p, k', q, rfl, rfl, h'⟩ := aoW h
    obtain ⟨g1, g2⟩ := akJ mx vs _ r h'
    refine ⟨?_, fun _ => g2 (by simp [okv])⟩
    rw [List.map_cons, List.foldlM_cons]
    rw [cy, cy] at g1
    cases mx with
    | true =>
      simp only [if_true, bw, Builtin.max2, Sem.run_bind, Sem.run_pure, Result.andThen_ok] at g1 ⊢
      rw [← g1]
      by_cases hlt : p < q <;> simp [hlt]
    | false =>
      simp only [Bool.false_eq_true, if_false, bw, Builtin.min2, Sem.run_bind, Sem.run_pure, Result.andThen_ok] at g1 ⊢
      rw [← g1]
      by_cases hlt : q < p <;> simp [hlt]
theorem ae3 {mx : Bool} {args : Array Operand} {ats : Array TypeId} {L : List Opd} (ho : o.op = .call { callee := .builtin (if mx then .max else .min), args, argTypes := ats }) (hl : ajh nt args.toList = some L)
    (ht : TmRel M D nt tm a) (hr : Rel M D H w) (h : opF (.minmax mx L) tm H = some (v, H')) : Sound1 P w M D H (execOp a.eval o) v H' := by
  obtain ⟨vs, hvs, h1⟩ := cL h
  clear h
  obtain ⟨e, k⟩ := alh hl ht hvs
  split at h1
  · rename_i v0 vs0
    obtain ⟨r, hr', h2⟩ := cL h1
    cases h2
    obtain ⟨g1, g2⟩ := akJ (P := P) (M := M) (D := D) (w := w) mx vs0 v0 v hr'
    simp only [okL] at k
    refine Sound1.same hr ?_ (g2 k.1)
    rw [xp ho]
    have hargs : (args.map a.eval).toList = bw M v0 :: vs0.map (bw M) := by rw [Array.toList_map, e, lN]; rfl
    cases mx with
    | true =>
      show ((do pure (.value (← Builtin.max_ ats o.type (args.map a.eval))) : Sem Next)).run P w = _
      simp only [Builtin.max_, hargs, Sem.run_bind]
      have g1' : (List.foldlM Builtin.max2 (bw M v0) (vs0.map (bw M))).run P w = .ok (bw M v) w := by simpa using g1
      rw [g1']; rfl
    | false =>
      show ((do pure (.value (← Builtin.min_ ats o.type (args.map a.eval))) : Sem Next)).run P w = _
      simp only [Builtin.min_, hargs, Sem.run_bind]
      have g1' : (List.foldlM Builtin.min2 (bw M v0) (vs0.map (bw M))).run P w = .ok (bw M v) w := by simpa using g1
      rw [g1']; rfl
  · cases h1
end
end Go.Ai
