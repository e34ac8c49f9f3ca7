/- The continuation style over the heap of tries: instructions, code, calls. What it returns, the interpreter's calls return. -/
import Derived.Test.YtphpkpemamccnacGreatAiYOk
import Derived.Test.YtphpkpemamccnacGreatAiFind
namespace Go.Ai

section
variable {r : AV} {H' : Heap} {tbl : Tr AFn} {tm : Tr AV} {H : YHeap}

def CfOkY (tbl : Tr AFn) (cf : YCalls) : Prop := ∀ fv vs H k r H', H.ro ≤ H.nx → cf fv vs H k = .ret r H' → ∃ n v H₁, call tbl n fv vs H.abs = .ret v (YHeap.abs H₁) ∧ k v H₁ = .ret r H'

variable {cf : YCalls} (hp : PrimsMono tbl) (hcf : CfOkY tbl cf)
include hp hcf
theorem insY_sound (hro : H.ro ≤ H.nx) {x : Ins} {k : YS} (h : insY cf x tm H k = .ret r H') :
    ∃ n v H₁, insV (call tbl n) x tm H.abs = some (v, YHeap.abs H₁) ∧ k (tm.putO x.dst v) H₁ = .ret r H' := by
  cases x with
  | op g d o =>
    rcases guardX_inv (y := opY o tm H fun v H => putX d v tm fun tm => k tm H) (n := putX d .undef tm fun tm => k tm H) h with ⟨hw, h⟩ | ⟨hw, h⟩
    · obtain ⟨v, H₁, ho, h⟩ := opY_sound h
      exact ⟨0, v, H₁, by simp only [insV]; rw [hw]; exact ho, putX_inv h⟩
    · exact ⟨0, .undef, H, by simp only [insV]; rw [hw], putX_inv h⟩
  | call g d q f args =>
    rcases guardX_inv (y := evX tm f fun fv => evsX tm args fun vs =>
      ifB q (cf fv vs (H.shut true) fun v H' => putX d v tm fun tm => k tm (H'.back H.ro)) (cf fv vs H fun v H' => putX d v tm fun tm => k tm H')) (n := putX d .undef tm fun tm => k tm H) h with ⟨hw, h⟩ | ⟨hw, h⟩
    · obtain ⟨fv, hf, h⟩ := evX_inv h
      obtain ⟨vs, hv, h⟩ := evsX_inv h
      cases q with
      | false =>
        obtain ⟨n, v, H₁, hc, h⟩ := hcf _ _ _ _ _ _ hro h
        have m := call_mono hp n _ _ _ _ _ hro hc
        have eb : (YHeap.abs H₁).back H.abs.ro = YHeap.abs H₁ := by
          have h8 : H₁.ro = H.ro := m.ro
          show (⟨(YHeap.abs H₁).t, (YHeap.abs H₁).nx, H.ro⟩ : Heap) = _
          rw [← h8]; rfl
        refine ⟨n, v, H₁, ?_, putX_inv h⟩
        have hc' : call tbl n fv vs (H.abs.shut false) = .ret v (YHeap.abs H₁) := hc
        simp only [insV]; rw [hw]; dsimp only; rw [hf, hv]; dsimp only; rw [hc']; dsimp only; rw [eb]
      | true =>
        obtain ⟨n, v, H₁, hc, h⟩ := hcf _ _ _ _ _ _ (by simp [YHeap.shut]) h
        refine ⟨n, v, H₁.back H.ro, ?_, putX_inv h⟩
        have hc : call tbl n fv vs (H.abs.shut true) = .ret v (YHeap.abs H₁) := hc
        simp only [insV]; rw [hw]; dsimp only; rw [hf, hv]; dsimp only; rw [hc]; rfl
    · exact ⟨0, .undef, H, by simp only [insV]; rw [hw], putX_inv h⟩

omit hcf in
theorem insVY_ro {x : Ins} {H₁ : YHeap} {n : Nat} {v : AV} (hro : H.ro ≤ H.nx) (h : insV (call tbl n) x tm H.abs = some (v, H₁.abs)) : H₁.ro ≤ H₁.nx := by
  have m := insV_mono (call_mono hp n) hro h
  have h8 : H₁.ro = H.ro := m.ro
  rw [h8]; exact Nat.le_trans hro m.nx

/-- a state over the heap that one of tries stands for -/
def At (s : St) (k : YS) (r : AV) (H' : Heap) : Prop := ∃ H₁ : YHeap, s.hp = H₁.abs ∧ H₁.ro ≤ H₁.nx ∧ k s.tm H₁ = .ret r H'
theorem regY_sound : ∀ {l : List Ins} {tm : Tr AV} {H : YHeap} {k : YS}, H.ro ≤ H.nx → regY cf l tm H k = .ret r H' → WpR tbl l ⟨tm, H.abs⟩ fun s => At s k r H'
  | [], tm, H, k, hro, h => WpR.nil ⟨H, rfl, hro, h⟩
  | x :: l, tm, H, k, hro, h => by
    obtain ⟨n, v, H₁, h1, h2⟩ := insY_sound hp hcf hro (x := x) h
    exact WpR.cons h1 (regY_sound (insVY_ro hp hro h1) h2)

/-! ### Regions with loads in no order with effects -/
theorem insYV_sound (hro : H.ro ≤ H.nx) {x : Ins} {k : AV → YHeap → CRes} (h : insYV cf x tm H k = .ret r H') :
    ∃ n v H₁, insV (call tbl n) x tm H.abs = some (v, YHeap.abs H₁) ∧ k v H₁ = .ret r H' := by
  cases x with
  | op g d o =>
    rcases guardX_inv (y := opY o tm H k) (n := k .undef H) h with ⟨hw, h⟩ | ⟨hw, h⟩
    · obtain ⟨v, H₁, ho, h⟩ := opY_sound h
      exact ⟨0, v, H₁, by simp only [insV]; rw [hw]; exact ho, h⟩
    · exact ⟨0, .undef, H, by simp only [insV]; rw [hw], h⟩
  | call g d q f args =>
    rcases guardX_inv (y := evX tm f fun fv => evsX tm args fun vs =>
      ifB q (cf fv vs (H.shut true) fun v H' => k v (H'.back H.ro)) (cf fv vs H k)) (n := k .undef H) h with ⟨hw, h⟩ | ⟨hw, h⟩
    · obtain ⟨fv, hf, h⟩ := evX_inv h
      obtain ⟨vs, hv, h⟩ := evsX_inv h
      cases q with
      | false =>
        obtain ⟨n, v, H₁, hc, h⟩ := hcf _ _ _ _ _ _ hro h
        have m := call_mono hp n _ _ _ _ _ hro hc
        have eb : (YHeap.abs H₁).back H.abs.ro = YHeap.abs H₁ := by
          have h8 : H₁.ro = H.ro := m.ro
          show (⟨(YHeap.abs H₁).t, (YHeap.abs H₁).nx, H.ro⟩ : Heap) = _
          rw [← h8]; rfl
        refine ⟨n, v, H₁, ?_, h⟩
        have hc' : call tbl n fv vs (H.abs.shut false) = .ret v (YHeap.abs H₁) := hc
        simp only [insV]; rw [hw]; dsimp only; rw [hf, hv]; dsimp only; rw [hc']; dsimp only; rw [eb]
      | true =>
        obtain ⟨n, v, H₁, hc, h⟩ := hcf _ _ _ _ _ _ (by simp [YHeap.shut]) h
        refine ⟨n, v, H₁.back H.ro, ?_, h⟩
        have hc : call tbl n fv vs (H.abs.shut true) = .ret v (YHeap.abs H₁) := hc
        simp only [insV]; rw [hw]; dsimp only; rw [hf, hv]; dsimp only; rw [hc]; rfl
    · exact ⟨0, .undef, H, by simp only [insV]; rw [hw], h⟩
omit hp hcf in
theorem redoY_inv {x : Ins} {v : AV} {c : CRes} (h : redoY v c x tm H = .ret r H') : (∀ cf, redoF cf x tm H.abs v = true) ∧ c = .ret r H' := by
  cases x with
  | op g d o =>
    rcases guardX_inv (y := opY o tm H fun u _ => ifB (sameA v u) c .err) (n := ifB (sameA v .undef) c .err) h with ⟨hw, h⟩ | ⟨hw, h⟩
    · obtain ⟨u, H₁, ho, h⟩ := opY_sound h
      obtain ⟨h1, h2⟩ := ifB_inv h
      refine ⟨fun cf => ?_, h2⟩
      unfold redoF
      simp only [insV]; rw [hw]; dsimp only; rw [ho]; exact h1
    · obtain ⟨h1, h2⟩ := ifB_inv h
      refine ⟨fun cf => ?_, h2⟩
      unfold redoF
      simp only [insV]; rw [hw]; exact h1
  | call g d q f args => cases h
/-- kept heaps, as those that they stand for -/
noncomputable def absN (sn : List (Nat × YHeap)) : List (Nat × Heap) := sn.map fun p => (p.1, p.2.abs)
omit hp hcf in
theorem findN_abs {k : Nat} : ∀ {sn : List (Nat × YHeap)}, findN k (absN sn) = (findN k sn).map YHeap.abs
  | [] => rfl
  | p :: sn => by
    show (Bool.casesOn (Nat.beq p.1 k) (findN k (absN sn)) (some p.2.abs) : Option Heap) = Option.map YHeap.abs (Bool.casesOn (Nat.beq p.1 k) (findN k sn) (some p.2))
    cases Nat.beq p.1 k with
    | false => exact findN_abs
    | true => rfl
omit hp hcf in
theorem backY_inv {x : Ins} {v : AV} {sn : List (Nat × YHeap)} {c : CRes} : ∀ {ks : List Nat}, backY x tm v sn c ks = .ret r H' → (∀ cf, backF cf x tm v (absN sn) ks = true) ∧ c = .ret r H'
  | [], h => ⟨fun _ => rfl, h⟩
  | k :: ks, h => by
    obtain ⟨K, hK, h1⟩ := oC_inv (k := fun K => redoY v (backY x tm v sn c ks) x tm K) h
    obtain ⟨h2, h3⟩ := redoY_inv h1
    obtain ⟨h4, h5⟩ := backY_inv h3
    refine ⟨fun cf => ?_, h5⟩
    show (Bool.casesOn (Option.casesOn (findN k (absN sn)) false fun H => redoF cf x tm H v) false (backF cf x tm v (absN sn) ks) : Bool) = true
    rw [findN_abs, hK, h4 cf]
    dsimp only [Option.map]
    rw [h2 cf]
omit hp hcf in
theorem againY_inv {sv : List (Nat × Sv)} {c : CRes} : ∀ {is : List Nat}, againY H sv c is = .ret r H' → (∀ cf, againF cf H.abs sv is = true) ∧ c = .ret r H'
  | [], h => ⟨fun _ => rfl, h⟩
  | i :: is, h => by
    obtain ⟨⟨x, tm, v, nx⟩, hs, h1⟩ := oC_inv (k := fun s => Sv.rec (motive := fun _ => CRes) (fun x tm v nx => ifB (lowA nx v) (redoY v (againY H sv c is) x tm H) .err) s) h
    obtain ⟨h6, h1⟩ := ifB_inv h1
    obtain ⟨h2, h3⟩ := redoY_inv h1
    obtain ⟨h4, h5⟩ := againY_inv h3
    refine ⟨fun cf => ?_, h5⟩
    show (Bool.casesOn (Option.casesOn (findN i sv) false fun s => Bool.casesOn (redoF cf s.x s.tm H.abs s.v) false (lowA s.nx s.v)) false (againF cf H.abs sv is) : Bool) = true
    rw [hs, h4 cf]
    dsimp only
    rw [h2 cf, h6]
theorem regUY_sound : ∀ {us : List UI} {j : Nat} {sn : List (Nat × YHeap)} {sv : List (Nat × Sv)} {tm : Tr AV} {H : YHeap} {k : YS}, H.ro ≤ H.nx → regUY cf us j sn sv tm H k = .ret r H' →
    ∃ n s', regUF (call tbl n) us j (absN sn) sv ⟨tm, H.abs⟩ = .fin .nrm s' ∧ At s' k r H'
  | [], j, sn, sv, tm, H, k, hro, h => ⟨0, ⟨tm, H.abs⟩, rfl, H, rfl, hro, h⟩
  | ⟨x, snap, keep, back, again⟩ :: us, j, sn, sv, tm, H, k, hro, h => by
    have h0 : insYV cf x tm H (fun v H' => backY x tm v sn (againY H' sv
      (putX x.dst v tm fun tm' => forceN (Nat.succ j) fun j' => regUY cf us j' (Bool.rec sn ((j, H) :: sn) snap) (Bool.rec sv ((j, ⟨x, tm, v, H.nx⟩) :: sv) keep) tm' H' k) again) back) = .ret r H' := h
    obtain ⟨n, v, H₁, h1, h2⟩ := insYV_sound hp hcf hro h0
    obtain ⟨h3, h4⟩ := backY_inv h2
    obtain ⟨h5, h6⟩ := againY_inv h4
    have h7 := putX_inv h6
    rw [forceN_eq] at h7
    obtain ⟨m, s', h8, h9⟩ := regUY_sound (insVY_ro hp hro h1) h7
    refine ⟨max n m, s', ?_, h9⟩
    have h10 := regUF_le (call_le (Nat.le_max_right n m)) h8
    simp only [regUF]
    rw [insV_le (call_le (Nat.le_max_left n m)) h1]
    dsimp only
    rw [h3, h5]
    have e1 : (if snap = true then (j, H.abs) :: absN sn else absN sn) = absN (Bool.rec sn ((j, H) :: sn) snap) := by cases snap <;> rfl
    have e2 : (if keep = true then (j, (⟨x, tm, v, H.abs.nx⟩ : Sv)) :: sv else sv) = (Bool.rec sv ((j, ⟨x, tm, v, H.nx⟩) :: sv) keep) := by cases keep <;> rfl
    rw [e1, e2]
    exact h10

/-- how it goes on -/
def goesY (kn : YS) (ke : Nat → YS) (kr : YS) : Ex → YS
  | .nrm => kn
  | .exi i => ke i
  | .ret => kr
theorem codeY_sound {n : Nat} : ∀ {c : AC} {kn : YS} {ke : Nat → YS} {kr : YS} {tm : Tr AV} {H : YHeap}, H.ro ≤ H.nx → codeY cf n c kn ke kr tm H = .ret r H' →
    Wp tbl c ⟨tm, H.abs⟩ fun e s => At s (goesY kn ke kr e) r H' := by
  intro c
  induction c with
  | skip => intro kn ke kr tm H hro h; exact Wp.skip ⟨H, rfl, hro, h⟩
  | reg l => intro kn ke kr tm H hro h; exact Wp.reg (regY_sound hp hcf hro h)
  | regU l =>
    intro kn ke kr tm H hro h
    obtain ⟨n, s', h1, h2⟩ := regUY_sound hp hcf (sn := []) hro h
    exact Wp.regU h1 h2
  | seq a b iha ihb =>
    intro kn ke kr tm H hro h
    refine Wp.seq ((iha hro h).mono fun e s hq => ?_)
    cases e with
    | nrm =>
      obtain ⟨tm', hp'⟩ := s
      obtain ⟨H₁, e1, hro', h'⟩ := hq
      dsimp only at e1 h'
      subst e1
      exact ihb hro' h'
    | exi i => exact hq
    | ret => exact hq
  | cond c a b iha ihb =>
    intro kn ke kr tm H hro h
    have h0 : evX tm c (fun v => vBool v fun t => ifB t (codeY cf n a kn ke kr tm H) (codeY cf n b kn ke kr tm H)) = .ret r H' := h
    obtain ⟨v, hv, h1⟩ := evX_inv h0
    obtain ⟨t, rfl, h2⟩ := vBool_inv h1
    cases t with
    | true => exact Wp.cond hv (iha hro h2)
    | false => exact Wp.cond hv (ihb hro h2)
  | block id a iha =>
    intro kn ke kr tm H hro h
    refine Wp.block ((iha hro h).mono fun e s hq => ?_)
    cases e with
    | nrm => exact hq
    | exi i =>
      obtain ⟨H₁, e1, hro', h'⟩ := hq
      have h2 : ifB (Nat.beq i id) (kn s.tm H₁) (ke i s.tm H₁) = .ret r H' := h'
      show if i = id then _ else _
      by_cases hi : i = id
      · rw [if_pos hi]
        have : Nat.beq i id = true := by rw [hi]; exact Nat.beq_refl _
        rw [this] at h2
        exact ⟨H₁, e1, hro', h2⟩
      · rw [if_neg hi]
        have : Nat.beq i id = false := by cases hb : Nat.beq i id with
          | false => rfl
          | true => exact (hi (Nat.eq_of_beq_eq_true hb)).elim
        rw [this] at h2
        exact ⟨H₁, e1, hro', h2⟩
    | ret => exact hq
  | loop a iha =>
    intro kn ke kr tm H hro h
    have go : ∀ (m : Nat) (tm : Tr AV) (H : YHeap), H.ro ≤ H.nx → loopY (fun F => codeY cf n a F ke kr) m tm H = .ret r H' →
        Wp tbl (.loop a) ⟨tm, H.abs⟩ fun e s => At s (goesY kn ke kr e) r H' := by
      intro m
      induction m with
      | zero => intro tm H _ h; cases h
      | succ m ihm =>
        intro tm H hro h
        refine Wp.round ((iha hro (kn := loopY (fun F => codeY cf n a F ke kr) m) h).mono fun e s hq => ?_)
        cases e with
        | nrm =>
          obtain ⟨tm', hp'⟩ := s
          obtain ⟨H₁, e1, hro', h'⟩ := hq
          dsimp only at e1 h'
          subst e1
          exact ihm tm' H₁ hro' h'
        | exi i => exact hq
        | ret => exact hq
    exact go n tm H hro h
  | exit id => intro kn ke kr tm H hro h; exact Wp.exit ⟨H, rfl, hro, h⟩
  | ret => intro kn ke kr tm H hro h; exact Wp.ret ⟨H, rfl, hro, h⟩
omit hp hcf

/-! ### Functions -/
theorem resY_inv : ∀ {rs : List Rv} {k : List AV → CRes}, resY tm H rs k = .ret r H' → ∃ vs, resF ⟨tm, H.abs⟩ rs = some vs ∧ k vs = .ret r H'
  | [], k, h => ⟨[], rfl, h⟩
  | x :: rs, k, h => by
    have key : ∃ v, resV ⟨tm, H.abs⟩ x = some v ∧ resY tm H rs (fun vs => k (v :: vs)) = .ret r H' := by
      cases x with
      | t p => exact getV_inv (p := p) h
      | cell p n agg =>
        obtain ⟨u, hu, h1⟩ := getV_inv (p := p) h
        obtain ⟨b, off, l, cs, v, rfl, hl, hc, hv, h2⟩ := loadY_inv h1
        refine ⟨v, ?_, h2⟩
        simp only [resV]; rw [hu]; dsimp only; rw [hl]; dsimp only; rw [hc]; exact hv
    obtain ⟨v, hv, h1⟩ := key
    obtain ⟨vs, h3, h4⟩ := resY_inv h1
    refine ⟨v :: vs, ?_, h4⟩
    show (Option.casesOn (resV ⟨tm, H.abs⟩ x) none fun v => Option.casesOn (resF ⟨tm, H.abs⟩ rs) none fun us => some (v :: us) : Option (List AV)) = _
    rw [hv, h3]
theorem finY_inv {rs : List Rv} {k : AV → YHeap → CRes} (h : finY rs k tm H = .ret r H') : ∃ vs, resF ⟨tm, H.abs⟩ rs = some vs ∧ k (one vs) H = .ret r H' := by
  obtain ⟨vs, h1, h2⟩ := resY_inv h
  exact ⟨vs, h1, by rw [← oneX_eq]; exact h2⟩

/-- what stands for a function of the table -/
def YOk (tbl : Tr AFn) (f : Nat) : YFn → Prop
  | .code ps body res => tbl.get (key f) = some (.code ps body res)
  | .prim w => ∃ g, tbl.get (key f) = some (.prim g) ∧ ∀ args H k r H', w args H k = .ret r H' → ∃ v H₁, g args (YHeap.abs H) = .ret v (YHeap.abs H₁) ∧ k v H₁ = .ret r H'
def FindY (tbl : Tr AFn) (find : Nat → (YFn → CRes) → CRes) : Prop := ∀ f k r H', find f k = .ret r H' → ∃ y, YOk tbl f y ∧ k y = .ret r H'
theorem callY_sound (hp : PrimsMono tbl) {find : Nat → (YFn → CRes) → CRes} (hf : FindY tbl find) {n : Nat} : ∀ m, CfOkY tbl (callY find n m) := by
  intro m
  induction m with
  | zero => intro fv vs H k r H' _ h; cases h
  | succ m ih =>
    intro fv vs H k r H' hro h
    cases fv with
    | func f first cap =>
      obtain ⟨fn, hfn, h1⟩ := hf _ _ _ _ h
      rw [appK_eq, appK_eq] at h1
      cases fn with
      | code ps body res =>
        obtain ⟨tm, hb, h2⟩ := bindX_inv h1
        obtain ⟨N, e, s, h3, H₁, e1, _, h4⟩ := codeY_sound hp ih hro h2
        obtain ⟨tm', hp'⟩ := s
        dsimp only at e1 h4
        subst e1
        cases e with
        | nrm =>
          obtain ⟨us, h5, h6⟩ := finY_inv h4
          exact ⟨N, one us, H₁, callF_code hfn hb h3 (.inl rfl) h5, h6⟩
        | ret =>
          obtain ⟨us, h5, h6⟩ := finY_inv h4
          exact ⟨N, one us, H₁, callF_code hfn hb h3 (.inr rfl) h5, h6⟩
        | exi i => cases h4
      | prim w =>
        obtain ⟨g, hg, hw⟩ := hfn
        have h2 : w (first ++ (vs ++ cap)) H k = .ret r H' := h1
        obtain ⟨v, H₁, hv, h3⟩ := hw _ _ _ _ _ h2
        refine ⟨0, v, H₁, ?_, h3⟩
        show callF tbl _ _ _ _ = _
        simp only [callF, hg, appK_eq, id, hv]
    | _ => cases h

/-! ### Tables -/
noncomputable def toY : AFn → (YFn → CRes) → CRes := AFn.rec (motive := fun _ => (YFn → CRes) → CRes) (fun ps b rs k => k (.code ps b rs)) (fun _ _ => .err)
/-- functions are compiled as they are called -/
noncomputable def findYP (P : Program) (f : Nat) (k : YFn → CRes) : CRes := oC (codeOf P f) fun x => toY x k
theorem findYP_ok (P : Program) : FindY (tblP P) (findYP P) := fun f k r H' h => by
  obtain ⟨x, h1, h2⟩ := oC_inv h
  cases x with
  | code ps b rs => exact ⟨.code ps b rs, by show (tblP P).get (key f) = _; rw [tblP_get]; exact h1, h2⟩
  | prim g => cases h2
/-- a prim ahead of it -/
noncomputable def findYQ (f : Nat) (w : YW) (find : Nat → (YFn → CRes) → CRes) (f' : Nat) (k : YFn → CRes) : CRes := ifB (Nat.beq f' f) (k (.prim w)) (find f' k)
theorem findYQ_ok {tbl : Tr AFn} {f : Nat} {g : List AV → Heap → CRes} {w : YW} {find : Nat → (YFn → CRes) → CRes}
    (hw : ∀ args H k r H', w args H k = .ret r H' → ∃ v H₁, g args (YHeap.abs H) = .ret v (YHeap.abs H₁) ∧ k v H₁ = .ret r H') (h : FindY tbl find) : FindY (tbl.set (key f) (.prim g)) (findYQ f w find) := fun f' k r H' h' => by
  unfold findYQ at h'
  cases hb : Nat.beq f' f with
  | true =>
    rw [hb] at h'
    have := Nat.eq_of_beq_eq_true hb
    subst this
    exact ⟨.prim w, ⟨g, Tr.get_set_same _ _ _, hw⟩, h'⟩
  | false =>
    rw [hb] at h'
    have hne : key f ≠ key f' := fun e => by have := key_inj e; subst this; rw [Nat.beq_refl] at hb; cases hb
    obtain ⟨y, h1, h2⟩ := h f' k r H' h'
    refine ⟨y, ?_, h2⟩
    cases y with
    | code ps b rs => show (tbl.set (key f) (.prim g)).get (key f') = _; rw [Tr.get_set_other hne]; exact h1
    | prim w' =>
      obtain ⟨g', h3, h4⟩ := h1
      exact ⟨g', by rw [Tr.get_set_other hne]; exact h3, h4⟩
/-- what a run returns whatever comes behind it, the interpreter's call returns -/
theorem runY_ok {P : Program} {tbl : Tr AFn} (T : TblOk P tbl) {find : Nat → (YFn → CRes) → CRes} (hf : FindY tbl find) {n m f : Nat} {vs : List AV} {u : AV}
    (h : ∀ J : AV → CRes, callY find n m (.func f [] []) vs ⟨.leaf, 0, 0⟩ (fun v _ => J v) = J u) : ∃ N H', call tbl N (.func f [] []) vs ⟨.leaf, 0, 0⟩ = .ret u H' := by
  obtain ⟨N, v, H₁, h1, h2⟩ := callY_sound T.mono hf (n := n) m (.func f [] []) vs ⟨.leaf, 0, 0⟩ (fun v _ => .ret v ⟨.leaf, 0, 0⟩) u ⟨.leaf, 0, 0⟩ (Nat.le_refl _) (h fun v => .ret v ⟨.leaf, 0, 0⟩)
  cases h2
  exact ⟨N, H₁.abs, h1⟩
end
end Go.Ai
