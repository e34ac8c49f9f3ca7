/- The continuation style over the heap of tries: instructions, code, calls. What it returns, the interpreter's calls return. -/
import Derived.Test.YtnlbfbiogfilfaaAiYOk
import Derived.Test.YtnlbfbiogfilfaaAiXPaSPrims
import Derived.Test.YtnlbfbiogfilfaaAiInsert
import Derived.Test.YtnlbfbiogfilfaaAiCpsRun
set_option linter.all false
namespace Go.Ai
section
variable {r : AV} {H' : Heap} {tbl : Tr AFn} {tm : Tr AV} {H : YHeap}
def CfOkY (tbl : Tr AFn) (cf : Oi) : Prop := ∀ fv vs H k r H', H.ro ≤ H.nx → cf fv vs H k = .ret r H' → ∃ n v H₁, call tbl n fv vs H.abs = .ret v (YHeap.abs H₁) ∧ k v H₁ = .ret r H'
variable {cf : Oi} (hp : cN tbl) (hcf : CfOkY tbl cf)
include hp hcf
theorem aol (hro : H.ro ≤ H.nx) {x : Ins} {k : YS} (h : insY cf x tm H k = .ret r H') :
    ∃ n v H₁, ku (call tbl n) x tm H.abs = some (v, YHeap.abs H₁) ∧ k (tm.putO x.dst v) H₁ = .ret r H' := by
  cases x with
  | op g d o =>
    rcases Mk (y := opY o tm H fun v H => adc d v tm fun tm => k tm H) (n := adc d .undef tm fun tm => k tm H) h with ⟨hw, h⟩ | ⟨hw, h⟩
    · obtain ⟨v, H₁, ho, h⟩ := acj h
      exact ⟨0, v, H₁, by simp only [ku]; rw [hw]; exact ho, QN h⟩
    · exact ⟨0, .undef, H, by simp only [ku]; rw [hw], QN h⟩
  | call g d q f args =>
    rcases Mk (y := evX tm f fun fv => evsX tm args fun vs =>
      ifB q (cf fv vs (H.shut true) fun v H' => adc d v tm fun tm => k tm (H'.back H.ro)) (cf fv vs H fun v H' => adc d v tm fun tm => k tm H')) (n := adc d .undef tm fun tm => k tm H) h with ⟨hw, h⟩ | ⟨hw, h⟩
    · obtain ⟨fv, hf, h⟩ := fQ h
      obtain ⟨vs, hv, h⟩ := Qr h
      cases q with
      | false =>
        obtain ⟨n, v, H₁, hc, h⟩ := hcf _ _ _ _ _ _ hro h
        have m := P1 hp n _ _ _ _ _ hro hc
        have eb : (YHeap.abs H₁).back H.abs.ro = YHeap.abs H₁ := by
          have h8 : H₁.ro = H.ro := m.ro
          show (⟨(YHeap.abs H₁).t, (YHeap.abs H₁).nx, H.ro⟩ : Heap) = _
          rw [← h8]; rfl
        refine ⟨n, v, H₁, ?_, QN h⟩
        have hc' : call tbl n fv vs (H.abs.shut false) = .ret v (YHeap.abs H₁) := hc
        simp only [ku]; rw [hw]; dsimp only; rw [hf, hv]; dsimp only; rw [hc']; dsimp only; rw [eb]
      | true =>
        obtain ⟨n, v, H₁, hc, h⟩ := hcf _ _ _ _ _ _ (by simp [YHeap.shut]) h
        refine ⟨n, v, H₁.back H.ro, ?_, QN h⟩
        have hc : call tbl n fv vs (H.abs.shut true) = .ret v (YHeap.abs H₁) := hc
        simp only [ku]; rw [hw]; dsimp only; rw [hf, hv]; dsimp only; rw [hc]; rfl
    · exact ⟨0, .undef, H, by simp only [ku]; rw [hw], QN h⟩
omit hcf in
theorem am6 {x : Ins} {H₁ : YHeap} {n : Nat} {v : AV} (hro : H.ro ≤ H.nx) (h : ku (call tbl n) x tm H.abs = some (v, H₁.abs)) : H₁.ro ≤ H₁.nx := by
  have m := EV (P1 hp n) hro h
  have h8 : H₁.ro = H.ro := m.ro
  rw [h8]; exact Nat.le_trans hro m.nx
def At (s : St) (k : YS) (r : AV) (H' : Heap) : Prop := ∃ H₁ : YHeap, s.hp = H₁.abs ∧ H₁.ro ≤ H₁.nx ∧ k s.tm H₁ = .ret r H'
theorem ahh : ∀ {l : List Ins} {tm : Tr AV} {H : YHeap} {k : YS}, H.ro ≤ H.nx → regY cf l tm H k = .ret r H' → WpR tbl l ⟨tm, H.abs⟩ fun s => At s k r H'
  | [], tm, H, k, hro, h => WpR.nil ⟨H, rfl, hro, h⟩
  | x :: l, tm, H, k, hro, h => by
    obtain ⟨n, v, H₁, h1, h2⟩ := aol hp hcf hro (x := x) h
    exact WpR.cons h1 (ahh (am6 hp hro h1) h2)
theorem amz (hro : H.ro ≤ H.nx) {x : Ins} {k : AV → YHeap → CRes} (h : insYV cf x tm H k = .ret r H') :
    ∃ n v H₁, ku (call tbl n) x tm H.abs = some (v, YHeap.abs H₁) ∧ k v H₁ = .ret r H' := by
  cases x with
  | op g d o =>
    rcases Mk (y := opY o tm H k) (n := k .undef H) h with ⟨hw, h⟩ | ⟨hw, h⟩
    · obtain ⟨v, H₁, ho, h⟩ := acj h
      exact ⟨0, v, H₁, by simp only [ku]; rw [hw]; exact ho, h⟩
    · exact ⟨0, .undef, H, by simp only [ku]; rw [hw], h⟩
  | call g d q f args =>
    rcases Mk (y := evX tm f fun fv => evsX tm args fun vs =>
      ifB q (cf fv vs (H.shut true) fun v H' => k v (H'.back H.ro)) (cf fv vs H k)) (n := k .undef H) h with ⟨hw, h⟩ | ⟨hw, h⟩
    · obtain ⟨fv, hf, h⟩ := fQ h
      obtain ⟨vs, hv, h⟩ := Qr h
      cases q with
      | false =>
        obtain ⟨n, v, H₁, hc, h⟩ := hcf _ _ _ _ _ _ hro h
        have m := P1 hp n _ _ _ _ _ hro hc
        have eb : (YHeap.abs H₁).back H.abs.ro = YHeap.abs H₁ := by
          have h8 : H₁.ro = H.ro := m.ro
          show (⟨(YHeap.abs H₁).t, (YHeap.abs H₁).nx, H.ro⟩ : Heap) = _
          rw [← h8]; rfl
        refine ⟨n, v, H₁, ?_, h⟩
        have hc' : call tbl n fv vs (H.abs.shut false) = .ret v (YHeap.abs H₁) := hc
        simp only [ku]; rw [hw]; dsimp only; rw [hf, hv]; dsimp only; rw [hc']; dsimp only; rw [eb]
      | true =>
        obtain ⟨n, v, H₁, hc, h⟩ := hcf _ _ _ _ _ _ (by simp [YHeap.shut]) h
        refine ⟨n, v, H₁.back H.ro, ?_, h⟩
        have hc : call tbl n fv vs (H.abs.shut true) = .ret v (YHeap.abs H₁) := hc
        simp only [ku]; rw [hw]; dsimp only; rw [hf, hv]; dsimp only; rw [hc]; rfl
    · exact ⟨0, .undef, H, by simp only [ku]; rw [hw], h⟩
omit hp hcf in
theorem ajU {x : Ins} {v : AV} {c : CRes} (h : amr v c x tm H = .ret r H') : (∀ cf, N2 cf x tm H.abs v = true) ∧ c = .ret r H' := by
  cases x with
  | op g d o =>
    rcases Mk (y := opY o tm H fun u _ => ifB (agD v u) c .err) (n := ifB (agD v .undef) c .err) h with ⟨hw, h⟩ | ⟨hw, h⟩
    · obtain ⟨u, H₁, ho, h⟩ := acj h
      obtain ⟨h1, h2⟩ := gz h
      refine ⟨fun cf => ?_, h2⟩
      unfold N2
      simp only [ku]; rw [hw]; dsimp only; rw [ho]; exact h1
    · obtain ⟨h1, h2⟩ := gz h
      refine ⟨fun cf => ?_, h2⟩
      unfold N2
      simp only [ku]; rw [hw]; exact h1
  | call g d q f args => cases h
noncomputable def absN (sn : List (Nat × YHeap)) : List (Nat × Heap) := sn.map fun p => (p.1, p.2.abs)
omit hp hcf in
theorem aj4 {k : Nat} : ∀ {sn : List (Nat × YHeap)}, JF k (absN sn) = (JF k sn).map YHeap.abs
  | [] => rfl
  | p :: sn => by
    show (Bool.casesOn (Nat.beq p.1 k) (JF k (absN sn)) (some p.2.abs) : Option Heap) = Option.map YHeap.abs (Bool.casesOn (Nat.beq p.1 k) (JF k sn) (some p.2))
    cases Nat.beq p.1 k with
    | false => exact aj4
    | true => rfl
omit hp hcf in
theorem ajW {x : Ins} {v : AV} {sn : List (Nat × YHeap)} {c : CRes} : ∀ {ks : List Nat}, backY x tm v sn c ks = .ret r H' → (∀ cf, backF cf x tm v (absN sn) ks = true) ∧ c = .ret r H'
  | [], h => ⟨fun _ => rfl, h⟩
  | k :: ks, h => by
    obtain ⟨K, hK, h1⟩ := jB (k := fun K => amr v (backY x tm v sn c ks) x tm K) h
    obtain ⟨h2, h3⟩ := ajU h1
    obtain ⟨h4, h5⟩ := ajW h3
    refine ⟨fun cf => ?_, h5⟩
    show (Bool.casesOn (Option.casesOn (JF k (absN sn)) false fun H => N2 cf x tm H v) false (backF cf x tm v (absN sn) ks) : Bool) = true
    rw [aj4, hK, h4 cf]
    dsimp only [Option.map]
    rw [h2 cf]
omit hp hcf in
theorem agr {sv : List (Nat × Sv)} {c : CRes} : ∀ {is : List Nat}, alj H sv c is = .ret r H' → (∀ cf, al8 cf H.abs sv is = true) ∧ c = .ret r H'
  | [], h => ⟨fun _ => rfl, h⟩
  | i :: is, h => by
    obtain ⟨⟨x, tm, v, nx⟩, hs, h1⟩ := jB (k := fun s => Sv.rec (motive := fun _ => CRes) (fun x tm v nx => ifB (lowA nx v) (amr v (alj H sv c is) x tm H) .err) s) h
    obtain ⟨h6, h1⟩ := gz h1
    obtain ⟨h2, h3⟩ := ajU h1
    obtain ⟨h4, h5⟩ := agr h3
    refine ⟨fun cf => ?_, h5⟩
    show (Bool.casesOn (Option.casesOn (JF i sv) false fun s => Bool.casesOn (N2 cf s.x s.tm H.abs s.v) false (lowA s.nx s.v)) false (al8 cf H.abs sv is) : Bool) = true
    rw [hs, h4 cf]
    dsimp only
    rw [h2 cf, h6]
theorem aed : ∀ {us : List UI} {j : Nat} {sn : List (Nat × YHeap)} {sv : List (Nat × Sv)} {tm : Tr AV} {H : YHeap} {k : YS}, H.ro ≤ H.nx → regUY cf us j sn sv tm H k = .ret r H' →
    ∃ n s', ND (call tbl n) us j (absN sn) sv ⟨tm, H.abs⟩ = .fin .nrm s' ∧ At s' k r H'
  | [], j, sn, sv, tm, H, k, hro, h => ⟨0, ⟨tm, H.abs⟩, rfl, H, rfl, hro, h⟩
  | ⟨x, snap, keep, back, again⟩ :: us, j, sn, sv, tm, H, k, hro, h => by
    have h0 : insYV cf x tm H (fun v H' => backY x tm v sn (alj H' sv
      (adc x.dst v tm fun tm' => eA (Nat.succ j) fun j' => regUY cf us j' (Bool.rec sn ((j, H) :: sn) snap) (Bool.rec sv ((j, ⟨x, tm, v, H.nx⟩) :: sv) keep) tm' H' k) again) back) = .ret r H' := h
    obtain ⟨n, v, H₁, h1, h2⟩ := amz hp hcf hro h0
    obtain ⟨h3, h4⟩ := ajW h2
    obtain ⟨h5, h6⟩ := agr h4
    have h7 := QN h6
    rw [aL] at h7
    obtain ⟨m, s', h8, h9⟩ := aed (am6 hp hro h1) h7
    refine ⟨max n m, s', ?_, h9⟩
    have h10 := ag3 (af1 (Nat.le_max_right n m)) h8
    simp only [ND]
    rw [aav (af1 (Nat.le_max_left n m)) h1]
    dsimp only
    rw [h3, h5]
    have e1 : (if snap = true then (j, H.abs) :: absN sn else absN sn) = absN (Bool.rec sn ((j, H) :: sn) snap) := by cases snap <;> rfl
    have e2 : (if keep = true then (j, (⟨x, tm, v, H.abs.nx⟩ : Sv)) :: sv else sv) = (Bool.rec sv ((j, ⟨x, tm, v, H.nx⟩) :: sv) keep) := by cases keep <;> rfl
    rw [e1, e2]
    exact h10
def goesY (kn : YS) (ke : Nat → YS) (kr : YS) : Ex → YS
  | .nrm => kn
  | .exi i => ke i
  | .ret => kr
theorem amk {n : Nat} : ∀ {c : AC} {kn : YS} {ke : Nat → YS} {kr : YS} {tm : Tr AV} {H : YHeap}, H.ro ≤ H.nx → aj1 cf n c kn ke kr tm H = .ret r H' →
    Wp tbl c ⟨tm, H.abs⟩ fun e s => At s (goesY kn ke kr e) r H' := by
  intro c
  induction c with
  | skip => intro kn ke kr tm H hro h; exact Wp.skip ⟨H, rfl, hro, h⟩
  | reg l => intro kn ke kr tm H hro h; exact Wp.reg (ahh hp hcf hro h)
  | regU l =>
    intro kn ke kr tm H hro h
    obtain ⟨n, s', h1, h2⟩ := aed hp hcf (sn := []) hro h
    exact Wp.regU h1 h2
  | seq a b iha ihb =>
    intro kn ke kr tm H hro h
    refine Wp.seq ((iha hro h).mono fun e s hq => ?_)
    cases e with
    | nrm =>
      obtain ⟨tm', hp'⟩ := s
      obtain ⟨H₁, e1, hro', h'⟩ := hq
      dsimp only at e1 h'
      subst e1
      exact ihb hro' h'
    | exi i => exact hq
    | ret => exact hq
  | cond c a b iha ihb =>
    intro kn ke kr tm H hro h
    have h0 : evX tm c (fun v => I6 v fun t => ifB t (aj1 cf n a kn ke kr tm H) (aj1 cf n b kn ke kr tm H)) = .ret r H' := h
    obtain ⟨v, hv, h1⟩ := fQ h0
    obtain ⟨t, rfl, h2⟩ := EU h1
    cases t with
    | true => exact Wp.cond hv (iha hro h2)
    | false => exact Wp.cond hv (ihb hro h2)
  | block id a iha =>
    intro kn ke kr tm H hro h
    refine Wp.block ((iha hro h).mono fun e s hq => ?_)
    cases e with
    | nrm => exact hq
    | exi i =>
      obtain ⟨H₁, e1, hro', h'⟩ := hq
      have h2 : ifB (Nat.beq i id) (kn s.tm H₁) (ke i s.tm H₁) = .ret r H' := h'
      show if i = id then _ else _
      by_cases hi : i = id
      · rw [if_pos hi]
        have : Nat.beq i id = true := by rw [hi]; exact Nat.beq_refl _
        rw [this] at h2
        exact ⟨H₁, e1, hro', h2⟩
      · rw [if_neg hi]
        have : Nat.beq i id = false := by cases hb : Nat.beq i id with
          | false => rfl
          | true => exact (hi (Nat.eq_of_beq_eq_true hb)).elim
        rw [this] at h2
        exact ⟨H₁, e1, hro', h2⟩
    | ret => exact hq
  | loop a iha =>
    intro kn ke kr tm H hro h
    have go : ∀ (m : Nat) (tm : Tr AV) (H : YHeap), H.ro ≤ H.nx → loopY (fun F => aj1 cf n a F ke kr) m tm H = .ret r H' →
        Wp tbl (.loop a) ⟨tm, H.abs⟩ fun e s => At s (goesY kn ke kr e) r H' := by
      intro m
      induction m with
      | zero => intro tm H _ h; cases h
      | succ m ihm =>
        intro tm H hro h
        refine Wp.round ((iha hro (kn := loopY (fun F => aj1 cf n a F ke kr) m) h).mono fun e s hq => ?_)
        cases e with
        | nrm =>
          obtain ⟨tm', hp'⟩ := s
          obtain ⟨H₁, e1, hro', h'⟩ := hq
          dsimp only at e1 h'
          subst e1
          exact ihm tm' H₁ hro' h'
        | exi i => exact hq
        | ret => exact hq
    exact go n tm H hro h
  | exit id => intro kn ke kr tm H hro h; exact Wp.exit ⟨H, rfl, hro, h⟩
  | ret => intro kn ke kr tm H hro h; exact Wp.ret ⟨H, rfl, hro, h⟩
omit hp hcf
theorem anC : ∀ {rs : List Rv} {k : List AV → CRes}, resY tm H rs k = .ret r H' → ∃ vs, RE ⟨tm, H.abs⟩ rs = some vs ∧ k vs = .ret r H'
  | [], k, h => ⟨[], rfl, h⟩
  | x :: rs, k, h => by
    have key : ∃ v, resV ⟨tm, H.abs⟩ x = some v ∧ resY tm H rs (fun vs => k (v :: vs)) = .ret r H' := by
      cases x with
      | t p => exact aab (p := p) h
      | cell p n agg =>
        obtain ⟨u, hu, h1⟩ := aab (p := p) h
        obtain ⟨b, off, l, cs, v, rfl, hl, hc, hv, h2⟩ := ajO h1
        refine ⟨v, ?_, h2⟩
        simp only [resV]; rw [hu]; dsimp only; rw [hl]; dsimp only; rw [hc]; exact hv
    obtain ⟨v, hv, h1⟩ := key
    obtain ⟨vs, h3, h4⟩ := anC h1
    refine ⟨v :: vs, ?_, h4⟩
    show (Option.casesOn (resV ⟨tm, H.abs⟩ x) none fun v => Option.casesOn (RE ⟨tm, H.abs⟩ rs) none fun us => some (v :: us) : Option (List AV)) = _
    rw [hv, h3]
theorem amh {rs : List Rv} {k : AV → YHeap → CRes} (h : finY rs k tm H = .ret r H') : ∃ vs, RE ⟨tm, H.abs⟩ rs = some vs ∧ k (one vs) H = .ret r H' := by
  obtain ⟨vs, h1, h2⟩ := anC h
  exact ⟨vs, h1, by rw [← oneX_eq]; exact h2⟩
def YOk (tbl : Tr AFn) (f : Nat) : YFn → Prop
  | .code ps body res => tbl.get (key f) = some (.code ps body res)
  | .prim w => ∃ g, tbl.get (key f) = some (.prim g) ∧ ∀ args H k r H', w args H k = .ret r H' → ∃ v H₁, g args (YHeap.abs H) = .ret v (YHeap.abs H₁) ∧ k v H₁ = .ret r H'
def agY (tbl : Tr AFn) (find : Nat → (YFn → CRes) → CRes) : Prop := ∀ f k r H', find f k = .ret r H' → ∃ y, YOk tbl f y ∧ k y = .ret r H'
theorem anw (hp : cN tbl) {find : Nat → (YFn → CRes) → CRes} (hf : agY tbl find) {n : Nat} : ∀ m, CfOkY tbl (callY find n m) := by
  intro m
  induction m with
  | zero => intro fv vs H k r H' _ h; cases h
  | succ m ih =>
    intro fv vs H k r H' hro h
    cases fv with
    | func f first cap =>
      obtain ⟨fn, hfn, h1⟩ := hf _ _ _ _ h
      rw [gS, gS] at h1
      cases fn with
      | code ps body res =>
        obtain ⟨tm, hb, h2⟩ := aj8 h1
        obtain ⟨N, e, s, h3, H₁, e1, _, h4⟩ := amk hp ih hro h2
        obtain ⟨tm', hp'⟩ := s
        dsimp only at e1 h4
        subst e1
        cases e with
        | nrm =>
          obtain ⟨us, h5, h6⟩ := amh h4
          exact ⟨N, one us, H₁, E5 hfn hb h3 (.inl rfl) h5, h6⟩
        | ret =>
          obtain ⟨us, h5, h6⟩ := amh h4
          exact ⟨N, one us, H₁, E5 hfn hb h3 (.inr rfl) h5, h6⟩
        | exi i => cases h4
      | prim w =>
        obtain ⟨g, hg, hw⟩ := hfn
        have h2 : w (first ++ (vs ++ cap)) H k = .ret r H' := h1
        obtain ⟨v, H₁, hv, h3⟩ := hw _ _ _ _ _ h2
        refine ⟨0, v, H₁, ?_, h3⟩
        show rp tbl _ _ _ _ = _
        simp only [rp, hg, gS, id, hv]
    | _ => cases h
noncomputable def toY : AFn → (YFn → CRes) → CRes := AFn.rec (motive := fun _ => (YFn → CRes) → CRes) (fun ps b rs k => k (.code ps b rs)) (fun _ _ => .err)
noncomputable def findYP (P : Program) (f : Nat) (k : YFn → CRes) : CRes := oC (VE P f) fun x => toY x k
theorem apZ (P : Program) : agY (tblP P) (findYP P) := fun f k r H' h => by
  obtain ⟨x, h1, h2⟩ := jB h
  cases x with
  | code ps b rs => exact ⟨.code ps b rs, by show (tblP P).get (key f) = _; rw [We]; exact h1, h2⟩
  | prim g => cases h2
noncomputable def anT (f : Nat) (w : YW) (find : Nat → (YFn → CRes) → CRes) (f' : Nat) (k : YFn → CRes) : CRes := ifB (Nat.beq f' f) (k (.prim w)) (find f' k)
theorem aqd {tbl : Tr AFn} {f : Nat} {g : List AV → Heap → CRes} {w : YW} {find : Nat → (YFn → CRes) → CRes}
    (hw : ∀ args H k r H', w args H k = .ret r H' → ∃ v H₁, g args (YHeap.abs H) = .ret v (YHeap.abs H₁) ∧ k v H₁ = .ret r H') (h : agY tbl find) : agY (tbl.set (key f) (.prim g)) (anT f w find) := fun f' k r H' h' => by
  unfold anT at h'
  cases hb : Nat.beq f' f with
  | true =>
    rw [hb] at h'
    have := Nat.eq_of_beq_eq_true hb
    subst this
    exact ⟨.prim w, ⟨g, Tr.get_set_same _ _ _, hw⟩, h'⟩
  | false =>
    rw [hb] at h'
    have hne : key f ≠ key f' := fun e => by have := xD e; subst this; rw [Nat.beq_refl] at hb; cases hb
    obtain ⟨y, h1, h2⟩ := h f' k r H' h'
    refine ⟨y, ?_, h2⟩
    cases y with
    | code ps b rs => show (tbl.set (key f) (.prim g)).get (key f') = _; rw [Tr.get_set_other hne]; exact h1
    | prim w' =>
      obtain ⟨g', h3, h4⟩ := h1
      exact ⟨g', by rw [Tr.get_set_other hne]; exact h3, h4⟩
theorem runY_ok {P : Program} {tbl : Tr AFn} (T : TblOk P tbl) {find : Nat → (YFn → CRes) → CRes} (hf : agY tbl find) {n m f : Nat} {vs : List AV} {u : AV}
    (h : ∀ J : AV → CRes, callY find n m (.func f [] []) vs ⟨.leaf, 0, 0⟩ (fun v _ => J v) = J u) : ∃ N H', call tbl N (.func f [] []) vs ⟨.leaf, 0, 0⟩ = .ret u H' := by
  obtain ⟨N, v, H₁, h1, h2⟩ := anw T.mono hf (n := n) m (.func f [] []) vs ⟨.leaf, 0, 0⟩ (fun v _ => .ret v ⟨.leaf, 0, 0⟩) u ⟨.leaf, 0, 0⟩ (Nat.le_refl _) (h fun v => .ret v ⟨.leaf, 0, 0⟩)
  cases h2
  exact ⟨N, H₁.abs, h1⟩
end
end Go.Ai
/- What stands for functions of the library, over the heap of tries. -/
namespace Go.Ai
noncomputable def alt : YW := fun args H k => match args with
  | [s, .int .i64 i, .slice vb voff m _ _] => Y7 i fun i =>
    arrY H vb fun vt vz vzl vm _ => ifB (Nat.ble (voff + m) vm) (ifB (Nat.beq m 0) .err (Y3 vt vz vzl m voff fun new =>
      match s with
      | .nilslice => ifB (andB (Nat.beq i 0) (Nat.ble m zH)) (Ur H (.arr .leaf new m m 1) fun d H => k (.slice d 0 m 0 true) H) .err
      | .slice b off len ext true => ahs H b fun t z zl q g =>
        ifB (Nat.beq g 1 && Nat.ble (off + (len + ext)) q && Nat.ble i len && Nat.ble (len + m) zH && !Nat.beq vb b)
          (Y3 t z zl len off fun l => ifB (Nat.ble i len) (Zf H b .dead fun H => DZ new (skp l i) fun t => DZ (l.take i) t fun l' => eA (len + m) fun n => Ur H (.arr .leaf l' n n 1) fun d H => k (.slice d 0 n 0 true) H) .err) .err
      | .slice b off len ext false => arrY H b fun t z zl q _ =>
        ifB (Nat.ble (off + (len + ext)) q && Nat.ble i len && Nat.ble (len + m) zH && Nat.blt (len + ext) (len + m))
          (Y3 t z zl len off fun l => ifB (Nat.ble i len) (DZ new (skp l i) fun t => DZ (l.take i) t fun l' => eA (len + m) fun n => Ur H (.arr .leaf l' n n 1) fun d H => k (.slice d 0 n 0 true) H) .err) .err
      | _ => .err)) .err
  | _ => .err
section
variable {r : AV} {H' : Heap}
theorem aoH (args : List AV) (H : YHeap) (k : AV → YHeap → CRes) (r : AV) (H' : Heap) (h : alt args H k = .ret r H') : ∃ v H₁, y9 args (YHeap.abs H) = .ret v (YHeap.abs H₁) ∧ k v H₁ = .ret r H' := by
  have fin : ∀ {v : AV} {H₁ : YHeap}, Gq args H.abs = some (v, H₁.abs) → k v H₁ = .ret r H' → ∃ v H₁, y9 args (YHeap.abs H) = .ret v (YHeap.abs H₁) ∧ k v H₁ = .ret r H' :=
    fun {v H₁} e e' => ⟨v, H₁, by unfold y9; rw [e], e'⟩
  unfold alt at h
  split at h
  · rename_i s i vb voff m ve vo
    obtain ⟨i, rfl, h1⟩ := U6 h
    clear h
    obtain ⟨vt, vz, vzl, vm, vg, hvb, h2⟩ := aae h1
    clear h1
    obtain ⟨hm, h3⟩ := gz h2
    clear h2
    obtain ⟨h0, h4⟩ := A2 h3
    clear h3
    obtain ⟨new, hnew, hnl, h5⟩ := KR (m := vm) (Nat.le_of_ble_eq_true hm) h4
    clear h4
    split at h5
    · obtain ⟨hc, h6⟩ := gz h5
      rw [BN] at h6
      rw [b8] at hc
      refine fin (v := _) (H₁ := _) ?_ h6
      simp only [Gq]; rw [pH, hvb]; dsimp only; rw [hnew]; dsimp only; rw [h0]; dsimp only; rw [hc]; dsimp only; rw [Heap.newK_eq, YHeap.abs_add]
      show some (AV.slice H.nx 0 m 0 true, H.abs.add (.cells new true 1)) = some (AV.slice H.nx 0 m 0 true, H.abs.add (.cells (cellsOf .leaf new m m) true 1))
      have := qE new
      rw [hnl] at this
      rw [this]
    · rename_i b off len ext
      obtain ⟨t, z, zl, q, g, h6, ho⟩ := QT h5
      obtain ⟨hc, h7⟩ := gz h6
      have hq : off + (len + ext) ≤ q := by
        simp only [Bool.and_eq_true] at hc
        exact Nat.le_of_ble_eq_true hc.1.1.1.2
      obtain ⟨l, hl, hll, h8⟩ := KR (m := q) (by omega) h7
      obtain ⟨hi, h9⟩ := gz h8
      have hi := Nat.le_of_ble_eq_true hi
      rw [KC, gS, gS, aL, BN] at h9
      refine fin (v := _) (H₁ := _) ?_ h9
      simp only [Gq]; rw [pH, hvb]; dsimp only; rw [hnew]; dsimp only; rw [h0]; dsimp only; rw [ho, iA (cellsOf t z zl q), fG, hc]; dsimp only; rw [hl]; dsimp only
      rw [WE, if_pos (by omega), Heap.setK_eq, gS, gS, Heap.newK_eq, Heap.nx_set, YHeap.abs_add, YHeap.abs_set]
      have hlen : (l.take i ++ (new ++ skp l i)).length = len + m := by
        rw [Z0]; simp; omega
      have := qE (l.take i ++ (new ++ skp l i))
      rw [hlen] at this
      show some (AV.slice H.nx 0 (len + m) 0 true, (H.abs.set b .dead).add (.cells (l.take i ++ (new ++ skp l i)) true 1)) = some (AV.slice H.nx 0 (len + m) 0 true, (H.abs.set b .dead).add (.cells (cellsOf .leaf (l.take i ++ (new ++ skp l i)) (len + m) (len + m)) true 1))
      rw [this]
    · rename_i b off len ext
      obtain ⟨t, z, zl, q, g, hb, h6⟩ := aae h5
      obtain ⟨hc, h7⟩ := gz h6
      have hq : off + (len + ext) ≤ q := by
        simp only [Bool.and_eq_true] at hc
        exact Nat.le_of_ble_eq_true hc.1.1.1
      obtain ⟨l, hl, hll, h8⟩ := KR (m := q) (by omega) h7
      obtain ⟨hi, h9⟩ := gz h8
      have hi := Nat.le_of_ble_eq_true hi
      rw [gS, gS, aL, BN] at h9
      refine fin (v := _) (H₁ := _) ?_ h9
      simp only [Gq]; rw [pH, hvb]; dsimp only; rw [hnew]; dsimp only; rw [h0]; dsimp only; rw [hb]; dsimp only; rw [iA (cellsOf t z zl q), fG, hc]; dsimp only; rw [hl]; dsimp only
      rw [WE, if_pos (by omega), gS, gS, Heap.newK_eq, YHeap.abs_add]
      have hlen : (l.take i ++ (new ++ skp l i)).length = len + m := by
        rw [Z0]; simp; omega
      have := qE (l.take i ++ (new ++ skp l i))
      rw [hlen] at this
      show some (AV.slice H.nx 0 (len + m) 0 true, H.abs.add (.cells (l.take i ++ (new ++ skp l i)) true 1)) = some (AV.slice H.nx 0 (len + m) 0 true, H.abs.add (.cells (cellsOf .leaf (l.take i ++ (new ++ skp l i)) (len + m) (len + m)) true 1))
      rw [this]
    · cases h5
  · cases h
end
theorem aoB {P : Program} {tbl : Tr AFn} (T : TblOk P tbl) {find : Nat → (YFn → CRes) → CRes} (hf : agY tbl find) {n m f : Nat} {vs : List AV} {u : AV} (hv : vs.all Zs = true) (hu : aoK u = true)
    (h : ∀ J : AV → CRes, callY find n m (.func f [] []) vs ⟨.leaf, 0, 0⟩ (fun v _ => J v) = J u) : al3 P f (akl vs u) := by
  obtain ⟨N, H₁, h1⟩ := runY_ok T hf h
  intro args H v H' hg M D w hp hr hok
  obtain ⟨rfl, rfl, rfl⟩ := aj6 hg
  obtain ⟨f', first, cap, hfv, hc⟩ := api T N _ _ _ _ _ h1
  cases hfv
  have hge : ∀ b, (⟨.leaf, 0, 0⟩ : Heap).get b = none := fun b => Tr.get_leaf _
  have hr0 : Rel M (fun _ => False) ⟨.leaf, 0, 0⟩ w := ⟨fun _ h => h.elim, fun _ h => h.elim, fun _ _ h => h.elim⟩
  obtain ⟨_, hcalls⟩ := hc M (fun _ => False) w ⟨Nat.le_refl _, fun b hb => by rw [hge] at hb; exact hb.1.elim⟩ hr0
    ((oP _ _).2 fun x hx => by
      have hx' : x ∈ args := by simpa using hx
      exact akc (List.all_eq_true.1 hv x hx') _)
  refine Calls.mono (by simpa using hcalls) fun e w' hpost => ?_
  obtain ⟨M', D', he, _, hx, _⟩ := hpost
  have hfr : ∀ c, c < w.heap.size → w'.heap[c]? = w.heap[c]? := fun c hc => hx.frame c hc fun _ h => h.elim
  exact ⟨M, D, by rw [he, ana hu M' M], hr.of_below' hx.size hfr, Ext.of_below' hx.size hfr hx.os hx.tape hx.output, apX hu D⟩
end Go.Ai
/- The table of all functions that the compiler takes, calls beside loads with the heap shut where that may be: for the printed functions in continuation style. -/
namespace Go.Ai
def aeg (P : Program) (f : Nat) : Option AFn := (P.funcs[f]?).bind fun fn => if fn.name == "runtime.NumGoroutine" then none else match VU P fn true with
  | some x => some x
  | none => VU P fn
theorem NC {P : Program} {f : Nat} {x : AFn} (h : aeg P f = some x) : Entry P f x := by
  unfold aeg at h
  simp only [Option.bind_eq_some_iff] at h
  obtain ⟨fn, h1, h2⟩ := h
  split at h2
  · cases h2
  · rename_i hn
    have : ∃ m, VU P fn m = some x := by
      split at h2
      · rename_i y hy; cases h2; exact ⟨true, hy⟩
      · exact ⟨false, h2⟩
    obtain ⟨m, h2⟩ := this
    refine ⟨fn, h1, by simpa using hn, ?_, m, h2⟩
    unfold VU at h2
    simp only [Option.bind_eq_some_iff] at h2
    obtain ⟨c, hc, _⟩ := h2
    rw [hc]; rfl
noncomputable def ag0 (P : Program) : Nat → Tr AFn
  | 0 => .leaf
  | n + 1 => match aeg P n with
    | some x => (ag0 P n).set (key n) x
    | none => ag0 P n
theorem ajM (P : Program) : ∀ (n f : Nat), (ag0 P n).get (key f) = if f < n then aeg P f else none
  | 0, f => by rw [ag0, Tr.get_leaf, if_neg (by omega)]
  | n + 1, f => by
    have ih := ajM P n f
    cases hc : aeg P n with
    | none =>
      simp only [ag0, hc]
      rw [ih]
      by_cases h : f < n
      · rw [if_pos h, if_pos (by omega)]
      · rw [if_neg h]
        by_cases h' : f = n
        · subst h'; rw [if_pos (by omega), hc]
        · rw [if_neg (by omega)]
    | some x =>
      simp only [ag0, hc]
      by_cases h' : n = f
      · subst h'; rw [Tr.get_set_same, if_pos (by omega), hc]
      · rw [Tr.get_set_other (fun k => h' (xD k)), ih]
        by_cases h : f < n
        · rw [if_pos h, if_pos (by omega)]
        · rw [if_neg h, if_neg (by omega)]
noncomputable def tblS (P : Program) : Tr AFn := ag0 P P.funcs.size
theorem Vr (P : Program) (f : Nat) : (tblS P).get (key f) = aeg P f := by
  unfold tblS
  rw [ajM]
  split
  · rfl
  · rename_i h
    unfold aeg
    rw [Array.getElem?_eq_none (by omega)]; rfl
theorem tblS_ok {P : Program} (hm : P.follows .mixedOrders = true) : TblOk P (tblS P) := {
  mixed := hm
  mono f g hg := by
    rw [Vr] at hg
    obtain ⟨fn, _, _, _, _, hc⟩ := NC hg
    obtain ⟨_, _, _, e⟩ := Rp hc
    cases e
  enters f x hx := by
    rw [Vr] at hx
    obtain ⟨fn, h1, h2, h3, _⟩ := NC hx
    exact ⟨fn, h1, h2, h3⟩
  code f ps body res hx := by
    rw [Vr] at hx
    obtain ⟨fn, h1, _, _, m, h4⟩ := NC hx
    exact ⟨fn, m, h1, h4⟩
  prim f g hg := by
    rw [Vr] at hg
    obtain ⟨fn, _, _, _, _, hc⟩ := NC hg
    obtain ⟨_, _, _, e⟩ := Rp hc
    cases e }
theorem Vh {tbl : Tr AFn} {f g : Nat} {x : AFn} {y : Option AFn} (e : Nat.beq g f = false) (h : tbl.get (key f) = y) : (tbl.set (key g) x).get (key f) = y := by
  rw [Tr.get_set_other (fun k => by rw [xD k, Nat.beq_refl] at e; cases e)]
  exact h
end Go.Ai
