/- The interpreter in continuation style: instructions, code, calls. What it returns, the interpreter's calls return. -/
import Derived.Test.YtphpkpemamccnacGreatAiX
import Derived.Test.YtphpkpemamccnacGreatAiTbl
namespace Go.Ai

section
variable {r : AV} {H' : Heap} {tbl : Tr AFn} {tm : Tr AV} {H : Heap}

def CfOk (tbl : Tr AFn) (cf : KCalls) : Prop := ∀ fv vs H k r H', H.ro ≤ H.nx → cf fv vs H k = .ret r H' → ∃ n v H₁, call tbl n fv vs H = .ret v H₁ ∧ k v H₁ = .ret r H'

theorem putX_inv {d : Option P} {v : AV} {k : Tr AV → CRes} (h : putX d v tm k = .ret r H') : k (tm.putO d v) = .ret r H' := by
  cases d with
  | none => exact h
  | some p => exact (setV_eq p v tm k).symm.trans h
theorem wantX_inv {want : Bool} {v : AV} {y n : CRes} (h : wantX want v y n = .ret r H') :
    ∃ t, (match v with | .bool b => some (b == want) | _ => some false) = some t ∧ (if t then y else n) = .ret r H' := by
  cases v with
  | bool b =>
    have h0 : ifB (eqBB b want) y n = .ret r H' := h
    rw [ifB_eq, eqBB_eq] at h0
    exact ⟨b == want, rfl, h0⟩
  | _ => exact ⟨false, rfl, by rw [if_neg (by simp)]; exact h⟩
theorem guardX_inv {g : Gd} {y n : CRes} (h : guardX g tm y n = .ret r H') : (wantF tm g = some true ∧ y = .ret r H') ∨ (wantF tm g = some false ∧ n = .ret r H') := by
  cases g with
  | always => exact .inl ⟨rfl, h⟩
  | on p want =>
    obtain ⟨v, hv, h⟩ := getV_inv (p := p) h
    obtain ⟨t, h1, h2⟩ := wantX_inv h
    have hw : wantF tm (.on p want) = some t := by
      simp only [wantF]; rw [hv]; exact h1
    cases t with
    | true => exact .inl ⟨hw, h2⟩
    | false => exact .inr ⟨hw, h2⟩

variable {cf : KCalls} (hp : PrimsMono tbl) (hcf : CfOk tbl cf)
include hp hcf
theorem insX_sound (hro : H.ro ≤ H.nx) {x : Ins} {k : KS} (h : insX cf x tm H k = .ret r H') :
    ∃ n v H₁, insV (call tbl n) x tm H = some (v, H₁) ∧ k (tm.putO x.dst v) H₁ = .ret r H' := by
  cases x with
  | op g d o =>
    rcases guardX_inv (y := opX o tm H fun v H => putX d v tm fun tm => k tm H) (n := putX d .undef tm fun tm => k tm H) h with ⟨hw, h⟩ | ⟨hw, h⟩
    · obtain ⟨v, H₁, ho, h⟩ := opX_sound h
      exact ⟨0, v, H₁, by simp only [insV]; rw [hw]; exact ho, putX_inv h⟩
    · exact ⟨0, .undef, H, by simp only [insV]; rw [hw], putX_inv h⟩
  | call g d q f args =>
    rcases guardX_inv (y := evX tm f fun fv => evsX tm args fun vs =>
      ifB q (cf fv vs (H.shut true) fun v H' => putX d v tm fun tm => k tm (H'.back H.ro)) (cf fv vs H fun v H' => putX d v tm fun tm => k tm H')) (n := putX d .undef tm fun tm => k tm H) h with ⟨hw, h⟩ | ⟨hw, h⟩
    · obtain ⟨fv, hf, h⟩ := evX_inv h
      obtain ⟨vs, hv, h⟩ := evsX_inv h
      cases q with
      | false =>
        obtain ⟨n, v, H₁, hc, h⟩ := hcf _ _ _ _ _ _ hro h
        have m := call_mono hp n _ _ _ _ _ hro hc
        have eb : H₁.back H.ro = H₁ := by
          have := m.ro
          obtain ⟨t, nx, ro⟩ := H₁
          dsimp only at this; subst this; rfl
        refine ⟨n, v, H₁, ?_, putX_inv h⟩
        have hc' : call tbl n fv vs (H.shut false) = .ret v H₁ := hc
        simp only [insV]; rw [hw]; dsimp only; rw [hf, hv]; dsimp only; rw [hc']; dsimp only; rw [eb]
      | true =>
        obtain ⟨n, v, H₁, hc, h⟩ := hcf _ _ _ _ _ _ (by simp [Heap.shut]) h
        refine ⟨n, v, H₁.back H.ro, ?_, putX_inv h⟩
        simp only [insV]; rw [hw]; dsimp only; rw [hf, hv]; dsimp only; rw [hc]
    · exact ⟨0, .undef, H, by simp only [insV]; rw [hw], putX_inv h⟩

omit hcf in
theorem insV_ro {x : Ins} {H₁ : Heap} {n : Nat} {v : AV} (hro : H.ro ≤ H.nx) (h : insV (call tbl n) x tm H = some (v, H₁)) : H₁.ro ≤ H₁.nx := by
  have m := insV_mono (call_mono hp n) hro h
  rw [m.ro]; exact Nat.le_trans hro m.nx

theorem regX_sound : ∀ {l : List Ins} {tm : Tr AV} {H : Heap} {k : KS}, H.ro ≤ H.nx → regX cf l tm H k = .ret r H' → WpR tbl l ⟨tm, H⟩ fun s => s.hp.ro ≤ s.hp.nx ∧ k s.tm s.hp = .ret r H'
  | [], tm, H, k, hro, h => WpR.nil ⟨hro, h⟩
  | x :: l, tm, H, k, hro, h => by
    obtain ⟨n, v, H₁, h1, h2⟩ := insX_sound hp hcf hro (x := x) h
    exact WpR.cons h1 (regX_sound (insV_ro hp hro h1) h2)

/-- how it goes on -/
def goesX (kn : KS) (ke : Nat → KS) (kr : KS) : Ex → KS
  | .nrm => kn
  | .exi i => ke i
  | .ret => kr
theorem codeX_sound {n : Nat} : ∀ {c : AC} {kn : KS} {ke : Nat → KS} {kr : KS} {tm : Tr AV} {H : Heap}, H.ro ≤ H.nx → codeX cf n c kn ke kr tm H = .ret r H' →
    Wp tbl c ⟨tm, H⟩ fun e s => s.hp.ro ≤ s.hp.nx ∧ goesX kn ke kr e s.tm s.hp = .ret r H' := by
  intro c
  induction c with
  | skip => intro kn ke kr tm H hro h; exact Wp.skip ⟨hro, h⟩
  | reg l => intro kn ke kr tm H hro h; exact Wp.reg (regX_sound hp hcf hro h)
  | regU l => intro kn ke kr tm H hro h; cases h
  | seq a b iha ihb =>
    intro kn ke kr tm H hro h
    refine Wp.seq ((iha hro h).mono fun e s hq => ?_)
    obtain ⟨hro', h'⟩ := hq
    cases e with
    | nrm => exact ihb hro' h'
    | exi i => exact ⟨hro', h'⟩
    | ret => exact ⟨hro', h'⟩
  | cond c a b iha ihb =>
    intro kn ke kr tm H hro h
    have h0 : evX tm c (fun v => vBool v fun t => ifB t (codeX cf n a kn ke kr tm H) (codeX cf n b kn ke kr tm H)) = .ret r H' := h
    obtain ⟨v, hv, h1⟩ := evX_inv h0
    obtain ⟨t, rfl, h2⟩ := vBool_inv h1
    cases t with
    | true => exact Wp.cond hv (iha hro h2)
    | false => exact Wp.cond hv (ihb hro h2)
  | block id a iha =>
    intro kn ke kr tm H hro h
    refine Wp.block ((iha hro h).mono fun e s hq => ?_)
    obtain ⟨hro', h'⟩ := hq
    cases e with
    | nrm => exact ⟨hro', h'⟩
    | exi i =>
      have h2 : ifB (Nat.beq i id) (kn s.tm s.hp) (ke i s.tm s.hp) = .ret r H' := h'
      show if i = id then _ else _
      by_cases hi : i = id
      · rw [if_pos hi]
        have : Nat.beq i id = true := by rw [hi]; exact Nat.beq_refl _
        rw [this] at h2
        exact ⟨hro', h2⟩
      · rw [if_neg hi]
        have : Nat.beq i id = false := by cases hb : Nat.beq i id with
          | false => rfl
          | true => exact (hi (Nat.eq_of_beq_eq_true hb)).elim
        rw [this] at h2
        exact ⟨hro', h2⟩
    | ret => exact ⟨hro', h'⟩
  | loop a iha =>
    intro kn ke kr tm H hro h
    have go : ∀ (m : Nat) (tm : Tr AV) (H : Heap), H.ro ≤ H.nx → loopX (fun F => codeX cf n a F ke kr) m tm H = .ret r H' →
        Wp tbl (.loop a) ⟨tm, H⟩ fun e s => s.hp.ro ≤ s.hp.nx ∧ goesX kn ke kr e s.tm s.hp = .ret r H' := by
      intro m
      induction m with
      | zero => intro tm H _ h; cases h
      | succ m ihm =>
        intro tm H hro h
        refine Wp.round ((iha hro (kn := loopX (fun F => codeX cf n a F ke kr) m) h).mono fun e s hq => ?_)
        obtain ⟨hro', h'⟩ := hq
        cases e with
        | nrm => exact ihm s.tm s.hp hro' h'
        | exi i => exact ⟨hro', h'⟩
        | ret => exact ⟨hro', h'⟩
    exact go n tm H hro h
  | exit id => intro kn ke kr tm H hro h; exact Wp.exit ⟨hro, h⟩
  | ret => intro kn ke kr tm H hro h; exact Wp.ret ⟨hro, h⟩
omit hp hcf

/-! ### Functions -/
theorem bindX_inv : ∀ {ps : List P} {vs : List AV} {tm : Tr AV} {k : Tr AV → CRes}, bindX ps vs tm k = .ret r H' → ∃ tm', bindK ps vs tm none some = some tm' ∧ k tm' = .ret r H'
  | [], [], tm, k, h => ⟨tm, rfl, h⟩
  | [], _ :: _, tm, k, h => by cases h
  | _ :: _, [], tm, k, h => by cases h
  | p :: ps, v :: vs, tm, k, h => by
    have h0 : setV p v tm (fun tm => bindX ps vs tm k) = .ret r H' := h
    rw [setV_eq] at h0
    obtain ⟨tm', h1, h2⟩ := bindX_inv h0
    refine ⟨tm', ?_, h2⟩
    show Tr.setK p v tm (fun tm' => bindK ps vs tm' none some) = _
    rw [Tr.setK_eq]; exact h1
theorem resX_inv : ∀ {rs : List Rv} {k : List AV → CRes}, resX tm H rs k = .ret r H' → ∃ vs, resF ⟨tm, H⟩ rs = some vs ∧ k vs = .ret r H'
  | [], k, h => ⟨[], rfl, h⟩
  | x :: rs, k, h => by
    have key : ∃ v, resV ⟨tm, H⟩ x = some v ∧ resX tm H rs (fun vs => k (v :: vs)) = .ret r H' := by
      cases x with
      | t p => exact getV_inv (p := p) h
      | cell p n agg =>
        obtain ⟨u, hu, h1⟩ := getV_inv (p := p) h
        obtain ⟨b, off, l, cs, v, rfl, hl, hc, hv, h2⟩ := loadK_inv h1
        refine ⟨v, ?_, h2⟩
        simp only [resV]; rw [hu]; dsimp only; rw [hl]; dsimp only; rw [hc]; exact hv
    obtain ⟨v, hv, h1⟩ := key
    obtain ⟨vs, h3, h4⟩ := resX_inv h1
    refine ⟨v :: vs, ?_, h4⟩
    show (Option.casesOn (resV ⟨tm, H⟩ x) none fun v => Option.casesOn (resF ⟨tm, H⟩ rs) none fun us => some (v :: us) : Option (List AV)) = _
    rw [hv, h3]
theorem oneX_eq (vs : List AV) : oneX vs = one vs := by
  match vs with
  | [] => rfl
  | [v] => rfl
  | _ :: _ :: _ => rfl
theorem finX_inv {rs : List Rv} {k : AV → Heap → CRes} (h : finX rs k tm H = .ret r H') : ∃ vs, resF ⟨tm, H⟩ rs = some vs ∧ k (one vs) H = .ret r H' := by
  obtain ⟨vs, h1, h2⟩ := resX_inv h
  exact ⟨vs, h1, by rw [← oneX_eq]; exact h2⟩

def FindOk (tbl : Tr AFn) (find : Nat → (AFn → CRes) → CRes) : Prop := ∀ f k r H', find f k = .ret r H' → ∃ fn, tbl.get (key f) = some fn ∧ k fn = .ret r H'
theorem callX_sound (hp : PrimsMono tbl) {find : Nat → (AFn → CRes) → CRes} (hf : FindOk tbl find) {n : Nat} : ∀ m, CfOk tbl (callX find n m) := by
  intro m
  induction m with
  | zero => intro fv vs H k r H' _ h; cases h
  | succ m ih =>
    intro fv vs H k r H' hro h
    cases fv with
    | func f first cap =>
      obtain ⟨fn, hfn, h1⟩ := hf _ _ _ _ h
      rw [appK_eq, appK_eq] at h1
      cases fn with
      | code ps body res =>
        obtain ⟨tm, hb, h2⟩ := bindX_inv h1
        obtain ⟨N, e, s, h3, _, h4⟩ := codeX_sound hp ih hro h2
        cases e with
        | nrm =>
          obtain ⟨us, h5, h6⟩ := finX_inv h4
          exact ⟨N, one us, s.hp, callF_code hfn hb h3 (.inl rfl) h5, h6⟩
        | ret =>
          obtain ⟨us, h5, h6⟩ := finX_inv h4
          exact ⟨N, one us, s.hp, callF_code hfn hb h3 (.inr rfl) h5, h6⟩
        | exi i => cases h4
      | prim g =>
        have h2 : (CRes.rec (motive := fun _ => CRes) .err (fun v H => k v H) (g (first ++ (vs ++ cap)) H) : CRes) = .ret r H' := h1
        cases hg : g (first ++ (vs ++ cap)) H with
        | err => rw [hg] at h2; cases h2
        | ret v H₁ =>
          rw [hg] at h2
          refine ⟨0, v, H₁, ?_, h2⟩
          show callF tbl _ _ _ _ = _
          simp only [callF, hfn, appK_eq, id, hg]
    | _ => cases h
/-- functions found in the table itself -/
noncomputable def findT : Tr AFn → P → (AFn → CRes) → CRes := fun t p => P.rec (motive := fun _ => Tr AFn → (AFn → CRes) → CRes)
  (Tr.rec (motive := fun _ => (AFn → CRes) → CRes) (fun _ => .err) (fun _ v _ _ _ k => oC v k))
  (fun _ ih => Tr.rec (motive := fun _ => (AFn → CRes) → CRes) (fun _ => .err) (fun l _ _ _ _ k => ih l k))
  (fun _ ih => Tr.rec (motive := fun _ => (AFn → CRes) → CRes) (fun _ => .err) (fun _ _ r _ _ k => ih r k)) p t
theorem findT_eq : ∀ (p : P) (t : Tr AFn) (k : AFn → CRes), findT t p k = oC (t.get p) k
  | .h, .leaf, _ => rfl
  | .h, .node _ _ _, _ => rfl
  | .o p, .leaf, _ => rfl
  | .o p, .node l v r, k => findT_eq p l k
  | .i p, .leaf, _ => rfl
  | .i p, .node l v r, k => findT_eq p r k
noncomputable def findX (t : Tr AFn) (f : Nat) (k : AFn → CRes) : CRes := findT t (key f) k
theorem findX_ok (tbl : Tr AFn) : FindOk tbl (findX tbl) := fun f k r H' h => by
  unfold findX at h
  rw [findT_eq] at h
  exact oC_inv h
end
end Go.Ai
