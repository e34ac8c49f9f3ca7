/- Instructions, code and calls of the interpreter, with no model in sight: what they leave alone and what they read. -/
import Derived.Test.YtphpkpemamccnacGreatAiMono
namespace Go.Ai

theorem putK_eq {β : Type} (tm : Tr AV) (d : Option P) (v : AV) (k : Tr AV → β) : putK tm d v k = k (tm.putO d v) := by
  cases d with
  | none => rfl
  | some p => exact Tr.setK_eq p v tm k

theorem insF_eq (cf : ACalls) (x : Ins) (tm : Tr AV) (H : Heap) : insF cf x ⟨tm, H⟩ = (insV cf x tm H).map fun r => ⟨tm.putO x.dst r.1, r.2⟩ := by
  cases x with
  | op g d o =>
    simp only [insF, insV, Ins.dst]
    cases wantF tm g with
    | none => rfl
    | some b =>
      cases b
      · exact putK_eq _ _ _ _
      · dsimp only
        cases opF o tm H with
        | none => rfl
        | some r => exact putK_eq _ _ _ _
  | call g d q f args =>
    simp only [insF, insV, Ins.dst]
    cases wantF tm g with
    | none => rfl
    | some b =>
      cases b
      · exact putK_eq _ _ _ _
      · dsimp only
        cases ev tm f with
        | none => rfl
        | some fv =>
          cases evs tm args with
          | none => rfl
          | some vs =>
            dsimp only
            show (CRes.casesOn (cf fv vs (H.shut q)) none fun v H' => Heap.casesOn H' fun t' nx' _ => putK tm d v fun tm' => some ⟨tm', ⟨t', nx', H.ro⟩⟩ : Option St) = _
            cases cf fv vs (H.shut q) with
            | err => rfl
            | ret v H' => exact putK_eq _ _ _ _

/-- calls that keep to what the heap lets them write -/
def CallsMono (cf : ACalls) : Prop := ∀ fv vs H v H', H.ro ≤ H.nx → cf fv vs H = .ret v H' → Mono H H'

section
variable {cf : ACalls} {x : Ins} {tm tm' : Tr AV} {H H' : Heap} {v : AV}

theorem wantF_congr {g : Gd} (h : ∀ p ∈ g.ps, tm'.get p = tm.get p) : wantF tm' g = wantF tm g := by
  cases g with
  | always => rfl
  | on p w => simp only [wantF]; rw [h p (by simp [Gd.ps])]

theorem insV_congr (h : ∀ p ∈ x.reads, tm'.get p = tm.get p) : insV cf x tm' H = insV cf x tm H := by
  cases x with
  | op g d o =>
    simp only [insV]
    rw [wantF_congr (g := g) fun p hp => h p (by simp [Ins.reads, hp]), opF_congr (o := o) fun p hp => h p (by simp [Ins.reads, hp])]
  | call g d q f args =>
    simp only [insV]
    rw [wantF_congr (g := g) fun p hp => h p (by simp [Ins.reads, hp]), ev_congr (x := f) fun p hp => h p (by simp [Ins.reads, hp]), evs_congr (xs := args) fun p hp => h p (by simp [Ins.reads, hp])]

theorem insV_mono (hc : CallsMono cf) (hr : H.ro ≤ H.nx) (h : insV cf x tm H = some (v, H')) : Mono H H' := by
  cases x with
  | op g d o =>
    simp only [insV] at h
    split at h
    · cases h
    · cases h; exact .refl
    · exact opF_mono hr h
  | call g d q f args =>
    simp only [insV] at h
    split at h
    · cases h
    · cases h; exact .refl
    · split at h
      · split at h
        · cases h
        · rename_i v₁ H₁ he
          cases h
          have m := hc _ _ (H.shut q) _ _ (by cases q <;> simp [Heap.shut, hr]) he
          refine ⟨rfl, m.nx, fun b hb => m.low b ?_, m.rd⟩
          cases q <;> simp [Heap.shut] <;> omega
      · cases h

theorem insV_quiet (hc : CallsMono cf) (hq : clsI x ≠ .eff) (h : insV cf x tm H = some (v, H')) : H.nx ≤ H'.nx ∧ ∀ b, b < H.nx → H'.get b = H.get b := by
  cases x with
  | op g d o =>
    simp only [insV] at h
    split at h
    · cases h
    · cases h; exact ⟨Nat.le_refl _, fun _ _ => rfl⟩
    · exact opF_quiet hq h
  | call g d q f args =>
    have hq' : q = true := by cases q <;> simp_all [clsI]
    subst hq'
    simp only [insV] at h
    split at h
    · cases h
    · cases h; exact ⟨Nat.le_refl _, fun _ _ => rfl⟩
    · split at h
      · split at h
        · cases h
        · rename_i v₁ H₁ he
          cases h
          have m := hc _ _ (H.shut true) _ _ (by simp [Heap.shut]) he
          exact ⟨m.nx, fun b hb => m.low b hb⟩
      · cases h

theorem insV_pure (hq : clsI x = .pure) : ∃ f : Option AV, ∀ H, insV cf x tm H = f.map fun r => (r, H) := by
  cases x with
  | op g d o =>
    simp only [insV]
    cases wantF tm g with
    | none => exact ⟨none, fun _ => rfl⟩
    | some b =>
      cases b
      · exact ⟨some .undef, fun _ => rfl⟩
      · exact opF_pure hq
  | call g d q f args => cases q <;> cases hq
end

theorem insV_load {cf : ACalls} {x : Ins} {tm : Tr AV} {H H' : Heap} {v : AV} (hq : clsI x = .load) (h : insV cf x tm H = some (v, H')) : H' = H := by
  cases x with
  | op g d o =>
    simp only [insV] at h
    split at h
    · cases h
    · cases h; rfl
    · exact opF_load hq h
  | call g d q f args => cases q <;> cases hq

theorem insV_alloc {cf : ACalls} {x : Ins} {tm : Tr AV} {H H' : Heap} {v : AV} (ha : allocI x = true) (h : insV cf x tm H = some (v, H')) :
    (H' = H ∧ ∀ K, insV cf x tm K = some (v, K)) ∨ ∃ blk, H' = H.add blk ∧ ¬ roB (some blk) ∧ ∀ K : Heap, K.nx = H.nx → insV cf x tm K = some (v, K.add blk) := by
  cases x with
  | op g d o =>
    simp only [insV] at h ⊢
    split at h
    · cases h
    · rename_i hw; cases h; exact .inl ⟨rfl, fun K => rfl⟩
    · rename_i hw
      obtain ⟨blk, h1, h2, h3⟩ := opF_alloc (by cases hc : clsA o <;> simp_all [allocI]) h
      exact .inr ⟨blk, h1, h2, fun K hK => h3 K hK⟩
  | call g d q f args => cases ha

/-! ### Code -/
theorem regF_nil {cf : ACalls} {s : St} : regF cf [] s = .fin .nrm s := rfl
theorem regF_cons {cf : ACalls} {x : Ins} {l : List Ins} {s : St} {e : Ex} {s' : St} (h : regF cf (x :: l) s = .fin e s') : ∃ s₁, insF cf x s = some s₁ ∧ regF cf l s₁ = .fin e s' := by
  have h' : (Option.casesOn (insF cf x s) .err (regF cf l) : Out) = .fin e s' := h
  cases hi : insF cf x s with
  | none => rw [hi] at h'; cases h'
  | some s₁ => rw [hi] at h'; exact ⟨s₁, rfl, h'⟩

theorem regF_nrm {cf : ACalls} {e : Ex} {s' : St} : ∀ {l : List Ins} {s : St}, regF cf l s = .fin e s' → e = .nrm
  | [], s, h => by rw [regF_nil] at h; cases h; rfl
  | x :: l, s, h => by obtain ⟨s₁, _, h₁⟩ := regF_cons h; exact regF_nrm h₁

theorem regUF_reg {cf : ACalls} {e : Ex} {s' : St} : ∀ {us : List UI} {j : Nat} {sn : List (Nat × Heap)} {sv : List (Nat × Sv)} {s : St}, regUF cf us j sn sv s = .fin e s' → regF cf (us.map UI.x) s = .fin e s'
  | [], _, _, _, s, h => h
  | u :: us, j, sn, sv, s, h => by
    simp only [regUF] at h
    show (Option.casesOn (insF cf u.x s) .err (regF cf (us.map UI.x)) : Out) = _
    obtain ⟨tm, H⟩ := s
    dsimp only at h
    rw [insF_eq]
    cases hv : insV cf u.x tm H with
    | none => rw [hv] at h; cases h
    | some r =>
      rw [hv] at h
      dsimp only at h
      split at h
      · cases h
      · exact regUF_reg h

section
variable {cf : ACalls} {tbl : Tr AFn}
theorem regF_mono (hc : CallsMono cf) {e : Ex} {s' : St} : ∀ {l : List Ins} {s : St}, s.hp.ro ≤ s.hp.nx → regF cf l s = .fin e s' → Mono s.hp s'.hp
  | [], s, _, h => by rw [regF_nil] at h; cases h; exact .refl
  | x :: l, s, hr, h => by
    obtain ⟨s₁, h₁, h₂⟩ := regF_cons h
    obtain ⟨tm, H⟩ := s
    rw [insF_eq] at h₁
    cases hv : insV cf x tm H with
    | none => rw [hv] at h₁; cases h₁
    | some r =>
      rw [hv] at h₁; cases h₁
      have m := insV_mono hc hr (v := r.1) (H' := r.2) hv
      exact m.trans (regF_mono hc (by show r.2.ro ≤ r.2.nx; rw [m.ro]; exact Nat.le_trans hr m.nx) h₂)

/-- what a run of code is, by its parts -/
theorem step_seq_inv {ih : AC → St → Out} {a b : AC} {s s' : St} {e : Ex} (h : step cf ih (.seq a b) s = .fin e s') :
    (∃ s₁, ih a s = .fin .nrm s₁ ∧ ih b s₁ = .fin e s') ∨ (ih a s = .fin e s' ∧ e ≠ .nrm) := by
  simp only [step] at h
  cases ha : ih a s with
  | err => rw [ha] at h; cases h
  | fin e₁ s₁ =>
    rw [ha] at h
    cases e₁ with
    | nrm => exact .inl ⟨s₁, rfl, h⟩
    | exi id => cases h; exact .inr ⟨rfl, by simp⟩
    | ret => cases h; exact .inr ⟨rfl, by simp⟩
theorem step_loop_inv {ih : AC → St → Out} {a : AC} {s s' : St} {e : Ex} (h : step cf ih (.loop a) s = .fin e s') :
    (∃ s₁, ih a s = .fin .nrm s₁ ∧ ih (.loop a) s₁ = .fin e s') ∨ (ih a s = .fin e s' ∧ e ≠ .nrm) := by
  simp only [step] at h
  cases ha : ih a s with
  | err => rw [ha] at h; cases h
  | fin e₁ s₁ =>
    rw [ha] at h
    cases e₁ with
    | nrm => exact .inl ⟨s₁, rfl, h⟩
    | exi id => cases h; exact .inr ⟨rfl, by simp⟩
    | ret => cases h; exact .inr ⟨rfl, by simp⟩
theorem step_cond_inv {ih : AC → St → Out} {c : Opd} {a b : AC} {s s' : St} {e : Ex} (h : step cf ih (.cond c a b) s = .fin e s') :
    ∃ t, ev s.tm c = some (.bool t) ∧ ih (if t then a else b) s = .fin e s' := by
  simp only [step] at h
  cases hc : ev s.tm c with
  | none => rw [hc] at h; cases h
  | some v =>
    rw [hc] at h
    dsimp only at h
    split at h
    · exact ⟨true, rfl, h⟩
    · exact ⟨false, rfl, h⟩
    · cases h
theorem step_block_inv {ih : AC → St → Out} {id : Nat} {a : AC} {s s' : St} {e : Ex} (h : step cf ih (.block id a) s = .fin e s') :
    ∃ e₁, ih a s = .fin e₁ s' ∧ (match e₁ with | .exi i => if i = id then e = .nrm else e = .exi i | x => e = x) := by
  simp only [step] at h
  cases ha : ih a s with
  | err => rw [ha] at h; cases h
  | fin e₁ s₁ =>
    rw [ha] at h
    cases e₁ with
    | nrm => cases h; exact ⟨_, rfl, rfl⟩
    | exi i =>
      have h' : (Bool.casesOn (Nat.beq i id) (.fin (.exi i) s₁) (.fin .nrm s₁) : Out) = .fin e s' := h
      by_cases hi : i = id
      · have : Nat.beq i id = true := by rw [Nat.beq_eq]; exact hi
        rw [this] at h'; cases h'
        exact ⟨_, rfl, by simp [hi]⟩
      · have : Nat.beq i id = false := by cases hb : Nat.beq i id with
          | false => rfl
          | true => exact (hi (Nat.eq_of_beq_eq_true hb)).elim
        rw [this] at h'; cases h'
        exact ⟨_, rfl, by simp [hi]⟩
    | ret => cases h; exact ⟨_, rfl, rfl⟩

def PrimsMono (tbl : Tr AFn) : Prop := ∀ f g, tbl.get (key f) = some (.prim g) → ∀ vs H v H', H.ro ≤ H.nx → g vs H = .ret v H' → Mono H H'

theorem bindK_eq (ps : List P) : ∀ (vs : List AV) (tm : Tr AV) (e : CRes) (k : Tr AV → CRes) (v : AV) (H : Heap), bindK ps vs tm e k = .ret v H → e = .ret v H ∨ ∃ tm', k tm' = .ret v H ∧ bindK ps vs tm none some = some tm' := by
  induction ps with
  | nil =>
    intro vs tm e k v H h
    cases vs with
    | nil => exact .inr ⟨tm, h, rfl⟩
    | cons _ _ => exact .inl h
  | cons p ps ih =>
    intro vs tm e k v H h
    cases vs with
    | nil => exact .inl h
    | cons u vs =>
      have h' : Tr.setK p u tm (fun tm' => bindK ps vs tm' e k) = .ret v H := h
      rw [Tr.setK_eq] at h'
      rcases ih _ _ _ _ _ _ h' with h1 | ⟨tm', h1, h2⟩
      · exact .inl h1
      · refine .inr ⟨tm', h1, ?_⟩
        show Tr.setK p u tm (fun tm' => bindK ps vs tm' none some) = some tm'
        rw [Tr.setK_eq]; exact h2

theorem callF_inv {ih : AC → St → Out} {fv : AV} {args : List AV} {H H' : Heap} {v : AV} (h : callF tbl ih fv args H = .ret v H') :
    ∃ f first cap, fv = .func f first cap ∧
      ((∃ g, tbl.get (key f) = some (.prim g) ∧ g (first ++ (args ++ cap)) H = .ret v H') ∨
       (∃ ps body res tm e s vs, tbl.get (key f) = some (.code ps body res) ∧ bindK ps (first ++ (args ++ cap)) .leaf none some = some tm ∧
          ih body ⟨tm, H⟩ = .fin e s ∧ (e = .nrm ∨ e = .ret) ∧ resF s res = some vs ∧ v = one vs ∧ H' = s.hp)) := by
  unfold callF at h
  split at h
  · rename_i f first cap
    refine ⟨f, first, cap, rfl, ?_⟩
    cases hf : tbl.get (key f) with
    | none => rw [hf] at h; cases h
    | some fn =>
      rw [hf] at h
      cases fn with
      | prim g =>
        refine .inl ⟨g, rfl, ?_⟩
        simpa [appK_eq] using h
      | code ps body res =>
        refine .inr ?_
        dsimp only at h
        simp only [appK_eq, id] at h
        rcases bindK_eq ps _ _ _ _ _ _ h with h1 | ⟨tm, h1, h2⟩
        · cases h1
        · cases hb : ih body ⟨tm, H⟩ with
          | err => rw [hb] at h1; cases h1
          | fin e s =>
            rw [hb] at h1
            cases e with
            | exi id => cases h1
            | nrm =>
              dsimp only at h1
              cases hr : resF s res with
              | none => rw [hr] at h1; cases h1
              | some vs => rw [hr] at h1; cases h1; exact ⟨ps, body, res, tm, _, s, vs, rfl, h2, hb, .inl rfl, hr, rfl, rfl⟩
            | ret =>
              dsimp only at h1
              cases hr : resF s res with
              | none => rw [hr] at h1; cases h1
              | some vs => rw [hr] at h1; cases h1; exact ⟨ps, body, res, tm, _, s, vs, rfl, h2, hb, .inr rfl, hr, rfl, rfl⟩
  · cases h

theorem callF_mono {ih : AC → St → Out} (hp : PrimsMono tbl) (hi : ∀ c s e s', s.hp.ro ≤ s.hp.nx → ih c s = .fin e s' → Mono s.hp s'.hp) : CallsMono (callF tbl ih) := by
  intro fv vs H v H' hr h
  obtain ⟨f, first, cap, _, h⟩ := callF_inv h
  rcases h with ⟨g, hg, hh⟩ | ⟨ps, body, res, tm, e, s, us, _, _, hb, _, _, _, rfl⟩
  · exact hp f g hg _ _ _ _ hr hh
  · exact hi _ _ _ _ hr hb

theorem exec_mono (hp : PrimsMono tbl) : ∀ n c s e s', s.hp.ro ≤ s.hp.nx → exec tbl n c s = .fin e s' → Mono s.hp s'.hp := by
  intro n
  induction n with
  | zero => intro c s e s' _ h; cases h
  | succ n ih =>
    intro c s e s' hr h
    have h' : step (callF tbl (exec tbl n)) (exec tbl n) c s = .fin e s' := h
    have two : ∀ {c₁ c₂ s₁}, exec tbl n c₁ s = .fin .nrm s₁ → exec tbl n c₂ s₁ = .fin e s' → Mono s.hp s'.hp := fun h1 h2 => by
      have m := ih _ _ _ _ hr h1
      exact m.trans (ih _ _ _ _ (by rw [m.ro]; exact Nat.le_trans hr m.nx) h2)
    cases c with
    | skip => simp only [step] at h'; cases h'; exact .refl
    | reg l => exact regF_mono (callF_mono hp ih) hr h'
    | regU l => exact regF_mono (callF_mono hp ih) hr (regUF_reg h')
    | seq a b =>
      rcases step_seq_inv h' with ⟨s₁, h1, h2⟩ | ⟨h1, _⟩
      · exact two h1 h2
      · exact ih _ _ _ _ hr h1
    | cond c a b => obtain ⟨t, _, h1⟩ := step_cond_inv h'; exact ih _ _ _ _ hr h1
    | block id a => obtain ⟨e₁, h1, _⟩ := step_block_inv h'; exact ih _ _ _ _ hr h1
    | loop a =>
      rcases step_loop_inv h' with ⟨s₁, h1, h2⟩ | ⟨h1, _⟩
      · exact two h1 h2
      · exact ih _ _ _ _ hr h1
    | exit id => simp only [step] at h'; cases h'; exact .refl
    | ret => simp only [step] at h'; cases h'; exact .refl

theorem call_mono (hp : PrimsMono tbl) (n : Nat) : CallsMono (call tbl n) := callF_mono hp (exec_mono hp n)
end
end Go.Ai
