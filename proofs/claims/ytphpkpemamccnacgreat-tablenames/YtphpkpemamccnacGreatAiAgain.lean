/- Loads that stand in no order with effects: done again, and held equal. -/
import Derived.Test.YtphpkpemamccnacGreatAiOrd
namespace Go.Ai

theorem ikC_inj {k q : IntKind} (h : Nat.beq (ikC k) (ikC q) = true) : k = q := by
  cases k <;> cases q <;> first | rfl | cases h
theorem sameC0_ok {a b : AV} (h : sameC0 a b = true) : a = b := by
  unfold sameC0 at h
  split at h
  · simp only [beq_iff_eq] at h; rw [h]
  · simp only [Bool.and_eq_true] at h
    have h2 := h.2
    rw [eqF_eq, beq_iff_eq] at h2
    rw [ikC_inj h.1, h2]
  · rw [eqBytes_eq, beq_iff_eq] at h; rw [h]
  · simp only [Bool.and_eq_true] at h
    rw [Nat.eq_of_beq_eq_true h.1, Nat.eq_of_beq_eq_true h.2]
  · rfl
  · simp only [Bool.and_eq_true, beq_iff_eq] at h
    obtain ⟨⟨⟨⟨h1, h2⟩, h3⟩, h4⟩, h5⟩ := h
    rw [Nat.eq_of_beq_eq_true h1, Nat.eq_of_beq_eq_true h2, Nat.eq_of_beq_eq_true h3, Nat.eq_of_beq_eq_true h4, h5]
  · rfl
  · rw [Nat.eq_of_beq_eq_true h]
  · rfl
  · rfl
  · rfl
  · cases h
theorem sameLs_ok {f : AV → AV → Bool} (hf : ∀ {a b}, f a b = true → a = b) : ∀ {a b : List AV}, sameLs f a b = true → a = b
  | [], [], _ => rfl
  | [], _ :: _, h => by cases h
  | _ :: _, [], h => by cases h
  | x :: a, y :: b, h => by
    have h0 : (Bool.casesOn (f x y) false (sameLs f a b) : Bool) = true := h
    cases hx : f x y with
    | false => rw [hx] at h0; cases h0
    | true => rw [hx] at h0; rw [hf hx, sameLs_ok hf h0]
theorem sameC_ok {a b : AV} (h : sameC a b = true) : a = b := by
  unfold sameC at h
  split at h
  · simp only [Bool.and_eq_true] at h
    rw [Nat.eq_of_beq_eq_true h.1.1, sameLs_ok sameC0_ok h.1.2, sameLs_ok sameC0_ok h.2]
  · exact sameC0_ok h
theorem sameS_ok {a b : AV} (h : sameS a b = true) : a = b := by
  unfold sameS at h
  split at h
  · rw [sameLs_ok sameC_ok h]
  · exact sameC_ok h
theorem sameA_ok {a b : AV} (h : sameA a b = true) : a = b := by
  unfold sameA at h
  split at h
  · rw [sameLs_ok sameS_ok h]
  · exact sameS_ok h

theorem allB_ok {α : Type} {f : α → Bool} : ∀ {l : List α}, allB f l = true → ∀ x ∈ l, f x = true
  | [], _, x, hx => by cases hx
  | y :: l, h, x, hx => by
    have h0 : (Bool.casesOn (f y) false (allB f l) : Bool) = true := h
    cases hy : f y with
    | false => rw [hy] at h0; cases h0
    | true =>
      rw [hy] at h0
      rcases List.mem_cons.1 hx with rfl | hx
      · exact hy
      · exact allB_ok h0 x hx

theorem lt_of_blt {a b : Nat} (h : Nat.blt a b = true) : a < b := by simpa [Nat.blt_eq] using h
section
variable {D : Nat → Prop} {n : Nat}
theorem lowC0_ok {a : AV} (h : lowC0 n a = true) (hv : okv D a) : okv (fun b => D b ∧ b < n) a := by
  unfold lowC0 at h
  split at h
  case h_4 => simp only [okv] at hv ⊢; exact ⟨hv, lt_of_blt h⟩
  case h_6 => simp only [okv] at hv ⊢; exact ⟨hv, lt_of_blt h⟩
  case h_8 => simp only [okv] at hv ⊢; exact ⟨hv, lt_of_blt h⟩
  all_goals first | (simp [okv]; done) | cases h
theorem lowC_ok {a : AV} (h : lowC n a = true) (hv : okv D a) : okv (fun b => D b ∧ b < n) a := by
  unfold lowC at h
  split at h
  · rename_i f x c
    have h1 : (Bool.casesOn (allB (lowC0 n) x) false (allB (lowC0 n) c) : Bool) = true := h
    cases hx : allB (lowC0 n) x with
    | false => rw [hx] at h1; cases h1
    | true =>
      rw [hx] at h1
      simp only [okv] at hv ⊢
      exact ⟨(okL_iff _ _).2 fun v hm => lowC0_ok (allB_ok hx v hm) ((okL_iff _ _).1 hv.1 v hm), (okL_iff _ _).2 fun v hm => lowC0_ok (allB_ok h1 v hm) ((okL_iff _ _).1 hv.2 v hm)⟩
  · exact lowC0_ok h hv
theorem lowS_ok {a : AV} (h : lowS n a = true) (hv : okv D a) : okv (fun b => D b ∧ b < n) a := by
  unfold lowS at h
  split at h
  · simp only [okv] at hv ⊢
    exact ⟨(okL_iff _ _).2 fun x hx => lowC_ok (allB_ok h x hx) ((okL_iff _ _).1 hv.1 x hx), hv.2⟩
  · exact lowC_ok h hv
theorem lowA_ok {a : AV} (h : lowA n a = true) (hv : okv D a) : okv (fun b => D b ∧ b < n) a := by
  unfold lowA at h
  split at h
  · simp only [okv] at hv ⊢
    exact (okL_iff _ _).2 fun x hx => lowS_ok (allB_ok h x hx) ((okL_iff _ _).1 hv x hx)
  · exact lowS_ok h hv
end

theorem findN_mem {α : Type} {n : Nat} : ∀ {l : List (Nat × α)} {a : α}, findN n l = some a → (n, a) ∈ l
  | [], a, h => by cases h
  | x :: l, a, h => by
    have h0 : (Bool.casesOn (Nat.beq x.1 n) (findN n l) (some x.2) : Option α) = some a := h
    cases hx : Nat.beq x.1 n with
    | false => rw [hx] at h0; exact List.mem_cons_of_mem _ (findN_mem h0)
    | true =>
      rw [hx] at h0
      cases h0
      rw [← Nat.eq_of_beq_eq_true hx]
      exact List.mem_cons_self
theorem redoF_ok {cf : ACalls} {x : Ins} {tm : Tr AV} {H : Heap} {v : AV} (h : redoF cf x tm H v = true) : ∃ H', insV cf x tm H = some (v, H') := by
  unfold redoF at h
  cases hv : insV cf x tm H with
  | none => rw [hv] at h; cases h
  | some r => rw [hv] at h; obtain ⟨a, b⟩ := r; rw [sameA_ok h]; exact ⟨b, rfl⟩

/-- what was done again gave what it gave -/
structure Again (cf : ACalls) (us : List UI) (T : Nat → Tr AV) (H : Nat → Heap) (V : Nat → AV) : Prop where
  back : ∀ i u, us[i]? = some u → ∀ k ∈ u.back, ∃ H', insV cf u.x (T i) (H k) = some (V i, H')
  again : ∀ j u, us[j]? = some u → ∀ i ∈ u.again, ∃ y, us[i]? = some y ∧ (∃ H', insV cf y.x (T i) (H (j + 1)) = some (V i, H')) ∧ lowA (H i).nx (V i) = true

/-- pairs of a load and an effect in no order: the load was done again -/
structure Redo (cf : ACalls) (l : List Ins) (T : Nat → Tr AV) (H : Nat → Heap) (V : Nat → AV) (R : Nat → Nat → Prop) : Prop where
  kind : ∀ i j x y, l[i]? = some x → l[j]? = some y → R i j → (clsI x = .load ∧ clsI y = .eff) ∨ (clsI x = .eff ∧ clsI y = .load)
  fwd : ∀ i j x y, l[i]? = some x → l[j]? = some y → R i j → clsI x = .load → (∃ H', insV cf x (T i) (H (j + 1)) = some (V i, H')) ∧ lowA (H i).nx (V i) = true
  bwd : ∀ i j x y, l[i]? = some x → l[j]? = some y → R i j → clsI y = .load → ∃ H', insV cf y (T j) (H i) = some (V j, H')
theorem Redo.none (cf : ACalls) (l : List Ins) (T : Nat → Tr AV) (H : Nat → Heap) (V : Nat → AV) : Redo cf l T H V fun _ _ => False :=
  ⟨fun _ _ _ _ _ _ h => h.elim, fun _ _ _ _ _ _ h => h.elim, fun _ _ _ _ _ _ h => h.elim⟩

theorem redone_inv {us : List UI} {i j : Nat} (h : redone us i j = true) : ∃ p q, us[i]? = some p ∧ us[j]? = some q ∧
    ((clsI p.x = .load ∧ clsI q.x = .eff ∧ i ∈ q.again) ∨ (clsI p.x = .eff ∧ clsI q.x = .load ∧ i ∈ q.back)) := by
  unfold redone at h
  split at h
  · rename_i p q hp hq
    refine ⟨p, q, hp, hq, ?_⟩
    split at h
    · rename_i h1 h2; exact .inl ⟨h1, h2, by simpa using h⟩
    · rename_i h1 h2; exact .inr ⟨h1, h2, by simpa using h⟩
    · cases h
  · cases h

theorem Again.redo {cf : ACalls} {us : List UI} {T : Nat → Tr AV} {H : Nat → Heap} {V : Nat → AV} (h : Again cf us T H V) : Redo cf (us.map UI.x) T H V fun i j => redone us i j = true := by
  have get : ∀ {i : Nat} {x : Ins} {p : UI}, (us.map UI.x)[i]? = some x → us[i]? = some p → x = p.x := fun hx hp => by
    rw [List.getElem?_map, hp] at hx; simpa using hx.symm
  refine ⟨fun i j x y hx hy hr => ?_, fun i j x y hx hy hr hl => ?_, fun i j x y hx hy hr hl => ?_⟩
  all_goals
    obtain ⟨p, q, hp, hq, hor⟩ := redone_inv hr
    have e1 := get hx hp
    have e2 := get hy hq
    subst e1 e2
  · rcases hor with ⟨h1, h2, _⟩ | ⟨h1, h2, _⟩
    · exact .inl ⟨h1, h2⟩
    · exact .inr ⟨h1, h2⟩
  · rcases hor with ⟨_, _, h3⟩ | ⟨h1, _, _⟩
    · obtain ⟨y, hy', h4, h5⟩ := h.again j q hq i h3
      rw [hp] at hy'; cases hy'
      exact ⟨h4, h5⟩
    · rw [h1] at hl; cases hl
  · rcases hor with ⟨_, h2, _⟩ | ⟨_, _, h3⟩
    · rw [h2] at hl; cases hl
    · exact h.back j q hq i h3

theorem regUF_again {cf : ACalls} {us : List UI} {T : Nat → Tr AV} {H : Nat → Heap} {V : Nat → AV} (lex : Lex cf (us.map UI.x) T H V) {e : Ex} {s' : St} :
    ∀ (n j : Nat) {sn : List (Nat × Heap)} {sv : List (Nat × Sv)}, j + n = us.length → regUF cf (us.drop j) j sn sv ⟨T j, H j⟩ = .fin e s' →
      (∀ p ∈ sn, p.2 = H p.1) → (∀ p ∈ sv, ∃ y, us[p.1]? = some y ∧ p.2 = ⟨y.x, T p.1, V p.1, (H p.1).nx⟩) →
      ∀ i u, j ≤ i → us[i]? = some u → (∀ k ∈ u.back, ∃ H', insV cf u.x (T i) (H k) = some (V i, H')) ∧
        ∀ m ∈ u.again, ∃ y, us[m]? = some y ∧ (∃ H', insV cf y.x (T m) (H (i + 1)) = some (V m, H')) ∧ lowA (H m).nx (V m) = true := by
  intro n
  induction n with
  | zero =>
    intro j sn sv hn h h1 h2 i u hi hu
    rw [List.getElem?_eq_none (by omega)] at hu; cases hu
  | succ n ih =>
    intro j sn sv hn h h1 h2 i u hi hu
    have hj : j < us.length := by omega
    have hx : us[j]? = some us[j] := List.getElem?_eq_getElem hj
    rw [List.drop_eq_getElem_cons hj] at h
    have hval := lex.val j us[j].x (by rw [List.getElem?_map, hx]; rfl)
    have htm := lex.tm j us[j].x (by rw [List.getElem?_map, hx]; rfl)
    simp only [regUF] at h
    rw [hval] at h
    dsimp only at h
    split at h
    · cases h
    · rename_i hok
      rw [Bool.and_eq_true] at hok
      by_cases e : j = i
      · subst e
        rw [hx] at hu; cases hu
        refine ⟨fun k hk => ?_, fun m hm => ?_⟩
        · have := allB_ok hok.1 k hk
          cases hf : findN k sn with
          | none => rw [hf] at this; cases this
          | some K =>
            rw [hf] at this
            have hK := h1 _ (findN_mem hf)
            dsimp only at hK
            rw [← hK]
            exact redoF_ok this
        · have := allB_ok hok.2 m hm
          cases hf : findN m sv with
          | none => rw [hf] at this; cases this
          | some s =>
            rw [hf] at this
            obtain ⟨y, hy, hs⟩ := h2 _ (findN_mem hf)
            dsimp only at hy hs
            subst hs
            dsimp only at this
            cases hr : redoF cf y.x (T m) (H (j + 1)) (V m) with
            | false => rw [hr] at this; cases this
            | true => rw [hr] at this; exact ⟨y, hy, redoF_ok hr, this⟩
      · rw [← htm] at h
        refine ih (j + 1) (by omega) h ?_ ?_ i u (by omega) hu
        · intro p hp
          split at hp
          · rcases List.mem_cons.1 hp with rfl | hp
            · rfl
            · exact h1 p hp
          · exact h1 p hp
        · intro p hp
          split at hp
          · rcases List.mem_cons.1 hp with rfl | hp
            · exact ⟨_, hx, rfl⟩
            · exact h2 p hp
          · exact h2 p hp

theorem regUF_lex {cf : ACalls} {us : List UI} {s s' : St} {e : Ex} (h : regUF cf us 0 [] [] s = .fin e s') :
    ∃ T H V, Lex cf (us.map UI.x) T H V ∧ Again cf us T H V ∧ T 0 = s.tm ∧ H 0 = s.hp ∧ T us.length = s'.tm ∧ H us.length = s'.hp := by
  obtain ⟨T, H, V, lex, t0, h0, tn, hn⟩ := regF_lex (regUF_reg h)
  rw [List.length_map] at tn hn
  have hs : s = ⟨T 0, H 0⟩ := by rw [t0, h0]
  subst hs
  have := regUF_again lex us.length 0 (by omega) (by simpa using h) (fun p hp => by cases hp) (fun p hp => by cases hp)
  exact ⟨T, H, V, lex, ⟨fun i u hu k hk => (this i u (Nat.zero_le _) hu).1 k hk, fun j u hu i hi => (this j u (Nat.zero_le _) hu).2 i hi⟩, rfl, rfl, tn, hn⟩
end Go.Ai
