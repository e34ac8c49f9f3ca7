/- What the compiler sees of a region's order by masks is what stands ahead, and what touches. -/
import Derived.Test.YtphpkpemamccnacGreatAiAgain
namespace Go.Ai

theorem bitB_eq (m i : Nat) : bitB m i = m.testBit i := by
  unfold bitB
  rw [Nat.testBit_eq_decide_div_mod_eq]
  by_cases h : m / 2 ^ i % 2 = 1
  · rw [decide_eq_true h]
    show Nat.beq (m / 2 ^ i % 2) 1 = true
    rw [h]; rfl
  · rw [decide_eq_false h]
    show Nat.beq (m / 2 ^ i % 2) 1 = false
    have : m / 2 ^ i % 2 = 0 := by omega
    rw [this]; rfl
theorem bitB_or (a b i : Nat) : bitB (Nat.lor a b) i = (bitB a i || bitB b i) := by
  rw [bitB_eq, bitB_eq, bitB_eq]; exact Nat.testBit_or a b i
theorem bitB_M (n i : Nat) : bitB (bitM n) i = decide (n = i) := by
  rw [bitB_eq]; exact Nat.testBit_two_pow
theorem bitB_zero (i : Nat) : bitB 0 i = false := by rw [bitB_eq]; exact Nat.zero_testBit i

/-! ### What stands ahead -/
theorem getN_snoc : ∀ {acc : List Nat} {x j : Nat}, getN (acc ++ [x]) j = if j < acc.length then getN acc j else if j = acc.length then x else 0
  | [], x, 0 => rfl
  | [], x, j + 1 => by simp [getN]
  | y :: acc, x, 0 => by simp [getN]
  | y :: acc, x, j + 1 => by
    show getN (acc ++ [x]) j = _
    rw [getN_snoc]
    simp [getN]
theorem foldM_spec {acc : List Nat} {i : Nat} : ∀ {es : List Edge} {m : Nat}, bitB (foldM acc es m) i = true → bitB m i = true ∨ ∃ e ∈ es, Region.binds .any e = true ∧ (i = e.on ∨ bitB (getN acc e.on) i = true)
  | [], m, h => .inl h
  | e :: es, m, h => by
    rw [foldM] at h
    split at h
    · rename_i hb
      rcases foldM_spec h with h1 | ⟨e', h1, h2⟩
      · rw [bitB_or, bitB_or, Bool.or_eq_true, Bool.or_eq_true, bitB_M, decide_eq_true_eq] at h1
        rcases h1 with h1 | h1 | h1
        · exact .inl h1
        · exact .inr ⟨e, by simp, hb, .inl h1.symm⟩
        · exact .inr ⟨e, by simp, hb, .inr h1⟩
      · exact .inr ⟨e', by simp [h1], h2⟩
    · rcases foldM_spec h with h1 | ⟨e', h1, h2⟩
      · exact .inl h1
      · exact .inr ⟨e', by simp [h1], h2⟩
theorem masksR_spec : ∀ (l : List Oper) (acc : List Nat) (accL : List (List Nat)), acc.length = accL.length → (∀ j i, bitB (getN acc j) i = true → i ∈ accL.getD j []) →
    ∀ j i, bitB (getN (masksR l acc) j) i = true → i ∈ (l.foldl (fun acc o => acc ++ [o.after.toList.flatMap fun e => if Region.binds .any e then e.on :: acc.getD e.on [] else []]) accL).getD j []
  | [], acc, accL, _, h, j, i, hb => h j i hb
  | o :: l, acc, accL, hl, h, j, i, hb => by
    rw [masksR] at hb
    rw [List.foldl_cons]
    refine masksR_spec l _ _ (by simp [hl]) (fun j i hb => ?_) j i hb
    rw [getN_snoc] at hb
    rw [List.getD_eq_getElem?_getD]
    split at hb
    · rename_i hj
      rw [List.getElem?_append_left (by omega)]
      have := h j i hb
      rwa [List.getD_eq_getElem?_getD] at this
    · split at hb
      · rename_i hj
        subst hj
        rw [List.getElem?_append_right (by omega), hl, Nat.sub_self]
        simp only [List.getElem?_cons_zero, Option.getD_some, List.mem_flatMap]
        rcases foldM_spec hb with h1 | ⟨e, h1, h2, h3⟩
        · rw [bitB_zero] at h1; cases h1
        · refine ⟨e, h1, ?_⟩
          rw [if_pos h2]
          rcases h3 with h3 | h3
          · simp [h3]
          · exact List.mem_cons_of_mem _ (h _ _ h3)
      · rw [bitB_zero] at hb; cases hb
theorem masks_bef {ops : Array Oper} {i j : Nat} (h : bitB (getN (masks ops.toList) j) i = true) : Bef ops i j :=
  masksR_spec ops.toList [] [] rfl (fun j i hb => by
    have : getN [] j = 0 := rfl
    rw [this, bitB_zero] at hb; cases hb) j i h

/-! ### What touches -/
theorem numP_pos : ∀ p : P, 0 < numP p
  | .h => Nat.one_pos
  | .o p => by show 0 < 2 * numP p; have := numP_pos p; omega
  | .i p => by show 0 < 2 * numP p + 1; omega
theorem numP_inj : ∀ {p q : P}, numP p = numP q → p = q
  | .h, .h, _ => rfl
  | .o p, .o q, h => by
    have h : 2 * numP p = 2 * numP q := h
    rw [numP_inj (p := p) (q := q) (by omega)]
  | .i p, .i q, h => by
    have h : 2 * numP p + 1 = 2 * numP q + 1 := h
    rw [numP_inj (p := p) (q := q) (by omega)]
  | .h, .o q, h => by have h : 1 = 2 * numP q := h; omega
  | .h, .i q, h => by
    have h : 1 = 2 * numP q + 1 := h
    have := numP_pos q; omega
  | .o p, .h, h => by have h : 2 * numP p = 1 := h; omega
  | .i p, .h, h => by
    have h : 2 * numP p + 1 = 1 := h
    have := numP_pos p; omega
  | .o p, .i q, h => by have h : 2 * numP p = 2 * numP q + 1 := h; omega
  | .i p, .o q, h => by have h : 2 * numP p + 1 = 2 * numP q := h; omega
theorem maskL_mem {p : P} : ∀ {l : List P} {m : Nat}, (bitB m (numP p) = true ∨ p ∈ l) → bitB (maskL l m) (numP p) = true
  | [], m, h => by
    rcases h with h | h
    · exact h
    · cases h
  | q :: l, m, h => by
    rw [maskL]
    refine maskL_mem ?_
    rw [bitB_or, Bool.or_eq_true, bitB_M, decide_eq_true_eq]
    rcases h with h | h
    · exact .inl (.inl h)
    · rcases List.mem_cons.1 h with rfl | h
      · exact .inl (.inr rfl)
      · exact .inr h
theorem maskD_mem {p : P} {d : Option P} (h : d = some p) : bitB (maskD d) (numP p) = true := by
  subst h
  rw [maskD, bitB_M]; simp
theorem land_zero {a b i : Nat} (h : bitB a i = true) (h' : bitB b i = true) : bitB (Nat.land a b) i = true := by
  rw [bitB_eq] at *
  have := Nat.testBit_and a b i
  rw [h, h'] at this
  exact this
theorem noTouch_ok {b b' : List Nat} {r r' : Nat} {x y : Ins} (h : noTouch (miOf b r x) (miOf b' r' y) = true) : touch x y = false := by
  unfold noTouch at h
  have h := Nat.eq_of_beq_eq_true h
  have none : ∀ i, bitB (Nat.land (maskD x.dst) (Nat.lor (maskL y.reads 0) (maskD y.dst))) i = true → False := fun i hi => by
    have h2 : bitB (Nat.lor (Nat.land (maskD x.dst) (Nat.lor (maskL y.reads 0) (maskD y.dst))) (Nat.land (maskD y.dst) (maskL x.reads 0))) i = true := by rw [bitB_or, hi]; rfl
    have h3 : Nat.lor (Nat.land (maskD x.dst) (Nat.lor (maskL y.reads 0) (maskD y.dst))) (Nat.land (maskD y.dst) (maskL x.reads 0)) = 0 := h
    rw [h3, bitB_zero] at h2; cases h2
  have none' : ∀ i, bitB (Nat.land (maskD y.dst) (maskL x.reads 0)) i = true → False := fun i hi => by
    have h2 : bitB (Nat.lor (Nat.land (maskD x.dst) (Nat.lor (maskL y.reads 0) (maskD y.dst))) (Nat.land (maskD y.dst) (maskL x.reads 0))) i = true := by rw [bitB_or, hi]; simp
    have h3 : Nat.lor (Nat.land (maskD x.dst) (Nat.lor (maskL y.reads 0) (maskD y.dst))) (Nat.land (maskD y.dst) (maskL x.reads 0)) = 0 := h
    rw [h3, bitB_zero] at h2; cases h2
  cases ht : touch x y with
  | false => rfl
  | true =>
    exfalso
    unfold touch at ht
    rw [Bool.or_eq_true] at ht
    rcases ht with ht | ht
    · cases hx : x.dst with
      | none => rw [hx] at ht; cases ht
      | some d =>
        rw [hx] at ht
        dsimp only at ht
        rw [Bool.or_eq_true] at ht
        refine none (numP d) (land_zero (maskD_mem hx) ?_)
        rw [bitB_or, Bool.or_eq_true]
        rcases ht with ht | ht
        · exact .inl (maskL_mem (.inr (P.mem_iff.1 ht)))
        · cases hy : y.dst with
          | none => rw [hy] at ht; cases ht
          | some e => rw [hy] at ht; rw [P.eqb_iff.1 ht]; exact .inr (maskD_mem rfl)
    · cases hy : y.dst with
      | none => rw [hy] at ht; cases ht
      | some d =>
        rw [hy] at ht
        exact none' (numP d) (land_zero (maskD_mem hy) (maskL_mem (.inr (P.mem_iff.1 ht))))

/-! ### All pairs -/
theorem pairsF_at {cl : Nat → Nat → Ins → Ins → Bool} {x : Ins} {m : MI} {j : Nat} : ∀ {l : List (Ins × MI)} {k : Nat}, pairsF cl x m j l k = true → ∀ (i : Nat) (p : Ins × MI), l[i]? = some p → (bitB m.b p.2.r || (noTouch p.2 m && cl (k + i) j p.1 x)) = true
  | [], k, h, i, p, hp => by simp at hp
  | (y, n) :: l, k, h, i, p, hp => by
    rw [pairsF, Bool.and_eq_true] at h
    cases i with
    | zero => simp at hp; subst hp; simpa using h.1
    | succ i =>
      have := pairsF_at h.2 i p (by simpa using hp)
      rwa [show k + 1 + i = k + (i + 1) by omega] at this
theorem allF_at {cl : Nat → Nat → Ins → Ins → Bool} {all : List (Ins × MI)} : ∀ {l : List (Ins × MI)} {k : Nat}, allF cl all l k = true → ∀ (j : Nat) (q : Ins × MI), l[j]? = some q → ∀ (i : Nat) (p : Ins × MI), i < k + j → all[i]? = some p →
    (bitB q.2.b p.2.r || (noTouch p.2 q.2 && cl i (k + j) p.1 q.1)) = true
  | [], k, h, j, q, hq, _, _, _, _ => by simp at hq
  | (x, m) :: l, k, h, j, q, hq, i, p, hi, hp => by
    rw [allF, Bool.and_eq_true] at h
    cases j with
    | zero =>
      simp at hq; subst hq
      have := pairsF_at h.1 i p (by rw [List.getElem?_take, if_pos (by omega)]; exact hp)
      simpa using this
    | succ j =>
      have := allF_at h.2 j q (by simpa using hq) i p (by omega) hp
      rwa [show k + 1 + j = k + (j + 1) by omega] at this
theorem withM_at {b : List Nat} : ∀ {π : List Nat} {l : List Ins} (i : Nat) (x : Ins), l[i]? = some x → i < π.length → (withM b π l)[i]? = some (x, miOf b (π.getD i 0) x)
  | [], l, i, x, hx, hi => by simp at hi
  | r :: π, [], i, x, hx, hi => by simp at hx
  | r :: π, y :: l, i, x, hx, hi => by
    cases i with
    | zero => simp at hx; subst hx; rfl
    | succ i =>
      have := withM_at (b := b) (π := π) i x (by simpa using hx) (by simpa using hi)
      simpa [withM] using this
theorem fast_at {b π : List Nat} {l : List Ins} {cl : Nat → Nat → Ins → Ins → Bool} (h : allF cl (withM b π l) (withM b π l) 0 = true) {i j : Nat} {p q : Ins} (hij : i < j) (hp : l[i]? = some p) (hq : l[j]? = some q) (hj : j < π.length) :
    bitB (getN b (π.getD j 0)) (π.getD i 0) = true ∨ (touch p q = false ∧ cl i j p q = true) := by
  have := allF_at h j _ (withM_at j q hq hj) i _ (by omega) (withM_at i p hp (by omega))
  rw [Bool.or_eq_true, Bool.and_eq_true] at this
  refine this.imp (fun h => h) fun h => ⟨noTouch_ok h.1, ?_⟩
  simpa using h.2
end Go.Ai
