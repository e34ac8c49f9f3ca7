/- The order among the operations of a region, and what temporaries hold when some of them have run. -/
import Derived.Test.YtphpkpemamccnacGreatAiLex
namespace Go.Ai

theorem P.eqb_iff : ∀ {p q : P}, P.eqb p q = true ↔ p = q
  | .h, .h => by simp [P.eqb]
  | .o p, .o q => by simp [P.eqb, P.eqb_iff (p := p) (q := q)]
  | .i p, .i q => by simp [P.eqb, P.eqb_iff (p := p) (q := q)]
  | .h, .o _ => by simp [P.eqb]
  | .h, .i _ => by simp [P.eqb]
  | .o _, .h => by simp [P.eqb]
  | .o _, .i _ => by simp [P.eqb]
  | .i _, .h => by simp [P.eqb]
  | .i _, .o _ => by simp [P.eqb]
theorem P.mem_iff {p : P} : ∀ {l : List P}, P.mem p l = true ↔ p ∈ l
  | [] => by simp [P.mem]
  | q :: l => by simp [P.mem, P.eqb_iff, P.mem_iff (l := l)]

theorem touch_dr {x y : Ins} {p : P} (hx : x.dst = some p) (hy : p ∈ y.reads) : touch x y = true := by
  unfold touch; rw [hx]; simp [P.mem_iff.2 hy]
theorem touch_dd {x y : Ins} {p : P} (hx : x.dst = some p) (hy : y.dst = some p) : touch x y = true := by
  unfold touch; rw [hx, hy]; simp [P.eqb_iff.2 rfl]
theorem touch_rd {x y : Ins} {p : P} (hx : p ∈ x.reads) (hy : y.dst = some p) : touch x y = true := by
  unfold touch; rw [hy]; simp [P.mem_iff.2 hx]

/-! ### What stands ahead -/
def Bef (ops : Array Oper) (i j : Nat) : Prop := i ∈ (aheads ops.toList).getD j []

theorem aheads_snoc (l : List Oper) (o : Oper) : aheads (l ++ [o]) = aheads l ++ [o.after.toList.flatMap fun e => if Region.binds .any e then e.on :: (aheads l).getD e.on [] else []] := by
  simp [aheads]
theorem aheads_length (l : List Oper) : (aheads l).length = l.length := by
  rw [← List.reverse_reverse l]
  induction l.reverse with
  | nil => rfl
  | cons o l ih => rw [List.reverse_cons, aheads_snoc]; simp [ih]

theorem aheads_spec (l : List Oper) : ∀ j o, l[j]? = some o → ∀ i, i ∈ (aheads l).getD j [] → ∃ e ∈ o.after, Region.binds .any e = true ∧ (i = e.on ∨ i ∈ (aheads l).getD e.on []) := by
  rw [← List.reverse_reverse l]
  induction l.reverse with
  | nil => intro j o h; simp at h
  | cons p r ih =>
    intro j o hj i hi
    rw [List.reverse_cons] at hj hi ⊢
    rw [aheads_snoc] at hi ⊢
    have hl := aheads_length r.reverse
    have grow : ∀ (m x : Nat) (y : List Nat), x ∈ (aheads r.reverse).getD m [] → x ∈ (aheads r.reverse ++ [y]).getD m [] := by
      intro m x y hx
      simp only [List.getD_eq_getElem?_getD] at hx ⊢
      by_cases hm : m < (aheads r.reverse).length
      · rw [List.getElem?_append_left hm]; exact hx
      · rw [List.getElem?_eq_none (by omega)] at hx; simp at hx
    by_cases hlt : j < r.reverse.length
    · rw [List.getElem?_append_left hlt] at hj
      simp only [List.getD_eq_getElem?_getD] at hi
      rw [List.getElem?_append_left (by omega)] at hi
      obtain ⟨e, he, hb, hor⟩ := ih j o hj i (by simpa [List.getD_eq_getElem?_getD] using hi)
      exact ⟨e, he, hb, hor.imp id (grow _ _ _)⟩
    · have hje : j = r.reverse.length := by
        rcases Nat.lt_or_ge j (r.reverse ++ [p]).length with h | h
        · simp at h hlt ⊢; omega
        · rw [List.getElem?_eq_none h] at hj; cases hj
      subst hje
      rw [List.getElem?_append_right (Nat.le_refl _)] at hj
      simp at hj; subst hj
      simp only [List.getD_eq_getElem?_getD] at hi
      rw [List.getElem?_append_right (by omega)] at hi
      simp only [hl, Nat.sub_self, List.getElem?_cons_zero, Option.getD_some, List.mem_flatMap] at hi
      obtain ⟨e, he, hie⟩ := hi
      split at hie
      · rename_i hb
        refine ⟨e, by simpa using he, hb, ?_⟩
        rcases List.mem_cons.1 hie with h | h
        · exact .inl h
        · exact .inr (grow _ _ _ h)
      · cases hie

/-- memory that is made ahead of an effect may as well be made behind it -/
def Late (p q : Ins) : Prop := allocI p = true ∧ clsI q = .eff
/-- what the compiler has seen of a region that draws its order; 'π': the place of each instruction among the operations -/
structure Draws (ops : Array Oper) (l : List Ins) (π : Nat → Nat) (R : Nat → Nat → Prop) : Prop where
  len : l.length = ops.size
  ord : ∀ i j p q, i < j → l[i]? = some p → l[j]? = some q → Bef ops (π i) (π j) ∨ (touch p q = false ∧ (clash (clsI p) (clsI q) = false ∨ R i j ∨ Late p q))
  back : ∀ j o, ops[j]? = some o → ∀ e ∈ o.after, Region.binds .any e = true → e.on < j
  inj : ∀ i j, i < l.length → j < l.length → π i = π j → i = j
  sur : ∀ r, r < ops.size → ∃ i, i < l.length ∧ π i = r
  rng : ∀ i, i < l.length → π i < ops.size

def On (S : Array Bool) (j : Nat) : Prop := S.getD j false = true

structure Closed (ops : Array Oper) (S : Array Bool) : Prop where
  size : S.size = ops.size
  down : ∀ j o, ops[j]? = some o → On S j → ∀ e ∈ o.after, Region.binds .any e = true → On S e.on

section
variable {ops : Array Oper} {l : List Ins} {π : Nat → Nat} {R : Nat → Nat → Prop} {S : Array Bool}

theorem On.lt (h : Closed ops S) {j : Nat} (hj : On S j) : j < ops.size := by
  rcases Nat.lt_or_ge j S.size with h' | h'
  · rw [← h.size]; exact h'
  · unfold On at hj; simp [Array.getElem?_eq_none h'] at hj

theorem Closed.bef (h : Closed ops S) (d : Draws ops l π R) : ∀ {j i : Nat}, On S j → Bef ops i j → On S i := by
  intro j
  induction j using Nat.strongRecOn with
  | _ j ih =>
    intro i hj hb
    have hlt := hj.lt h
    have hjo : ops[j]? = some ops[j] := Array.getElem?_eq_getElem hlt
    obtain ⟨e, he, hbd, hor⟩ := aheads_spec ops.toList j ops[j] (by simp [hlt]) i hb
    have hon := h.down j _ hjo hj e he hbd
    rcases hor with rfl | hor
    · exact hon
    · exact ih e.on (d.back j _ hjo e he hbd) hon hor

theorem Closed.ready (h : Closed ops S) (d : Draws ops l π R) {j i : Nat} (hj : j ∈ Region.ready .any ops S) (hb : Bef ops i j) : On S i := by
  obtain ⟨_, o, ho, hall⟩ := mem_ready.1 hj
  obtain ⟨e, he, hbd, hor⟩ := aheads_spec ops.toList j o (by simpa using ho) i hb
  have hon := hall e he hbd
  rcases hor with rfl | hor
  · exact hon
  · exact h.bef d hon hor

theorem ready_off {j : Nat} (hj : j ∈ Region.ready .any ops S) : ¬ On S j ∧ ∃ o, ops[j]? = some o := by
  obtain ⟨h1, o, ho, _⟩ := mem_ready.1 hj
  refine ⟨fun h => ?_, o, ho⟩
  unfold On at h
  rcases Nat.lt_or_ge j S.size with h' | h'
  · simp [h'] at h h1; rw [h] at h1; cases h1
  · simp [Array.getElem?_eq_none h'] at h

theorem On.set {i j : Nat} (h : On S j) : On (S.setIfInBounds i true) j := getD_set_true h
theorem On.of_set {i j : Nat} (h : On (S.setIfInBounds i true) j) : j = i ∨ On S j := by
  by_cases e : i = j
  · exact .inl e.symm
  · unfold On at h; rw [getD_set_ne false e] at h; exact .inr h
theorem On.at_set {i : Nat} (h : i < S.size) : On (S.setIfInBounds i true) i := by unfold On; simp [h]

theorem Closed.set (h : Closed ops S) {i : Nat} (hi : i ∈ Region.ready .any ops S) : Closed ops (S.setIfInBounds i true) := by
  obtain ⟨_, o, ho, hall⟩ := mem_ready.1 hi
  refine ⟨by simp [h.size], fun j p hj hon e he hb => ?_⟩
  rcases hon.of_set with rfl | hon
  · rw [ho] at hj; cases hj; exact On.set (hall e he hb)
  · exact On.set (h.down j p hj hon e he hb)

theorem Closed.done (h : Closed ops S) (d : Draws ops l π R) (hr : Region.ready .any ops S = []) : ∀ j, j < ops.size → On S j := by
  intro j
  induction j using Nat.strongRecOn with
  | _ j ih =>
    intro hj
    refine Classical.byContradiction fun hn => ?_
    have hjo : ops[j]? = some ops[j] := Array.getElem?_eq_getElem hj
    have hm : j ∈ Region.ready .any ops S := by
      refine mem_ready.2 ⟨?_, ops[j], hjo, fun e he hb => ?_⟩
      · have : S.getD j false = false := by cases hs : S.getD j false with
          | false => rfl
          | true => exact (hn hs).elim
        have hs : j < S.size := by rw [h.size]; exact hj
        simp [hs] at this ⊢; exact this
      · have := d.back j _ hjo e he hb
        exact ih e.on this (by omega)
    rw [hr] at hm; cases hm
end

/-! ### What a place holds when some have run -/
open Classical in
noncomputable def val (l : List Ins) (π : Nat → Nat) (V : Nat → AV) (t₀ : Tr AV) (S : Array Bool) : Nat → P → Option AV
  | 0, p => t₀.get p
  | k + 1, p => match l[k]? with
    | some x => if On S (π k) ∧ x.dst = some p then some (V k) else val l π V t₀ S k p
    | none => val l π V t₀ S k p

section
variable {cf : ACalls} {l : List Ins} {π : Nat → Nat} {T : Nat → Tr AV} {H : Nat → Heap} {V : Nat → AV} {S : Array Bool} {p : P}

theorem putO_get_same (tm : Tr AV) {d : Option P} (v : AV) (h : d = some p) : (tm.putO d v).get p = some v := by
  subst h; exact Tr.get_set_same _ _ _
theorem putO_get_other (tm : Tr AV) {d : Option P} (v : AV) (h : d ≠ some p) : (tm.putO d v).get p = tm.get p := by
  cases d with
  | none => rfl
  | some q => exact Tr.get_set_other (fun e => h (by rw [e])) _ _

theorem val_here {k : Nat} {x : Ins} (hx : l[k]? = some x) (ho : On S (π k)) (hd : x.dst = some p) : val l π V (T 0) S (k + 1) p = some (V k) := by
  simp [val, hx, ho, hd]
theorem val_past {k : Nat} (h : ∀ x, l[k]? = some x → ¬ (On S (π k) ∧ x.dst = some p)) : val l π V (T 0) S (k + 1) p = val l π V (T 0) S k p := by
  cases hx : l[k]? with
  | none => simp [val, hx]
  | some x => simp only [val, hx]; rw [if_neg (h x hx)]

/-- when all that write it up to here have run -/
theorem val_lex (h : Lex cf l T H V) : ∀ {k : Nat}, k ≤ l.length → (∀ j x, j < k → l[j]? = some x → x.dst = some p → On S (π j)) → val l π V (T 0) S k p = (T k).get p
  | 0, _, _ => rfl
  | k + 1, hk, ha => by
    have hx : l[k]? = some l[k] := List.getElem?_eq_getElem (by omega)
    rw [h.tm k _ hx]
    by_cases e : (l[k]).dst = some p
    · rw [val_here hx (ha k _ (by omega) hx e) e, putO_get_same _ _ e]
    · rw [putO_get_other _ _ e, val_past, val_lex h (by omega) (fun j x hj => ha j x (by omega))]
      intro x hx'
      rw [hx] at hx'; cases hx'
      exact fun c => e c.2
/-- when none that writes it from here on has run -/
theorem val_stay {i : Nat} : ∀ {k : Nat}, i ≤ k → (∀ j x, i ≤ j → j < k → l[j]? = some x → x.dst = some p → ¬ On S (π j)) → val l π V (T 0) S k p = val l π V (T 0) S i p
  | 0, hk, _ => by have : i = 0 := by omega
                   subst this; rfl
  | k + 1, hk, ha => by
    by_cases e : i = k + 1
    · subst e; rfl
    · rw [val_past, val_stay (i := i) (k := k) (by omega) (fun j x h1 h2 => ha j x h1 (by omega))]
      intro x hx c
      exact ha k x (by omega) (by omega) hx c.2 c.1
theorem val_set {r : Nat} (hn : ∀ k x, π k = r → l[k]? = some x → x.dst ≠ some p) : ∀ (k : Nat), val l π V (T 0) (S.setIfInBounds r true) k p = val l π V (T 0) S k p
  | 0 => rfl
  | k + 1 => by
    cases hx : l[k]? with
    | none => simp only [val, hx]; exact val_set hn k
    | some x =>
      simp only [val, hx]
      by_cases e : π k = r
      · rw [if_neg (fun c => hn k x e hx c.2), if_neg (fun c => hn k x e hx c.2)]; exact val_set hn k
      · by_cases c : On S (π k) ∧ x.dst = some p
        · rw [if_pos c, if_pos ⟨c.1.set, c.2⟩]
        · rw [if_neg c, if_neg]
          · exact val_set hn k
          · intro c'; rcases c'.1.of_set with h | h
            · exact e h
            · exact c ⟨h, c'.2⟩
theorem lex_src (h : Lex cf l T H V) {v : AV} : ∀ {k : Nat}, k ≤ l.length → (T k).get p = some v → (T 0).get p = some v ∨ ∃ j x, j < k ∧ l[j]? = some x ∧ x.dst = some p ∧ v = V j
  | 0, _, hv => .inl hv
  | k + 1, hk, hv => by
    have hx : l[k]? = some l[k] := List.getElem?_eq_getElem (by omega)
    rw [h.tm k _ hx] at hv
    by_cases e : (l[k]).dst = some p
    · rw [putO_get_same _ _ e] at hv; cases hv
      exact .inr ⟨k, _, by omega, hx, e, rfl⟩
    · rw [putO_get_other _ _ e] at hv
      rcases lex_src h (by omega) hv with h1 | ⟨j, x, h1, h2⟩
      · exact .inl h1
      · exact .inr ⟨j, x, by omega, h2⟩
end
end Go.Ai
