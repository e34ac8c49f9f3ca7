/- What the continuation style over the heap of tries computes, the interpreter's operations compute over the heap that it stands for. -/
import Derived.Test.YtphpkpemamccnacGreatAiY
import Derived.Test.YtphpkpemamccnacGreatAiMem
namespace Go.Ai

/-! ### Blocks -/
theorem absT_get : ∀ (p : P) (t : Tr YBlk), (absT t).get p = (t.get p).map absB
  | .h, .leaf => rfl
  | .h, .node _ _ _ => rfl
  | .o p, .leaf => rfl
  | .o p, .node l _ _ => absT_get p l
  | .i p, .leaf => rfl
  | .i p, .node _ _ r => absT_get p r
theorem absT_set : ∀ (p : P) (x : YBlk) (t : Tr YBlk), absT (t.set p x) = (absT t).set p (absB x)
  | .h, _, .leaf => rfl
  | .h, _, .node _ _ _ => rfl
  | .o p, x, .leaf => by rw [Tr.set_o]; show Tr.node (absT (Tr.leaf.set p x)) none .leaf = _; rw [absT_set p x .leaf]; exact (Tr.set_o p (absB x) .leaf).symm
  | .o p, x, .node l v r => by rw [Tr.set_o]; show Tr.node (absT (l.set p x)) (v.map absB) (absT r) = _; rw [absT_set p x l]; exact (Tr.set_o p (absB x) (.node (absT l) (v.map absB) (absT r))).symm
  | .i p, x, .leaf => by rw [Tr.set_i]; show Tr.node .leaf none (absT (Tr.leaf.set p x)) = _; rw [absT_set p x .leaf]; exact (Tr.set_i p (absB x) .leaf).symm
  | .i p, x, .node l v r => by rw [Tr.set_i]; show Tr.node (absT l) (v.map absB) (absT (r.set p x)) = _; rw [absT_set p x r]; exact (Tr.set_i p (absB x) (.node (absT l) (v.map absB) (absT r))).symm
noncomputable def YHeap.get (H : YHeap) (b : Nat) : Option YBlk := H.t.get (key b)
noncomputable def YHeap.set (H : YHeap) (b : Nat) (x : YBlk) : YHeap := ⟨H.t.set (key b) x, H.nx, H.ro⟩
noncomputable def YHeap.add (H : YHeap) (x : YBlk) : YHeap := ⟨H.t.set (key H.nx) x, H.nx + 1, H.ro⟩
theorem YHeap.abs_get (H : YHeap) (b : Nat) : H.abs.get b = (H.get b).map absB := absT_get _ _
theorem YHeap.abs_set (H : YHeap) (b : Nat) (x : YBlk) : (H.set b x).abs = H.abs.set b (absB x) := by
  have h : H.abs.set b (absB x) = ⟨(absT H.t).set (key b) (absB x), H.nx, H.ro⟩ := by
    simp only [YHeap.abs, Heap.set, Heap.setK, Tr.setK_eq]; rfl
  rw [h]
  show (⟨absT (H.t.set (key b) x), H.nx, H.ro⟩ : Heap) = _
  rw [absT_set]
theorem YHeap.abs_add (H : YHeap) (x : YBlk) : (H.add x).abs = H.abs.add (absB x) := by
  have h : H.abs.add (absB x) = ⟨(absT H.t).set (key H.nx) (absB x), H.nx + 1, H.ro⟩ := by
    simp only [YHeap.abs, Heap.add, Heap.set, Heap.setK, Tr.setK_eq]; rfl
  rw [h]
  show (⟨absT (H.t.set (key H.nx) x), H.nx + 1, H.ro⟩ : Heap) = _
  rw [absT_set]
theorem getYB_eq : ∀ (p : P) (t : Tr YBlk) (k : YBlk → CRes), getYB p t k = oC (t.get p) k
  | .h, .leaf, _ => rfl
  | .h, .node _ _ _, _ => rfl
  | .o p, .leaf, _ => rfl
  | .o p, .node l v r, k => getYB_eq p l k
  | .i p, .leaf, _ => rfl
  | .i p, .node l v r, k => getYB_eq p r k
theorem setYB_eq : ∀ (p : P) (x : YBlk) (t : Tr YBlk) (k : Tr YBlk → CRes), setYB p x t k = k (t.set p x)
  | .h, _, .leaf, _ => rfl
  | .h, _, .node _ _ _, _ => rfl
  | .o p, x, .leaf, k => by rw [Tr.set_o]; exact setYB_eq p x .leaf fun l => k (.node l none .leaf)
  | .o p, x, .node l v r, k => by rw [Tr.set_o]; exact setYB_eq p x l fun l => k (.node l v r)
  | .i p, x, .leaf, k => by rw [Tr.set_i]; exact setYB_eq p x .leaf fun r => k (.node .leaf none r)
  | .i p, x, .node l v r, k => by rw [Tr.set_i]; exact setYB_eq p x r fun r => k (.node l v r)
theorem newY_eq (H : YHeap) (x : YBlk) (c : Nat → YHeap → CRes) : newY H x c = c H.nx (H.add x) := by
  obtain ⟨t, nx, ro⟩ := H
  show setYB (key nx) x t (fun t => forceN (Nat.succ nx) fun nx' => c nx ⟨t, nx', ro⟩) = _
  rw [setYB_eq, forceN_eq]; rfl
theorem putY_eq (H : YHeap) (b : Nat) (x : YBlk) (c : YHeap → CRes) : putY H b x c = c (H.set b x) := by
  obtain ⟨t, nx, ro⟩ := H
  show setYB (key b) x t (fun t => c ⟨t, nx, ro⟩) = _
  rw [setYB_eq]; rfl

/-! ### Cells -/
theorem cellsOf_length (t : Tr AV) (z : List AV) (zl n : Nat) : (cellsOf t z zl n).length = n := by simp [cellsOf]
theorem cellsOf_get (t : Tr AV) (z : List AV) (zl : Nat) {n i : Nat} (h : i < n) : (cellsOf t z zl n)[i]? = some (cellAt t z zl i) := by simp [cellsOf, h]
theorem cellsOf_set (t : Tr AV) (z : List AV) (zl n i : Nat) (u : AV) : cellsOf (t.set (key i) u) z zl n = (cellsOf t z zl n).set i u := by
  apply List.ext_getElem?
  intro j
  by_cases hj : j < n
  · rw [cellsOf_get _ _ _ hj, List.getElem?_set]
    by_cases e : i = j
    · subst e
      rw [if_pos rfl, if_pos (by rw [cellsOf_length]; exact hj)]
      simp [cellAt, Tr.get_set_same]
    · rw [if_neg e, cellsOf_get _ _ _ hj]
      simp [cellAt, Tr.get_set_other (fun k => e (key_inj k))]
  · rw [List.getElem?_eq_none (by rw [cellsOf_length]; omega), List.getElem?_eq_none (by rw [List.length_set, cellsOf_length]; omega)]
theorem cellsOf_leaf (z : List AV) : cellsOf .leaf z z.length z.length = z := by
  apply List.ext_getElem?
  intro j
  by_cases hj : j < z.length
  · rw [cellsOf_get _ _ _ hj]
    simp [cellAt, Tr.get_leaf, Nat.mod_eq_of_lt hj, hj]
  · rw [List.getElem?_eq_none (by rw [cellsOf_length]; omega), List.getElem?_eq_none (by omega)]
theorem cellsOf_reps (z : List AV) (n : Nat) : cellsOf .leaf z z.length (n * z.length) = reps z n := by
  apply List.ext_getElem?
  intro j
  by_cases hj : j < n * z.length
  · rw [cellsOf_get _ _ _ hj, reps_get z n j hj]
    have hz : 0 < z.length := by
      rcases Nat.eq_zero_or_pos z.length with h | h
      · rw [h] at hj; omega
      · exact h
    have := Nat.mod_lt j hz
    simp [cellAt, Tr.get_leaf, this]
  · rw [List.getElem?_eq_none (by rw [cellsOf_length]; omega), List.getElem?_eq_none (by rw [reps_length]; omega)]
theorem cellsOf_take (t : Tr AV) (z : List AV) (zl : Nat) {n m : Nat} (h : m ≤ n) : (cellsOf t z zl n).take m = cellsOf t z zl m := by
  apply List.ext_getElem?
  intro j
  rw [List.getElem?_take]
  by_cases hj : j < m
  · rw [if_pos hj, cellsOf_get _ _ _ (by omega), cellsOf_get _ _ _ hj]
  · rw [if_neg hj, List.getElem?_eq_none (by rw [cellsOf_length]; omega)]
theorem cellsOf_succ (t : Tr AV) (z : List AV) (zl n : Nat) : cellsOf t z zl (n + 1) = cellsOf t z zl n ++ [cellAt t z zl n] := by simp [cellsOf, List.range_succ]

section
variable {r : AV} {H' : Heap}
theorem getO_eq : ∀ (p : P) (t : Tr AV) (k : AV → CRes) (e : CRes), getO p t k e = match t.get p with | some v => k v | none => e
  | .h, .leaf, _, _ => rfl
  | .h, .node _ v _, _, _ => by cases v <;> rfl
  | .o p, .leaf, _, _ => rfl
  | .o p, .node l v r, k, e => getO_eq p l k e
  | .i p, .leaf, _, _ => rfl
  | .i p, .node l v r, k, e => getO_eq p r k e
theorem cellK_inv {t : Tr AV} {z : List AV} {zl i : Nat} {k : AV → CRes} (h : cellK t z zl i k = .ret r H') : k (cellAt t z zl i) = .ret r H' := by
  unfold cellK at h
  rw [getO_eq] at h
  unfold cellAt
  cases hg : t.get (key i) with
  | some v => rw [hg] at h; exact h
  | none =>
    rw [hg] at h
    have h' : nthX z (i % zl) k = .ret r H' := h
    rw [nthX_eq] at h'
    obtain ⟨v, hv, h⟩ := oC_inv h'
    rw [hv]; exact h
theorem readY_inv {t : Tr AV} {z : List AV} {zl : Nat} : ∀ {n off : Nat} {k : List AV → CRes}, readY t z zl n off k = .ret r H' → ∃ l, l.length = n ∧ (∀ j, j < n → l[j]? = some (cellAt t z zl (off + j))) ∧ k l = .ret r H'
  | 0, off, k, h => ⟨[], rfl, fun j hj => by omega, h⟩
  | n + 1, off, k, h => by
    have h0 : cellK t z zl off (fun v => forceN (Nat.succ off) fun o => readY t z zl n o fun l => k (v :: l)) = .ret r H' := h
    have h1 := cellK_inv h0
    rw [forceN_eq] at h1
    obtain ⟨l, e1, e2, h2⟩ := readY_inv h1
    refine ⟨_ :: l, by simp [e1], fun j hj => ?_, h2⟩
    cases j with
    | zero => rfl
    | succ j =>
      rw [List.getElem?_cons_succ, e2 j (by omega)]
      congr 2; omega
theorem readY_sub {t : Tr AV} {z : List AV} {zl n off m : Nat} {k : List AV → CRes} (hm : off + n ≤ m) (h : readY t z zl n off k = .ret r H') : ∃ l, sub (cellsOf t z zl m) off n = some l ∧ l.length = n ∧ k l = .ret r H' := by
  obtain ⟨l, e1, e2, h⟩ := readY_inv h
  refine ⟨l, ?_, e1, h⟩
  rw [sub_eq, if_pos (by rw [List.length_drop, cellsOf_length]; omega)]
  congr 1
  apply List.ext_getElem?
  intro j
  rw [List.getElem?_take]
  by_cases hj : j < n
  · rw [if_pos hj, List.getElem?_drop, cellsOf_get _ _ _ (by omega), e2 j hj]
  · rw [if_neg hj, List.getElem?_eq_none (by omega)]
theorem writeY_inv : ∀ {l : List AV} {off : Nat} {t : Tr AV} {k : Tr AV → CRes}, writeY l off t k = .ret r H' → ∃ t', k t' = .ret r H' ∧ (∀ z zl n, cellsOf t' z zl n = over l (cellsOf t z zl n) off)
  | [], off, t, k, h => ⟨t, h, fun _ _ _ => rfl⟩
  | x :: l, off, t, k, h => by
    have h0 : setV (key off) x t (fun t => forceN (Nat.succ off) fun o => writeY l o t k) = .ret r H' := h
    rw [setV_eq, forceN_eq] at h0
    obtain ⟨t', h1, h2⟩ := writeY_inv h0
    refine ⟨t', h1, fun z zl n => ?_⟩
    rw [h2, cellsOf_set]; rfl
theorem over_end : ∀ (new l : List AV) (x : List AV), x.length = new.length → over new (l ++ x) l.length = l ++ new
  | [], l, x, h => by
    have : x = [] := List.eq_nil_of_length_eq_zero (by simpa using h)
    subst this; rfl
  | n :: new, l, [], h => by simp at h
  | n :: new, l, y :: x, h => by
    show over new ((l ++ y :: x).set l.length n) (l.length + 1) = _
    have : (l ++ y :: x).set l.length n = (l ++ [n]) ++ x := by simp
    rw [this]
    have h2 := over_end new (l ++ [n]) x (by simpa using h)
    rw [List.length_append, List.length_singleton] at h2
    rw [h2]; simp
/-- what is written behind the first ones -/
theorem write_behind {new : List AV} {t t' : Tr AV} {z : List AV} {zl q : Nat} (h : ∀ z zl n, cellsOf t' z zl n = over new (cellsOf t z zl n) q) : cellsOf t' z zl (q + new.length) = cellsOf t z zl q ++ new := by
  rw [h]
  have e : cellsOf t z zl (q + new.length) = cellsOf t z zl q ++ ((cellsOf t z zl (q + new.length)).drop q) := by
    rw [← cellsOf_take t z zl (Nat.le_add_right q new.length), List.take_append_drop]
  rw [e]
  have := over_end new (cellsOf t z zl q) ((cellsOf t z zl (q + new.length)).drop q) (by rw [List.length_drop, cellsOf_length]; omega)
  rw [cellsOf_length] at this
  exact this

/-! ### Blocks of a heap -/
variable {H : YHeap}
theorem arrY_inv {b : Nat} {c : Tr AV → List AV → Nat → Nat → Nat → CRes} (h : arrY H b c = .ret r H') : ∃ t z zl n g, H.abs.get b = some (.cells (cellsOf t z zl n) true g) ∧ c t z zl n g = .ret r H' := by
  unfold arrY at h
  rw [getYB_eq] at h
  obtain ⟨x, hx, h⟩ := oC_inv h
  cases x with
  | arr t z zl n g => exact ⟨t, z, zl, n, g, by rw [YHeap.abs_get]; show (H.t.get (key b)).map absB = _; rw [hx]; rfl, h⟩
  | mp es => cases h
  | dead => cases h
theorem arrY_cells {b : Nat} {c : Tr AV → List AV → Nat → Nat → Nat → CRes} (h : arrY H b c = .ret r H') : ∃ t z zl n g, cellsAt H.abs b = some (cellsOf t z zl n) ∧ c t z zl n g = .ret r H' := by
  obtain ⟨t, z, zl, n, g, hg, h⟩ := arrY_inv h
  exact ⟨t, z, zl, n, g, by unfold cellsAt; rw [hg], h⟩
theorem ownY_inv {b : Nat} {c : Tr AV → List AV → Nat → Nat → Nat → CRes} (h : ownY H b c = .ret r H') : ∃ t z zl n g, c t z zl n g = .ret r H' ∧ ∀ {β : Type} (e : β) (k : List AV → Nat → β), ownK H.abs b e k = k (cellsOf t z zl n) g := by
  obtain ⟨hb, h⟩ := ifB_inv' h
  obtain ⟨t, z, zl, n, g, hg, h⟩ := arrY_inv h
  refine ⟨t, z, zl, n, g, h, fun e k => ?_⟩
  unfold ownK
  have hb' : Nat.blt b H.abs.ro = false := hb
  rw [hb', hg]
theorem mapY_inv {b : Nat} {c : List (AV × AV) → CRes} (h : mapY H b c = .ret r H') : ∃ es, mapAt H.abs b = some es ∧ c es = .ret r H' := by
  unfold mapY at h
  rw [getYB_eq] at h
  obtain ⟨x, hx, h⟩ := oC_inv h
  cases x with
  | arr t z zl n g => cases h
  | mp es => exact ⟨es, by unfold mapAt; rw [YHeap.abs_get]; show (Option.casesOn ((H.t.get (key b)).map absB) none _ : Option (List (AV × AV))) = _; rw [hx]; rfl, h⟩
  | dead => cases h
theorem loadY_inv {u : AV} {n : Nat} {agg : Bool} {k : AV → CRes} (h : loadY H u n agg k = .ret r H') : ∃ b off l cs v, u = .ptr b off ∧ cellsAt H.abs b = some l ∧ sub l off n = some cs ∧ packF agg cs = some v ∧ k v = .ret r H' := by
  obtain ⟨b, off, rfl, h2⟩ := asPtr_inv h
  obtain ⟨t, z, zl, m, g, hc, h3⟩ := arrY_cells h2
  obtain ⟨hm, h4⟩ := ifB_inv h3
  have hm := Nat.le_of_ble_eq_true hm
  cases agg with
  | true =>
    have h5 : readY t z zl n off (fun cs => k (.agg cs)) = .ret r H' := h4
    obtain ⟨l, hs, _, h⟩ := readY_sub (m := m) hm h5
    exact ⟨b, off, _, l, _, rfl, hc, hs, rfl, h⟩
  | false =>
    have h5 : ifB (Nat.beq n 1) (cellK t z zl off k) .err = .ret r H' := h4
    obtain ⟨hn, h6⟩ := ifB_inv h5
    have hn := Nat.eq_of_beq_eq_true hn
    subst hn
    replace h := cellK_inv h6
    refine ⟨b, off, _, [cellAt t z zl off], _, rfl, hc, ?_, rfl, h⟩
    have hm' : off + 1 ≤ m := hm
    rw [sub_eq, if_pos (by rw [List.length_drop, cellsOf_length]; omega)]
    have hl : off < (cellsOf t z zl m).length := by rw [cellsOf_length]; omega
    rw [List.drop_eq_getElem_cons hl]
    have h8 := cellsOf_get t z zl (show off < m by omega)
    rw [List.getElem?_eq_getElem hl] at h8
    have h9 := Option.some.inj h8
    rw [h9]
    rfl
theorem shownY_inv {sz n : Nat} {x : AV} {k : List AV → CRes} (h : shownY H sz n x k = .ret r H') : ∃ l, shownF H.abs sz n x = some l ∧ k l = .ret r H' := by
  cases x with
  | slice b off len ext opn =>
    obtain ⟨t, z, zl, m, g, hc, h3⟩ := arrY_cells (b := b) h
    rw [forceN_eq] at h3
    obtain ⟨hm, h4⟩ := ifB_inv h3
    obtain ⟨l, hs, _, h⟩ := readY_sub (m := m) (Nat.le_of_ble_eq_true hm) h4
    exact ⟨l, by simp only [shownF]; rw [hc]; exact hs, h⟩
  | send b o o' =>
    obtain ⟨hn, h⟩ := ifB_inv (b := Nat.beq n 0) h
    exact ⟨[], by simp only [shownF]; rw [if_pos (Nat.eq_of_beq_eq_true hn)], h⟩
  | nilslice => exact ⟨[], rfl, h⟩
  | str s =>
    obtain ⟨hn, h⟩ := ifB_inv (b := Nat.beq sz 1) h
    exact ⟨_, by simp only [shownF]; rw [if_pos (Nat.eq_of_beq_eq_true hn)], h⟩
  | _ => cases h
theorem rowY_inv {t : Tr AV} {z : List AV} {zl off q m : Nat} {new : List AV} {k : Tr AV → List AV → Nat → Nat → CRes} (hm : off + q ≤ m) (h : rowY t z zl off q new k = .ret r H') :
    ∃ old t' z' zl' m', sub (cellsOf t z zl m) off q = some old ∧ cellsOf t' z' zl' m' = old ++ new ∧ k t' z' zl' m' = .ret r H' := by
  unfold rowY at h
  rw [ifB_eq] at h
  split at h
  · rename_i h0
    have h0 := Nat.eq_of_beq_eq_true h0
    subst h0
    obtain ⟨t', h1, h2⟩ := writeY_inv h
    rw [forceN_eq, lenN_eq] at h1
    refine ⟨cellsOf t z zl q, t', z, zl, _, ?_, write_behind h2, h1⟩
    rw [sub_eq, if_pos (by rw [List.length_drop, cellsOf_length]; omega), List.drop_zero, cellsOf_take _ _ _ (by omega)]
  · obtain ⟨old, hs, _, h1⟩ := readY_sub (m := m) hm h
    rw [appK_eq, forceN_eq, lenN_eq] at h1
    exact ⟨old, .leaf, old ++ new, _, _, hs, cellsOf_leaf _, h1⟩

theorem mapOfY_inv {u : AV} {c : List (AV × AV) → CRes} (h : mapOfY H u c = .ret r H') : ∃ es, ((∃ b, u = .map b ∧ mapAt H.abs b = some es) ∨ (u = .nilmap ∧ es = [])) ∧ c es = .ret r H' := by
  cases u with
  | map b =>
    obtain ⟨es, he, h⟩ := mapY_inv (b := b) h
    exact ⟨es, .inl ⟨b, rfl, he⟩, h⟩
  | nilmap => exact ⟨[], .inr ⟨rfl, rfl⟩, h⟩
  | _ => cases h
theorem appendY_inv {sz : Nat} {s x : AV} {c : AV → YHeap → CRes} (h : appendY H sz s x c = .ret r H') : ∃ v H₁, appendF H.abs sz s x = some (v, H₁.abs) ∧ c v H₁ = .ret r H' := by
  obtain ⟨n, hn, h⟩ := oC_inv h
  cases s with
  | nilslice =>
    have h0 : ifB (Nat.beq n 0) (c .nilslice H) (ifB (Nat.ble n most) (shownY H sz n x fun new => forceN (lenN new) fun m => newY H (.arr .leaf new m m sz) fun d H => c (.slice d 0 n 0 true) H) .err) = .ret r H' := h
    rw [ifB_eq] at h0
    split at h0
    · rename_i hz
      refine ⟨_, H, ?_, h0⟩
      unfold appendF; rw [hn]; dsimp only; rw [if_pos (Nat.eq_of_beq_eq_true hz)]
    · rename_i hz
      obtain ⟨hm, h1⟩ := ifB_inv h0
      obtain ⟨new, hs, h2⟩ := shownY_inv h1
      rw [forceN_eq, newY_eq, lenN_eq] at h2
      refine ⟨_, _, ?_, h2⟩
      have hz' : ¬ n = 0 := fun e => hz (by rw [e]; rfl)
      have hm' : ¬ n > most := by have := Nat.le_of_ble_eq_true hm; omega
      unfold appendF; rw [hn]; dsimp only; rw [if_neg hz', if_neg hm', hs]; dsimp only; rw [Heap.newK_eq, YHeap.abs_add]
      show some (AV.slice H.nx 0 n 0 true, H.abs.add (.cells new true sz)) = some (AV.slice H.nx 0 n 0 true, H.abs.add (.cells (cellsOf .leaf new new.length new.length) true sz))
      rw [cellsOf_leaf]
  | send b o o' =>
    obtain ⟨hz, h1⟩ := ifB_inv (b := Nat.beq n 0) h
    refine ⟨_, H, ?_, h1⟩
    unfold appendF; rw [hn]; dsimp only; rw [if_pos (Nat.eq_of_beq_eq_true hz)]
  | slice b off len ext opn =>
    have h0 : ifB (Nat.beq n 0) (c (.slice b off len ext opn) H)
      (ifB (Nat.ble n ext)
      (shownY H sz n x fun new => ownY H b fun t z zl m g => ifB (Nat.ble (off + (len + n) * sz) m) (forceN (off + len * sz) fun o => writeY new o t fun t => putY H b (.arr t z zl m g) fun H => forceN (len + n) fun l => forceN (ext - n) fun e => c (.slice b off l e opn) H) .err)
      (ifB (Nat.ble (len + n) most)
        (forceN (len * sz) fun q => shownY H sz n x fun new =>
          ifB opn
            (ownY H b fun t z zl m g => ifB (andB (Nat.beq g sz) (Nat.ble (off + (len + ext) * sz) m)) (rowY t z zl off q new fun t z zl m => putY H b .dead fun H => newY H (.arr t z zl m sz) fun d H => forceN (len + n) fun l => c (.slice d 0 l 0 true) H) .err)
            (arrY H b fun t z zl m _ => ifB (Nat.ble (off + q) m) (rowY t z zl off q new fun t z zl m => newY H (.arr t z zl m sz) fun d H => forceN (len + n) fun l => c (.slice d 0 l 0 true) H) .err)) .err)) = .ret r H' := h
    rw [ifB_eq] at h0
    split at h0
    · rename_i hz
      refine ⟨_, H, ?_, h0⟩
      unfold appendF; rw [hn]; dsimp only; rw [if_pos (Nat.eq_of_beq_eq_true hz)]
    · rename_i hz
      have hz' : ¬ n = 0 := fun e => hz (by rw [e]; rfl)
      rw [ifB_eq] at h0
      split at h0
      · rename_i he
        have he := Nat.le_of_ble_eq_true he
        obtain ⟨new, hs, h1⟩ := shownY_inv h0
        obtain ⟨t, z, zl, m, g, h1, ho⟩ := ownY_inv h1
        obtain ⟨hm, h1⟩ := ifB_inv h1
        rw [forceN_eq] at h1
        obtain ⟨t', h1, hw⟩ := writeY_inv h1
        rw [putY_eq, forceN_eq, forceN_eq] at h1
        refine ⟨_, _, ?_, h1⟩
        unfold appendF; rw [hn]; dsimp only; rw [if_neg hz', if_pos he, hs]; dsimp only; rw [ho, lenN_eq, cellsOf_length, hm]; dsimp only
        rw [overK_eq, Heap.setK_eq, YHeap.abs_set]
        show some (AV.slice b off (len + n) (ext - n) opn, H.abs.set b (.cells (over new (cellsOf t z zl m) (off + len * sz)) true g)) = some (AV.slice b off (len + n) (ext - n) opn, H.abs.set b (.cells (cellsOf t' z zl m) true g))
        rw [hw]
      · rename_i he
        have he' : ¬ n ≤ ext := fun e => he (Nat.ble_eq_true_of_le e)
        obtain ⟨hm, h1⟩ := ifB_inv h0
        have hm' : ¬ len + n > most := by have := Nat.le_of_ble_eq_true hm; omega
        rw [forceN_eq] at h1
        obtain ⟨new, hs, h2⟩ := shownY_inv h1
        rw [ifB_eq] at h2
        split at h2
        · rename_i hopn
          subst hopn
          obtain ⟨t, z, zl, m, g, h3, ho⟩ := ownY_inv h2
          obtain ⟨hg, h3⟩ := ifB_inv h3
          rw [andB_eq] at hg
          have hg2 : off + (len + ext) * sz ≤ m := by
            simp only [Bool.and_eq_true] at hg
            exact Nat.le_of_ble_eq_true hg.2
          have hoff : off + len * sz ≤ m := by
            have : len * sz ≤ (len + ext) * sz := Nat.mul_le_mul_right _ (Nat.le_add_right _ _)
            omega
          obtain ⟨old, t', z', zl', m', hsub, hcells, h4⟩ := rowY_inv hoff h3
          rw [putY_eq, newY_eq, forceN_eq] at h4
          refine ⟨_, _, ?_, h4⟩
          have hcell : cellsAt H.abs b = some (cellsOf t z zl m) := by
            have h8 := ho (β := Option (List AV)) none (fun l _ => some l)
            unfold ownK at h8
            unfold cellsAt
            cases hb : Nat.blt b H.abs.ro with
            | true => rw [hb] at h8; cases h8
            | false =>
              rw [hb] at h8
              cases hx : H.abs.get b with
              | none => rw [hx] at h8; cases h8
              | some y =>
                rw [hx] at h8
                cases y with
                | cells l rw_ g' =>
                  cases rw_ with
                  | false => cases h8
                  | true => exact h8
                | mp es => cases h8
                | dead => cases h8
          unfold appendF; rw [hn]; dsimp only; rw [if_neg hz', if_neg he', if_neg hm', hcell]; dsimp only; rw [hsub]; dsimp only; rw [hs]; dsimp only; rw [if_pos rfl, ho, lenN_eq, cellsOf_length, hg]; dsimp only
          rw [Heap.setK_eq, appK_eq, Heap.newK_eq, Heap.nx_set, YHeap.abs_add, YHeap.abs_set]
          show some (AV.slice H.nx 0 (len + n) 0 true, (H.abs.set b .dead).add (.cells (old ++ new) true sz)) = some (AV.slice H.nx 0 (len + n) 0 true, (H.abs.set b .dead).add (.cells (cellsOf t' z' zl' m') true sz))
          rw [hcells]
        · rename_i hopn
          have hopn' : opn = false := by simpa using hopn
          subst hopn'
          obtain ⟨t, z, zl, m, g, hcell, h3⟩ := arrY_cells h2
          obtain ⟨hq, h3⟩ := ifB_inv h3
          obtain ⟨old, t', z', zl', m', hsub, hcells, h4⟩ := rowY_inv (Nat.le_of_ble_eq_true hq) h3
          rw [newY_eq, forceN_eq] at h4
          refine ⟨_, _, ?_, h4⟩
          unfold appendF; rw [hn]; dsimp only; rw [if_neg hz', if_neg he', if_neg hm', hcell]; dsimp only; rw [hsub]; dsimp only; rw [hs]; dsimp only
          rw [if_neg (by simp), appK_eq, Heap.newK_eq, YHeap.abs_add]
          show some (AV.slice H.nx 0 (len + n) 0 true, H.abs.add (.cells (old ++ new) true sz)) = some (AV.slice H.nx 0 (len + n) 0 true, H.abs.add (.cells (cellsOf t' z' zl' m') true sz))
          rw [hcells]
  | _ => cases h
theorem copyY_inv {sz : Nat} {d x : AV} {c : AV → YHeap → CRes} (h : copyY H sz d x c = .ret r H') : ∃ v H₁, copyF H.abs sz d x = some (v, H₁.abs) ∧ c v H₁ = .ret r H' := by
  obtain ⟨m, hm, h⟩ := oC_inv h
  obtain ⟨n', hn, h⟩ := oC_inv h
  rw [forceN_eq] at h
  obtain ⟨new, hs, h⟩ := shownY_inv h
  cases d with
  | slice b off len ext opn =>
    have h0 : ifB (Nat.beq (min n' m) 0) (c (.int .i64 0) H) (ownY H b fun t z zl q g => ifB (Nat.ble (off + min n' m * sz) q) (writeY new off t fun t => putY H b (.arr t z zl q g) fun H => c (.int .i64 (.ofNat (min n' m))) H) .err) = .ret r H' := h
    rw [ifB_eq] at h0
    split at h0
    · rename_i hz
      refine ⟨_, H, ?_, h0⟩
      unfold copyF; rw [hm, hn]; dsimp only; rw [hs]; dsimp only; rw [if_pos (Nat.eq_of_beq_eq_true hz)]
    · rename_i hz
      obtain ⟨t, z, zl, q, g, h1, ho⟩ := ownY_inv h0
      obtain ⟨hq, h1⟩ := ifB_inv h1
      obtain ⟨t', h1, hw⟩ := writeY_inv h1
      rw [putY_eq] at h1
      refine ⟨_, _, ?_, h1⟩
      unfold copyF; rw [hm, hn]; dsimp only; rw [hs]; dsimp only; rw [if_neg (fun e => hz (by rw [e]; rfl)), ho, lenN_eq, cellsOf_length, hq]; dsimp only
      rw [overK_eq, Heap.setK_eq, YHeap.abs_set]
      show some (AV.int .i64 (.ofNat (min n' m)), H.abs.set b (.cells (over new (cellsOf t z zl q) off) true g)) = some (AV.int .i64 (.ofNat (min n' m)), H.abs.set b (.cells (cellsOf t' z zl q) true g))
      rw [hw]
  | nilslice => exact ⟨_, H, by unfold copyF; rw [hm, hn]; dsimp only; rw [hs], h⟩
  | send b o o' => exact ⟨_, H, by unfold copyF; rw [hm, hn]; dsimp only; rw [hs], h⟩
  | _ => cases h
theorem clearY_inv {z : List AV} {x : AV} {c : YHeap → CRes} (h : clearY H z x c = .ret r H') : ∃ H₁, clearF H.abs z x = some (.undef, H₁.abs) ∧ c H₁ = .ret r H' := by
  cases x with
  | slice b off len ext opn =>
    have h0 : ifB (Nat.beq len 0) (c H) (ownY H b fun t z' zl q g => ifB (Nat.ble (off + len * lenN z) q) (writeY (reps z len) off t fun t => putY H b (.arr t z' zl q g) c) .err) = .ret r H' := h
    rw [ifB_eq] at h0
    split at h0
    · rename_i hz
      exact ⟨H, by unfold clearF; dsimp only; rw [if_pos (Nat.eq_of_beq_eq_true hz)], h0⟩
    · rename_i hz
      obtain ⟨t, z', zl, q, g, h1, ho⟩ := ownY_inv h0
      obtain ⟨hq, h1⟩ := ifB_inv h1
      obtain ⟨t', h1, hw⟩ := writeY_inv h1
      rw [putY_eq] at h1
      refine ⟨_, ?_, h1⟩
      unfold clearF; dsimp only; rw [if_neg (fun e => hz (by rw [e]; rfl)), ho, lenN_eq (cellsOf t z' zl q), cellsOf_length, hq]; dsimp only
      rw [overK_eq, Heap.setK_eq, YHeap.abs_set]
      show some (AV.undef, H.abs.set b (.cells (over (reps z len) (cellsOf t z' zl q) off) true g)) = some (AV.undef, H.abs.set b (.cells (cellsOf t' z' zl q) true g))
      rw [hw]
  | nilslice => exact ⟨H, rfl, h⟩
  | nilmap => exact ⟨H, rfl, h⟩
  | send b o o' => exact ⟨H, rfl, h⟩
  | _ => cases h

/-! ### Operations -/
theorem opY_sound {o : AOp} {tm : Tr AV} {k : AV → YHeap → CRes} (h : opY o tm H k = .ret r H') : ∃ v H₁, opF o tm H.abs = some (v, H₁.abs) ∧ k v H₁ = .ret r H' := by
  cases o with
  | mov x =>
    obtain ⟨v, hv, h⟩ := evX_inv h
    exact ⟨v, H, by simp only [opF]; rw [hv], h⟩
  | pick c a b =>
    obtain ⟨v, hv, h⟩ := evX_inv h
    obtain ⟨t, rfl, hz⟩ := vBool_inv h
    replace h := hz
    clear hz
    cases t with
    | true =>
      obtain ⟨u, hu, h⟩ := evX_inv (x := a) h
      exact ⟨u, H, by simp only [opF]; rw [hv]; dsimp only; rw [hu], h⟩
    | false =>
      obtain ⟨u, hu, h⟩ := evX_inv (x := b) h
      exact ⟨u, H, by simp only [opF]; rw [hv]; dsimp only; rw [hu], h⟩
  | not x =>
    obtain ⟨v, hv, h⟩ := evX_inv h
    obtain ⟨t, rfl, hz⟩ := vBool_inv h
    replace h := hz
    clear hz
    refine ⟨_, H, ?_, fbX_inv h⟩
    simp only [opF]; rw [hv]; cases t <;> rfl
  | bin op x y =>
    obtain ⟨u, hu, h⟩ := evX_inv h
    obtain ⟨v, hv, h⟩ := evX_inv h
    obtain ⟨w, hw, h⟩ := binX_inv h
    exact ⟨w, H, by simp only [opF]; rw [hu]; dsimp only; rw [hv]; dsimp only; rw [hw], h⟩
  | eq e neg x y =>
    obtain ⟨u, hu, h⟩ := evX_inv h
    obtain ⟨v, hv, h⟩ := evX_inv h
    have fin : ∀ b, eqK e u v = some b → k (.bool (xorB neg b)) H = .ret r H' → ∃ v H₁, opF (.eq e neg x y) tm H.abs = some (v, H₁.abs) ∧ k v H₁ = .ret r H' := by
      intro b hb hk
      refine ⟨_, H, ?_, hk⟩
      simp only [opF]; rw [hu]; dsimp only; rw [hv]; dsimp only; rw [hb]; dsimp only; rw [xorB_eq]
    cases e with
    | nil n =>
      have h0 : eqRK (.nil n) u v (fun r => fbX (xorB neg r) fun r => k r H) = .ret r H' := h
      obtain ⟨b, hb, h⟩ := eqRK_inv h0
      exact fin b hb (fbX_inv h)
    | bool =>
      obtain ⟨a, rfl, hz⟩ := vBool_inv (v := u) h
      replace h := hz
      clear hz
      obtain ⟨b, rfl, hz⟩ := vBool_inv (v := v) h
      replace h := hz
      clear hz
      exact fin (eqBB a b) (by rw [eqBB_eq]; rfl) (fbX_inv h)
    | plain ks =>
      have h0 : eqRK (.plain ks) u v (fun r => fbX (xorB neg r) fun r => k r H) = .ret r H' := h
      obtain ⟨b, hb, h⟩ := eqRK_inv h0
      exact fin b hb (fbX_inv h)
  | conv q x =>
    obtain ⟨u, hu, h⟩ := evX_inv h
    obtain ⟨_, n, rfl, hz⟩ := vIntA_inv h
    replace h := hz
    clear hz
    rw [wrapX_eq] at h
    refine ⟨_, H, ?_, h⟩
    simp only [opF]; rw [hu]; exact wrapK_eq _ _ _
  | alloc z =>
    have h' : forceN (lenN z) (fun n => newY H (.arr .leaf z n n 0) fun b H' => k (.ptr b 0) H') = .ret r H' := h
    rw [forceN_eq, newY_eq, lenN_eq] at h'
    refine ⟨_, _, ?_, h'⟩
    simp only [opF]; rw [Heap.newK_eq, YHeap.abs_add]
    show some (AV.ptr H.nx 0, H.abs.add (.cells z true 0)) = some (AV.ptr H.nx 0, H.abs.add (.cells (cellsOf .leaf z z.length z.length) true 0))
    rw [cellsOf_leaf]
  | box x =>
    obtain ⟨u, hu, h⟩ := evX_inv h
    rcases kindC_inv h with ⟨l, rfl, h5⟩ | ⟨h1, h2, h3, h⟩
    · rw [forceN_eq, newY_eq, lenN_eq] at h5
      refine ⟨_, _, ?_, h5⟩
      simp only [opF]; rw [hu]; dsimp only [cellable]; rw [Heap.newK_eq, YHeap.abs_add]
      show some (AV.ptr H.nx 0, H.abs.add (.cells l true 0)) = some (AV.ptr H.nx 0, H.abs.add (.cells (cellsOf .leaf l l.length l.length) true 0))
      rw [cellsOf_leaf]
    · rw [newY_eq] at h
      refine ⟨_, _, ?_, h⟩
      simp only [opF]; rw [hu]; dsimp only; rw [h3, h2]; dsimp only; rw [Heap.newK_eq, YHeap.abs_add]
      show some (AV.ptr H.nx 0, H.abs.add (.cells [u] true 0)) = some (AV.ptr H.nx 0, H.abs.add (.cells (cellsOf .leaf [u] [u].length [u].length) true 0))
      rw [cellsOf_leaf]
  | build z parts =>
    obtain ⟨ps, hp, h⟩ := evPX_inv h
    obtain ⟨l, hl, h⟩ := fillV_inv h
    exact ⟨_, H, by simp only [opF]; rw [hp, hl], h⟩
  | buildSlice len z parts =>
    obtain ⟨ps, hp, h⟩ := evPX_inv h
    obtain ⟨l, hl, h⟩ := fillV_inv h
    rw [forceN_eq, newY_eq, lenN_eq] at h
    refine ⟨_, _, ?_, h⟩
    simp only [opF]; rw [hp, hl]; dsimp only; rw [Heap.newK_eq, YHeap.abs_add]
    show some (AV.slice H.nx 0 len 0 false, H.abs.add (.cells l true 0)) = some (AV.slice H.nx 0 len 0 false, H.abs.add (.cells (cellsOf .leaf l l.length l.length) true 0))
    rw [cellsOf_leaf]
  | load n agg x =>
    obtain ⟨u, hu, h⟩ := evX_inv h
    obtain ⟨b, off, l, cs, v, rfl, hl, hc, hp, h⟩ := loadY_inv h
    exact ⟨v, H, by simp only [opF]; rw [hu]; dsimp only; rw [hl]; dsimp only; rw [hc]; dsimp only; rw [hp], h⟩
  | store n a x =>
    obtain ⟨a', ha, h⟩ := evX_inv h
    obtain ⟨u, hu, h⟩ := evX_inv h
    obtain ⟨b, off, rfl, h⟩ := asPtr_inv h
    obtain ⟨t, z, zl, m, g, h, ho⟩ := ownY_inv h
    obtain ⟨hm, h⟩ := ifB_inv h
    have hm : off + n ≤ m := Nat.le_of_ble_eq_true hm
    have fin : ∀ t', cellable u = true → lenN u.cells = n → cellsOf t' z zl m = over u.cells (cellsOf t z zl m) off → k .undef (H.set b (.arr t' z zl m g)) = .ret r H' → ∃ v H₁, opF (.store n a x) tm H.abs = some (v, H₁.abs) ∧ k v H₁ = .ret r H' := by
      intro t' e1 e2 e3 e4
      refine ⟨_, _, ?_, e4⟩
      simp only [opF]; rw [ha]; dsimp only; rw [hu]; dsimp only; rw [ho]
      have h2 : (cellable u && lenN u.cells == n && Nat.ble (off + n) (lenN (cellsOf t z zl m))) = true := by
        rw [e1, e2, lenN_eq (cellsOf t z zl m), cellsOf_length]; simp [hm]
      rw [h2]; dsimp only; rw [overK_eq, Heap.setK_eq, YHeap.abs_set]
      show some (AV.undef, H.abs.set b (.cells (over u.cells (cellsOf t z zl m) off) true g)) = some (AV.undef, H.abs.set b (.cells (cellsOf t' z zl m) true g))
      rw [e3]
    rcases kindC_inv h with ⟨cs, rfl, h5⟩ | ⟨h1, h2, h3, h⟩
    · obtain ⟨hn, h⟩ := ifB_inv h5
      have hn := Nat.eq_of_beq_eq_true hn
      obtain ⟨t', h, h6⟩ := writeY_inv h
      rw [putY_eq] at h
      exact fin t' rfl hn (h6 z zl m) h
    · obtain ⟨hn, h⟩ := ifB_inv h
      have hn := Nat.eq_of_beq_eq_true hn
      rw [setV_eq, putY_eq] at h
      refine fin _ h3 (by rw [h2]; exact hn) ?_ h
      rw [h2, cellsOf_set]; rfl
  | nilchk x =>
    obtain ⟨u, hu, h⟩ := evX_inv h
    obtain ⟨h1, h⟩ := nilchkK_inv h
    refine ⟨u, H, ?_, h⟩
    simp only [opF]; rw [hu]
    rcases h1 with ⟨b, o, rfl⟩ | ⟨f, a, c, rfl⟩ <;> rfl
  | fa d x =>
    obtain ⟨u, hu, h⟩ := evX_inv h
    obtain ⟨b, off, rfl, hz⟩ := asPtr_inv h
    replace h := hz
    clear hz
    rw [forceN_eq] at h
    exact ⟨_, H, by simp only [opF]; rw [hu]; rfl, h⟩
  | iaS sz x i =>
    obtain ⟨u, hu, h⟩ := evX_inv h
    obtain ⟨v, hv, h⟩ := evX_inv h
    obtain ⟨_, i, rfl, hz⟩ := vIntA_inv h
    replace h := hz
    clear hz
    obtain ⟨b, off, l, e, p, rfl, hz⟩ := asSlc_inv h
    replace h := hz
    clear hz
    obtain ⟨j, rfl, hz⟩ := natR h
    replace h := hz
    clear hz
    obtain ⟨h1, h⟩ := ifB_inv h
    rw [forceN_eq] at h
    exact ⟨_, H, by simp only [opF]; rw [hu]; dsimp only; rw [hv]; dsimp only; rw [natF_nat, h1]; rfl, h⟩
  | iaA sz len x i =>
    obtain ⟨u, hu, h⟩ := evX_inv h
    obtain ⟨v, hv, h⟩ := evX_inv h
    obtain ⟨_, i, rfl, hz⟩ := vIntA_inv h
    replace h := hz
    clear hz
    obtain ⟨b, off, rfl, hz⟩ := asPtr_inv h
    replace h := hz
    clear hz
    obtain ⟨j, rfl, hz⟩ := natR h
    replace h := hz
    clear hz
    obtain ⟨h1, h⟩ := ifB_inv h
    rw [forceN_eq] at h
    exact ⟨_, H, by simp only [opF]; rw [hu]; dsimp only; rw [hv]; dsimp only; rw [natF_nat, h1]; rfl, h⟩
  | idxA sz len agg x i =>
    obtain ⟨u, hu, h⟩ := evX_inv h
    obtain ⟨v, hv, h⟩ := evX_inv h
    obtain ⟨_, i, rfl, hz⟩ := vIntA_inv h
    replace h := hz
    clear hz
    obtain ⟨cs, rfl, hz⟩ := asAgg_inv h
    replace h := hz
    clear hz
    obtain ⟨j, rfl, hz⟩ := natR h
    replace h := hz
    clear hz
    obtain ⟨h1, h⟩ := ifB_inv h
    rw [forceN_eq] at h
    obtain ⟨l, hl, h⟩ := oC_inv h
    obtain ⟨w, hw, h⟩ := oC_inv h
    have hl' : sub cs (j * sz) sz = some l := hl
    exact ⟨w, H, by simp only [opF]; rw [hu]; dsimp only; rw [hv]; dsimp only; rw [natF_nat, h1]; dsimp only; rw [hl']; dsimp only; rw [hw], h⟩
  | idxS x i =>
    obtain ⟨u, hu, h⟩ := evX_inv h
    obtain ⟨v, hv, h⟩ := evX_inv h
    obtain ⟨s, rfl, hz⟩ := vStr_inv h
    replace h := hz
    clear hz
    obtain ⟨_, i, rfl, hz⟩ := vIntA_inv h
    replace h := hz
    clear hz
    obtain ⟨j, rfl, hz⟩ := natR h
    replace h := hz
    clear hz
    obtain ⟨c, hc, h⟩ := oC_inv h
    rw [forceN_eq] at h
    exact ⟨_, H, by simp only [opF]; rw [hu]; dsimp only; rw [hv]; dsimp only; rw [natF_nat, hc]; rfl, h⟩
  | sl sk x lo hi mx =>
    obtain ⟨u, hu, h⟩ := evX_inv h
    obtain ⟨lo', h1, h⟩ := evOX_inv h
    obtain ⟨hi', h2, h⟩ := evOX_inv h
    obtain ⟨mx', h3, h⟩ := evOX_inv h
    obtain ⟨v, hv, h⟩ := oC_inv h
    rw [forceV_eq] at h
    exact ⟨v, H, by simp only [opF]; rw [hu]; dsimp only; rw [slF_slV h1 h2 h3, hv], h⟩
  | ext ix x =>
    obtain ⟨u, hu, h⟩ := evX_inv h
    obtain ⟨vs, v, rfl, hv, hz⟩ := extK_inv h
    replace h := hz
    clear hz
    exact ⟨v, H, by simp only [opF]; rw [hu]; dsimp only; rw [hv], h⟩
  | mkfunc f a c =>
    obtain ⟨as, ha, h⟩ := evsX_inv h
    obtain ⟨cs, hc, h⟩ := evsX_inv h
    exact ⟨_, H, by simp only [opF]; rw [ha]; dsimp only; rw [hc], h⟩
  | mkmap =>
    have h' : newY H (.mp []) (fun b H' => k (.map b) H') = .ret r H' := h
    rw [newY_eq] at h'
    exact ⟨_, _, by simp only [opF]; rw [Heap.newK_eq, YHeap.abs_add]; rfl, h'⟩
  | mk z len cap =>
    obtain ⟨u, hu, h⟩ := evX_inv h
    obtain ⟨v, hv, h⟩ := evX_inv h
    obtain ⟨_, l, rfl, hz⟩ := vIntA_inv h
    replace h := hz
    clear hz
    obtain ⟨_, c, rfl, hz⟩ := vIntA_inv h
    replace h := hz
    clear hz
    obtain ⟨l, rfl, hz⟩ := natR h
    replace h := hz
    clear hz
    obtain ⟨c, rfl, hz⟩ := natR h
    replace h := hz
    clear hz
    obtain ⟨h1, h⟩ := ifB_inv h
    rw [forceN_eq, forceN_eq, newY_eq, forceN_eq, lenN_eq] at h
    rw [andB_eq] at h1
    refine ⟨_, _, ?_, h⟩
    simp only [opF]; rw [hu]; dsimp only; rw [hv]; dsimp only; rw [natF_nat, natF_nat, h1]; dsimp only; rw [Heap.newK_eq, YHeap.abs_add]
    show some (AV.slice H.nx 0 l (c - l) false, H.abs.add (.cells (reps z c) true 0)) = some (AV.slice H.nx 0 l (c - l) false, H.abs.add (.cells (cellsOf .leaf z z.length (c * z.length)) true 0))
    rw [cellsOf_reps]
  | lookup kk z ok m key =>
    obtain ⟨u, hu, h⟩ := evX_inv h
    obtain ⟨v, hv, h⟩ := evX_inv h
    obtain ⟨es, hes, h⟩ := mapOfY_inv h
    obtain ⟨e1, he, h⟩ := oC_inv h
    obtain ⟨w, hw, h⟩ := oC_inv h
    have pre : ∀ {β : AV × Heap}, (Option.casesOn w (some (if ok then .tuple [z, .bool false] else z, H.abs)) fun x => some (if ok then .tuple [x, .bool true] else x, H.abs) : Option (AV × Heap)) = some β → opF (.lookup kk z ok m key) tm H.abs = some β := by
      intro β hβ
      simp only [opF]; rw [hu]; dsimp only; rw [hv]
      rcases hes with ⟨b, rfl, hes⟩ | ⟨rfl, rfl⟩
      · dsimp only; rw [hes]; dsimp only; rw [he]; dsimp only; rw [hw]; exact hβ
      · dsimp only; rw [he]; dsimp only; rw [hw]; exact hβ
    cases w with
    | none => cases ok <;> exact ⟨_, H, pre rfl, h⟩
    | some x => cases ok <;> exact ⟨_, H, pre rfl, h⟩
  | mapset kk m key x =>
    obtain ⟨u, hu, h⟩ := evX_inv h
    obtain ⟨v, hv, h⟩ := evX_inv h
    obtain ⟨y, hy, h⟩ := evX_inv h
    obtain ⟨b, rfl, hz⟩ := asMap_inv h
    replace h := hz
    clear hz
    obtain ⟨h1, h⟩ := ifB_inv' h
    obtain ⟨es, hes, h⟩ := mapY_inv h
    obtain ⟨e1, he, h⟩ := oC_inv h
    obtain ⟨es', hp, h⟩ := oC_inv h
    rw [putY_eq] at h
    have h1 : Nat.blt b H.abs.ro = false := h1
    exact ⟨_, _, by simp only [opF]; rw [hu]; dsimp only; rw [hv]; dsimp only; rw [hy]; dsimp only; rw [h1]; dsimp only; rw [hes]; dsimp only; rw [he]; dsimp only; rw [hp]; dsimp only; rw [Heap.setK_eq, YHeap.abs_set]; rfl, h⟩
  | mapdel kk m key =>
    obtain ⟨u, hu, h⟩ := evX_inv h
    obtain ⟨v, hv, h⟩ := evX_inv h
    obtain ⟨e1, he, h2⟩ := oC_inv h
    cases u with
    | map b =>
      have h3 : ifB (Nat.blt b H.ro) .err (mapY H b fun es => oC (delF kk v es) fun es' => putY H b (.mp es') fun H' => k .undef H') = .ret r H' := h2
      obtain ⟨h1, h3⟩ := ifB_inv' h3
      obtain ⟨es, hes, h3⟩ := mapY_inv h3
      obtain ⟨es', hp, h3⟩ := oC_inv h3
      rw [putY_eq] at h3
      have h1 : Nat.blt b H.abs.ro = false := h1
      exact ⟨_, _, by simp only [opF]; rw [hu]; dsimp only; rw [hv]; dsimp only; rw [he]; dsimp only; rw [h1]; dsimp only; rw [hes]; dsimp only; rw [hp]; dsimp only; rw [Heap.setK_eq, YHeap.abs_set]; rfl, h3⟩
    | nilmap => exact ⟨_, H, by simp only [opF]; rw [hu]; dsimp only; rw [hv]; dsimp only; rw [he], h2⟩
    | _ => cases h2
  | len lk x =>
    obtain ⟨u, hu, h⟩ := evX_inv h
    cases lk with
    | str =>
      obtain ⟨s, rfl, hz⟩ := vStr_inv h
      replace h := hz
      clear hz
      have h' : forceN (lenN s) (fun n => k (.int .i64 (.ofNat n)) H) = .ret r H' := h
      rw [forceN_eq] at h'
      exact ⟨_, H, by simp only [opF]; rw [hu], h'⟩
    | arr n => exact ⟨_, H, by simp only [opF]; rw [hu]; try rfl, h⟩
    | sl =>
      have h' : lenSlK u (fun n => k (.int .i64 n) H) = .ret r H' := h
      cases u <;> first | exact ⟨_, H, by simp only [opF]; rw [hu]; try rfl, h'⟩ | cases h'
    | mp =>
      have h' : mapOfY H u (fun es => forceN (lenN es) fun n => k (.int .i64 (.ofNat n)) H) = .ret r H' := h
      obtain ⟨es, hes, h2⟩ := mapOfY_inv h'
      rw [forceN_eq] at h2
      rcases hes with ⟨b, rfl, hes⟩ | ⟨rfl, rfl⟩
      · exact ⟨_, H, by simp only [opF]; rw [hu]; dsimp only; rw [hes], h2⟩
      · exact ⟨_, H, by simp only [opF]; rw [hu]; try rfl, h2⟩
  | minmax mx xs =>
    obtain ⟨vs, hv, h⟩ := evsX_inv h
    cases vs with
    | nil => cases h
    | cons v vs =>
      obtain ⟨w, hw, h⟩ := oC_inv h
      exact ⟨w, H, by simp only [opF]; rw [hv]; dsimp only; rw [hw], h⟩
  | append sz s x =>
    obtain ⟨u, hu, h⟩ := evX_inv h
    obtain ⟨v, hv, h⟩ := evX_inv h
    obtain ⟨w, H₁, hw, h⟩ := appendY_inv h
    exact ⟨w, H₁, by simp only [opF]; rw [hu]; dsimp only; rw [hv]; exact hw, h⟩
  | copy sz d x =>
    obtain ⟨u, hu, h⟩ := evX_inv h
    obtain ⟨v, hv, h⟩ := evX_inv h
    obtain ⟨w, H₁, hw, h⟩ := copyY_inv h
    exact ⟨w, H₁, by simp only [opF]; rw [hu]; dsimp only; rw [hv]; exact hw, h⟩
  | clear z x =>
    obtain ⟨u, hu, h⟩ := evX_inv h
    obtain ⟨H₁, hw, h⟩ := clearY_inv h
    exact ⟨_, H₁, by simp only [opF]; rw [hu]; exact hw, h⟩
end
end Go.Ai
