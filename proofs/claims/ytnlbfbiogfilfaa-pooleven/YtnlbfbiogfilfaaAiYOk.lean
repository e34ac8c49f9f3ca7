/- What the continuation style over the heap of tries computes, the interpreter's operations compute over the heap that it stands for. -/
import Derived.Test.YtnlbfbiogfilfaaAiY
import Derived.Test.YtnlbfbiogfilfaaAiMem
set_option linter.all false
namespace Go.Ai
theorem ahn : ∀ (p : P) (t : Tr YBlk), (Q7 t).get p = (t.get p).map QS
  | .h, .leaf => rfl
  | .h, .node _ _ _ => rfl
  | .o p, .leaf => rfl
  | .o p, .node l _ _ => ahn p l
  | .i p, .leaf => rfl
  | .i p, .node _ _ r => ahn p r
theorem QH : ∀ (p : P) (x : YBlk) (t : Tr YBlk), Q7 (t.set p x) = (Q7 t).set p (QS x)
  | .h, _, .leaf => rfl
  | .h, _, .node _ _ _ => rfl
  | .o p, x, .leaf => by rw [Tr.set_o]; show Tr.node (Q7 (Tr.leaf.set p x)) none .leaf = _; rw [QH p x .leaf]; exact (Tr.set_o p (QS x) .leaf).symm
  | .o p, x, .node l v r => by rw [Tr.set_o]; show Tr.node (Q7 (l.set p x)) (v.map QS) (Q7 r) = _; rw [QH p x l]; exact (Tr.set_o p (QS x) (.node (Q7 l) (v.map QS) (Q7 r))).symm
  | .i p, x, .leaf => by rw [Tr.set_i]; show Tr.node .leaf none (Q7 (Tr.leaf.set p x)) = _; rw [QH p x .leaf]; exact (Tr.set_i p (QS x) .leaf).symm
  | .i p, x, .node l v r => by rw [Tr.set_i]; show Tr.node (Q7 l) (v.map QS) (Q7 (r.set p x)) = _; rw [QH p x r]; exact (Tr.set_i p (QS x) (.node (Q7 l) (v.map QS) (Q7 r))).symm
noncomputable def YHeap.get (H : YHeap) (b : Nat) : Option YBlk := H.t.get (key b)
noncomputable def YHeap.set (H : YHeap) (b : Nat) (x : YBlk) : YHeap := ⟨H.t.set (key b) x, H.nx, H.ro⟩
noncomputable def YHeap.add (H : YHeap) (x : YBlk) : YHeap := ⟨H.t.set (key H.nx) x, H.nx + 1, H.ro⟩
theorem YHeap.abs_get (H : YHeap) (b : Nat) : H.abs.get b = (H.get b).map QS := ahn _ _
theorem YHeap.abs_set (H : YHeap) (b : Nat) (x : YBlk) : (H.set b x).abs = H.abs.set b (QS x) := by
  have h : H.abs.set b (QS x) = ⟨(Q7 H.t).set (key b) (QS x), H.nx, H.ro⟩ := by
    simp only [YHeap.abs, Heap.set, Heap.setK, Tr.setK_eq]; rfl
  rw [h]
  show (⟨Q7 (H.t.set (key b) x), H.nx, H.ro⟩ : Heap) = _
  rw [QH]
theorem YHeap.abs_add (H : YHeap) (x : YBlk) : (H.add x).abs = H.abs.add (QS x) := by
  have h : H.abs.add (QS x) = ⟨(Q7 H.t).set (key H.nx) (QS x), H.nx + 1, H.ro⟩ := by
    simp only [YHeap.abs, Heap.add, Heap.set, Heap.setK, Tr.setK_eq]; rfl
  rw [h]
  show (⟨Q7 (H.t.set (key H.nx) x), H.nx + 1, H.ro⟩ : Heap) = _
  rw [QH]
theorem abr : ∀ (p : P) (t : Tr YBlk) (k : YBlk → CRes), getYB p t k = oC (t.get p) k
  | .h, .leaf, _ => rfl
  | .h, .node _ _ _, _ => rfl
  | .o p, .leaf, _ => rfl
  | .o p, .node l v r, k => abr p l k
  | .i p, .leaf, _ => rfl
  | .i p, .node l v r, k => abr p r k
theorem Pm : ∀ (p : P) (x : YBlk) (t : Tr YBlk) (k : Tr YBlk → CRes), am7 p x t k = k (t.set p x)
  | .h, _, .leaf, _ => rfl
  | .h, _, .node _ _ _, _ => rfl
  | .o p, x, .leaf, k => by rw [Tr.set_o]; exact Pm p x .leaf fun l => k (.node l none .leaf)
  | .o p, x, .node l v r, k => by rw [Tr.set_o]; exact Pm p x l fun l => k (.node l v r)
  | .i p, x, .leaf, k => by rw [Tr.set_i]; exact Pm p x .leaf fun r => k (.node .leaf none r)
  | .i p, x, .node l v r, k => by rw [Tr.set_i]; exact Pm p x r fun r => k (.node l v r)
theorem BN (H : YHeap) (x : YBlk) (c : Nat → YHeap → CRes) : Ur H x c = c H.nx (H.add x) := by
  obtain ⟨t, nx, ro⟩ := H
  show am7 (key nx) x t (fun t => eA (Nat.succ nx) fun nx' => c nx ⟨t, nx', ro⟩) = _
  rw [Pm, aL]; rfl
theorem KC (H : YHeap) (b : Nat) (x : YBlk) (c : YHeap → CRes) : Zf H b x c = c (H.set b x) := by
  obtain ⟨t, nx, ro⟩ := H
  show am7 (key b) x t (fun t => c ⟨t, nx, ro⟩) = _
  rw [Pm]; rfl
theorem fG (t : Tr AV) (z : List AV) (zl n : Nat) : (cellsOf t z zl n).length = n := by simp [cellsOf]
theorem vi (t : Tr AV) (z : List AV) (zl : Nat) {n i : Nat} (h : i < n) : (cellsOf t z zl n)[i]? = some (OL t z zl i) := by simp [cellsOf, h]
theorem aeE (t : Tr AV) (z : List AV) (zl n i : Nat) (u : AV) : cellsOf (t.set (key i) u) z zl n = (cellsOf t z zl n).set i u := by
  apply List.ext_getElem?
  intro j
  by_cases hj : j < n
  · rw [vi _ _ _ hj, List.getElem?_set]
    by_cases e : i = j
    · subst e
      rw [if_pos rfl, if_pos (by rw [fG]; exact hj)]
      simp [OL, Tr.get_set_same]
    · rw [if_neg e, vi _ _ _ hj]
      simp [OL, Tr.get_set_other (fun k => e (xD k))]
  · rw [List.getElem?_eq_none (by rw [fG]; omega), List.getElem?_eq_none (by rw [List.length_set, fG]; omega)]
theorem qE (z : List AV) : cellsOf .leaf z z.length z.length = z := by
  apply List.ext_getElem?
  intro j
  by_cases hj : j < z.length
  · rw [vi _ _ _ hj]
    simp [OL, Tr.get_leaf, Nat.mod_eq_of_lt hj, hj]
  · rw [List.getElem?_eq_none (by rw [fG]; omega), List.getElem?_eq_none (by omega)]
theorem ala (z : List AV) (n : Nat) : cellsOf .leaf z z.length (n * z.length) = GW z n := by
  apply List.ext_getElem?
  intro j
  by_cases hj : j < n * z.length
  · rw [vi _ _ _ hj, anx z n j hj]
    have hz : 0 < z.length := by
      rcases Nat.eq_zero_or_pos z.length with h | h
      · rw [h] at hj; omega
      · exact h
    have := Nat.mod_lt j hz
    simp [OL, Tr.get_leaf, this]
  · rw [List.getElem?_eq_none (by rw [fG]; omega), List.getElem?_eq_none (by rw [Cj]; omega)]
theorem abI (t : Tr AV) (z : List AV) (zl : Nat) {n m : Nat} (h : m ≤ n) : (cellsOf t z zl n).take m = cellsOf t z zl m := by
  apply List.ext_getElem?
  intro j
  rw [List.getElem?_take]
  by_cases hj : j < m
  · rw [if_pos hj, vi _ _ _ (by omega), vi _ _ _ hj]
  · rw [if_neg hj, List.getElem?_eq_none (by rw [fG]; omega)]
section
variable {r : AV} {H' : Heap}
theorem alo : ∀ (p : P) (t : Tr AV) (k : AV → CRes) (e : CRes), getO p t k e = match t.get p with | some v => k v | none => e
  | .h, .leaf, _, _ => rfl
  | .h, .node _ v _, _, _ => by cases v <;> rfl
  | .o p, .leaf, _, _ => rfl
  | .o p, .node l v r, k, e => alo p l k e
  | .i p, .leaf, _, _ => rfl
  | .i p, .node l v r, k, e => alo p r k e
theorem ajX {t : Tr AV} {z : List AV} {zl i : Nat} {k : AV → CRes} (h : ajP t z zl i k = .ret r H') : k (OL t z zl i) = .ret r H' := by
  unfold ajP at h
  rw [alo] at h
  unfold OL
  cases hg : t.get (key i) with
  | some v => rw [hg] at h; exact h
  | none =>
    rw [hg] at h
    have h' : nthX z (i % zl) k = .ret r H' := h
    rw [aay] at h'
    obtain ⟨v, hv, h⟩ := jB h'
    rw [hv]; exact h
theorem ajH {t : Tr AV} {z : List AV} {zl : Nat} : ∀ {n off : Nat} {k : List AV → CRes}, Y3 t z zl n off k = .ret r H' → ∃ l, l.length = n ∧ (∀ j, j < n → l[j]? = some (OL t z zl (off + j))) ∧ k l = .ret r H'
  | 0, off, k, h => ⟨[], rfl, fun j hj => by omega, h⟩
  | n + 1, off, k, h => by
    have h0 : ajP t z zl off (fun v => eA (Nat.succ off) fun o => Y3 t z zl n o fun l => k (v :: l)) = .ret r H' := h
    have h1 := ajX h0
    rw [aL] at h1
    obtain ⟨l, e1, e2, h2⟩ := ajH h1
    refine ⟨_ :: l, by simp [e1], fun j hj => ?_, h2⟩
    cases j with
    | zero => rfl
    | succ j =>
      rw [List.getElem?_cons_succ, e2 j (by omega)]
      congr 2; omega
theorem KR {t : Tr AV} {z : List AV} {zl n off m : Nat} {k : List AV → CRes} (hm : off + n ≤ m) (h : Y3 t z zl n off k = .ret r H') : ∃ l, sub (cellsOf t z zl m) off n = some l ∧ l.length = n ∧ k l = .ret r H' := by
  obtain ⟨l, e1, e2, h⟩ := ajH h
  refine ⟨l, ?_, e1, h⟩
  rw [pR, if_pos (by rw [List.length_drop, fG]; omega)]
  congr 1
  apply List.ext_getElem?
  intro j
  rw [List.getElem?_take]
  by_cases hj : j < n
  · rw [if_pos hj, List.getElem?_drop, vi _ _ _ (by omega), e2 j hj]
  · rw [if_neg hj, List.getElem?_eq_none (by omega)]
theorem E3 : ∀ {l : List AV} {off : Nat} {t : Tr AV} {k : Tr AV → CRes}, OI l off t k = .ret r H' → ∃ t', k t' = .ret r H' ∧ (∀ z zl n, cellsOf t' z zl n = sF l (cellsOf t z zl n) off)
  | [], off, t, k, h => ⟨t, h, fun _ _ _ => rfl⟩
  | x :: l, off, t, k, h => by
    have h0 : setV (key off) x t (fun t => eA (Nat.succ off) fun o => OI l o t k) = .ret r H' := h
    rw [Nh, aL] at h0
    obtain ⟨t', h1, h2⟩ := E3 h0
    refine ⟨t', h1, fun z zl n => ?_⟩
    rw [h2, aeE]; rfl
theorem am2 : ∀ (new l : List AV) (x : List AV), x.length = new.length → sF new (l ++ x) l.length = l ++ new
  | [], l, x, h => by
    have : x = [] := List.eq_nil_of_length_eq_zero (by simpa using h)
    subst this; rfl
  | n :: new, l, [], h => by simp at h
  | n :: new, l, y :: x, h => by
    show sF new ((l ++ y :: x).set l.length n) (l.length + 1) = _
    have : (l ++ y :: x).set l.length n = (l ++ [n]) ++ x := by simp
    rw [this]
    have h2 := am2 new (l ++ [n]) x (by simpa using h)
    rw [List.length_append, List.length_singleton] at h2
    rw [h2]; simp
theorem alp {new : List AV} {t t' : Tr AV} {z : List AV} {zl q : Nat} (h : ∀ z zl n, cellsOf t' z zl n = sF new (cellsOf t z zl n) q) : cellsOf t' z zl (q + new.length) = cellsOf t z zl q ++ new := by
  rw [h]
  have e : cellsOf t z zl (q + new.length) = cellsOf t z zl q ++ ((cellsOf t z zl (q + new.length)).drop q) := by
    rw [← abI t z zl (Nat.le_add_right q new.length), List.take_append_drop]
  rw [e]
  have := am2 new (cellsOf t z zl q) ((cellsOf t z zl (q + new.length)).drop q) (by rw [List.length_drop, fG]; omega)
  rw [fG] at this
  exact this
variable {H : YHeap}
theorem aae {b : Nat} {c : Tr AV → List AV → Nat → Nat → Nat → CRes} (h : arrY H b c = .ret r H') : ∃ t z zl n g, H.abs.get b = some (.cells (cellsOf t z zl n) true g) ∧ c t z zl n g = .ret r H' := by
  unfold arrY at h
  rw [abr] at h
  obtain ⟨x, hx, h⟩ := jB h
  cases x with
  | arr t z zl n g => exact ⟨t, z, zl, n, g, by rw [YHeap.abs_get]; show (H.t.get (key b)).map QS = _; rw [hx]; rfl, h⟩
  | mp es => cases h
  | dead => cases h
theorem Zm {b : Nat} {c : Tr AV → List AV → Nat → Nat → Nat → CRes} (h : arrY H b c = .ret r H') : ∃ t z zl n g, nN H.abs b = some (cellsOf t z zl n) ∧ c t z zl n g = .ret r H' := by
  obtain ⟨t, z, zl, n, g, hg, h⟩ := aae h
  exact ⟨t, z, zl, n, g, by unfold nN; rw [hg], h⟩
theorem QT {b : Nat} {c : Tr AV → List AV → Nat → Nat → Nat → CRes} (h : ahs H b c = .ret r H') : ∃ t z zl n g, c t z zl n g = .ret r H' ∧ ∀ {β : Type} (e : β) (k : List AV → Nat → β), Xy H.abs b e k = k (cellsOf t z zl n) g := by
  obtain ⟨hb, h⟩ := A2 h
  obtain ⟨t, z, zl, n, g, hg, h⟩ := aae h
  refine ⟨t, z, zl, n, g, h, fun e k => ?_⟩
  unfold Xy
  have hb' : Nat.blt b H.abs.ro = false := hb
  rw [hb', hg]
theorem ahB {b : Nat} {c : List (AV × AV) → CRes} (h : mapY H b c = .ret r H') : ∃ es, I3 H.abs b = some es ∧ c es = .ret r H' := by
  unfold mapY at h
  rw [abr] at h
  obtain ⟨x, hx, h⟩ := jB h
  cases x with
  | arr t z zl n g => cases h
  | mp es => exact ⟨es, by unfold I3; rw [YHeap.abs_get]; show (Option.casesOn ((H.t.get (key b)).map QS) none _ : Option (List (AV × AV))) = _; rw [hx]; rfl, h⟩
  | dead => cases h
theorem ajO {u : AV} {n : Nat} {agg : Bool} {k : AV → CRes} (h : loadY H u n agg k = .ret r H') : ∃ b off l cs v, u = .ptr b off ∧ nN H.abs b = some l ∧ sub l off n = some cs ∧ Hp agg cs = some v ∧ k v = .ret r H' := by
  obtain ⟨b, off, rfl, h2⟩ := Cd h
  obtain ⟨t, z, zl, m, g, hc, h3⟩ := Zm h2
  obtain ⟨hm, h4⟩ := gz h3
  have hm := Nat.le_of_ble_eq_true hm
  cases agg with
  | true =>
    have h5 : Y3 t z zl n off (fun cs => k (.agg cs)) = .ret r H' := h4
    obtain ⟨l, hs, _, h⟩ := KR (m := m) hm h5
    exact ⟨b, off, _, l, _, rfl, hc, hs, rfl, h⟩
  | false =>
    have h5 : ifB (Nat.beq n 1) (ajP t z zl off k) .err = .ret r H' := h4
    obtain ⟨hn, h6⟩ := gz h5
    have hn := Nat.eq_of_beq_eq_true hn
    subst hn
    replace h := ajX h6
    refine ⟨b, off, _, [OL t z zl off], _, rfl, hc, ?_, rfl, h⟩
    have hm' : off + 1 ≤ m := hm
    rw [pR, if_pos (by rw [List.length_drop, fG]; omega)]
    have hl : off < (cellsOf t z zl m).length := by rw [fG]; omega
    rw [List.drop_eq_getElem_cons hl]
    have h8 := vi t z zl (show off < m by omega)
    rw [List.getElem?_eq_getElem hl] at h8
    have h9 := Option.some.inj h8
    rw [h9]
    rfl
theorem RJ {sz n : Nat} {x : AV} {k : List AV → CRes} (h : UM H sz n x k = .ret r H') : ∃ l, BW H.abs sz n x = some l ∧ k l = .ret r H' := by
  cases x with
  | slice b off len ext opn =>
    obtain ⟨t, z, zl, m, g, hc, h3⟩ := Zm (b := b) h
    rw [aL] at h3
    obtain ⟨hm, h4⟩ := gz h3
    obtain ⟨l, hs, _, h⟩ := KR (m := m) (Nat.le_of_ble_eq_true hm) h4
    exact ⟨l, by simp only [BW]; rw [hc]; exact hs, h⟩
  | send b o o' =>
    obtain ⟨hn, h⟩ := gz (b := Nat.beq n 0) h
    exact ⟨[], by simp only [BW]; rw [if_pos (Nat.eq_of_beq_eq_true hn)], h⟩
  | nilslice => exact ⟨[], rfl, h⟩
  | str s =>
    obtain ⟨hn, h⟩ := gz (b := Nat.beq sz 1) h
    exact ⟨_, by simp only [BW]; rw [if_pos (Nat.eq_of_beq_eq_true hn)], h⟩
  | _ => cases h
theorem ank {t : Tr AV} {z : List AV} {zl off q m : Nat} {new : List AV} {k : Tr AV → List AV → Nat → Nat → CRes} (hm : off + q ≤ m) (h : rowY t z zl off q new k = .ret r H') :
    ∃ old t' z' zl' m', sub (cellsOf t z zl m) off q = some old ∧ cellsOf t' z' zl' m' = old ++ new ∧ k t' z' zl' m' = .ret r H' := by
  unfold rowY at h
  rw [Lp] at h
  split at h
  · rename_i h0
    have h0 := Nat.eq_of_beq_eq_true h0
    subst h0
    obtain ⟨t', h1, h2⟩ := E3 h
    rw [aL, iA] at h1
    refine ⟨cellsOf t z zl q, t', z, zl, _, ?_, alp h2, h1⟩
    rw [pR, if_pos (by rw [List.length_drop, fG]; omega), List.drop_zero, abI _ _ _ (by omega)]
  · obtain ⟨old, hs, _, h1⟩ := KR (m := m) hm h
    rw [gS, aL, iA] at h1
    exact ⟨old, .leaf, old ++ new, _, _, hs, qE _, h1⟩
theorem agT {u : AV} {c : List (AV × AV) → CRes} (h : alO H u c = .ret r H') : ∃ es, ((∃ b, u = .map b ∧ I3 H.abs b = some es) ∨ (u = .nilmap ∧ es = [])) ∧ c es = .ret r H' := by
  cases u with
  | map b =>
    obtain ⟨es, he, h⟩ := ahB (b := b) h
    exact ⟨es, .inl ⟨b, rfl, he⟩, h⟩
  | nilmap => exact ⟨[], .inr ⟨rfl, rfl⟩, h⟩
  | _ => cases h
theorem anJ {sz : Nat} {s x : AV} {c : AV → YHeap → CRes} (h : ao8 H sz s x c = .ret r H') : ∃ v H₁, ny H.abs sz s x = some (v, H₁.abs) ∧ c v H₁ = .ret r H' := by
  obtain ⟨n, hn, h⟩ := jB h
  cases s with
  | nilslice =>
    have h0 : ifB (Nat.beq n 0) (c .nilslice H) (ifB (Nat.ble n zH) (UM H sz n x fun new => eA (lF new) fun m => Ur H (.arr .leaf new m m sz) fun d H => c (.slice d 0 n 0 true) H) .err) = .ret r H' := h
    rw [Lp] at h0
    split at h0
    · rename_i hz
      refine ⟨_, H, ?_, h0⟩
      unfold ny; rw [hn]; dsimp only; rw [if_pos (Nat.eq_of_beq_eq_true hz)]
    · rename_i hz
      obtain ⟨hm, h1⟩ := gz h0
      obtain ⟨new, hs, h2⟩ := RJ h1
      rw [aL, BN, iA] at h2
      refine ⟨_, _, ?_, h2⟩
      have hz' : ¬ n = 0 := fun e => hz (by rw [e]; rfl)
      have hm' : ¬ n > zH := by have := Nat.le_of_ble_eq_true hm; omega
      unfold ny; rw [hn]; dsimp only; rw [if_neg hz', if_neg hm', hs]; dsimp only; rw [Heap.newK_eq, YHeap.abs_add]
      show some (AV.slice H.nx 0 n 0 true, H.abs.add (.cells new true sz)) = some (AV.slice H.nx 0 n 0 true, H.abs.add (.cells (cellsOf .leaf new new.length new.length) true sz))
      rw [qE]
  | send b o o' =>
    obtain ⟨hz, h1⟩ := gz (b := Nat.beq n 0) h
    refine ⟨_, H, ?_, h1⟩
    unfold ny; rw [hn]; dsimp only; rw [if_pos (Nat.eq_of_beq_eq_true hz)]
  | slice b off len ext opn =>
    have h0 : ifB (Nat.beq n 0) (c (.slice b off len ext opn) H)
      (ifB (Nat.ble n ext)
      (UM H sz n x fun new => ahs H b fun t z zl m g => ifB (Nat.ble (off + (len + n) * sz) m) (eA (off + len * sz) fun o => OI new o t fun t => Zf H b (.arr t z zl m g) fun H => eA (len + n) fun l => eA (ext - n) fun e => c (.slice b off l e opn) H) .err)
      (ifB (Nat.ble (len + n) zH)
        (eA (len * sz) fun q => UM H sz n x fun new =>
          ifB opn
            (ahs H b fun t z zl m g => ifB (andB (Nat.beq g sz) (Nat.ble (off + (len + ext) * sz) m)) (rowY t z zl off q new fun t z zl m => Zf H b .dead fun H => Ur H (.arr t z zl m sz) fun d H => eA (len + n) fun l => c (.slice d 0 l 0 true) H) .err)
            (arrY H b fun t z zl m _ => ifB (Nat.ble (off + q) m) (rowY t z zl off q new fun t z zl m => Ur H (.arr t z zl m sz) fun d H => eA (len + n) fun l => c (.slice d 0 l 0 true) H) .err)) .err)) = .ret r H' := h
    rw [Lp] at h0
    split at h0
    · rename_i hz
      refine ⟨_, H, ?_, h0⟩
      unfold ny; rw [hn]; dsimp only; rw [if_pos (Nat.eq_of_beq_eq_true hz)]
    · rename_i hz
      have hz' : ¬ n = 0 := fun e => hz (by rw [e]; rfl)
      rw [Lp] at h0
      split at h0
      · rename_i he
        have he := Nat.le_of_ble_eq_true he
        obtain ⟨new, hs, h1⟩ := RJ h0
        obtain ⟨t, z, zl, m, g, h1, ho⟩ := QT h1
        obtain ⟨hm, h1⟩ := gz h1
        rw [aL] at h1
        obtain ⟨t', h1, hw⟩ := E3 h1
        rw [KC, aL, aL] at h1
        refine ⟨_, _, ?_, h1⟩
        unfold ny; rw [hn]; dsimp only; rw [if_neg hz', if_pos he, hs]; dsimp only; rw [ho, iA, fG, hm]; dsimp only
        rw [nU, Heap.setK_eq, YHeap.abs_set]
        show some (AV.slice b off (len + n) (ext - n) opn, H.abs.set b (.cells (sF new (cellsOf t z zl m) (off + len * sz)) true g)) = some (AV.slice b off (len + n) (ext - n) opn, H.abs.set b (.cells (cellsOf t' z zl m) true g))
        rw [hw]
      · rename_i he
        have he' : ¬ n ≤ ext := fun e => he (Nat.ble_eq_true_of_le e)
        obtain ⟨hm, h1⟩ := gz h0
        have hm' : ¬ len + n > zH := by have := Nat.le_of_ble_eq_true hm; omega
        rw [aL] at h1
        obtain ⟨new, hs, h2⟩ := RJ h1
        rw [Lp] at h2
        split at h2
        · rename_i hopn
          subst hopn
          obtain ⟨t, z, zl, m, g, h3, ho⟩ := QT h2
          obtain ⟨hg, h3⟩ := gz h3
          rw [b8] at hg
          have hg2 : off + (len + ext) * sz ≤ m := by
            simp only [Bool.and_eq_true] at hg
            exact Nat.le_of_ble_eq_true hg.2
          have hoff : off + len * sz ≤ m := by
            have : len * sz ≤ (len + ext) * sz := Nat.mul_le_mul_right _ (Nat.le_add_right _ _)
            omega
          obtain ⟨old, t', z', zl', m', hsub, hcells, h4⟩ := ank hoff h3
          rw [KC, BN, aL] at h4
          refine ⟨_, _, ?_, h4⟩
          have hcell : nN H.abs b = some (cellsOf t z zl m) := by
            have h8 := ho (β := Option (List AV)) none (fun l _ => some l)
            unfold Xy at h8
            unfold nN
            cases hb : Nat.blt b H.abs.ro with
            | true => rw [hb] at h8; cases h8
            | false =>
              rw [hb] at h8
              cases hx : H.abs.get b with
              | none => rw [hx] at h8; cases h8
              | some y =>
                rw [hx] at h8
                cases y with
                | cells l rw_ g' =>
                  cases rw_ with
                  | false => cases h8
                  | true => exact h8
                | mp es => cases h8
                | dead => cases h8
          unfold ny; rw [hn]; dsimp only; rw [if_neg hz', if_neg he', if_neg hm', hcell]; dsimp only; rw [hsub]; dsimp only; rw [hs]; dsimp only; rw [if_pos rfl, ho, iA, fG, hg]; dsimp only
          rw [Heap.setK_eq, gS, Heap.newK_eq, Heap.nx_set, YHeap.abs_add, YHeap.abs_set]
          show some (AV.slice H.nx 0 (len + n) 0 true, (H.abs.set b .dead).add (.cells (old ++ new) true sz)) = some (AV.slice H.nx 0 (len + n) 0 true, (H.abs.set b .dead).add (.cells (cellsOf t' z' zl' m') true sz))
          rw [hcells]
        · rename_i hopn
          have hopn' : opn = false := by simpa using hopn
          subst hopn'
          obtain ⟨t, z, zl, m, g, hcell, h3⟩ := Zm h2
          obtain ⟨hq, h3⟩ := gz h3
          obtain ⟨old, t', z', zl', m', hsub, hcells, h4⟩ := ank (Nat.le_of_ble_eq_true hq) h3
          rw [BN, aL] at h4
          refine ⟨_, _, ?_, h4⟩
          unfold ny; rw [hn]; dsimp only; rw [if_neg hz', if_neg he', if_neg hm', hcell]; dsimp only; rw [hsub]; dsimp only; rw [hs]; dsimp only
          rw [if_neg (by simp), gS, Heap.newK_eq, YHeap.abs_add]
          show some (AV.slice H.nx 0 (len + n) 0 true, H.abs.add (.cells (old ++ new) true sz)) = some (AV.slice H.nx 0 (len + n) 0 true, H.abs.add (.cells (cellsOf t' z' zl' m') true sz))
          rw [hcells]
  | _ => cases h
theorem apl {sz : Nat} {d x : AV} {c : AV → YHeap → CRes} (h : copyY H sz d x c = .ret r H') : ∃ v H₁, Yf H.abs sz d x = some (v, H₁.abs) ∧ c v H₁ = .ret r H' := by
  obtain ⟨m, hm, h⟩ := jB h
  obtain ⟨n', hn, h⟩ := jB h
  rw [aL] at h
  obtain ⟨new, hs, h⟩ := RJ h
  cases d with
  | slice b off len ext opn =>
    have h0 : ifB (Nat.beq (min n' m) 0) (c (.int .i64 0) H) (ahs H b fun t z zl q g => ifB (Nat.ble (off + min n' m * sz) q) (OI new off t fun t => Zf H b (.arr t z zl q g) fun H => c (.int .i64 (.ofNat (min n' m))) H) .err) = .ret r H' := h
    rw [Lp] at h0
    split at h0
    · rename_i hz
      refine ⟨_, H, ?_, h0⟩
      unfold Yf; rw [hm, hn]; dsimp only; rw [hs]; dsimp only; rw [if_pos (Nat.eq_of_beq_eq_true hz)]
    · rename_i hz
      obtain ⟨t, z, zl, q, g, h1, ho⟩ := QT h0
      obtain ⟨hq, h1⟩ := gz h1
      obtain ⟨t', h1, hw⟩ := E3 h1
      rw [KC] at h1
      refine ⟨_, _, ?_, h1⟩
      unfold Yf; rw [hm, hn]; dsimp only; rw [hs]; dsimp only; rw [if_neg (fun e => hz (by rw [e]; rfl)), ho, iA, fG, hq]; dsimp only
      rw [nU, Heap.setK_eq, YHeap.abs_set]
      show some (AV.int .i64 (.ofNat (min n' m)), H.abs.set b (.cells (sF new (cellsOf t z zl q) off) true g)) = some (AV.int .i64 (.ofNat (min n' m)), H.abs.set b (.cells (cellsOf t' z zl q) true g))
      rw [hw]
  | nilslice => exact ⟨_, H, by unfold Yf; rw [hm, hn]; dsimp only; rw [hs], h⟩
  | send b o o' => exact ⟨_, H, by unfold Yf; rw [hm, hn]; dsimp only; rw [hs], h⟩
  | _ => cases h
theorem an9 {z : List AV} {x : AV} {c : YHeap → CRes} (h : clearY H z x c = .ret r H') : ∃ H₁, Mn H.abs z x = some (.undef, H₁.abs) ∧ c H₁ = .ret r H' := by
  cases x with
  | slice b off len ext opn =>
    have h0 : ifB (Nat.beq len 0) (c H) (ahs H b fun t z' zl q g => ifB (Nat.ble (off + len * lF z) q) (OI (GW z len) off t fun t => Zf H b (.arr t z' zl q g) c) .err) = .ret r H' := h
    rw [Lp] at h0
    split at h0
    · rename_i hz
      exact ⟨H, by unfold Mn; dsimp only; rw [if_pos (Nat.eq_of_beq_eq_true hz)], h0⟩
    · rename_i hz
      obtain ⟨t, z', zl, q, g, h1, ho⟩ := QT h0
      obtain ⟨hq, h1⟩ := gz h1
      obtain ⟨t', h1, hw⟩ := E3 h1
      rw [KC] at h1
      refine ⟨_, ?_, h1⟩
      unfold Mn; dsimp only; rw [if_neg (fun e => hz (by rw [e]; rfl)), ho, iA (cellsOf t z' zl q), fG, hq]; dsimp only
      rw [nU, Heap.setK_eq, YHeap.abs_set]
      show some (AV.undef, H.abs.set b (.cells (sF (GW z len) (cellsOf t z' zl q) off) true g)) = some (AV.undef, H.abs.set b (.cells (cellsOf t' z' zl q) true g))
      rw [hw]
  | nilslice => exact ⟨H, rfl, h⟩
  | nilmap => exact ⟨H, rfl, h⟩
  | send b o o' => exact ⟨H, rfl, h⟩
  | _ => cases h
theorem acj {o : AOp} {tm : Tr AV} {k : AV → YHeap → CRes} (h : opY o tm H k = .ret r H') : ∃ v H₁, opF o tm H.abs = some (v, H₁.abs) ∧ k v H₁ = .ret r H' := by
  cases o with
  | mov x =>
    obtain ⟨v, hv, h⟩ := fQ h
    exact ⟨v, H, by simp only [opF]; rw [hv], h⟩
  | pick c a b =>
    obtain ⟨v, hv, h⟩ := fQ h
    obtain ⟨t, rfl, hz⟩ := EU h
    replace h := hz
    clear hz
    cases t with
    | true =>
      obtain ⟨u, hu, h⟩ := fQ (x := a) h
      exact ⟨u, H, by simp only [opF]; rw [hv]; dsimp only; rw [hu], h⟩
    | false =>
      obtain ⟨u, hu, h⟩ := fQ (x := b) h
      exact ⟨u, H, by simp only [opF]; rw [hv]; dsimp only; rw [hu], h⟩
  | not x =>
    obtain ⟨v, hv, h⟩ := fQ h
    obtain ⟨t, rfl, hz⟩ := EU h
    replace h := hz
    clear hz
    refine ⟨_, H, ?_, BH h⟩
    simp only [opF]; rw [hv]; cases t <;> rfl
  | bin op x y =>
    obtain ⟨u, hu, h⟩ := fQ h
    obtain ⟨v, hv, h⟩ := fQ h
    obtain ⟨w, hw, h⟩ := binX_inv h
    exact ⟨w, H, by simp only [opF]; rw [hu]; dsimp only; rw [hv]; dsimp only; rw [hw], h⟩
  | eq e neg x y =>
    obtain ⟨u, hu, h⟩ := fQ h
    obtain ⟨v, hv, h⟩ := fQ h
    have fin : ∀ b, eqK e u v = some b → k (.bool (Vz neg b)) H = .ret r H' → ∃ v H₁, opF (.eq e neg x y) tm H.abs = some (v, H₁.abs) ∧ k v H₁ = .ret r H' := by
      intro b hb hk
      refine ⟨_, H, ?_, hk⟩
      simp only [opF]; rw [hu]; dsimp only; rw [hv]; dsimp only; rw [hb]; dsimp only; rw [cj]
    cases e with
    | nil n =>
      have h0 : Xz (.nil n) u v (fun r => fbX (Vz neg r) fun r => k r H) = .ret r H' := h
      obtain ⟨b, hb, h⟩ := abz h0
      exact fin b hb (BH h)
    | bool =>
      obtain ⟨a, rfl, hz⟩ := EU (v := u) h
      replace h := hz
      clear hz
      obtain ⟨b, rfl, hz⟩ := EU (v := v) h
      replace h := hz
      clear hz
      exact fin (eqBB a b) (by rw [cb]; rfl) (BH h)
    | plain ks =>
      have h0 : Xz (.plain ks) u v (fun r => fbX (Vz neg r) fun r => k r H) = .ret r H' := h
      obtain ⟨b, hb, h⟩ := abz h0
      exact fin b hb (BH h)
  | conv q x =>
    obtain ⟨u, hu, h⟩ := fQ h
    obtain ⟨_, n, rfl, hz⟩ := Cf h
    replace h := hz
    clear hz
    rw [bC] at h
    refine ⟨_, H, ?_, h⟩
    simp only [opF]; rw [hu]; exact nR _ _ _
  | alloc z =>
    have h' : eA (lF z) (fun n => Ur H (.arr .leaf z n n 0) fun b H' => k (.ptr b 0) H') = .ret r H' := h
    rw [aL, BN, iA] at h'
    refine ⟨_, _, ?_, h'⟩
    simp only [opF]; rw [Heap.newK_eq, YHeap.abs_add]
    show some (AV.ptr H.nx 0, H.abs.add (.cells z true 0)) = some (AV.ptr H.nx 0, H.abs.add (.cells (cellsOf .leaf z z.length z.length) true 0))
    rw [qE]
  | box x =>
    obtain ⟨u, hu, h⟩ := fQ h
    rcases Pt h with ⟨l, rfl, h5⟩ | ⟨h1, h2, h3, h⟩
    · rw [aL, BN, iA] at h5
      refine ⟨_, _, ?_, h5⟩
      simp only [opF]; rw [hu]; dsimp only [Dv]; rw [Heap.newK_eq, YHeap.abs_add]
      show some (AV.ptr H.nx 0, H.abs.add (.cells l true 0)) = some (AV.ptr H.nx 0, H.abs.add (.cells (cellsOf .leaf l l.length l.length) true 0))
      rw [qE]
    · rw [BN] at h
      refine ⟨_, _, ?_, h⟩
      simp only [opF]; rw [hu]; dsimp only; rw [h3, h2]; dsimp only; rw [Heap.newK_eq, YHeap.abs_add]
      show some (AV.ptr H.nx 0, H.abs.add (.cells [u] true 0)) = some (AV.ptr H.nx 0, H.abs.add (.cells (cellsOf .leaf [u] [u].length [u].length) true 0))
      rw [qE]
  | build z parts =>
    obtain ⟨ps, hp, h⟩ := ahf h
    obtain ⟨l, hl, h⟩ := KS h
    exact ⟨_, H, by simp only [opF]; rw [hp, hl], h⟩
  | buildSlice len z parts =>
    obtain ⟨ps, hp, h⟩ := ahf h
    obtain ⟨l, hl, h⟩ := KS h
    rw [aL, BN, iA] at h
    refine ⟨_, _, ?_, h⟩
    simp only [opF]; rw [hp, hl]; dsimp only; rw [Heap.newK_eq, YHeap.abs_add]
    show some (AV.slice H.nx 0 len 0 false, H.abs.add (.cells l true 0)) = some (AV.slice H.nx 0 len 0 false, H.abs.add (.cells (cellsOf .leaf l l.length l.length) true 0))
    rw [qE]
  | load n agg x =>
    obtain ⟨u, hu, h⟩ := fQ h
    obtain ⟨b, off, l, cs, v, rfl, hl, hc, hp, h⟩ := ajO h
    exact ⟨v, H, by simp only [opF]; rw [hu]; dsimp only; rw [hl]; dsimp only; rw [hc]; dsimp only; rw [hp], h⟩
  | store n a x =>
    obtain ⟨a', ha, h⟩ := fQ h
    obtain ⟨u, hu, h⟩ := fQ h
    obtain ⟨b, off, rfl, h⟩ := Cd h
    obtain ⟨t, z, zl, m, g, h, ho⟩ := QT h
    obtain ⟨hm, h⟩ := gz h
    have hm : off + n ≤ m := Nat.le_of_ble_eq_true hm
    have fin : ∀ t', Dv u = true → lF u.cells = n → cellsOf t' z zl m = sF u.cells (cellsOf t z zl m) off → k .undef (H.set b (.arr t' z zl m g)) = .ret r H' → ∃ v H₁, opF (.store n a x) tm H.abs = some (v, H₁.abs) ∧ k v H₁ = .ret r H' := by
      intro t' e1 e2 e3 e4
      refine ⟨_, _, ?_, e4⟩
      simp only [opF]; rw [ha]; dsimp only; rw [hu]; dsimp only; rw [ho]
      have h2 : (Dv u && lF u.cells == n && Nat.ble (off + n) (lF (cellsOf t z zl m))) = true := by
        rw [e1, e2, iA (cellsOf t z zl m), fG]; simp [hm]
      rw [h2]; dsimp only; rw [nU, Heap.setK_eq, YHeap.abs_set]
      show some (AV.undef, H.abs.set b (.cells (sF u.cells (cellsOf t z zl m) off) true g)) = some (AV.undef, H.abs.set b (.cells (cellsOf t' z zl m) true g))
      rw [e3]
    rcases Pt h with ⟨cs, rfl, h5⟩ | ⟨h1, h2, h3, h⟩
    · obtain ⟨hn, h⟩ := gz h5
      have hn := Nat.eq_of_beq_eq_true hn
      obtain ⟨t', h, h6⟩ := E3 h
      rw [KC] at h
      exact fin t' rfl hn (h6 z zl m) h
    · obtain ⟨hn, h⟩ := gz h
      have hn := Nat.eq_of_beq_eq_true hn
      rw [Nh, KC] at h
      refine fin _ h3 (by rw [h2]; exact hn) ?_ h
      rw [h2, aeE]; rfl
  | nilchk x =>
    obtain ⟨u, hu, h⟩ := fQ h
    obtain ⟨h1, h⟩ := aeM h
    refine ⟨u, H, ?_, h⟩
    simp only [opF]; rw [hu]
    rcases h1 with ⟨b, o, rfl⟩ | ⟨f, a, c, rfl⟩ <;> rfl
  | fa d x =>
    obtain ⟨u, hu, h⟩ := fQ h
    obtain ⟨b, off, rfl, hz⟩ := Cd h
    replace h := hz
    clear hz
    rw [aL] at h
    exact ⟨_, H, by simp only [opF]; rw [hu]; rfl, h⟩
  | iaS sz x i =>
    obtain ⟨u, hu, h⟩ := fQ h
    obtain ⟨v, hv, h⟩ := fQ h
    obtain ⟨_, i, rfl, hz⟩ := Cf h
    replace h := hz
    clear hz
    obtain ⟨b, off, l, e, p, rfl, hz⟩ := ajN h
    replace h := hz
    clear hz
    obtain ⟨j, rfl, hz⟩ := U6 h
    replace h := hz
    clear hz
    obtain ⟨h1, h⟩ := gz h
    rw [aL] at h
    exact ⟨_, H, by simp only [opF]; rw [hu]; dsimp only; rw [hv]; dsimp only; rw [pH, h1]; rfl, h⟩
  | iaA sz len x i =>
    obtain ⟨u, hu, h⟩ := fQ h
    obtain ⟨v, hv, h⟩ := fQ h
    obtain ⟨_, i, rfl, hz⟩ := Cf h
    replace h := hz
    clear hz
    obtain ⟨b, off, rfl, hz⟩ := Cd h
    replace h := hz
    clear hz
    obtain ⟨j, rfl, hz⟩ := U6 h
    replace h := hz
    clear hz
    obtain ⟨h1, h⟩ := gz h
    rw [aL] at h
    exact ⟨_, H, by simp only [opF]; rw [hu]; dsimp only; rw [hv]; dsimp only; rw [pH, h1]; rfl, h⟩
  | idxA sz len agg x i =>
    obtain ⟨u, hu, h⟩ := fQ h
    obtain ⟨v, hv, h⟩ := fQ h
    obtain ⟨_, i, rfl, hz⟩ := Cf h
    replace h := hz
    clear hz
    obtain ⟨cs, rfl, hz⟩ := ajK h
    replace h := hz
    clear hz
    obtain ⟨j, rfl, hz⟩ := U6 h
    replace h := hz
    clear hz
    obtain ⟨h1, h⟩ := gz h
    rw [aL] at h
    obtain ⟨l, hl, h⟩ := jB h
    obtain ⟨w, hw, h⟩ := jB h
    have hl' : sub cs (j * sz) sz = some l := hl
    exact ⟨w, H, by simp only [opF]; rw [hu]; dsimp only; rw [hv]; dsimp only; rw [pH, h1]; dsimp only; rw [hl']; dsimp only; rw [hw], h⟩
  | idxS x i =>
    obtain ⟨u, hu, h⟩ := fQ h
    obtain ⟨v, hv, h⟩ := fQ h
    obtain ⟨s, rfl, hz⟩ := abl h
    replace h := hz
    clear hz
    obtain ⟨_, i, rfl, hz⟩ := Cf h
    replace h := hz
    clear hz
    obtain ⟨j, rfl, hz⟩ := U6 h
    replace h := hz
    clear hz
    obtain ⟨c, hc, h⟩ := jB h
    rw [aL] at h
    exact ⟨_, H, by simp only [opF]; rw [hu]; dsimp only; rw [hv]; dsimp only; rw [pH, hc]; rfl, h⟩
  | sl sk x lo hi mx =>
    obtain ⟨u, hu, h⟩ := fQ h
    obtain ⟨lo', h1, h⟩ := aho h
    obtain ⟨hi', h2, h⟩ := aho h
    obtain ⟨mx', h3, h⟩ := aho h
    obtain ⟨v, hv, h⟩ := jB h
    rw [bj] at h
    exact ⟨v, H, by simp only [opF]; rw [hu]; dsimp only; rw [aph h1 h2 h3, hv], h⟩
  | ext ix x =>
    obtain ⟨u, hu, h⟩ := fQ h
    obtain ⟨vs, v, rfl, hv, hz⟩ := extK_inv h
    replace h := hz
    clear hz
    exact ⟨v, H, by simp only [opF]; rw [hu]; dsimp only; rw [hv], h⟩
  | mkfunc f a c =>
    obtain ⟨va, ha, h⟩ := Qr h
    obtain ⟨cs, hc, h⟩ := Qr h
    exact ⟨_, H, by simp only [opF]; rw [ha]; dsimp only; rw [hc], h⟩
  | mkmap =>
    have h' : Ur H (.mp []) (fun b H' => k (.map b) H') = .ret r H' := h
    rw [BN] at h'
    exact ⟨_, _, by simp only [opF]; rw [Heap.newK_eq, YHeap.abs_add]; rfl, h'⟩
  | mk z len cap =>
    obtain ⟨u, hu, h⟩ := fQ h
    obtain ⟨v, hv, h⟩ := fQ h
    obtain ⟨_, l, rfl, hz⟩ := Cf h
    replace h := hz
    clear hz
    obtain ⟨_, c, rfl, hz⟩ := Cf h
    replace h := hz
    clear hz
    obtain ⟨l, rfl, hz⟩ := U6 h
    replace h := hz
    clear hz
    obtain ⟨c, rfl, hz⟩ := U6 h
    replace h := hz
    clear hz
    obtain ⟨h1, h⟩ := gz h
    rw [aL, aL, BN, aL, iA] at h
    rw [b8] at h1
    refine ⟨_, _, ?_, h⟩
    simp only [opF]; rw [hu]; dsimp only; rw [hv]; dsimp only; rw [pH, pH, h1]; dsimp only; rw [Heap.newK_eq, YHeap.abs_add]
    show some (AV.slice H.nx 0 l (c - l) false, H.abs.add (.cells (GW z c) true 0)) = some (AV.slice H.nx 0 l (c - l) false, H.abs.add (.cells (cellsOf .leaf z z.length (c * z.length)) true 0))
    rw [ala]
  | lookup kk z ok m key =>
    obtain ⟨u, hu, h⟩ := fQ h
    obtain ⟨v, hv, h⟩ := fQ h
    obtain ⟨es, hes, h⟩ := agT h
    obtain ⟨e1, he, h⟩ := jB h
    obtain ⟨w, hw, h⟩ := jB h
    have pre : ∀ {β : AV × Heap}, (Option.casesOn w (some (if ok then .tuple [z, .bool false] else z, H.abs)) fun x => some (if ok then .tuple [x, .bool true] else x, H.abs) : Option (AV × Heap)) = some β → opF (.lookup kk z ok m key) tm H.abs = some β := by
      intro β hβ
      simp only [opF]; rw [hu]; dsimp only; rw [hv]
      rcases hes with ⟨b, rfl, hes⟩ | ⟨rfl, rfl⟩
      · dsimp only; rw [hes]; dsimp only; rw [he]; dsimp only; rw [hw]; exact hβ
      · dsimp only; rw [he]; dsimp only; rw [hw]; exact hβ
    cases w with
    | none => cases ok <;> exact ⟨_, H, pre rfl, h⟩
    | some x => cases ok <;> exact ⟨_, H, pre rfl, h⟩
  | mapset kk m key x =>
    obtain ⟨u, hu, h⟩ := fQ h
    obtain ⟨v, hv, h⟩ := fQ h
    obtain ⟨y, hy, h⟩ := fQ h
    obtain ⟨b, rfl, hz⟩ := aj5 h
    replace h := hz
    clear hz
    obtain ⟨h1, h⟩ := A2 h
    obtain ⟨es, hes, h⟩ := ahB h
    obtain ⟨e1, he, h⟩ := jB h
    obtain ⟨es', hp, h⟩ := jB h
    rw [KC] at h
    have h1 : Nat.blt b H.abs.ro = false := h1
    exact ⟨_, _, by simp only [opF]; rw [hu]; dsimp only; rw [hv]; dsimp only; rw [hy]; dsimp only; rw [h1]; dsimp only; rw [hes]; dsimp only; rw [he]; dsimp only; rw [hp]; dsimp only; rw [Heap.setK_eq, YHeap.abs_set]; rfl, h⟩
  | mapdel kk m key =>
    obtain ⟨u, hu, h⟩ := fQ h
    obtain ⟨v, hv, h⟩ := fQ h
    obtain ⟨e1, he, h2⟩ := jB h
    cases u with
    | map b =>
      have h3 : ifB (Nat.blt b H.ro) .err (mapY H b fun es => oC (delF kk v es) fun es' => Zf H b (.mp es') fun H' => k .undef H') = .ret r H' := h2
      obtain ⟨h1, h3⟩ := A2 h3
      obtain ⟨es, hes, h3⟩ := ahB h3
      obtain ⟨es', hp, h3⟩ := jB h3
      rw [KC] at h3
      have h1 : Nat.blt b H.abs.ro = false := h1
      exact ⟨_, _, by simp only [opF]; rw [hu]; dsimp only; rw [hv]; dsimp only; rw [he]; dsimp only; rw [h1]; dsimp only; rw [hes]; dsimp only; rw [hp]; dsimp only; rw [Heap.setK_eq, YHeap.abs_set]; rfl, h3⟩
    | nilmap => exact ⟨_, H, by simp only [opF]; rw [hu]; dsimp only; rw [hv]; dsimp only; rw [he], h2⟩
    | _ => cases h2
  | len lk x =>
    obtain ⟨u, hu, h⟩ := fQ h
    cases lk with
    | str =>
      obtain ⟨s, rfl, hz⟩ := abl h
      replace h := hz
      clear hz
      have h' : eA (lF s) (fun n => k (.int .i64 (.ofNat n)) H) = .ret r H' := h
      rw [aL] at h'
      exact ⟨_, H, by simp only [opF]; rw [hu], h'⟩
    | arr n => exact ⟨_, H, by simp only [opF]; rw [hu]; try rfl, h⟩
    | sl =>
      have h' : iP u (fun n => k (.int .i64 n) H) = .ret r H' := h
      cases u <;> first | exact ⟨_, H, by simp only [opF]; rw [hu]; try rfl, h'⟩ | cases h'
    | mp =>
      have h' : alO H u (fun es => eA (lF es) fun n => k (.int .i64 (.ofNat n)) H) = .ret r H' := h
      obtain ⟨es, hes, h2⟩ := agT h'
      rw [aL] at h2
      rcases hes with ⟨b, rfl, hes⟩ | ⟨rfl, rfl⟩
      · exact ⟨_, H, by simp only [opF]; rw [hu]; dsimp only; rw [hes], h2⟩
      · exact ⟨_, H, by simp only [opF]; rw [hu]; try rfl, h2⟩
  | minmax mx xs =>
    obtain ⟨vs, hv, h⟩ := Qr h
    cases vs with
    | nil => cases h
    | cons v vs =>
      obtain ⟨w, hw, h⟩ := jB h
      exact ⟨w, H, by simp only [opF]; rw [hv]; dsimp only; rw [hw], h⟩
  | append sz s x =>
    obtain ⟨u, hu, h⟩ := fQ h
    obtain ⟨v, hv, h⟩ := fQ h
    obtain ⟨w, H₁, hw, h⟩ := anJ h
    exact ⟨w, H₁, by simp only [opF]; rw [hu]; dsimp only; rw [hv]; exact hw, h⟩
  | copy sz d x =>
    obtain ⟨u, hu, h⟩ := fQ h
    obtain ⟨v, hv, h⟩ := fQ h
    obtain ⟨w, H₁, hw, h⟩ := apl h
    exact ⟨w, H₁, by simp only [opF]; rw [hu]; dsimp only; rw [hv]; exact hw, h⟩
  | clear z x =>
    obtain ⟨u, hu, h⟩ := fQ h
    obtain ⟨H₁, hw, h⟩ := an9 h
    exact ⟨_, H₁, by simp only [opF]; rw [hu]; exact hw, h⟩
end
end Go.Ai
