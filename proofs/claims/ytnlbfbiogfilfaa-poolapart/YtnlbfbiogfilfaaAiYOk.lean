/- What the continuation style over the heap of tries computes, the interpreter's operations compute over the heap that it stands for. -/
import Derived.Test.YtnlbfbiogfilfaaAiY
import Derived.Test.YtnlbfbiogfilfaaAiMem
set_option linter.all false
namespace Go.Ai
theorem aeN : ∀ (p : P) (t : Tr YBlk), (NL t).get p = (t.get p).map OC
  | .h, .leaf => rfl
  | .h, .node _ _ _ => rfl
  | .o p, .leaf => rfl
  | .o p, .node l _ _ => aeN p l
  | .i p, .leaf => rfl
  | .i p, .node _ _ r => aeN p r
theorem Nm : ∀ (p : P) (x : YBlk) (t : Tr YBlk), NL (t.set p x) = (NL t).set p (OC x)
  | .h, _, .leaf => rfl
  | .h, _, .node _ _ _ => rfl
  | .o p, x, .leaf => by rw [Tr.set_o]; show Tr.node (NL (Tr.leaf.set p x)) none .leaf = _; rw [Nm p x .leaf]; exact (Tr.set_o p (OC x) .leaf).symm
  | .o p, x, .node l v r => by rw [Tr.set_o]; show Tr.node (NL (l.set p x)) (v.map OC) (NL r) = _; rw [Nm p x l]; exact (Tr.set_o p (OC x) (.node (NL l) (v.map OC) (NL r))).symm
  | .i p, x, .leaf => by rw [Tr.set_i]; show Tr.node .leaf none (NL (Tr.leaf.set p x)) = _; rw [Nm p x .leaf]; exact (Tr.set_i p (OC x) .leaf).symm
  | .i p, x, .node l v r => by rw [Tr.set_i]; show Tr.node (NL l) (v.map OC) (NL (r.set p x)) = _; rw [Nm p x r]; exact (Tr.set_i p (OC x) (.node (NL l) (v.map OC) (NL r))).symm
noncomputable def YHeap.get (H : YHeap) (b : Nat) : Option YBlk := H.t.get (key b)
noncomputable def YHeap.set (H : YHeap) (b : Nat) (x : YBlk) : YHeap := ⟨H.t.set (key b) x, H.nx, H.ro⟩
noncomputable def YHeap.add (H : YHeap) (x : YBlk) : YHeap := ⟨H.t.set (key H.nx) x, H.nx + 1, H.ro⟩
theorem YHeap.abs_get (H : YHeap) (b : Nat) : H.abs.get b = (H.get b).map OC := aeN _ _
theorem YHeap.abs_set (H : YHeap) (b : Nat) (x : YBlk) : (H.set b x).abs = H.abs.set b (OC x) := by
  have h : H.abs.set b (OC x) = ⟨(NL H.t).set (key b) (OC x), H.nx, H.ro⟩ := by
    simp only [YHeap.abs, Heap.set, Heap.setK, Tr.setK_eq]; rfl
  rw [h]
  show (⟨NL (H.t.set (key b) x), H.nx, H.ro⟩ : Heap) = _
  rw [Nm]
theorem YHeap.abs_add (H : YHeap) (x : YBlk) : (H.add x).abs = H.abs.add (OC x) := by
  have h : H.abs.add (OC x) = ⟨(NL H.t).set (key H.nx) (OC x), H.nx + 1, H.ro⟩ := by
    simp only [YHeap.abs, Heap.add, Heap.set, Heap.setK, Tr.setK_eq]; rfl
  rw [h]
  show (⟨NL (H.t.set (key H.nx) x), H.nx + 1, H.ro⟩ : Heap) = _
  rw [Nm]
theorem X2 : ∀ (p : P) (t : Tr YBlk) (k : YBlk → CRes), getYB p t k = oC (t.get p) k
  | .h, .leaf, _ => rfl
  | .h, .node _ _ _, _ => rfl
  | .o p, .leaf, _ => rfl
  | .o p, .node l v r, k => X2 p l k
  | .i p, .leaf, _ => rfl
  | .i p, .node l v r, k => X2 p r k
theorem Nt : ∀ (p : P) (x : YBlk) (t : Tr YBlk) (k : Tr YBlk → CRes), ako p x t k = k (t.set p x)
  | .h, _, .leaf, _ => rfl
  | .h, _, .node _ _ _, _ => rfl
  | .o p, x, .leaf, k => by rw [Tr.set_o]; exact Nt p x .leaf fun l => k (.node l none .leaf)
  | .o p, x, .node l v r, k => by rw [Tr.set_o]; exact Nt p x l fun l => k (.node l v r)
  | .i p, x, .leaf, k => by rw [Tr.set_i]; exact Nt p x .leaf fun r => k (.node .leaf none r)
  | .i p, x, .node l v r, k => by rw [Tr.set_i]; exact Nt p x r fun r => k (.node l v r)
theorem zN (H : YHeap) (x : YBlk) (c : Nat → YHeap → CRes) : Rq H x c = c H.nx (H.add x) := by
  obtain ⟨t, nx, ro⟩ := H
  show ako (key nx) x t (fun t => d8 (Nat.succ nx) fun nx' => c nx ⟨t, nx', ro⟩) = _
  rw [Nt, aK]; rfl
theorem H6 (H : YHeap) (b : Nat) (x : YBlk) (c : YHeap → CRes) : Wy H b x c = c (H.set b x) := by
  obtain ⟨t, nx, ro⟩ := H
  show ako (key b) x t (fun t => c ⟨t, nx, ro⟩) = _
  rw [Nt]; rfl
theorem fd (t : Tr AV) (z : List AV) (zl n : Nat) : (cellsOf t z zl n).length = n := by simp [cellsOf]
theorem tS (t : Tr AV) (z : List AV) (zl : Nat) {n i : Nat} (h : i < n) : (cellsOf t z zl n)[i]? = some (Mk t z zl i) := by simp [cellsOf, h]
theorem abT (t : Tr AV) (z : List AV) (zl n i : Nat) (u : AV) : cellsOf (t.set (key i) u) z zl n = (cellsOf t z zl n).set i u := by
  apply List.ext_getElem?
  intro j
  by_cases hj : j < n
  · rw [tS _ _ _ hj, List.getElem?_set]
    by_cases e : i = j
    · subst e
      rw [if_pos rfl, if_pos (by rw [fd]; exact hj)]
      simp [Mk, Tr.get_set_same]
    · rw [if_neg e, tS _ _ _ hj]
      simp [Mk, Tr.get_set_other (fun k => e (wh k))]
  · rw [List.getElem?_eq_none (by rw [fd]; omega), List.getElem?_eq_none (by rw [List.length_set, fd]; omega)]
theorem qc (z : List AV) : cellsOf .leaf z z.length z.length = z := by
  apply List.ext_getElem?
  intro j
  by_cases hj : j < z.length
  · rw [tS _ _ _ hj]
    simp [Mk, Tr.get_leaf, Nat.mod_eq_of_lt hj, hj]
  · rw [List.getElem?_eq_none (by rw [fd]; omega), List.getElem?_eq_none (by omega)]
theorem aiL (z : List AV) (n : Nat) : cellsOf .leaf z z.length (n * z.length) = CT z n := by
  apply List.ext_getElem?
  intro j
  by_cases hj : j < n * z.length
  · rw [tS _ _ _ hj, ajz z n j hj]
    have hz : 0 < z.length := by
      rcases Nat.eq_zero_or_pos z.length with h | h
      · rw [h] at hj; omega
      · exact h
    have := Nat.mod_lt j hz
    simp [Mk, Tr.get_leaf, this]
  · rw [List.getElem?_eq_none (by rw [fd]; omega), List.getElem?_eq_none (by rw [Ak]; omega)]
theorem X6 (t : Tr AV) (z : List AV) (zl : Nat) {n m : Nat} (h : m ≤ n) : (cellsOf t z zl n).take m = cellsOf t z zl m := by
  apply List.ext_getElem?
  intro j
  rw [List.getElem?_take]
  by_cases hj : j < m
  · rw [if_pos hj, tS _ _ _ (by omega), tS _ _ _ hj]
  · rw [if_neg hj, List.getElem?_eq_none (by rw [fd]; omega)]
section
variable {r : AV} {H' : Heap}
theorem ah2 : ∀ (p : P) (t : Tr AV) (k : AV → CRes) (e : CRes), getO p t k e = match t.get p with | some v => k v | none => e
  | .h, .leaf, _, _ => rfl
  | .h, .node _ v _, _, _ => by cases v <;> rfl
  | .o p, .leaf, _, _ => rfl
  | .o p, .node l v r, k, e => ah2 p l k e
  | .i p, .leaf, _, _ => rfl
  | .i p, .node l v r, k, e => ah2 p r k e
theorem ahf {t : Tr AV} {z : List AV} {zl i : Nat} {k : AV → CRes} (h : ahA t z zl i k = .ret r H') : k (Mk t z zl i) = .ret r H' := by
  unfold ahA at h
  rw [ah2] at h
  unfold Mk
  cases hg : t.get (key i) with
  | some v => rw [hg] at h; exact h
  | none =>
    rw [hg] at h
    have h' : nthX z (i % zl) k = .ret r H' := h
    rw [YU] at h'
    obtain ⟨v, hv, h⟩ := jc h'
    rw [hv]; exact h
theorem ahx {t : Tr AV} {z : List AV} {zl : Nat} : ∀ {n off : Nat} {k : List AV → CRes}, Wi t z zl n off k = .ret r H' → ∃ l, l.length = n ∧ (∀ j, j < n → l[j]? = some (Mk t z zl (off + j))) ∧ k l = .ret r H'
  | 0, off, k, h => ⟨[], rfl, fun j hj => by omega, h⟩
  | n + 1, off, k, h => by
    have h0 : ahA t z zl off (fun v => d8 (Nat.succ off) fun o => Wi t z zl n o fun l => k (v :: l)) = .ret r H' := h
    have h1 := ahf h0
    rw [aK] at h1
    obtain ⟨l, e1, e2, h2⟩ := ahx h1
    refine ⟨_ :: l, by simp [e1], fun j hj => ?_, h2⟩
    cases j with
    | zero => rfl
    | succ j =>
      rw [List.getElem?_cons_succ, e2 j (by omega)]
      congr 2; omega
theorem Ii {t : Tr AV} {z : List AV} {zl n off m : Nat} {k : List AV → CRes} (hm : off + n ≤ m) (h : Wi t z zl n off k = .ret r H') : ∃ l, sub (cellsOf t z zl m) off n = some l ∧ l.length = n ∧ k l = .ret r H' := by
  obtain ⟨l, e1, e2, h⟩ := ahx h
  refine ⟨l, ?_, e1, h⟩
  rw [oA, if_pos (by rw [List.length_drop, fd]; omega)]
  congr 1
  apply List.ext_getElem?
  intro j
  rw [List.getElem?_take]
  by_cases hj : j < n
  · rw [if_pos hj, List.getElem?_drop, tS _ _ _ (by omega), e2 j hj]
  · rw [if_neg hj, List.getElem?_eq_none (by omega)]
theorem Dk : ∀ {l : List AV} {off : Nat} {t : Tr AV} {k : Tr AV → CRes}, Mi l off t k = .ret r H' → ∃ t', k t' = .ret r H' ∧ (∀ z zl n, cellsOf t' z zl n = rt l (cellsOf t z zl n) off)
  | [], off, t, k, h => ⟨t, h, fun _ _ _ => rfl⟩
  | x :: l, off, t, k, h => by
    have h0 : setV (key off) x t (fun t => d8 (Nat.succ off) fun o => Mi l o t k) = .ret r H' := h
    rw [KI, aK] at h0
    obtain ⟨t', h1, h2⟩ := Dk h0
    refine ⟨t', h1, fun z zl n => ?_⟩
    rw [h2, abT]; rfl
theorem aj4 : ∀ (new l : List AV) (x : List AV), x.length = new.length → rt new (l ++ x) l.length = l ++ new
  | [], l, x, h => by
    have : x = [] := List.eq_nil_of_length_eq_zero (by simpa using h)
    subst this; rfl
  | n :: new, l, [], h => by simp at h
  | n :: new, l, y :: x, h => by
    show rt new ((l ++ y :: x).set l.length n) (l.length + 1) = _
    have : (l ++ y :: x).set l.length n = (l ++ [n]) ++ x := by simp
    rw [this]
    have h2 := aj4 new (l ++ [n]) x (by simpa using h)
    rw [List.length_append, List.length_singleton] at h2
    rw [h2]; simp
theorem ahS {new : List AV} {t t' : Tr AV} {z : List AV} {zl q : Nat} (h : ∀ z zl n, cellsOf t' z zl n = rt new (cellsOf t z zl n) q) : cellsOf t' z zl (q + new.length) = cellsOf t z zl q ++ new := by
  rw [h]
  have e : cellsOf t z zl (q + new.length) = cellsOf t z zl q ++ ((cellsOf t z zl (q + new.length)).drop q) := by
    rw [← X6 t z zl (Nat.le_add_right q new.length), List.take_append_drop]
  rw [e]
  have := aj4 new (cellsOf t z zl q) ((cellsOf t z zl (q + new.length)).drop q) (by rw [List.length_drop, fd]; omega)
  rw [fd] at this
  exact this
variable {H : YHeap}
theorem Xy {b : Nat} {c : Tr AV → List AV → Nat → Nat → Nat → CRes} (h : arrY H b c = .ret r H') : ∃ t z zl n g, H.abs.get b = some (.cells (cellsOf t z zl n) true g) ∧ c t z zl n g = .ret r H' := by
  unfold arrY at h
  rw [X2] at h
  obtain ⟨x, hx, h⟩ := jc h
  cases x with
  | arr t z zl n g => exact ⟨t, z, zl, n, g, by rw [YHeap.abs_get]; show (H.t.get (key b)).map OC = _; rw [hx]; rfl, h⟩
  | mp es => cases h
  | dead => cases h
theorem W9 {b : Nat} {c : Tr AV → List AV → Nat → Nat → Nat → CRes} (h : arrY H b c = .ret r H') : ∃ t z zl n g, np H.abs b = some (cellsOf t z zl n) ∧ c t z zl n g = .ret r H' := by
  obtain ⟨t, z, zl, n, g, hg, h⟩ := Xy h
  exact ⟨t, z, zl, n, g, by unfold np; rw [hg], h⟩
theorem NW {b : Nat} {c : Tr AV → List AV → Nat → Nat → Nat → CRes} (h : afC H b c = .ret r H') : ∃ t z zl n g, c t z zl n g = .ret r H' ∧ ∀ {β : Type} (e : β) (k : List AV → Nat → β), UX H.abs b e k = k (cellsOf t z zl n) g := by
  obtain ⟨hb, h⟩ := y0 h
  obtain ⟨t, z, zl, n, g, hg, h⟩ := Xy h
  refine ⟨t, z, zl, n, g, h, fun e k => ?_⟩
  unfold UX
  have hb' : Nat.blt b H.abs.ro = false := hb
  rw [hb', hg]
theorem ae1 {b : Nat} {c : List (AV × AV) → CRes} (h : mapY H b c = .ret r H') : ∃ es, Hz H.abs b = some es ∧ c es = .ret r H' := by
  unfold mapY at h
  rw [X2] at h
  obtain ⟨x, hx, h⟩ := jc h
  cases x with
  | arr t z zl n g => cases h
  | mp es => exact ⟨es, by unfold Hz; rw [YHeap.abs_get]; show (Option.casesOn ((H.t.get (key b)).map OC) none _ : Option (List (AV × AV))) = _; rw [hx]; rfl, h⟩
  | dead => cases h
theorem ahe {u : AV} {n : Nat} {agg : Bool} {k : AV → CRes} (h : loadY H u n agg k = .ret r H') : ∃ b off l cs v, u = .ptr b off ∧ np H.abs b = some l ∧ sub l off n = some cs ∧ ET agg cs = some v ∧ k v = .ret r H' := by
  obtain ⟨b, off, rfl, h2⟩ := Af h
  obtain ⟨t, z, zl, m, g, hc, h3⟩ := W9 h2
  obtain ⟨hm, h4⟩ := gf h3
  have hm := Nat.le_of_ble_eq_true hm
  cases agg with
  | true =>
    have h5 : Wi t z zl n off (fun cs => k (.agg cs)) = .ret r H' := h4
    obtain ⟨l, hs, _, h⟩ := Ii (m := m) hm h5
    exact ⟨b, off, _, l, _, rfl, hc, hs, rfl, h⟩
  | false =>
    have h5 : ifB (Nat.beq n 1) (ahA t z zl off k) .err = .ret r H' := h4
    obtain ⟨hn, h6⟩ := gf h5
    have hn := Nat.eq_of_beq_eq_true hn
    subst hn
    replace h := ahf h6
    refine ⟨b, off, _, [Mk t z zl off], _, rfl, hc, ?_, rfl, h⟩
    have hm' : off + 1 ≤ m := hm
    rw [oA, if_pos (by rw [List.length_drop, fd]; omega)]
    have hl : off < (cellsOf t z zl m).length := by rw [fd]; omega
    rw [List.drop_eq_getElem_cons hl]
    have h8 := tS t z zl (show off < m by omega)
    rw [List.getElem?_eq_getElem hl] at h8
    have h9 := Option.some.inj h8
    rw [h9]
    rfl
theorem Pk {sz n : Nat} {x : AV} {k : List AV → CRes} (h : TH H sz n x k = .ret r H') : ∃ l, z7 H.abs sz n x = some l ∧ k l = .ret r H' := by
  cases x with
  | slice b off len ext opn =>
    obtain ⟨t, z, zl, m, g, hc, h3⟩ := W9 (b := b) h
    rw [aK] at h3
    obtain ⟨hm, h4⟩ := gf h3
    obtain ⟨l, hs, _, h⟩ := Ii (m := m) (Nat.le_of_ble_eq_true hm) h4
    exact ⟨l, by simp only [z7]; rw [hc]; exact hs, h⟩
  | send b o o' =>
    obtain ⟨hn, h⟩ := gf (b := Nat.beq n 0) h
    exact ⟨[], by simp only [z7]; rw [if_pos (Nat.eq_of_beq_eq_true hn)], h⟩
  | nilslice => exact ⟨[], rfl, h⟩
  | str s =>
    obtain ⟨hn, h⟩ := gf (b := Nat.beq sz 1) h
    exact ⟨_, by simp only [z7]; rw [if_pos (Nat.eq_of_beq_eq_true hn)], h⟩
  | _ => cases h
theorem ajI {t : Tr AV} {z : List AV} {zl off q m : Nat} {new : List AV} {k : Tr AV → List AV → Nat → Nat → CRes} (hm : off + q ≤ m) (h : rowY t z zl off q new k = .ret r H') :
    ∃ old t' z' zl' m', sub (cellsOf t z zl m) off q = some old ∧ cellsOf t' z' zl' m' = old ++ new ∧ k t' z' zl' m' = .ret r H' := by
  unfold rowY at h
  rw [Jw] at h
  split at h
  · rename_i h0
    have h0 := Nat.eq_of_beq_eq_true h0
    subst h0
    obtain ⟨t', h1, h2⟩ := Dk h
    rw [aK, hO] at h1
    refine ⟨cellsOf t z zl q, t', z, zl, _, ?_, ahS h2, h1⟩
    rw [oA, if_pos (by rw [List.length_drop, fd]; omega), List.drop_zero, X6 _ _ _ (by omega)]
  · obtain ⟨old, hs, _, h1⟩ := Ii (m := m) hm h
    rw [gD, aK, hO] at h1
    exact ⟨old, .leaf, old ++ new, _, _, hs, qc _, h1⟩
theorem adY {u : AV} {c : List (AV × AV) → CRes} (h : ahM H u c = .ret r H') : ∃ es, ((∃ b, u = .map b ∧ Hz H.abs b = some es) ∨ (u = .nilmap ∧ es = [])) ∧ c es = .ret r H' := by
  cases u with
  | map b =>
    obtain ⟨es, he, h⟩ := ae1 (b := b) h
    exact ⟨es, .inl ⟨b, rfl, he⟩, h⟩
  | nilmap => exact ⟨[], .inr ⟨rfl, rfl⟩, h⟩
  | _ => cases h
theorem ajw {sz : Nat} {s x : AV} {c : AV → YHeap → CRes} (h : amp H sz s x c = .ret r H') : ∃ v H₁, mE H.abs sz s x = some (v, H₁.abs) ∧ c v H₁ = .ret r H' := by
  obtain ⟨n, hn, h⟩ := jc h
  cases s with
  | nilslice =>
    have h0 : ifB (Nat.beq n 0) (c .nilslice H) (ifB (Nat.ble n wD) (TH H sz n x fun new => d8 (kQ new) fun m => Rq H (.arr .leaf new m m sz) fun d H => c (.slice d 0 n 0 true) H) .err) = .ret r H' := h
    rw [Jw] at h0
    split at h0
    · rename_i hz
      refine ⟨_, H, ?_, h0⟩
      unfold mE; rw [hn]; dsimp only; rw [if_pos (Nat.eq_of_beq_eq_true hz)]
    · rename_i hz
      obtain ⟨hm, h1⟩ := gf h0
      obtain ⟨new, hs, h2⟩ := Pk h1
      rw [aK, zN, hO] at h2
      refine ⟨_, _, ?_, h2⟩
      have hz' : ¬ n = 0 := fun e => hz (by rw [e]; rfl)
      have hm' : ¬ n > wD := by have := Nat.le_of_ble_eq_true hm; omega
      unfold mE; rw [hn]; dsimp only; rw [if_neg hz', if_neg hm', hs]; dsimp only; rw [Heap.newK_eq, YHeap.abs_add]
      show some (AV.slice H.nx 0 n 0 true, H.abs.add (.cells new true sz)) = some (AV.slice H.nx 0 n 0 true, H.abs.add (.cells (cellsOf .leaf new new.length new.length) true sz))
      rw [qc]
  | send b o o' =>
    obtain ⟨hz, h1⟩ := gf (b := Nat.beq n 0) h
    refine ⟨_, H, ?_, h1⟩
    unfold mE; rw [hn]; dsimp only; rw [if_pos (Nat.eq_of_beq_eq_true hz)]
  | slice b off len ext opn =>
    have h0 : ifB (Nat.beq n 0) (c (.slice b off len ext opn) H)
      (ifB (Nat.ble n ext)
      (TH H sz n x fun new => afC H b fun t z zl m g => ifB (Nat.ble (off + (len + n) * sz) m) (d8 (off + len * sz) fun o => Mi new o t fun t => Wy H b (.arr t z zl m g) fun H => d8 (len + n) fun l => d8 (ext - n) fun e => c (.slice b off l e opn) H) .err)
      (ifB (Nat.ble (len + n) wD)
        (d8 (len * sz) fun q => TH H sz n x fun new =>
          ifB opn
            (afC H b fun t z zl m g => ifB (andB (Nat.beq g sz) (Nat.ble (off + (len + ext) * sz) m)) (rowY t z zl off q new fun t z zl m => Wy H b .dead fun H => Rq H (.arr t z zl m sz) fun d H => d8 (len + n) fun l => c (.slice d 0 l 0 true) H) .err)
            (arrY H b fun t z zl m _ => ifB (Nat.ble (off + q) m) (rowY t z zl off q new fun t z zl m => Rq H (.arr t z zl m sz) fun d H => d8 (len + n) fun l => c (.slice d 0 l 0 true) H) .err)) .err)) = .ret r H' := h
    rw [Jw] at h0
    split at h0
    · rename_i hz
      refine ⟨_, H, ?_, h0⟩
      unfold mE; rw [hn]; dsimp only; rw [if_pos (Nat.eq_of_beq_eq_true hz)]
    · rename_i hz
      have hz' : ¬ n = 0 := fun e => hz (by rw [e]; rfl)
      rw [Jw] at h0
      split at h0
      · rename_i he
        have he := Nat.le_of_ble_eq_true he
        obtain ⟨new, hs, h1⟩ := Pk h0
        obtain ⟨t, z, zl, m, g, h1, ho⟩ := NW h1
        obtain ⟨hm, h1⟩ := gf h1
        rw [aK] at h1
        obtain ⟨t', h1, hw⟩ := Dk h1
        rw [H6, aK, aK] at h1
        refine ⟨_, _, ?_, h1⟩
        unfold mE; rw [hn]; dsimp only; rw [if_neg hz', if_pos he, hs]; dsimp only; rw [ho, hO, fd, hm]; dsimp only
        rw [nq, Heap.setK_eq, YHeap.abs_set]
        show some (AV.slice b off (len + n) (ext - n) opn, H.abs.set b (.cells (rt new (cellsOf t z zl m) (off + len * sz)) true g)) = some (AV.slice b off (len + n) (ext - n) opn, H.abs.set b (.cells (cellsOf t' z zl m) true g))
        rw [hw]
      · rename_i he
        have he' : ¬ n ≤ ext := fun e => he (Nat.ble_eq_true_of_le e)
        obtain ⟨hm, h1⟩ := gf h0
        have hm' : ¬ len + n > wD := by have := Nat.le_of_ble_eq_true hm; omega
        rw [aK] at h1
        obtain ⟨new, hs, h2⟩ := Pk h1
        rw [Jw] at h2
        split at h2
        · rename_i hopn
          subst hopn
          obtain ⟨t, z, zl, m, g, h3, ho⟩ := NW h2
          obtain ⟨hg, h3⟩ := gf h3
          rw [bW] at hg
          have hg2 : off + (len + ext) * sz ≤ m := by
            simp only [Bool.and_eq_true] at hg
            exact Nat.le_of_ble_eq_true hg.2
          have hoff : off + len * sz ≤ m := by
            have : len * sz ≤ (len + ext) * sz := Nat.mul_le_mul_right _ (Nat.le_add_right _ _)
            omega
          obtain ⟨old, t', z', zl', m', hsub, hcells, h4⟩ := ajI hoff h3
          rw [H6, zN, aK] at h4
          refine ⟨_, _, ?_, h4⟩
          have hcell : np H.abs b = some (cellsOf t z zl m) := by
            have h8 := ho (β := Option (List AV)) none (fun l _ => some l)
            unfold UX at h8
            unfold np
            cases hb : Nat.blt b H.abs.ro with
            | true => rw [hb] at h8; cases h8
            | false =>
              rw [hb] at h8
              cases hx : H.abs.get b with
              | none => rw [hx] at h8; cases h8
              | some y =>
                rw [hx] at h8
                cases y with
                | cells l rw_ g' =>
                  cases rw_ with
                  | false => cases h8
                  | true => exact h8
                | mp es => cases h8
                | dead => cases h8
          unfold mE; rw [hn]; dsimp only; rw [if_neg hz', if_neg he', if_neg hm', hcell]; dsimp only; rw [hsub]; dsimp only; rw [hs]; dsimp only; rw [if_pos rfl, ho, hO, fd, hg]; dsimp only
          rw [Heap.setK_eq, gD, Heap.newK_eq, Heap.nx_set, YHeap.abs_add, YHeap.abs_set]
          show some (AV.slice H.nx 0 (len + n) 0 true, (H.abs.set b .dead).add (.cells (old ++ new) true sz)) = some (AV.slice H.nx 0 (len + n) 0 true, (H.abs.set b .dead).add (.cells (cellsOf t' z' zl' m') true sz))
          rw [hcells]
        · rename_i hopn
          have hopn' : opn = false := by simpa using hopn
          subst hopn'
          obtain ⟨t, z, zl, m, g, hcell, h3⟩ := W9 h2
          obtain ⟨hq, h3⟩ := gf h3
          obtain ⟨old, t', z', zl', m', hsub, hcells, h4⟩ := ajI (Nat.le_of_ble_eq_true hq) h3
          rw [zN, aK] at h4
          refine ⟨_, _, ?_, h4⟩
          unfold mE; rw [hn]; dsimp only; rw [if_neg hz', if_neg he', if_neg hm', hcell]; dsimp only; rw [hsub]; dsimp only; rw [hs]; dsimp only
          rw [if_neg (by simp), gD, Heap.newK_eq, YHeap.abs_add]
          show some (AV.slice H.nx 0 (len + n) 0 true, H.abs.add (.cells (old ++ new) true sz)) = some (AV.slice H.nx 0 (len + n) 0 true, H.abs.add (.cells (cellsOf t' z' zl' m') true sz))
          rw [hcells]
  | _ => cases h
theorem amL {sz : Nat} {d x : AV} {c : AV → YHeap → CRes} (h : copyY H sz d x c = .ret r H') : ∃ v H₁, VO H.abs sz d x = some (v, H₁.abs) ∧ c v H₁ = .ret r H' := by
  obtain ⟨m, hm, h⟩ := jc h
  obtain ⟨n', hn, h⟩ := jc h
  rw [aK] at h
  obtain ⟨new, hs, h⟩ := Pk h
  cases d with
  | slice b off len ext opn =>
    have h0 : ifB (Nat.beq (min n' m) 0) (c (.int .i64 0) H) (afC H b fun t z zl q g => ifB (Nat.ble (off + min n' m * sz) q) (Mi new off t fun t => Wy H b (.arr t z zl q g) fun H => c (.int .i64 (.ofNat (min n' m))) H) .err) = .ret r H' := h
    rw [Jw] at h0
    split at h0
    · rename_i hz
      refine ⟨_, H, ?_, h0⟩
      unfold VO; rw [hm, hn]; dsimp only; rw [hs]; dsimp only; rw [if_pos (Nat.eq_of_beq_eq_true hz)]
    · rename_i hz
      obtain ⟨t, z, zl, q, g, h1, ho⟩ := NW h0
      obtain ⟨hq, h1⟩ := gf h1
      obtain ⟨t', h1, hw⟩ := Dk h1
      rw [H6] at h1
      refine ⟨_, _, ?_, h1⟩
      unfold VO; rw [hm, hn]; dsimp only; rw [hs]; dsimp only; rw [if_neg (fun e => hz (by rw [e]; rfl)), ho, hO, fd, hq]; dsimp only
      rw [nq, Heap.setK_eq, YHeap.abs_set]
      show some (AV.int .i64 (.ofNat (min n' m)), H.abs.set b (.cells (rt new (cellsOf t z zl q) off) true g)) = some (AV.int .i64 (.ofNat (min n' m)), H.abs.set b (.cells (cellsOf t' z zl q) true g))
      rw [hw]
  | nilslice => exact ⟨_, H, by unfold VO; rw [hm, hn]; dsimp only; rw [hs], h⟩
  | send b o o' => exact ⟨_, H, by unfold VO; rw [hm, hn]; dsimp only; rw [hs], h⟩
  | _ => cases h
theorem alC {z : List AV} {x : AV} {c : YHeap → CRes} (h : clearY H z x c = .ret r H') : ∃ H₁, ID H.abs z x = some (.undef, H₁.abs) ∧ c H₁ = .ret r H' := by
  cases x with
  | slice b off len ext opn =>
    have h0 : ifB (Nat.beq len 0) (c H) (afC H b fun t z' zl q g => ifB (Nat.ble (off + len * kQ z) q) (Mi (CT z len) off t fun t => Wy H b (.arr t z' zl q g) c) .err) = .ret r H' := h
    rw [Jw] at h0
    split at h0
    · rename_i hz
      exact ⟨H, by unfold ID; dsimp only; rw [if_pos (Nat.eq_of_beq_eq_true hz)], h0⟩
    · rename_i hz
      obtain ⟨t, z', zl, q, g, h1, ho⟩ := NW h0
      obtain ⟨hq, h1⟩ := gf h1
      obtain ⟨t', h1, hw⟩ := Dk h1
      rw [H6] at h1
      refine ⟨_, ?_, h1⟩
      unfold ID; dsimp only; rw [if_neg (fun e => hz (by rw [e]; rfl)), ho, hO (cellsOf t z' zl q), fd, hq]; dsimp only
      rw [nq, Heap.setK_eq, YHeap.abs_set]
      show some (AV.undef, H.abs.set b (.cells (rt (CT z len) (cellsOf t z' zl q) off) true g)) = some (AV.undef, H.abs.set b (.cells (cellsOf t' z' zl q) true g))
      rw [hw]
  | nilslice => exact ⟨H, rfl, h⟩
  | nilmap => exact ⟨H, rfl, h⟩
  | send b o o' => exact ⟨H, rfl, h⟩
  | _ => cases h
theorem Zu {o : AOp} {tm : Tr AV} {k : AV → YHeap → CRes} (h : opY o tm H k = .ret r H') : ∃ v H₁, opF o tm H.abs = some (v, H₁.abs) ∧ k v H₁ = .ret r H' := by
  cases o with
  | mov x =>
    obtain ⟨v, hv, h⟩ := eY h
    exact ⟨v, H, by simp only [opF]; rw [hv], h⟩
  | pick c a b =>
    obtain ⟨v, hv, h⟩ := eY h
    obtain ⟨t, rfl, hz⟩ := DT h
    replace h := hz
    clear hz
    cases t with
    | true =>
      obtain ⟨u, hu, h⟩ := eY (x := a) h
      exact ⟨u, H, by simp only [opF]; rw [hv]; dsimp only; rw [hu], h⟩
    | false =>
      obtain ⟨u, hu, h⟩ := eY (x := b) h
      exact ⟨u, H, by simp only [opF]; rw [hv]; dsimp only; rw [hu], h⟩
  | not x =>
    obtain ⟨v, hv, h⟩ := eY h
    obtain ⟨t, rfl, hz⟩ := DT h
    replace h := hz
    clear hz
    refine ⟨_, H, ?_, zk h⟩
    simp only [opF]; rw [hv]; cases t <;> rfl
  | bin op x y =>
    obtain ⟨u, hu, h⟩ := eY h
    obtain ⟨v, hv, h⟩ := eY h
    obtain ⟨w, hw, h⟩ := binX_inv h
    exact ⟨w, H, by simp only [opF]; rw [hu]; dsimp only; rw [hv]; dsimp only; rw [hw], h⟩
  | eq e neg x y =>
    obtain ⟨u, hu, h⟩ := eY h
    obtain ⟨v, hv, h⟩ := eY h
    have fin : ∀ b, eqK e u v = some b → k (.bool (SB neg b)) H = .ret r H' → ∃ v H₁, opF (.eq e neg x y) tm H.abs = some (v, H₁.abs) ∧ k v H₁ = .ret r H' := by
      intro b hb hk
      refine ⟨_, H, ?_, hk⟩
      simp only [opF]; rw [hu]; dsimp only; rw [hv]; dsimp only; rw [hb]; dsimp only; rw [cb]
    cases e with
    | nil n =>
      have h0 : UG (.nil n) u v (fun r => fbX (SB neg r) fun r => k r H) = .ret r H' := h
      obtain ⟨b, hb, h⟩ := Xx h0
      exact fin b hb (zk h)
    | bool =>
      obtain ⟨a, rfl, hz⟩ := DT (v := u) h
      replace h := hz
      clear hz
      obtain ⟨b, rfl, hz⟩ := DT (v := v) h
      replace h := hz
      clear hz
      exact fin (eqBB a b) (by rw [b8]; rfl) (zk h)
    | plain ks =>
      have h0 : UG (.plain ks) u v (fun r => fbX (SB neg r) fun r => k r H) = .ret r H' := h
      obtain ⟨b, hb, h⟩ := Xx h0
      exact fin b hb (zk h)
  | conv q x =>
    obtain ⟨u, hu, h⟩ := eY h
    obtain ⟨_, n, rfl, hz⟩ := Ad h
    replace h := hz
    clear hz
    rw [bC] at h
    refine ⟨_, H, ?_, h⟩
    simp only [opF]; rw [hu]; exact nc _ _ _
  | alloc z =>
    have h' : d8 (kQ z) (fun n => Rq H (.arr .leaf z n n 0) fun b H' => k (.ptr b 0) H') = .ret r H' := h
    rw [aK, zN, hO] at h'
    refine ⟨_, _, ?_, h'⟩
    simp only [opF]; rw [Heap.newK_eq, YHeap.abs_add]
    show some (AV.ptr H.nx 0, H.abs.add (.cells z true 0)) = some (AV.ptr H.nx 0, H.abs.add (.cells (cellsOf .leaf z z.length z.length) true 0))
    rw [qc]
  | box x =>
    obtain ⟨u, hu, h⟩ := eY h
    rcases OI h with ⟨l, rfl, h5⟩ | ⟨h1, h2, h3, h⟩
    · rw [aK, zN, hO] at h5
      refine ⟨_, _, ?_, h5⟩
      simp only [opF]; rw [hu]; dsimp only [AZ]; rw [Heap.newK_eq, YHeap.abs_add]
      show some (AV.ptr H.nx 0, H.abs.add (.cells l true 0)) = some (AV.ptr H.nx 0, H.abs.add (.cells (cellsOf .leaf l l.length l.length) true 0))
      rw [qc]
    · rw [zN] at h
      refine ⟨_, _, ?_, h⟩
      simp only [opF]; rw [hu]; dsimp only; rw [h3, h2]; dsimp only; rw [Heap.newK_eq, YHeap.abs_add]
      show some (AV.ptr H.nx 0, H.abs.add (.cells [u] true 0)) = some (AV.ptr H.nx 0, H.abs.add (.cells (cellsOf .leaf [u] [u].length [u].length) true 0))
      rw [qc]
  | build z parts =>
    obtain ⟨ps, hp, h⟩ := adW h
    obtain ⟨l, hl, h⟩ := Ie h
    exact ⟨_, H, by simp only [opF]; rw [hp, hl], h⟩
  | buildSlice len z parts =>
    obtain ⟨ps, hp, h⟩ := adW h
    obtain ⟨l, hl, h⟩ := Ie h
    rw [aK, zN, hO] at h
    refine ⟨_, _, ?_, h⟩
    simp only [opF]; rw [hp, hl]; dsimp only; rw [Heap.newK_eq, YHeap.abs_add]
    show some (AV.slice H.nx 0 len 0 false, H.abs.add (.cells l true 0)) = some (AV.slice H.nx 0 len 0 false, H.abs.add (.cells (cellsOf .leaf l l.length l.length) true 0))
    rw [qc]
  | load n agg x =>
    obtain ⟨u, hu, h⟩ := eY h
    obtain ⟨b, off, l, cs, v, rfl, hl, hc, hp, h⟩ := ahe h
    exact ⟨v, H, by simp only [opF]; rw [hu]; dsimp only; rw [hl]; dsimp only; rw [hc]; dsimp only; rw [hp], h⟩
  | store n a x =>
    obtain ⟨a', ha, h⟩ := eY h
    obtain ⟨u, hu, h⟩ := eY h
    obtain ⟨b, off, rfl, h⟩ := Af h
    obtain ⟨t, z, zl, m, g, h, ho⟩ := NW h
    obtain ⟨hm, h⟩ := gf h
    have hm : off + n ≤ m := Nat.le_of_ble_eq_true hm
    have fin : ∀ t', AZ u = true → kQ u.cells = n → cellsOf t' z zl m = rt u.cells (cellsOf t z zl m) off → k .undef (H.set b (.arr t' z zl m g)) = .ret r H' → ∃ v H₁, opF (.store n a x) tm H.abs = some (v, H₁.abs) ∧ k v H₁ = .ret r H' := by
      intro t' e1 e2 e3 e4
      refine ⟨_, _, ?_, e4⟩
      simp only [opF]; rw [ha]; dsimp only; rw [hu]; dsimp only; rw [ho]
      have h2 : (AZ u && kQ u.cells == n && Nat.ble (off + n) (kQ (cellsOf t z zl m))) = true := by
        rw [e1, e2, hO (cellsOf t z zl m), fd]; simp [hm]
      rw [h2]; dsimp only; rw [nq, Heap.setK_eq, YHeap.abs_set]
      show some (AV.undef, H.abs.set b (.cells (rt u.cells (cellsOf t z zl m) off) true g)) = some (AV.undef, H.abs.set b (.cells (cellsOf t' z zl m) true g))
      rw [e3]
    rcases OI h with ⟨cs, rfl, h5⟩ | ⟨h1, h2, h3, h⟩
    · obtain ⟨hn, h⟩ := gf h5
      have hn := Nat.eq_of_beq_eq_true hn
      obtain ⟨t', h, h6⟩ := Dk h
      rw [H6] at h
      exact fin t' rfl hn (h6 z zl m) h
    · obtain ⟨hn, h⟩ := gf h
      have hn := Nat.eq_of_beq_eq_true hn
      rw [KI, H6] at h
      refine fin _ h3 (by rw [h2]; exact hn) ?_ h
      rw [h2, abT]; rfl
  | nilchk x =>
    obtain ⟨u, hu, h⟩ := eY h
    obtain ⟨h1, h⟩ := abK h
    refine ⟨u, H, ?_, h⟩
    simp only [opF]; rw [hu]
    rcases h1 with ⟨b, o, rfl⟩ | ⟨f, a, c, rfl⟩ <;> rfl
  | fa d x =>
    obtain ⟨u, hu, h⟩ := eY h
    obtain ⟨b, off, rfl, hz⟩ := Af h
    replace h := hz
    clear hz
    rw [aK] at h
    exact ⟨_, H, by simp only [opF]; rw [hu]; rfl, h⟩
  | iaS sz x i =>
    obtain ⟨u, hu, h⟩ := eY h
    obtain ⟨v, hv, h⟩ := eY h
    obtain ⟨_, i, rfl, hz⟩ := Ad h
    replace h := hz
    clear hz
    obtain ⟨b, off, l, e, p, rfl, hz⟩ := ahc h
    replace h := hz
    clear hz
    obtain ⟨j, rfl, hz⟩ := SD h
    replace h := hz
    clear hz
    obtain ⟨h1, h⟩ := gf h
    rw [aK] at h
    exact ⟨_, H, by simp only [opF]; rw [hu]; dsimp only; rw [hv]; dsimp only; rw [oG, h1]; rfl, h⟩
  | iaA sz len x i =>
    obtain ⟨u, hu, h⟩ := eY h
    obtain ⟨v, hv, h⟩ := eY h
    obtain ⟨_, i, rfl, hz⟩ := Ad h
    replace h := hz
    clear hz
    obtain ⟨b, off, rfl, hz⟩ := Af h
    replace h := hz
    clear hz
    obtain ⟨j, rfl, hz⟩ := SD h
    replace h := hz
    clear hz
    obtain ⟨h1, h⟩ := gf h
    rw [aK] at h
    exact ⟨_, H, by simp only [opF]; rw [hu]; dsimp only; rw [hv]; dsimp only; rw [oG, h1]; rfl, h⟩
  | idxA sz len agg x i =>
    obtain ⟨u, hu, h⟩ := eY h
    obtain ⟨v, hv, h⟩ := eY h
    obtain ⟨_, i, rfl, hz⟩ := Ad h
    replace h := hz
    clear hz
    obtain ⟨cs, rfl, hz⟩ := ahn h
    replace h := hz
    clear hz
    obtain ⟨j, rfl, hz⟩ := SD h
    replace h := hz
    clear hz
    obtain ⟨h1, h⟩ := gf h
    rw [aK] at h
    obtain ⟨l, hl, h⟩ := jc h
    obtain ⟨w, hw, h⟩ := jc h
    have hl' : sub cs (j * sz) sz = some l := hl
    exact ⟨w, H, by simp only [opF]; rw [hu]; dsimp only; rw [hv]; dsimp only; rw [oG, h1]; dsimp only; rw [hl']; dsimp only; rw [hw], h⟩
  | idxS x i =>
    obtain ⟨u, hu, h⟩ := eY h
    obtain ⟨v, hv, h⟩ := eY h
    obtain ⟨s, rfl, hz⟩ := Yb h
    replace h := hz
    clear hz
    obtain ⟨_, i, rfl, hz⟩ := Ad h
    replace h := hz
    clear hz
    obtain ⟨j, rfl, hz⟩ := SD h
    replace h := hz
    clear hz
    obtain ⟨c, hc, h⟩ := jc h
    rw [aK] at h
    exact ⟨_, H, by simp only [opF]; rw [hu]; dsimp only; rw [hv]; dsimp only; rw [oG, hc]; rfl, h⟩
  | sl sk x lo hi mx =>
    obtain ⟨u, hu, h⟩ := eY h
    obtain ⟨lo', h1, h⟩ := adP h
    obtain ⟨hi', h2, h⟩ := adP h
    obtain ⟨mx', h3, h⟩ := adP h
    obtain ⟨v, hv, h⟩ := jc h
    rw [bh] at h
    exact ⟨v, H, by simp only [opF]; rw [hu]; dsimp only; rw [al8 h1 h2 h3, hv], h⟩
  | ext ix x =>
    obtain ⟨u, hu, h⟩ := eY h
    obtain ⟨vs, v, rfl, hv, hz⟩ := extK_inv h
    replace h := hz
    clear hz
    exact ⟨v, H, by simp only [opF]; rw [hu]; dsimp only; rw [hv], h⟩
  | mkfunc f a c =>
    obtain ⟨va, ha, h⟩ := Ng h
    obtain ⟨cs, hc, h⟩ := Ng h
    exact ⟨_, H, by simp only [opF]; rw [ha]; dsimp only; rw [hc], h⟩
  | mkmap =>
    have h' : Rq H (.mp []) (fun b H' => k (.map b) H') = .ret r H' := h
    rw [zN] at h'
    exact ⟨_, _, by simp only [opF]; rw [Heap.newK_eq, YHeap.abs_add]; rfl, h'⟩
  | mk z len cap =>
    obtain ⟨u, hu, h⟩ := eY h
    obtain ⟨v, hv, h⟩ := eY h
    obtain ⟨_, l, rfl, hz⟩ := Ad h
    replace h := hz
    clear hz
    obtain ⟨_, c, rfl, hz⟩ := Ad h
    replace h := hz
    clear hz
    obtain ⟨l, rfl, hz⟩ := SD h
    replace h := hz
    clear hz
    obtain ⟨c, rfl, hz⟩ := SD h
    replace h := hz
    clear hz
    obtain ⟨h1, h⟩ := gf h
    rw [aK, aK, zN, aK, hO] at h
    rw [bW] at h1
    refine ⟨_, _, ?_, h⟩
    simp only [opF]; rw [hu]; dsimp only; rw [hv]; dsimp only; rw [oG, oG, h1]; dsimp only; rw [Heap.newK_eq, YHeap.abs_add]
    show some (AV.slice H.nx 0 l (c - l) false, H.abs.add (.cells (CT z c) true 0)) = some (AV.slice H.nx 0 l (c - l) false, H.abs.add (.cells (cellsOf .leaf z z.length (c * z.length)) true 0))
    rw [aiL]
  | lookup kk z ok m key =>
    obtain ⟨u, hu, h⟩ := eY h
    obtain ⟨v, hv, h⟩ := eY h
    obtain ⟨es, hes, h⟩ := adY h
    obtain ⟨e1, he, h⟩ := jc h
    obtain ⟨w, hw, h⟩ := jc h
    have pre : ∀ {β : AV × Heap}, (Option.casesOn w (some (if ok then .tuple [z, .bool false] else z, H.abs)) fun x => some (if ok then .tuple [x, .bool true] else x, H.abs) : Option (AV × Heap)) = some β → opF (.lookup kk z ok m key) tm H.abs = some β := by
      intro β hβ
      simp only [opF]; rw [hu]; dsimp only; rw [hv]
      rcases hes with ⟨b, rfl, hes⟩ | ⟨rfl, rfl⟩
      · dsimp only; rw [hes]; dsimp only; rw [he]; dsimp only; rw [hw]; exact hβ
      · dsimp only; rw [he]; dsimp only; rw [hw]; exact hβ
    cases w with
    | none => cases ok <;> exact ⟨_, H, pre rfl, h⟩
    | some x => cases ok <;> exact ⟨_, H, pre rfl, h⟩
  | mapset kk m key x =>
    obtain ⟨u, hu, h⟩ := eY h
    obtain ⟨v, hv, h⟩ := eY h
    obtain ⟨y, hy, h⟩ := eY h
    obtain ⟨b, rfl, hz⟩ := agW h
    replace h := hz
    clear hz
    obtain ⟨h1, h⟩ := y0 h
    obtain ⟨es, hes, h⟩ := ae1 h
    obtain ⟨e1, he, h⟩ := jc h
    obtain ⟨es', hp, h⟩ := jc h
    rw [H6] at h
    have h1 : Nat.blt b H.abs.ro = false := h1
    exact ⟨_, _, by simp only [opF]; rw [hu]; dsimp only; rw [hv]; dsimp only; rw [hy]; dsimp only; rw [h1]; dsimp only; rw [hes]; dsimp only; rw [he]; dsimp only; rw [hp]; dsimp only; rw [Heap.setK_eq, YHeap.abs_set]; rfl, h⟩
  | mapdel kk m key =>
    obtain ⟨u, hu, h⟩ := eY h
    obtain ⟨v, hv, h⟩ := eY h
    obtain ⟨e1, he, h2⟩ := jc h
    cases u with
    | map b =>
      have h3 : ifB (Nat.blt b H.ro) .err (mapY H b fun es => oC (delF kk v es) fun es' => Wy H b (.mp es') fun H' => k .undef H') = .ret r H' := h2
      obtain ⟨h1, h3⟩ := y0 h3
      obtain ⟨es, hes, h3⟩ := ae1 h3
      obtain ⟨es', hp, h3⟩ := jc h3
      rw [H6] at h3
      have h1 : Nat.blt b H.abs.ro = false := h1
      exact ⟨_, _, by simp only [opF]; rw [hu]; dsimp only; rw [hv]; dsimp only; rw [he]; dsimp only; rw [h1]; dsimp only; rw [hes]; dsimp only; rw [hp]; dsimp only; rw [Heap.setK_eq, YHeap.abs_set]; rfl, h3⟩
    | nilmap => exact ⟨_, H, by simp only [opF]; rw [hu]; dsimp only; rw [hv]; dsimp only; rw [he], h2⟩
    | _ => cases h2
  | len lk x =>
    obtain ⟨u, hu, h⟩ := eY h
    cases lk with
    | str =>
      obtain ⟨s, rfl, hz⟩ := Yb h
      replace h := hz
      clear hz
      have h' : d8 (kQ s) (fun n => k (.int .i64 (.ofNat n)) H) = .ret r H' := h
      rw [aK] at h'
      exact ⟨_, H, by simp only [opF]; rw [hu], h'⟩
    | arr n => exact ⟨_, H, by simp only [opF]; rw [hu]; try rfl, h⟩
    | sl =>
      have h' : ju u (fun n => k (.int .i64 n) H) = .ret r H' := h
      cases u <;> first | exact ⟨_, H, by simp only [opF]; rw [hu]; try rfl, h'⟩ | cases h'
    | mp =>
      have h' : ahM H u (fun es => d8 (kQ es) fun n => k (.int .i64 (.ofNat n)) H) = .ret r H' := h
      obtain ⟨es, hes, h2⟩ := adY h'
      rw [aK] at h2
      rcases hes with ⟨b, rfl, hes⟩ | ⟨rfl, rfl⟩
      · exact ⟨_, H, by simp only [opF]; rw [hu]; dsimp only; rw [hes], h2⟩
      · exact ⟨_, H, by simp only [opF]; rw [hu]; try rfl, h2⟩
  | minmax mx xs =>
    obtain ⟨vs, hv, h⟩ := Ng h
    cases vs with
    | nil => cases h
    | cons v vs =>
      obtain ⟨w, hw, h⟩ := jc h
      exact ⟨w, H, by simp only [opF]; rw [hv]; dsimp only; rw [hw], h⟩
  | append sz s x =>
    obtain ⟨u, hu, h⟩ := eY h
    obtain ⟨v, hv, h⟩ := eY h
    obtain ⟨w, H₁, hw, h⟩ := ajw h
    exact ⟨w, H₁, by simp only [opF]; rw [hu]; dsimp only; rw [hv]; exact hw, h⟩
  | copy sz d x =>
    obtain ⟨u, hu, h⟩ := eY h
    obtain ⟨v, hv, h⟩ := eY h
    obtain ⟨w, H₁, hw, h⟩ := amL h
    exact ⟨w, H₁, by simp only [opF]; rw [hu]; dsimp only; rw [hv]; exact hw, h⟩
  | clear z x =>
    obtain ⟨u, hu, h⟩ := eY h
    obtain ⟨H₁, hw, h⟩ := alC h
    exact ⟨_, H₁, by simp only [opF]; rw [hu]; exact hw, h⟩
end
end Go.Ai
