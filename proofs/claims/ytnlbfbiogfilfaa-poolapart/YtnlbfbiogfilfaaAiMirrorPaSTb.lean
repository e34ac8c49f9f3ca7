/- An abstract heap that mirrors a world: of each place in it the plain cells from there on, to be read; slices that have no place by themselves. -/
import Derived.Test.YtnlbfbiogfilfaaUApartFlat
import Derived.Test.YtnlbfbiogfilfaaAiKCfg
import Derived.Test.YtnlbfbiogfilfaaAiCpsRun
import Derived.WalkKit
import Derived.ProofKit
import Derived.OpenShut
import Derived.JoinedCond
import Derived.WideKeyArgs
import Derived.Shelf.Lays2
import Derived.Shelf.Spec.SlicesInsert
import Derived.Shelf.Spec.SlicesInsertGrow
import Derived.Test.YtnlbfbiogfilfaaProg
import Derived.Test.YtnlbfbiogfilfaaAiYRunSh
import Derived.Test.YtnlbfbiogfilfaaAiXPaSPrims
import Derived.KernelRfl
set_option linter.all false
namespace Go.Ai
def aaO (D : Wd) : Mp := fun i => if i < D.K * D.N then ⟨i / D.K, i % D.K, 0, none⟩ else match D.odds[i - D.K * D.N]? with
  | some a => ⟨a.block, a.off, 0, a.spot⟩
  | none => ⟨0, 0, 0, none⟩
def Wd.top (D : Wd) : Nat := D.K * D.N + D.odds.length
def Rz (D : Wd) : Value → Option AV
  | .bool b => some (.bool b)
  | .int k n => some (.int k n)
  | .slice none 0 0 => some .nilslice
  | .slice (some a) len cap => if cap = 0 then (if len = 0 ∧ a ∈ D.odds then some (.slice (D.K * D.N + D.odds.idxOf a) 0 0 0 false) else none)
    else if (a.off < D.K ∧ a.block < D.N) ∧ a.spot = none ∧ len ≤ cap then some (.slice (D.K * a.block + a.off) 0 len (cap - len) false) else none
  | _ => none
theorem ah6 {K N b off : Nat} (h1 : off < K) (h2 : b < N) : K * b + off < K * N := by
  have := Nat.mul_le_mul_left K (show b + 1 ≤ N by omega)
  rw [Nat.mul_add] at this
  omega
theorem amk {K b off : Nat} (h : off < K) : (K * b + off) / K = b := by rw [Nat.mul_add_div (by omega), Nat.div_eq_of_lt h, Nat.add_zero]
theorem amr {K b off : Nat} (h : off < K) : (K * b + off) % K = off := by rw [Nat.mul_add_mod, Nat.mod_eq_of_lt h]
theorem win_at {D : Wd} {b off : Nat} (h1 : off < D.K) (h2 : b < D.N) : aaO D (D.K * b + off) = ⟨b, off, 0, none⟩ := by
  unfold aaO
  rw [if_pos (ah6 h1 h2), amk h1, amr h1]
theorem win_odd {D : Wd} {a : Addr} (h : a ∈ D.odds) : aaO D (D.K * D.N + D.odds.idxOf a) = ⟨a.block, a.off, 0, a.spot⟩ := by
  unfold aaO
  rw [if_neg (by omega), Nat.add_sub_cancel_left, List.getElem?_eq_getElem (List.idxOf_lt_length_iff.2 h), List.getElem_idxOf]
theorem alY {D : Wd} {v : Value} {a : AV} (h : Rz D v = some a) : aZ (aaO D) a = v ∧ a.isCell = true ∧ okv (· < D.top) a := by
  unfold Rz at h
  split at h
  · cases h; exact ⟨by simp [aZ], rfl, by simp [okv]⟩
  · cases h; exact ⟨by simp [aZ], rfl, by simp [okv]⟩
  · cases h; exact ⟨by simp [aZ], rfl, by simp [okv]⟩
  · split at h
    · rename_i hc
      subst hc
      split at h
      · rename_i hb
        obtain ⟨rfl, hb⟩ := hb
        cases h
        refine ⟨?_, rfl, ?_⟩
        · simp [aZ, win_odd hb, Loc.at]
        · have := List.idxOf_lt_length_iff.2 hb
          simp only [okv, Wd.top]; omega
      · cases h
    · split at h
      · rename_i addr _ _ _ hb
        obtain ⟨⟨h1, h2⟩, h3, h4⟩ := hb
        obtain ⟨b, off, spot⟩ := addr
        dsimp only at h1 h2 h3
        subst h3
        cases h
        refine ⟨?_, rfl, ?_⟩
        · simp [aZ, win_at h1 h2]; omega
        · have := ah6 h1 h2
          simp only [okv, Wd.top]; omega
      · cases h
  · cases h
noncomputable def aeg (f : Nat → Option Blk) : Nat → Tr Blk
  | 0 => .leaf
  | n + 1 => match f n with
    | some x => (aeg f n).set (key n) x
    | none => aeg f n
theorem ag8 (f : Nat → Option Blk) : ∀ n b, (aeg f n).get (key b) = if b < n then f b else none
  | 0, b => by rw [aeg, Tr.get_leaf, if_neg (by omega)]
  | n + 1, b => by
    have ih := ag8 f n b
    cases hf : f n with
    | none =>
      simp only [aeg, hf]
      rw [ih]
      by_cases h : b < n
      · rw [if_pos h, if_pos (by omega)]
      · rw [if_neg h]
        by_cases e : b = n
        · subst e; rw [if_pos (by omega), hf]
        · rw [if_neg (by omega)]
    | some x =>
      simp only [aeg, hf]
      by_cases e : n = b
      · subst e; rw [Tr.get_set_same, if_pos (by omega), hf]
      · rw [Tr.get_set_other (fun k => e (wh k)), ih]
        by_cases h : b < n
        · rw [if_pos h, if_pos (by omega)]
        · rw [if_neg h, if_neg (by omega)]
def wN (f : Value → Option AV) : List Value → List AV
  | [] => []
  | x :: t => match f x with
    | some a => a :: wN f t
    | none => []
theorem abu {f : Value → Option AV} : ∀ {l : List Value} (i : Nat) (v : AV), (wN f l)[i]? = some v → ∃ x, l[i]? = some x ∧ f x = some v
  | [], i, v, h => by simp [wN] at h
  | x :: t, i, v, h => by
    unfold wN at h
    split at h
    · rename_i a ha
      cases i with
      | zero => simp at h; subst h; exact ⟨x, by simp, ha⟩
      | succ i =>
        simp at h
        obtain ⟨y, h1, h2⟩ := abu i v h
        exact ⟨y, by simpa using h1, h2⟩
    · simp at h
theorem Yk {f : Value → Option AV} : ∀ {l : List Value} (m : Nat), (∀ p, p < m → ∃ x a, l[p]? = some x ∧ f x = some a) → ∀ p, p < m → (wN f l)[p]? = l[p]?.bind f
  | [], m, h, p, hp => by
    obtain ⟨x, a, h1, _⟩ := h p hp
    simp at h1
  | x :: t, m, h, p, hp => by
    obtain ⟨x', a, h1, h2⟩ := h 0 (by omega)
    simp at h1
    subst h1
    unfold wN
    rw [h2]
    cases p with
    | zero => simp [h2]
    | succ p =>
      simp only [List.getElem?_cons_succ]
      exact Yk (m - 1) (fun q hq => by
        obtain ⟨y, b, h3, h4⟩ := h (q + 1) (by omega)
        exact ⟨y, b, by simpa using h3, h4⟩) p (by omega)
def mirB (D : Wd) (w : World) (i : Nat) : Option Blk := match w.heap[i / D.K]? with
  | some (.cells c _ _) => some (.cells (wN (Rz D) (c.toList.drop (i % D.K))) false 0)
  | _ => none
noncomputable def wI (D : Wd) (w : World) : Heap := ⟨aeg (mirB D w) (D.K * D.N), D.top, D.top⟩
theorem Xf (D : Wd) (w : World) (b : Nat) : (wI D w).get b = if b < D.K * D.N then mirB D w b else none := ag8 _ _ _
theorem ahg (D : Wd) (w : World) : (wI D w).ro ≤ (wI D w).nx := Nat.le_refl _
theorem WQ {D : Wd} {w : World} {b : Nat} {x : Blk} (h : (wI D w).get b = some x) : b < D.K * D.N ∧ ∃ c e fr, w.heap[b / D.K]? = some (.cells c e fr) ∧ x = .cells (wN (Rz D) (c.toList.drop (b % D.K))) false 0 := by
  rw [Xf] at h
  split at h
  · rename_i hb
    unfold mirB at h
    split at h
    · rename_i c e fr hc
      cases h
      exact ⟨hb, c, e, fr, hc, rfl⟩
    · cases h
  · cases h
theorem alV (D : Wd) (w : World) : Rel (aaO D) (· < D.top) (wI D w) w := by
  refine ⟨fun b hb => hb, fun b hb => ?_, fun b c _ _ _ hw _ => ?_⟩
  · cases hx : (wI D w).get b with
    | none => trivial
    | some x =>
      obtain ⟨h0, c, e, fr, h1, rfl⟩ := WQ hx
      have hlt : b / D.K < w.heap.size := by
        rcases Nat.lt_or_ge (b / D.K) w.heap.size with h | h
        · exact h
        · rw [Array.getElem?_eq_none h] at h1; cases h1
      have hM : aaO D b = ⟨b / D.K, b % D.K, 0, none⟩ := by unfold aaO; rw [if_pos h0]
      rw [hM]
      refine ⟨fun i v hv => ?_, fun h => (by cases h), hlt, fun h => (by cases h), fun h => (h rfl).elim, rfl⟩
      obtain ⟨y, h5, h6⟩ := abu i v hv
      obtain ⟨h7, h8, h9⟩ := alY h6
      refine ⟨?_, h8, h9⟩
      unfold World.cell?
      show (match w.heap[b / D.K]? with | some (.cells c _ _) => _ | _ => none) = _
      rw [h1]
      simp only [Option.isSome_none, Bool.false_eq_true, if_false]
      rw [List.getElem?_drop] at h5
      rw [← Array.getElem?_toList, h5, h7]
  · exfalso
    cases hx : (wI D w).get b with
    | none => rw [hx] at hw; exact hw
    | some x =>
      obtain ⟨_, _, _, _, _, rfl⟩ := WQ hx
      rw [hx] at hw
      cases hw
theorem amH (D : Wd) (w : World) : HpOk (wI D w) := by
  refine ⟨Nat.le_refl _, fun b hb => ?_⟩
  by_cases h : b < D.top
  · exact h
  · rw [Xf, if_neg (by unfold Wd.top at h; omega)] at hb
    exact hb.1.elim
def RG (h : Heap) (K : Nat) : Kds → List AV → Prop
  | .nil, [] => True
  | .bool r, v :: t => (∃ b, v = .bool b) ∧ RG h K r t
  | .int k r, v :: t => (∃ n, v = .int k n ∧ k.min ≤ n ∧ n ≤ k.max) ∧ RG h K r t
  | .slice e r, v :: t => (v.shut = true ∧ ∃ n f, n ≤ K ∧ SlAt h v e.len n f ∧ ∀ i, i < n → RG h K e (f i)) ∧ RG h K r t
  | _, _ => False
theorem Uj {w : World} {D : Wd} : ∀ {k : Kds} {l : List Value}, HasL w D k l → ∃ us, l.map (Rz D) = us.map some ∧ RG (wI D w) D.K k us
  | .nil, [], _ => ⟨[], rfl, trivial⟩
  | .bool r, v :: t, h => by
    obtain ⟨⟨b, rfl⟩, h2⟩ := h
    obtain ⟨us, h3, h4⟩ := Uj (k := r) h2
    exact ⟨.bool b :: us, by simp [Rz, h3], ⟨b, rfl⟩, h4⟩
  | .int q r, v :: t, h => by
    obtain ⟨⟨n, rfl, h1⟩, h2⟩ := h
    obtain ⟨us, h3, h4⟩ := Uj (k := r) h2
    exact ⟨.int q n :: us, by simp [Rz, h3], ⟨n, rfl, h1⟩, h4⟩
  | .slice e r, v :: t, h => by
    obtain ⟨h1, h2⟩ := h
    obtain ⟨us, h3, h4⟩ := Uj (k := r) h2
    rcases h1 with rfl | ⟨a, h1, rfl⟩ | ⟨b, off, len, cap, rfl, g1, g2, ⟨g3, hz⟩, g4, g5, g6, g7⟩
    · exact ⟨.nilslice :: us, by simp [Rz, h3], ⟨rfl, 0, fun _ => [], by omega, ⟨by omega, .inl ⟨rfl, rfl⟩⟩, fun i hi => by omega⟩, h4⟩
    · refine ⟨.slice (D.K * D.N + D.odds.idxOf a) 0 0 0 false :: us, by simp [Rz, h1, h3], ⟨rfl, 0, fun _ => [], by omega, ⟨by omega, .inr ⟨_, _, _, _, rfl, fun h => by omega⟩⟩, fun i hi => by omega⟩, h4⟩
    ·
      have hat : ∀ i, i < cap → ∃ (cs : List Value) (us' : List AV), (∀ j, j < e.len → w.cell? ⟨b, off + i * e.len + j, none⟩ = cs[j]?) ∧ cs.length = e.len ∧ cs.map (Rz D) = us'.map some ∧ RG (wI D w) D.K e us' := by
        intro i hi
        obtain ⟨cs, k1, k2⟩ := g7 i hi
        obtain ⟨us', k3, k4⟩ := Uj (k := e) k2
        exact ⟨cs, us', k1, k2.length, k3, k4⟩
      have hA : Rz D (.slice (some ⟨b, off, none⟩) len cap) = some (.slice (D.K * b + off) 0 len (cap - len) false) := by
        unfold Rz
        simp only [if_neg (show ¬ cap = 0 by omega)]
        rw [if_pos ⟨⟨g4, g5⟩, trivial, g1⟩]
      have hblk : ∃ c ty fr, w.heap[b]? = some (.cells c ty fr) := by
        obtain ⟨cs, us', k1, k2, _⟩ := hat 0 g3
        have := k1 0 (by omega)
        rw [List.getElem?_eq_getElem (by omega)] at this
        unfold World.cell? at this
        dsimp only at this
        split at this
        · rename_i c ty fr hc
          exact ⟨c, ty, fr, hc⟩
        · cases this
      obtain ⟨c, ty, fr, hc⟩ := hblk
      have hcell : ∀ q, w.cell? ⟨b, q, none⟩ = c.toList[q]? := fun q => by
        unfold World.cell?
        dsimp only
        rw [hc]
        simp
      have hget : (wI D w).get (D.K * b + off) = some (.cells (wN (Rz D) (c.toList.drop off)) false 0) := by
        rw [Xf, if_pos (ah6 g4 g5)]
        unfold mirB
        rw [amk g4, amr g4, hc]
      have hall : ∀ q, q < cap * e.len → ∃ x a, (c.toList.drop off)[q]? = some x ∧ Rz D x = some a := by
        intro q hq
        have hqd : q / e.len < cap := Nat.div_lt_of_lt_mul (by rw [Nat.mul_comm]; exact hq)
        have hqm : q % e.len < e.len := Nat.mod_lt _ (by omega)
        obtain ⟨cs, us', k1, k2, k3, _⟩ := hat _ hqd
        have k4 := k1 _ hqm
        rw [hcell] at k4
        have e1 : off + q / e.len * e.len + q % e.len = off + q := by
          have := Nat.div_add_mod q e.len
          rw [Nat.mul_comm] at this; omega
        rw [e1] at k4
        rw [List.getElem?_drop, k4, List.getElem?_eq_getElem (by omega)]
        have k5 := congrArg (·[q % e.len]?) k3
        simp only [List.getElem?_map] at k5
        rw [List.getElem?_eq_getElem (by omega), Option.map_some] at k5
        cases h6 : us'[q % e.len]? with
        | none => rw [h6] at k5; cases k5
        | some a =>
          rw [h6, Option.map_some] at k5
          exact ⟨_, a, rfl, Option.some.inj k5⟩
      have hpre := Yk (f := Rz D) (cap * e.len) hall
      refine ⟨_ :: us, by rw [List.map_cons, hA, h3, List.map_cons], ⟨rfl, len, fun i => ((wN (Rz D) (c.toList.drop off)).drop (i * e.len)).take e.len, by omega, ⟨by omega, .inr ⟨_, _, _, _, rfl, fun h => ⟨_, ⟨?_, ⟨_, _, hget⟩⟩, fun i hi => ⟨?_, ?_⟩⟩⟩⟩, fun i hi => ?_⟩, h4⟩
      · have := ah6 g4 g5
        show _ < D.top
        unfold Wd.top; omega
      ·
        have hm : i * e.len + e.len ≤ cap * e.len := by
          have := Nat.mul_le_mul_right e.len (show i + 1 ≤ cap by omega)
          rwa [Nat.add_mul, Nat.one_mul] at this
        have h5 := hpre (i * e.len + (e.len - 1)) (by omega)
        obtain ⟨x, a, h6, h7⟩ := hall (i * e.len + (e.len - 1)) (by omega)
        rw [h6, Option.bind_some, h7] at h5
        have := (List.getElem?_eq_some_iff.1 h5).1
        omega
      · rw [Nat.zero_add]
      · obtain ⟨cs, us', k1, k2, k3, k4⟩ := hat i (by omega)
        have hm : i * e.len + e.len ≤ cap * e.len := by
          have := Nat.mul_le_mul_right e.len (show i + 1 ≤ cap by omega)
          rwa [Nat.add_mul, Nat.one_mul] at this
        have hal : us'.length = e.len := by
          have := congrArg List.length k3
          simp at this
          omega
        have : ((wN (Rz D) (c.toList.drop off)).drop (i * e.len)).take e.len = us' := by
          apply List.ext_getElem?
          intro j
          by_cases hj : j < e.len
          · rw [List.getElem?_take, if_pos hj, List.getElem?_drop, hpre _ (by omega), List.getElem?_drop]
            have k5 := k1 j hj
            rw [hcell] at k5
            rw [show off + (i * e.len + j) = off + i * e.len + j by omega, k5, List.getElem?_eq_getElem (by omega), Option.bind_some]
            have k6 := congrArg (·[j]?) k3
            simp only [List.getElem?_map] at k6
            rw [List.getElem?_eq_getElem (by omega), List.getElem?_eq_getElem (by omega), Option.map_some, Option.map_some] at k6
            rw [List.getElem?_eq_getElem (by omega)]
            exact Option.some.inj k6
          · rw [List.getElem?_take, if_neg hj, List.getElem?_eq_none (by omega)]
        dsimp only
        rw [this]
        exact k4
  | .nil, _ :: _, h => h.elim
  | .bool _, [], h => h.elim
  | .int _ _, [], h => h.elim
  | .slice _ _, [], h => h.elim
end Go.Ai
/- The input's data as configurations and rows. -/
namespace Go.Ai
theorem KX {α : Type} [Inhabited α] {Q : Nat → α → Prop} : ∀ n, (∀ i, i < n → ∃ x, Q i x) → ∃ l : List α, l.length = n ∧ ∀ i, i < n → Q i (l.getD i default)
  | 0, _ => ⟨[], rfl, fun i h => by omega⟩
  | n + 1, h => by
    obtain ⟨l, h1, h2⟩ := KX n fun i hi => h i (by omega)
    obtain ⟨x, h3⟩ := h n (by omega)
    refine ⟨l ++ [x], by simp [h1], fun i hi => ?_⟩
    rw [List.getD_eq_getElem?_getD]
    by_cases e : i = n
    · subst e
      rw [← h1, List.getElem?_concat_length]
      rw [h1]; exact h3
    · rw [List.getElem?_append_left (by omega), ← List.getD_eq_getElem?_getD]
      exact h2 i (by omega)
theorem SlAt.congr {h : Heap} {v : AV} {sz n : Nat} {f g : Nat → List AV} (s : SlAt h v sz n f) (e : ∀ i, i < n → f i = g i) : SlAt h v sz n g := by
  obtain ⟨h1, h2 | ⟨b, off, ext, opn, h2, h3⟩⟩ := s
  · exact ⟨h1, .inl h2⟩
  · exact ⟨h1, .inr ⟨b, off, ext, opn, h2, fun h0 => have ⟨l, h4, h5⟩ := h3 h0; ⟨l, h4, fun i hi => by rw [← e i hi]; exact h5 i hi⟩⟩⟩
theorem Xs {h : Heap} {K : Nat} {l : List AV} (a : RG h K .nil l) : l = [] := by cases l with | nil => rfl | cons x t => exact a.elim
theorem jH {h : Heap} {K : Nat} {k : IntKind} {r : Kds} {l : List AV} (a : RG h K (.int k r) l) : ∃ n t, l = .int k n :: t ∧ (k.min ≤ n ∧ n ≤ k.max) ∧ RG h K r t := by
  cases l with
  | nil => exact a.elim
  | cons x t => obtain ⟨⟨n, rfl, h1⟩, h2⟩ := a; exact ⟨n, t, rfl, h1, h2⟩
theorem O5 {h : Heap} {K : Nat} {e r : Kds} {l : List AV} (a : RG h K (.slice e r) l) : ∃ v t, l = v :: t ∧ (v.shut = true ∧ ∃ n f, n ≤ K ∧ SlAt h v e.len n f ∧ ∀ i, i < n → RG h K e (f i)) ∧ RG h K r t := by
  cases l with
  | nil => exact a.elim
  | cons x t => exact ⟨x, t, rfl, a.1, a.2⟩
theorem amn {h : Heap} {K : Nat} {q : IntKind} {v : AV} (a : ∃ n f, n ≤ K ∧ SlAt h v (Kds.int q .nil).len n f ∧ ∀ i, i < n → RG h K (.int q .nil) (f i)) :
    ∃ l : List Int, Ints h q v l ∧ l.length ≤ K ∧ ∀ i, i < l.length → q.min ≤ nz l i ∧ nz l i ≤ q.max := by
  obtain ⟨n, f, h1, h2, h3⟩ := a
  obtain ⟨l, h4, h5⟩ := KX (Q := fun i (x : Int) => f i = [.int q x] ∧ q.min ≤ x ∧ x ≤ q.max) n fun i hi => by
    obtain ⟨x, t, e, h5, h6⟩ := jH (h3 i hi)
    obtain rfl := Xs h6
    exact ⟨x, e, h5⟩
  subst h4
  exact ⟨l, h2.congr fun i hi => (h5 i hi).1, h1, fun i hi => (h5 i hi).2⟩
def kdsPart : Kds := .slice (.int .i64 .nil) (.int .i64 (.int .i64 (.int .i64 (.int .i64 (.int .i64 (.int .i64 (.int .i64 .nil)))))))
def kdsCfg : Kds := .int .i64 (.int .i64 (.int .i64 (.int .i64 (.int .i64 (.int .i64 (.int .u64 (.int .u64 (.int .u64 (.int .u64 (.int .u64 (.int .u64 (.int .u64 (.int .u64 (.int .u64 (.slice (.int .i64 .nil) (.slice kdsPart .nil))))))))))))))))
theorem in_cfg {h : Heap} {K : Nat} {l : List AV} (a : RG h K kdsCfg l) : ∃ z, Cfg h z l ∧ z.turns.length ≤ K ∧ z.parts.length ≤ K ∧ ∀ i, i < z.parts.length → (z.parts.getD i default).cols.length ≤ K := by
  obtain ⟨a1, _, rfl, _, a⟩ := jH a
  obtain ⟨a2, _, rfl, _, a⟩ := jH a
  obtain ⟨a3, _, rfl, _, a⟩ := jH a
  obtain ⟨a4, _, rfl, _, a⟩ := jH a
  obtain ⟨a5, _, rfl, _, a⟩ := jH a
  obtain ⟨a6, _, rfl, _, a⟩ := jH a
  obtain ⟨a7, _, rfl, _, a⟩ := jH a
  obtain ⟨a8, _, rfl, _, a⟩ := jH a
  obtain ⟨a9, _, rfl, _, a⟩ := jH a
  obtain ⟨b1, _, rfl, _, a⟩ := jH a
  obtain ⟨b2, _, rfl, _, a⟩ := jH a
  obtain ⟨b3, _, rfl, _, a⟩ := jH a
  obtain ⟨b4, _, rfl, _, a⟩ := jH a
  obtain ⟨b5, _, rfl, _, a⟩ := jH a
  obtain ⟨b6, _, rfl, _, a⟩ := jH a
  obtain ⟨t, _, rfl, ⟨_, ht⟩, a⟩ := O5 a
  obtain ⟨p, _, rfl, ⟨hps, n, f, hn, hp, hf⟩, a⟩ := O5 a
  obtain rfl := Xs a
  obtain ⟨turns, t1, t2, _⟩ := amn ht
  have hpart : ∀ i, i < n → ∃ x : PartZ, ∃ s, f i = AU x s ∧ Ints h .i64 s x.cols ∧ x.cols.length ≤ K := by
    intro i hi
    have a := hf i hi
    obtain ⟨s, _, e, ⟨_, hs⟩, a⟩ := O5 a
    rw [e]; clear e
    obtain ⟨c1, _, rfl, _, a⟩ := jH a
    obtain ⟨c2, _, rfl, _, a⟩ := jH a
    obtain ⟨c3, _, rfl, _, a⟩ := jH a
    obtain ⟨c4, _, rfl, _, a⟩ := jH a
    obtain ⟨c5, _, rfl, _, a⟩ := jH a
    obtain ⟨c6, _, rfl, _, a⟩ := jH a
    obtain ⟨c7, _, rfl, _, a⟩ := jH a
    obtain rfl := Xs a
    obtain ⟨cols, k1, k2, _⟩ := amn hs
    exact ⟨⟨cols, c1, c2, c3, c4, c5, c6, c7⟩, s, rfl, k1, k2⟩
  obtain ⟨ps, p1, p2⟩ := KX (Q := fun i (x : PartZ) => ∃ s, f i = AU x s ∧ Ints h .i64 s x.cols ∧ x.cols.length ≤ K) n hpart
  subst p1
  have : ∀ i, ∃ s, i < ps.length → f i = AU (ps.getD i default) s ∧ Ints h .i64 s (ps.getD i default).cols ∧ (ps.getD i default).cols.length ≤ K := fun i => by
    by_cases hi : i < ps.length
    · obtain ⟨s, h1⟩ := p2 i hi
      exact ⟨s, fun _ => h1⟩
    · exact ⟨.nilslice, fun h => (hi h).elim⟩
  refine ⟨⟨a1, a2, a3, a4, a5, a6, a7, a8, a9, b1, b2, b3, b4, b5, b6, turns, ps⟩, ⟨t, p, rfl, t1, hps, fun i => (this i).choose, hp.congr fun i hi => ((this i).choose_spec hi).1, fun i hi => ((this i).choose_spec hi).2.1⟩, t2, hn, fun i hi => ((this i).choose_spec hi).2.2⟩
end Go.Ai
/- From what a row says of its input to the interpreter's heap; from a sound function to the model's call. -/
namespace Go.Ai
open Go.Proofs Go.ChangeShapes Go.WideShapes Go.ChangeAt Go.RowKit
theorem adx {D : Wd} : ∀ {l : List Value} {us : List AV}, l.map (Rz D) = us.map some → us.map (aZ (aaO D)) = l ∧ ∀ u ∈ us, u.isCell = true ∧ okv (· < D.top) u
  | [], [], _ => ⟨rfl, fun u hu => by simp at hu⟩
  | v :: t, u :: us, h => by
    simp only [List.map_cons, List.cons.injEq] at h
    obtain ⟨h1, h2⟩ := adx h.2
    obtain ⟨h3, h4, h5⟩ := alY h.1
    refine ⟨by rw [List.map_cons, h1, h3], fun x hx => ?_⟩
    rcases List.mem_cons.1 hx with rfl | hx
    · exact ⟨h4, h5⟩
    · exact h2 x hx
  | [], _ :: _, h => by simp at h
  | _ :: _, [], h => by simp at h
section
variable {H : Type} {enc : TypeId × Value → H} {P : Program} {W : World} {base : Nat} {t : TypeId} {v : Value} {d : DataW H} {p : List MemPlace}
theorem amJ {fs : Array Field} {m : Nat} {k : Kds} (ht : P.underlying t = some (.struct fs)) (hk : ae3 P m t = some k) (hval : Value.okWide P W .any base t v) (hd : DataW.Trod enc P W 0 (fun _ => true) true t v d p) :
    ∃ D, ∀ D', Wd.Le D D' → ∃ us, RG (wI D' W) D'.K k us ∧ aZ (aaO D') (.agg us) = v ∧ okv (· < D'.top) (.agg us) := by
  obtain ⟨fuel, hd⟩ := hd
  obtain ⟨D, hD⟩ := abN m t k hk fuel _ _ hd
  refine ⟨D, fun D' hle => ?_⟩
  obtain ⟨us, h1, h2⟩ := Uj (hD.mono hle)
  obtain ⟨h3, h4⟩ := adx h1
  obtain ⟨cs, rfl, _⟩ := okWide_struct ht hval
  refine ⟨us, h2, ?_, ?_⟩
  · simp only [aZ, lh, h3, Value.cells]
  · exact ⟨(nN _ _).2 fun u hu => (h4 u hu).2, fun u hu => (h4 u hu).1⟩
theorem in_cell {m : Nat} {k : Kds} (hc : v.cells.toList = [v]) (hk : ae3 P m t = some k) (hd : DataW.Trod enc P W 0 (fun _ => true) true t v d p) :
    ∃ D, ∀ D', Wd.Le D D' → ∃ u, RG (wI D' W) D'.K k [u] ∧ aZ (aaO D') u = v ∧ okv (· < D'.top) u := by
  obtain ⟨fuel, hd⟩ := hd
  obtain ⟨D, hD⟩ := abN m t k hk fuel _ _ hd
  refine ⟨D, fun D' hle => ?_⟩
  obtain ⟨us, h1, h2⟩ := Uj (hD.mono hle)
  obtain ⟨h3, h4⟩ := adx h1
  rw [hc] at h3
  match us, h3 with
  | [u], h3 =>
    simp at h3
    exact ⟨u, h2, h3, (h4 u (by simp)).2⟩
theorem in_slice {e : TypeId} {m : Nat} {k : Kds} (ht : P.underlying t = some (.slice e)) (hk : ae3 P m t = some k) (hval : Value.okWide P W .any base t v) (hd : DataW.Trod enc P W 0 (fun _ => true) true t v d p) :
    ∃ D, ∀ D', Wd.Le D D' → ∃ u, RG (wI D' W) D'.K k [u] ∧ aZ (aaO D') u = v ∧ okv (· < D'.top) u := by
  obtain ⟨a, len, cap, rfl⟩ := okWide_slice ht hval
  exact in_cell rfl hk hd
end
theorem akX {P : Program} {tbl : Tr AFn} (T : TblOk P tbl) {f : Nat} {w : Wr} (S : Sound tbl f w) {D : Wd} {W : World} {args : List AV} (hargs : okL (· < D.top) args) {v : AV} {h' : Heap} (run : ∀ k, w args (wI D W) k = k v h') :
    Calls P f (args.map (aZ (aaO D))).toArray W fun e W' => (∃ M', e = .returned (aZ M' v)) ∧ Below W.heap.size W W' := by
  obtain ⟨n, v1, H1, hcall, he⟩ := S [] [] args (wI D W) (fun v h => .ret v h) v h' (ahg D W) (by simpa using run _)
  cases he
  obtain ⟨f', first, cap, hfv, hc⟩ := al1 T n _ _ _ _ _ hcall
  cases hfv
  obtain ⟨_, hcalls⟩ := hc _ _ W (amH D W) (alV D W) (by simpa using hargs)
  refine Calls.mono (by simpa using hcalls) fun e w' hpost => ?_
  obtain ⟨M', D', rfl, _, hx, _⟩ := hpost
  refine ⟨⟨M', rfl⟩, hx.os, hx.tape, hx.output, hx.size, fun k hk => hx.frame k hk fun b _ hw => ?_⟩
  exfalso
  cases hg : (wI D W).get b with
  | none => rw [hg] at hw; exact hw
  | some x =>
    obtain ⟨_, _, _, _, _, rfl⟩ := WQ hg
    rw [hg] at hw
    cases hw
section
variable {H : Type} {enc : TypeId × Value → H} {P : Program}
theorem post_old {f : Func} {s : ChangeSpec} {apart fresh handsOn again : Bool} {W W' : World} {args : Array Value} {v : Value} {ds gs : List (DataW H)} {before pa pv : List MemPlace}
    (hW : DataW.Whole enc P f.params.toList s.vars apart W args.toList ds gs before)
    (hres : ∀ (b : Nat) (sp : Nat → Bool) (hd : Bool), DataW.TrodAll enc P W' b sp hd f.resultTypes.toList (v.resultList f.resultTypes.size) (s.fn H (ds ++ gs)).results [])
    (hargs : ∀ sp : Nat → Bool, (∀ p ∈ before, sp p.block = true) → DataW.TrodAll enc P W' 0 sp true f.params.toList args.toList (s.fn H (ds ++ gs)).args pa)
    (hvars : ∀ sp : Nat → Bool, (∀ p ∈ before, sp p.block = true) → DataW.TrodVars enc P W' sp s.vars (s.fn H (ds ++ gs)).vars pv)
    (hps : before = pa ++ pv) (hb : Below W.heap.size W W')
    (hok : ∀ (j : Nat) (t : TypeId) (r : Value), f.resultTypes[j]? = some t → (v.resultList f.resultTypes.size)[j]? = some r → Value.okWide P W' .any 0 t r) :
    s.post enc P f apart fresh handsOn again W args v W' := by
  have hold : ∀ p ∈ before, (fun b => decide (b < W.heap.size)) p.block = true := fun p hp => by simpa using hW.lt p hp
  have hlt := hW.lt
  refine ⟨ds, gs, before, [], pa, pv, hW, hres _ _ _, hargs _ hold, hvars _ hold, hb.frame _, fun _ => ?_⟩
  obtain ⟨_, _, _, _, _, hz, hn⟩ := hW
  refine ⟨hok, _, _, ([] ++ pa) ++ pv, ⟨[] ++ pa, pv, trodAll_append (hargs _ (fun _ _ => rfl)) (hres _ _ _), hvars _ (fun _ _ => rfl), rfl, ?_, ?_⟩, ?_⟩
  · intro b off hp
    have hp' : MemPlace.cell b off ∈ before := by rw [hps]; simpa using hp
    rw [hb.frozen (p := ⟨b, off, none⟩) (hlt _ hp')]
    exact hz b off hp'
  · intro ha
    have := hn ha
    rw [hps] at this
    simpa using this
  · intro p hp _
    rw [hps]
    simpa using hp
theorem agZ (hl : laidOutB P = true) {W W' : World} (hb : Below W.heap.size W W') {sp : Nat → Bool} : ∀ {ts : List TypeId} {vs : List Value} {ds : List (DataW H)} {ps : List MemPlace}, (ts.all fun t => P.readableRec t && decide (t < P.types.size)) = true →
    DataW.TrodAll enc P W 0 (fun _ => true) true ts vs ds ps → (∀ p ∈ ps, sp p.block = true) → DataW.TrodAll enc P W' 0 sp true ts vs ds ps
  | [], _, _, _, _, h, _ => by
    obtain ⟨rfl, rfl, rfl⟩ := trodAll_nil h
    exact trodAll_mk0
  | t :: ts, _, _, _, hts, h, hs => by
    simp only [List.all_cons, Bool.and_eq_true, decide_eq_true_eq] at hts
    have hlt := h.lt
    obtain ⟨v, vs', d, ds', p, q, rfl, rfl, rfl, h1, h2⟩ := trodAll_cons h
    refine ⟨p, q, Go.WideElems.Trod_stays hl hts.1.1 hts.1.2 h1 (fun x hx => ?_) fun x hx => hs x (List.mem_append_left _ hx), agZ hl hb (by simpa using hts.2) h2 fun x hx => hs x (List.mem_append_right _ hx), rfl⟩
    have h3 := hlt x (List.mem_append_left _ hx)
    have h4 := hb.block x.block h3
    cases x with
    | cell b off =>
      show W'.cell? _ = W.cell? _
      unfold World.cell?
      dsimp only [MemPlace.block] at h4 ⊢
      rw [h4]
    | map b => exact h4
end
end Go.Ai
/-
  DERIVED: THE SHELF's CONTRACTS AT THIS DUMP, IN PLAIN WORDS (tools/lay-plain.mjs out of 'TryIns.lean', which tools/lay-shelf.mjs wrote): THE SAME DECLARATIONS UNDER THE SAME NAMES: 'import', 'namespace', 'open', 'def', 'theorem' AND NOTHING ELSE: no command of the shelf's: FOR A HAND-IN. Each laying: the table of numbers ('.._ren') and one theorem, a field a fact of the dump's own or the kernel's comparison; each contract: ONE APPLICATION.
-/
namespace Go.Proofs
open Go.Shelf
def Try.laysIns_ren : Go.Shelf.Ren := ⟨fun | 21 => 67 | 27 => 84 | 28 => 85 | 35 => 101 | 39 => 103 | n => n, fun | 22 => 25 | 3 => 3 | 4 => 4 | 0 => 0 | n => n, fun | n => n⟩
theorem Try.laysIns : Go.Proofs.Lays2.n21 Try.prog Try.laysIns_ren := {
  mixed := by kernel_rfl
  f21 := Try.func67.trans (congrArg some (by kernel_rfl))
  f27 := Try.func84.trans (congrArg some (by kernel_rfl))
  f28 := Try.func85.trans (congrArg some (by kernel_rfl))
  f35 := Try.func101.trans (congrArg some (by kernel_rfl))
  f39 := Try.func103.trans (congrArg some (by kernel_rfl))
  t0 := Try.underlying0
  a0 := Try.isAgg0
  z0 := Try.sizeOf0
  v0 := Try.zeroValue0
  t3 := Try.underlying3
  a3 := Try.isAgg3
  z3 := Try.sizeOf3
  v3 := Try.zeroValue3
  t4 := Try.underlying4
  a4 := Try.isAgg4
  z4 := Try.sizeOf4
  v4 := Try.zeroValue4
  t22 := Try.underlying25
  a22 := Try.isAgg25
  z22 := Try.sizeOf25
  v22 := Try.zeroValue25
  i3 := by kernel_rfl }
end Go.Proofs
/- The table of the program's functions, with slices.Insert from the library's shelf, and the answer of the chapter's example. -/
namespace Go.Proofs.Ytnlbfbiogfilfaa.Sh
open Go.Ai Go.Proofs
noncomputable def tb0 : Tr AFn := (tblP Try.prog).set (key 67) (.prim xv)
theorem akT : Ai.Enters Try.prog 67 := ⟨Try.f67, Try.func67, by kernel_rfl, by kernel_rfl⟩
theorem tb0_ok : TblOk Try.prog tb0 := (tblP_ok (by kernel_rfl)).prim_set (f := 67) (aha Try.laysIns) (fun _ _ _ _ hr h => XI hr h) akT
noncomputable def fd0 : Nat → (YFn → CRes) → CRes := alN 67 ah0 (findYP Try.prog)
theorem fd0_ok : adX tb0 fd0 := amC ali (am2 Try.prog)
set_option maxRecDepth 1000000 in
set_option maxHeartbeats 1000000000 in
theorem works (J : AV → CRes) : callY fd0 100000 1000 (.func 6 [] []) [] ⟨.leaf, 0, 0⟩ (fun v _ => J v) = J (.bool true) := by kernel_rfl
theorem enters6 : Ai.Enters Try.prog 6 := ⟨Try.f6, Try.func6, by kernel_rfl, by kernel_rfl⟩
noncomputable def tb : Tr AFn := ((tblS Try.prog).set (key 67) (.prim xv)).set (key 6) (.prim (ag4 [] (.bool true)))
theorem tb_ok : TblOk Try.prog tb := ((tblS_ok (by kernel_rfl)).prim_set (f := 67) (aha Try.laysIns) (fun _ _ _ _ hr h => XI hr h) akT).prim_set (f := 6) (alR tb0_ok fd0_ok rfl rfl works) (fun _ _ _ _ _ h => alx h) enters6
theorem fL {f : Nat} {x : AFn} (e : (Nat.beq 67 f || Nat.beq 6 f) = false) (h : abM Try.prog f = some x) : tb.get (key f) = some x := by
  rw [Bool.or_eq_false_iff] at e
  exact Ts e.2 (Ts e.1 ((Tg ..).trans h))
theorem HP : Sound tb jz (Hn lb) := abI (Ts (by kernel_rfl) (Tr.get_set_same ..))
theorem Mr : Sound tb lr (Hn lq) := abI (Tr.get_set_same ..)
end Go.Proofs.Ytnlbfbiogfilfaa.Sh
