/- How the interpreter's heap stands for a world of the model: values, blocks, temporaries; what a step may turn. -/
import Derived.Test.YtphpkpemamccnacGreatAiDefs
import Derived.Laws.IdiomCopy
import Derived.Maps.Own
namespace Go.Ai

structure Loc where
  blk : Nat
  base : Nat
  slack : Nat

abbrev Mp := Nat → Loc

mutual
def conc (M : Mp) : AV → Value
  | .bool b => .bool b
  | .int k n => .int k n
  | .str s => .string ⟨s.toArray⟩
  | .ptr b off => .pointer (some ⟨(M b).blk, (M b).base + off, none⟩)
  | .nilptr => .pointer none
  | .slice b off len ext opn => .slice (some ⟨(M b).blk, (M b).base + off, none⟩) len (len + ext + if opn then (M b).slack else 0)
  | .send b o₀ o₁ => .slice (some ⟨(M b).blk, (M b).base + (if (M b).slack = 0 then o₀ else o₁), none⟩) 0 (M b).slack
  | .nilslice => .slice none 0 0
  | .map b => .map (some (M b).blk)
  | .nilmap => .map none
  | .func f x c => .func (.func f) (concL M x).toArray (concL M c).toArray
  | .nilfunc => .nilFunc
  | .iface t v => .iface t (conc M v)
  | .niliface => .nilIface
  | .agg l => .agg (concL M l).toArray
  | .tuple l => .tuple (concL M l).toArray
def concL (M : Mp) : List AV → List Value
  | [] => []
  | v :: l => conc M v :: concL M l
end

theorem concL_map (M : Mp) (l : List AV) : concL M l = l.map (conc M) := by
  induction l with
  | nil => simp [concL]
  | cons v l ih => simp [concL, ih]

mutual
/-- its blocks are ones that stand in the world; the parts of a struct are cells -/
def okv (D : Nat → Prop) : AV → Prop
  | .ptr b _ => D b
  | .slice b _ _ _ _ => D b
  | .send b _ _ => D b
  | .map b => D b
  | .func _ x c => okL D x ∧ okL D c
  | .iface _ v => okv D v
  | .agg l => okL D l ∧ ∀ v ∈ l, v.isCell = true
  | .tuple l => okL D l
  | _ => True
def okL (D : Nat → Prop) : List AV → Prop
  | [] => True
  | v :: l => okv D v ∧ okL D l
end

theorem okL_iff (D : Nat → Prop) (l : List AV) : okL D l ↔ ∀ v ∈ l, okv D v := by
  induction l with
  | nil => simp [okL]
  | cons v l ih => simp [okL, ih]

mutual
theorem conc_agree {M M' : Mp} {D : Nat → Prop} (h : ∀ b, D b → M' b = M b) : ∀ v, okv D v → conc M' v = conc M v
  | .bool _, _ | .int _ _, _ | .str _, _ | .nilptr, _ | .nilslice, _ | .nilmap, _ | .nilfunc, _ | .niliface, _ => by simp [conc]
  | .ptr b _, hv => by simp only [okv] at hv; simp [conc, h b hv]
  | .slice b _ _ _ _, hv => by simp only [okv] at hv; simp [conc, h b hv]
  | .send b _ _, hv => by simp only [okv] at hv; simp [conc, h b hv]
  | .map b, hv => by simp only [okv] at hv; simp [conc, h b hv]
  | .func _ x c, hv => by simp only [okv] at hv; simp [conc, concL_agree h x hv.1, concL_agree h c hv.2]
  | .iface _ v, hv => by simp only [okv] at hv; simp [conc, conc_agree h v hv]
  | .agg l, hv => by simp only [okv] at hv; simp [conc, concL_agree h l hv.1]
  | .tuple l, hv => by simp only [okv] at hv; simp [conc, concL_agree h l hv]
theorem concL_agree {M M' : Mp} {D : Nat → Prop} (h : ∀ b, D b → M' b = M b) : ∀ l, okL D l → concL M' l = concL M l
  | [], _ => by simp [concL]
  | v :: l, hl => by simp only [okL] at hl; simp [concL, conc_agree h v hl.1, concL_agree h l hl.2]
end

mutual
theorem okv_mono {D D' : Nat → Prop} (h : ∀ b, D b → D' b) : ∀ v, okv D v → okv D' v
  | .bool _, _ | .int _ _, _ | .str _, _ | .nilptr, _ | .nilslice, _ | .nilmap, _ | .nilfunc, _ | .niliface, _ => by simp [okv]
  | .ptr b _, hv => by simp only [okv] at hv ⊢; exact h b hv
  | .slice b _ _ _ _, hv => by simp only [okv] at hv ⊢; exact h b hv
  | .send b _ _, hv => by simp only [okv] at hv ⊢; exact h b hv
  | .map b, hv => by simp only [okv] at hv ⊢; exact h b hv
  | .func _ x c, hv => by simp only [okv] at hv ⊢; exact ⟨okL_mono h x hv.1, okL_mono h c hv.2⟩
  | .iface _ v, hv => by simp only [okv] at hv ⊢; exact okv_mono h v hv
  | .agg l, hv => by simp only [okv] at hv ⊢; exact ⟨okL_mono h l hv.1, hv.2⟩
  | .tuple l, hv => by simp only [okv] at hv ⊢; exact okL_mono h l hv
theorem okL_mono {D D' : Nat → Prop} (h : ∀ b, D b → D' b) : ∀ l, okL D l → okL D' l
  | [], _ => by simp [okL]
  | v :: l, hl => by simp only [okL] at hl ⊢; exact ⟨okv_mono h v hl.1, okL_mono h l hl.2⟩
end

theorem conc_oneCell {M : Mp} {v : AV} (h : v.isCell = true) : (conc M v).oneCell' = true := by
  cases v <;> simp_all [AV.isCell, conc, Value.oneCell']

/-! ### The trie -/
theorem pos_zero (n : Nat) : pos 0 n = .h := rfl
theorem pos_succ (f n : Nat) : pos (f + 1) n = if n ≤ 1 then .h else if n % 2 = 0 then .o (pos f (n / 2)) else .i (pos f (n / 2)) := by
  have e : pos (f + 1) n = (match Nat.ble n 1 with | true => P.h | false => match Nat.beq (n % 2) 0 with | true => P.o (pos f (n / 2)) | false => P.i (pos f (n / 2))) := by
    show Bool.casesOn (motive := fun _ => P) (Nat.ble n 1) (Bool.casesOn (motive := fun _ => P) (Nat.beq (Nat.mod n 2) 0) (.i (pos f (Nat.div n 2))) (.o (pos f (Nat.div n 2)))) P.h = _
    cases Nat.ble n 1 with
    | true => rfl
    | false =>
      show Bool.casesOn (motive := fun _ => P) (Nat.beq (n % 2) 0) (.i (pos f (n / 2))) (.o (pos f (n / 2))) = _
      cases Nat.beq (n % 2) 0 <;> rfl
  rw [e]
  cases h : Nat.ble n 1 with
  | true => rw [if_pos (Nat.le_of_ble_eq_true h)]
  | false =>
    rw [if_neg (fun hh => by rw [Nat.ble_eq_true_of_le hh] at h; cases h)]
    cases h2 : Nat.beq (n % 2) 0 with
    | true => rw [if_pos (Nat.eq_of_beq_eq_true h2)]
    | false => rw [if_neg (Nat.ne_of_beq_eq_false h2)]

def P.num : P → Nat
  | .h => 1
  | .o p => 2 * p.num
  | .i p => 2 * p.num + 1

theorem num_pos : ∀ (f n : Nat), 1 ≤ n → n ≤ f → (pos f n).num = n := by
  intro f
  induction f with
  | zero => intro n h1 h2; omega
  | succ f ih =>
    intro n h1 h2
    rw [pos_succ]
    by_cases h : n ≤ 1
    · rw [if_pos h]; simp [P.num]; omega
    · rw [if_neg h]
      have hq := ih (n / 2) (by omega) (by omega)
      by_cases he : n % 2 = 0
      · rw [if_pos he]; simp only [P.num, hq]; omega
      · rw [if_neg he]; simp only [P.num, hq]; omega

theorem key_inj {a b : Nat} (h : key a = key b) : a = b := by
  have ha := num_pos (a + 1) (a + 1) (by omega) (by omega)
  have hb := num_pos (b + 1) (b + 1) (by omega) (by omega)
  have : (pos (a + 1) (a + 1)).num = (pos (b + 1) (b + 1)).num := congrArg P.num h
  omega

section
variable {α β : Type}
def Tr.put (x : α) : P → Tr α → Tr α
  | .h, .leaf => .node .leaf (some x) .leaf
  | .h, .node l _ r => .node l (some x) r
  | .o p, .leaf => .node (Tr.put x p .leaf) none .leaf
  | .o p, .node l v r => .node (Tr.put x p l) v r
  | .i p, .leaf => .node .leaf none (Tr.put x p .leaf)
  | .i p, .node l v r => .node l v (Tr.put x p r)

theorem Tr.setK_put {γ : Type} (p : P) (x : α) : ∀ (t : Tr α) (k : Tr α → γ), t.setK p x k = k (Tr.put x p t) := by
  induction p with
  | h => intro t k; cases t <;> rfl
  | o p ih => intro t k; cases t <;> (rw [Tr.put]; exact ih _ _)
  | i p ih => intro t k; cases t <;> (rw [Tr.put]; exact ih _ _)
theorem Tr.set_put (p : P) (x : α) (t : Tr α) : t.set p x = Tr.put x p t := Tr.setK_put p x t id
theorem Tr.setK_eq (p : P) (x : α) (t : Tr α) (k : Tr α → β) : t.setK p x k = k (t.set p x) := by rw [Tr.setK_put, Tr.set_put]

theorem Tr.set_h (x : α) (t : Tr α) : t.set .h x = match t with | .leaf => .node .leaf (some x) .leaf | .node l _ r => .node l (some x) r := by cases t <;> rfl
theorem Tr.set_o (p : P) (x : α) (t : Tr α) : t.set (.o p) x = match t with | .leaf => .node (Tr.leaf.set p x) none .leaf | .node l v r => .node (l.set p x) v r := by
  cases t <;> simp only [Tr.set_put, Tr.put]
theorem Tr.set_i (p : P) (x : α) (t : Tr α) : t.set (.i p) x = match t with | .leaf => .node .leaf none (Tr.leaf.set p x) | .node l v r => .node l v (r.set p x) := by
  cases t <;> simp only [Tr.set_put, Tr.put]

theorem Tr.get_leaf (p : P) : (Tr.leaf : Tr α).get p = none := by cases p <;> rfl

theorem Tr.get_set_same (p : P) (x : α) : ∀ t : Tr α, (t.set p x).get p = some x := by
  induction p with
  | h => intro t; rw [Tr.set_h]; cases t <;> rfl
  | o p ih => intro t; rw [Tr.set_o]; cases t <;> exact ih _
  | i p ih => intro t; rw [Tr.set_i]; cases t <;> exact ih _

theorem Tr.get_set_other {p q : P} (h : p ≠ q) (x : α) : ∀ t : Tr α, (t.set p x).get q = t.get q := by
  induction p generalizing q with
  | h => intro t; rw [Tr.set_h]; cases q <;> first | exact (h rfl).elim | (cases t <;> first | rfl | exact Tr.get_leaf _)
  | o p ih =>
    intro t; rw [Tr.set_o]
    cases q with
    | o q =>
      cases t with
      | leaf => show (Tr.set p x Tr.leaf).get q = none; rw [ih (fun e => h (by rw [e]))]; exact Tr.get_leaf _
      | node l v r => exact ih (fun e => h (by rw [e])) l
    | h => cases t <;> rfl
    | i q => cases t <;> first | rfl | exact Tr.get_leaf _
  | i p ih =>
    intro t; rw [Tr.set_i]
    cases q with
    | i q =>
      cases t with
      | leaf => show (Tr.set p x Tr.leaf).get q = none; rw [ih (fun e => h (by rw [e]))]; exact Tr.get_leaf _
      | node l v r => exact ih (fun e => h (by rw [e])) r
    | h => cases t <;> rfl
    | o q => cases t <;> first | rfl | exact Tr.get_leaf _
end

/-! ### The lists -/
section
variable {α β : Type}
theorem nth_eq (l : List α) : ∀ i, nth l i = l[i]? := by
  induction l with
  | nil => intro i; rfl
  | cons a l ih => intro i; cases i with
    | zero => rfl
    | succ i => exact ih i
theorem setK_eq (l : List α) : ∀ (i : Nat) (x : α) (k : List α → β), setK l i x k = k (l.set i x) := by
  induction l with
  | nil => intro i x k; rfl
  | cons a l ih => intro i x k; cases i with
    | zero => rfl
    | succ i => exact ih i x _
theorem skp_eq (l : List α) : ∀ i, skp l i = l.drop i := by
  induction l with
  | nil => intro i; simp [skp]
  | cons a l ih => intro i; cases i with
    | zero => rfl
    | succ i => exact ih i
theorem tkK_eq (l : List α) : ∀ (n : Nat) (e : β) (k : List α → β), tkK l n e k = if n ≤ l.length then k (l.take n) else e := by
  induction l with
  | nil => intro n e k; cases n with
    | zero => show k [] = _; simp
    | succ n => show e = _; simp
  | cons a l ih => intro n e k; cases n with
    | zero => show k [] = _; simp
    | succ n =>
      show tkK l n e (fun t' => k (a :: t')) = _
      rw [ih]; simp
theorem sub_eq (l : List α) (off n : Nat) : sub l off n = if n ≤ (l.drop off).length then some ((l.drop off).take n) else none := by
  unfold sub; rw [skp_eq, tkK_eq]
theorem lenN_eq (l : List α) : lenN l = l.length := by
  induction l with
  | nil => rfl
  | cons a l ih => show Nat.succ (lenN l) = _; rw [ih]; rfl
theorem appK_eq (a : List α) : ∀ (b : List α) (k : List α → β), appK a b k = k (a ++ b) := by
  induction a with
  | nil => intro b k; rfl
  | cons x a ih => intro b k; exact ih b _
theorem mapK_eq (f : α → β) (l : List α) : mapK f l = l.map f := by
  induction l with
  | nil => rfl
  | cons a l ih => show f a :: mapK f l = _; rw [ih]; rfl
/-- written over from 'off' on -/
def over : List α → List α → Nat → List α
  | [], l, _ => l
  | x :: xs, l, off => over xs (l.set off x) (off + 1)
theorem overK_eq (xs : List α) : ∀ (l : List α) (off : Nat) (k : List α → β), overK xs l off k = k (over xs l off) := by
  induction xs with
  | nil => intro l off k; rfl
  | cons x xs ih => intro l off k; show setK l off x (fun l' => overK xs l' (off + 1) k) = _; rw [setK_eq, ih]; rfl
theorem over_length (xs : List α) : ∀ (l : List α) (off : Nat), (over xs l off).length = l.length := by
  induction xs with
  | nil => intro l off; rfl
  | cons x xs ih => intro l off; simp [over, ih]
theorem over_get (xs : List α) : ∀ (l : List α) (off i : Nat), off + xs.length ≤ l.length →
    (over xs l off)[i]? = if off ≤ i ∧ i < off + xs.length then xs[i - off]? else l[i]? := by
  induction xs with
  | nil => intro l off i _; simp [over]; omega
  | cons x xs ih =>
    intro l off i h
    simp only [List.length_cons] at h
    rw [over, ih _ _ _ (by simp; omega)]
    by_cases h1 : off + 1 ≤ i ∧ i < off + 1 + xs.length
    · rw [if_pos h1, if_pos (by simp; omega)]
      rw [show i - off = (i - (off + 1)) + 1 by omega]; simp
    · rw [if_neg h1]
      by_cases h2 : i = off
      · subst h2
        rw [if_pos (by simp)]
        simp [List.getElem?_set_self (show i < l.length by omega)]
      · rw [if_neg (by simp; omega)]
        rw [List.getElem?_set_ne (by omega)]
theorem sub_some {l : List α} {off n : Nat} {r : List α} (h : sub l off n = some r) : r.length = n ∧ off + n ≤ max l.length off ∧ ∀ i v, r[i]? = some v → l[off + i]? = some v := by
  rw [sub_eq] at h
  split at h
  · rename_i hn
    cases h
    simp at hn ⊢
    refine ⟨by omega, by omega, ?_⟩
    intro i v hi
    rw [List.getElem?_take] at hi
    split at hi
    · simpa using hi
    · cases hi
  · cases h
theorem reps_succ (z : List AV) (n : Nat) : reps z (n + 1) = z ++ reps z n := by show appK z (reps z n) id = _; rw [appK_eq]; rfl
end

/-! ### The heap -/
theorem Heap.setK_eq {β : Type} (H : Heap) (b : Nat) (x : Blk) (k : Heap → β) : H.setK b x k = k (H.set b x) := by
  cases H; simp only [Heap.setK, Heap.set, Tr.setK_eq]; rfl
theorem Heap.get_set_same (H : Heap) (b : Nat) (x : Blk) : (H.set b x).get b = some x := by
  cases H; simp only [Heap.set, Heap.setK, Tr.setK_eq, Heap.get]; exact Tr.get_set_same _ _ _
theorem Heap.get_set_other (H : Heap) {b c : Nat} (h : b ≠ c) (x : Blk) : (H.set b x).get c = H.get c := by
  cases H; simp only [Heap.set, Heap.setK, Tr.setK_eq, Heap.get]; exact Tr.get_set_other (fun e => h (key_inj e)) _ _
@[simp] theorem Heap.nx_set (H : Heap) (b : Nat) (x : Blk) : (H.set b x).nx = H.nx := by cases H; simp only [Heap.set, Heap.setK, Tr.setK_eq]; rfl
@[simp] theorem Heap.ro_set (H : Heap) (b : Nat) (x : Blk) : (H.set b x).ro = H.ro := by cases H; simp only [Heap.set, Heap.setK, Tr.setK_eq]; rfl
noncomputable def Heap.add (H : Heap) (x : Blk) : Heap := { H.set H.nx x with nx := H.nx + 1 }
theorem Heap.newK_eq {β : Type} (H : Heap) (x : Blk) (k : Nat → Heap → β) : H.newK x k = k H.nx (H.add x) := by
  cases H; simp only [Heap.newK, Heap.add, Heap.set, Heap.setK, Tr.setK_eq]; rfl
@[simp] theorem Heap.nx_add (H : Heap) (x : Blk) : (H.add x).nx = H.nx + 1 := rfl
@[simp] theorem Heap.ro_add (H : Heap) (x : Blk) : (H.add x).ro = H.ro := by simp [Heap.add]
theorem Heap.get_add (H : Heap) (x : Blk) (c : Nat) : (H.add x).get c = if c = H.nx then some x else H.get c := by
  show (H.set H.nx x).get c = _
  by_cases h : c = H.nx
  · subst h; rw [if_pos rfl]; exact Heap.get_set_same _ _ _
  · rw [if_neg h]; exact Heap.get_set_other _ (fun e => h e.symm) _


/-! ### The relation -/
def wr : Option Blk → Prop
  | some (.cells _ rw _) => rw = true
  | some (.mp _) => True
  | _ => False
def live : Option Blk → Prop
  | some (.cells _ _ _) => True
  | some (.mp _) => True
  | _ => False
theorem live_of_wr {x : Option Blk} (h : wr x) : live x := by
  cases x with
  | none => exact h
  | some x => cases x <;> simp_all [wr, live]

/-- cells from 'base' on -/
structure RowOk (M : Mp) (D : Nat → Prop) (w : World) (L : Loc) (l : List AV) (rw : Bool) (g : Nat) : Prop where
  at_ : ∀ i v, l[i]? = some v → w.cell? ⟨L.blk, L.base + i, none⟩ = some (conc M v) ∧ v.isCell = true ∧ okv D v
  own : rw = true → ∀ i, i < l.length + L.slack * g → (w.cell? ⟨L.blk, L.base + i, none⟩).isSome = true ∧ w.frozen? ⟨L.blk, L.base + i, none⟩ = false
  lt : L.blk < w.heap.size
  fz : rw = true → ∃ c e, w.heap[L.blk]? = some (.cells c e (0, 0))
  sl : g ≠ 0 → l.length + L.slack * g ≤ 9223372036854775807 * g

def entryOk (M : Mp) (D : Nat → Prop) (e : AV × AV) (m : MapEntry) : Prop := m.key = conc M e.1 ∧ m.val = conc M e.2 ∧ okv D e.1 ∧ okv D e.2

def EntOk (M : Mp) (D : Nat → Prop) : List (AV × AV) → List MapEntry → Prop
  | [], [] => True
  | e :: es, m :: ms => entryOk M D e m ∧ EntOk M D es ms
  | _, _ => False

/-- each younger one was born later; what comes next is born later than all -/
def BornOk (ms : List MapEntry) (clock : Nat) : Prop := ms.Pairwise (fun a b => a.born < b.born) ∧ ∀ m ∈ ms, m.born < clock

structure MapOk (M : Mp) (D : Nat → Prop) (w : World) (L : Loc) (es : List (AV × AV)) : Prop where
  at_ : ∃ (ms : Array MapEntry) (clock : Nat), w.heap[L.blk]? = some (.map ms clock) ∧ EntOk M D es ms.toList ∧ BornOk ms.toList clock

def BlkOk (M : Mp) (D : Nat → Prop) (w : World) (L : Loc) : Option Blk → Prop
  | some (.cells l rw g) => RowOk M D w L l rw g
  | some (.mp es) => MapOk M D w L es
  | _ => True

structure Rel (M : Mp) (D : Nat → Prop) (H : Heap) (w : World) : Prop where
  dom : ∀ b, D b → b < H.nx
  blk : ∀ b, D b → BlkOk M D w (M b) (H.get b)
  inj : ∀ b c, D b → D c → b ≠ c → wr (H.get b) → live (H.get c) → (M b).blk ≠ (M c).blk

structure Ext (M : Mp) (D : Nat → Prop) (H : Heap) (w : World) (M' : Mp) (D' : Nat → Prop) (H' : Heap) (w' : World) : Prop where
  keep : ∀ b, D b → D' b
  agree : ∀ b, D b → M' b = M b
  old : ∀ b, D' b → b < H.nx → D b
  nx : H.nx ≤ H'.nx
  wrm : ∀ b, D b → wr (H'.get b) → wr (H.get b)
  newb : ∀ b, D' b → ¬ D b → wr (H'.get b) → w.heap.size ≤ (M' b).blk ∨ ∃ c, D c ∧ wr (H.get c) ∧ (M' b).blk = (M c).blk
  frame : ∀ c, c < w.heap.size → (∀ b, D b → wr (H.get b) → (M b).blk ≠ c) → w'.heap[c]? = w.heap[c]?
  unm : ∀ b, b < H.nx → ¬ D b → H'.get b = H.get b
  size : w.heap.size ≤ w'.heap.size
  os : w'.os = w.os
  tape : w'.tape = w.tape
  output : w'.output = w.output

theorem Ext.refl {M : Mp} {D : Nat → Prop} {H : Heap} {w : World} : Ext M D H w M D H w :=
  ⟨fun _ h => h, fun _ _ => rfl, fun _ h _ => h, Nat.le_refl _, fun _ _ h => h, fun _ h hn => (hn h).elim, fun _ _ _ => rfl, fun _ _ _ => rfl, Nat.le_refl _, rfl, rfl, rfl⟩

theorem Ext.trans {M : Mp} {D : Nat → Prop} {H : Heap} {w : World} {M' : Mp} {D' : Nat → Prop} {H' : Heap} {w' : World} {M'' : Mp} {D'' : Nat → Prop} {H'' : Heap} {w'' : World}
    (h : Ext M D H w M' D' H' w') (k : Ext M' D' H' w' M'' D'' H'' w'') : Ext M D H w M'' D'' H'' w'' := {
  keep b hb := k.keep b (h.keep b hb)
  agree b hb := (k.agree b (h.keep b hb)).trans (h.agree b hb)
  old b hb hn := h.old b (k.old b hb (Nat.lt_of_lt_of_le hn h.nx)) hn
  nx := Nat.le_trans h.nx k.nx
  wrm b hb hw := h.wrm b hb (k.wrm b (h.keep b hb) hw)
  newb b hb hnb hw := by
    by_cases hd : D' b
    · have hw' := k.wrm b hd hw
      rcases h.newb b hd hnb hw' with hs | ⟨c, hc, hcw, he⟩
      · exact .inl (by rw [k.agree b hd]; exact hs)
      · exact .inr ⟨c, hc, hcw, by rw [k.agree b hd]; exact he⟩
    · rcases k.newb b hb hd hw with hs | ⟨c, hc, hcw, he⟩
      · exact .inl (Nat.le_trans h.size hs)
      · by_cases hdc : D c
        · exact .inr ⟨c, hdc, h.wrm c hdc hcw, by rw [he, h.agree c hdc]⟩
        · rcases h.newb c hc hdc hcw with hs | ⟨d, hd', hdw, hde⟩
          · exact .inl (by rw [he]; exact hs)
          · exact .inr ⟨d, hd', hdw, by rw [he, hde]⟩
  frame c hc hn := by
    rw [k.frame c (Nat.lt_of_lt_of_le hc h.size) ?_, h.frame c hc hn]
    intro b hb hw he
    by_cases hd : D b
    · exact hn b hd (h.wrm b hd hw) (by rw [← h.agree b hd]; exact he)
    · rcases h.newb b hb hd hw with hs | ⟨d, hd', hdw, hde⟩
      · omega
      · exact hn d hd' hdw (by rw [← hde]; exact he)
  unm b hb hn := by
    rw [k.unm b (Nat.lt_of_lt_of_le hb h.nx) (fun hd => hn (h.old b hd hb)), h.unm b hb hn]
  size := Nat.le_trans h.size k.size
  os := k.os.trans h.os
  tape := k.tape.trans h.tape
  output := k.output.trans h.output }

end Go.Ai
