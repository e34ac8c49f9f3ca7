/- The interpreter's numbers and texts are the model's. -/
import Derived.Test.YtphpkpemamccnacGreatAiRel
import Derived.Laws.Entries
import Derived.WalkLawsBesides
namespace Go.Ai

theorem top_eq (k : IntKind) : IntKind.top k = if k.signed then 2 ^ (k.bits - 1) else 2 ^ k.bits := by cases k <;> rfl

theorem wrap_low (k : IntKind) (m : Nat) (h : m < IntKind.top k) : k.wrap (Int.ofNat m) = Int.ofNat m := by
  have e : (Int.ofNat m) = (m : Int) := rfl
  rw [e]
  cases k <;> simp only [IntKind.top] at h <;> simp only [IntKind.wrap, IntKind.signed, IntKind.bits] <;> simp <;> omega

theorem wrapK_eq {β : Type} (k : IntKind) (n : Int) (c : Int → β) : wrapK k n c = c (k.wrap n) := by
  cases n with
  | ofNat m =>
    show Bool.casesOn (motive := fun _ => β) (Nat.blt m (IntKind.top k)) (c (k.wrap (Int.ofNat m))) (c (Int.ofNat m)) = _
    cases h : Nat.blt m (IntKind.top k) with
    | false => rfl
    | true => show c (Int.ofNat m) = _; rw [wrap_low k m (by simp [Nat.blt] at h; omega)]
  | negSucc m => rfl

theorem addF_eq (a b : Int) : addF a b = a + b := by cases a <;> cases b <;> rfl
theorem mulF_eq (a b : Int) : mulF a b = a * b := by cases a <;> cases b <;> rfl
theorem subF_eq (a b : Int) : subF a b = a - b := by
  cases a with
  | negSucc x => rfl
  | ofNat x => cases b with
    | negSucc y => rfl
    | ofNat y =>
      show Bool.casesOn (motive := fun _ => Int) (Nat.ble y x) (Int.ofNat x - Int.ofNat y) (Int.ofNat (Nat.sub x y)) = _
      cases h : Nat.ble y x with
      | false => rfl
      | true =>
        have := Nat.le_of_ble_eq_true h
        show ((x - y : Nat) : Int) = (x : Int) - (y : Int)
        omega
theorem divF_eq (a b : Int) : divF a b = a.tdiv b := by cases a <;> cases b <;> rfl
theorem modF_eq (a b : Int) : modF a b = a.tmod b := by cases a <;> cases b <;> rfl
theorem blt_eq (x y : Nat) : Nat.blt x y = decide (x < y) := by
  rw [Bool.eq_iff_iff, Nat.blt_eq]; simp
theorem ltF_eq (a b : Int) : ltF a b = decide (a < b) := by
  cases a with
  | ofNat x => cases b with
    | ofNat y => show Nat.blt x y = _; rw [blt_eq]; congr 1; exact propext Int.ofNat_lt.symm
    | negSucc y => show false = _; symm; simp; have := Int.negSucc_lt_zero y; show Int.negSucc y ≤ (x : Int); omega
  | negSucc x => cases b with
    | ofNat y => show true = _; symm; simp; have := Int.negSucc_lt_zero x; show Int.negSucc x < (y : Int); omega
    | negSucc y => show Nat.blt y x = _; rw [blt_eq]; congr 1; exact propext (by rw [Int.negSucc_eq, Int.negSucc_eq]; omega)
theorem beqN (x y : Nat) : Nat.beq x y = decide (x = y) := by
  cases h : Nat.beq x y with
  | true => symm; simpa using Nat.eq_of_beq_eq_true h
  | false => symm; simpa using Nat.ne_of_beq_eq_false h
theorem eqF_eq (a b : Int) : eqF a b = (a == b) := by
  cases a with
  | ofNat x => cases b with
    | ofNat y => show Nat.beq x y = _; rw [beqN, Bool.eq_iff_iff]; simp; exact Int.ofNat_inj.symm
    | negSucc y => rfl
  | negSucc x => cases b with
    | ofNat y => rfl
    | negSucc y => show Nat.beq x y = _; rw [beqN, Bool.eq_iff_iff]; simp
theorem isZ_eq (a : Int) : isZ a = decide (a = 0) := by unfold isZ; rw [eqF_eq]; rfl
theorem natF_eq {β : Type} (a : Int) (e : β) (k : Nat → β) : natF a e k = if 0 ≤ a then k a.toNat else e := by
  cases a with
  | ofNat x => rw [if_pos (show 0 ≤ Int.ofNat x from Int.natCast_nonneg x)]; rfl
  | negSucc x => rw [if_neg (by have := Int.negSucc_lt_zero x; omega)]; rfl
theorem natF_some {α : Type} {a : Int} {k : Nat → Option α} {r : α} (h : natF a none k = some r) : 0 ≤ a ∧ k a.toNat = some r := by
  rw [natF_eq] at h; split at h
  · exact ⟨by assumption, h⟩
  · cases h
theorem shrF_eq (k : IntKind) (x : Int) (y : Nat) : shrF k x y = x.fdiv (2 ^ (min y k.bits)) := by
  cases x with
  | negSucc a => rfl
  | ofNat a =>
    show Int.ofNat (Nat.div a (Nat.pow 2 (min y k.bits))) = _
    have : ((2 : Int) ^ (min y k.bits)) = Int.ofNat (Nat.pow 2 (min y k.bits)) := by
      show _ = ((2 ^ (min y k.bits) : Nat) : Int); simp
    have h2 := Int.fdiv_eq_ediv_of_nonneg (Int.ofNat a) (show 0 ≤ Int.ofNat (Nat.pow 2 (min y k.bits)) from Int.natCast_nonneg _)
    rw [this, h2]
    rfl

theorem eqBytes_eq (a : List UInt8) : ∀ b, eqBytes a b = (a == b) := by
  induction a with
  | nil => intro b; cases b <;> rfl
  | cons x a ih =>
    intro b
    cases b with
    | nil => rfl
    | cons y b =>
      show Bool.casesOn (motive := fun _ => Bool) (Nat.beq x.toNat y.toNat) false (eqBytes a b) = _
      rw [beqN]
      have e : (decide (x.toNat = y.toNat)) = (x == y) := by
        rw [Bool.eq_iff_iff]; simp [UInt8.toNat_inj]
      rw [e]
      cases h : (x == y) with
      | true => simp only [List.cons_beq_cons, h, Bool.true_and]; exact ih b
      | false => simp only [List.cons_beq_cons, h, Bool.false_and]

section
variable {P : Program} {w : World} {t : TypeId}

theorem run_str_eq (a b : List UInt8) : ((⟨a.toArray⟩ : ByteArray).toList == (⟨b.toArray⟩ : ByteArray).toList) = (a == b) := by
  rw [ByteArray.toList_mk, ByteArray.toList_mk]
end
end Go.Ai
