/- The table of all functions that the compiler takes, found by compiling. -/
import Derived.Test.YtphpkpemamccnacGreatAiXRun
namespace Go.Ai

/-- a function's code, compiled -/
def codeOf (P : Program) (f : Nat) : Option AFn := (P.funcs[f]?).bind fun fn => if fn.name == "runtime.NumGoroutine" then none else compF P fn
theorem codeOf_entry {P : Program} {f : Nat} {x : AFn} (h : codeOf P f = some x) : Entry P f x := by
  unfold codeOf at h
  simp only [Option.bind_eq_some_iff] at h
  obtain ⟨fn, h1, h2⟩ := h
  split at h2
  · cases h2
  · rename_i hn
    refine ⟨fn, h1, by simpa using hn, ?_, h2⟩
    unfold compF at h2
    simp only [Option.bind_eq_some_iff] at h2
    obtain ⟨c, hc, _⟩ := h2
    rw [hc]; rfl
noncomputable def tblN (P : Program) : Nat → Tr AFn
  | 0 => .leaf
  | n + 1 => match codeOf P n with
    | some x => (tblN P n).set (key n) x
    | none => tblN P n
theorem tblN_get (P : Program) : ∀ (n f : Nat), (tblN P n).get (key f) = if f < n then codeOf P f else none
  | 0, f => by rw [tblN, Tr.get_leaf, if_neg (by omega)]
  | n + 1, f => by
    have ih := tblN_get P n f
    cases hc : codeOf P n with
    | none =>
      simp only [tblN, hc]
      rw [ih]
      by_cases h : f < n
      · rw [if_pos h, if_pos (by omega)]
      · rw [if_neg h]
        by_cases e : f = n
        · subst e; rw [if_pos (by omega), hc]
        · rw [if_neg (by omega)]
    | some x =>
      simp only [tblN, hc]
      by_cases e : n = f
      · subst e; rw [Tr.get_set_same, if_pos (by omega), hc]
      · rw [Tr.get_set_other (fun k => e (key_inj k)), ih]
        by_cases h : f < n
        · rw [if_pos h, if_pos (by omega)]
        · rw [if_neg h, if_neg (by omega)]
/-- the whole program's -/
noncomputable def tblP (P : Program) : Tr AFn := tblN P P.funcs.size
theorem tblP_get (P : Program) (f : Nat) : (tblP P).get (key f) = codeOf P f := by
  unfold tblP
  rw [tblN_get]
  split
  · rfl
  · rename_i h
    unfold codeOf
    rw [Array.getElem?_eq_none (by omega)]; rfl
theorem tblP_ok {P : Program} (hm : P.follows .mixedOrders = true) : TblOk P (tblP P) := {
  mixed := hm
  mono f g hg := by
    rw [tblP_get] at hg
    obtain ⟨fn, _, _, _, hc⟩ := codeOf_entry hg
    obtain ⟨_, _, _, e⟩ := compF_code hc
    cases e
  enters f x hx := by
    rw [tblP_get] at hx
    obtain ⟨fn, h1, h2, h3, _⟩ := codeOf_entry hx
    exact ⟨fn, h1, h2, h3⟩
  code f ps body res hx := by
    rw [tblP_get] at hx
    obtain ⟨fn, h1, _, _, h4⟩ := codeOf_entry hx
    exact ⟨fn, h1, h4⟩
  prim f g hg := by
    rw [tblP_get] at hg
    obtain ⟨fn, _, _, _, hc⟩ := codeOf_entry hg
    obtain ⟨_, _, _, e⟩ := compF_code hc
    cases e }
noncomputable def findP (P : Program) (f : Nat) (k : AFn → CRes) : CRes := oC (codeOf P f) k
theorem findP_ok (P : Program) : FindOk (tblP P) (findP P) := fun f k r H' h => by
  obtain ⟨x, h1, h2⟩ := oC_inv h
  exact ⟨x, by rw [tblP_get]; exact h1, h2⟩
/-- a prim ahead of it -/
noncomputable def findPrim (f : Nat) (g : List AV → Heap → CRes) (find : Nat → (AFn → CRes) → CRes) (f' : Nat) (k : AFn → CRes) : CRes := ifB (Nat.beq f' f) (k (.prim g)) (find f' k)
theorem findPrim_ok {tbl : Tr AFn} {f : Nat} {g : List AV → Heap → CRes} {find : Nat → (AFn → CRes) → CRes} (h : FindOk tbl find) : FindOk (tbl.set (key f) (.prim g)) (findPrim f g find) := fun f' k r H' h' => by
  unfold findPrim at h'
  cases hb : Nat.beq f' f with
  | true =>
    rw [hb] at h'
    have := Nat.eq_of_beq_eq_true hb
    subst this
    exact ⟨_, Tr.get_set_same _ _ _, h'⟩
  | false =>
    rw [hb] at h'
    obtain ⟨fn, h1, h2⟩ := h f' k r H' h'
    refine ⟨fn, ?_, h2⟩
    rw [Tr.get_set_other (fun e => by have := key_inj e; subst this; rw [Nat.beq_refl] at hb; cases hb)]
    exact h1
/-- what a run returns whatever comes behind it, the model's call returns -/
theorem run_ok {P : Program} {tbl : Tr AFn} (T : TblOk P tbl) {find : Nat → (AFn → CRes) → CRes} (hf : FindOk tbl find) {n m f : Nat} {u : AV}
    (h : ∀ J : AV → CRes, callX find n m (.func f [] []) [] ⟨.leaf, 0, 0⟩ (fun v _ => J v) = J u) : ∃ N H', call tbl N (.func f [] []) [] ⟨.leaf, 0, 0⟩ = .ret u H' := by
  obtain ⟨N, v, H₁, h1, h2⟩ := callX_sound T.mono hf (n := n) m (.func f [] []) [] ⟨.leaf, 0, 0⟩ (fun v _ => .ret v ⟨.leaf, 0, 0⟩) u ⟨.leaf, 0, 0⟩ (Nat.le_refl _) (h fun v => .ret v ⟨.leaf, 0, 0⟩)
  cases h2
  exact ⟨N, H₁, h1⟩
end Go.Ai
