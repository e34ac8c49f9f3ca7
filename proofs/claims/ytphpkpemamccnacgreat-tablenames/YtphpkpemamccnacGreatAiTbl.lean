/- A table of functions, put together of its entries. -/
import Derived.Test.YtphpkpemamccnacGreatAiCall
namespace Go.Ai

noncomputable def tblOf : List (Nat × AFn) → Tr AFn
  | [] => .leaf
  | e :: l => (tblOf l).set (key e.1) e.2

theorem tblOf_mem {l : List (Nat × AFn)} {f : Nat} {x : AFn} (h : (tblOf l).get (key f) = some x) : (f, x) ∈ l := by
  induction l with
  | nil => rw [tblOf, Tr.get_leaf] at h; cases h
  | cons e l ih =>
    rw [tblOf] at h
    by_cases hf : e.1 = f
    · subst hf; rw [Tr.get_set_same] at h; cases h; exact List.mem_cons_self ..
    · rw [Tr.get_set_other (fun k => hf (key_inj k))] at h; exact List.mem_cons_of_mem _ (ih h)

/-- an entry is what the compiler makes of the function -/
def Entry (P : Program) (f : Nat) (x : AFn) : Prop := ∃ fn, P.funcs[f]? = some fn ∧ (fn.name == "runtime.NumGoroutine") = false ∧ fn.body.isNone = false ∧ compF P fn = some x

def Entries (P : Program) : List (Nat × AFn) → Prop
  | [] => True
  | e :: l => Entry P e.1 e.2 ∧ Entries P l
theorem Entries.mem {P : Program} : ∀ {l : List (Nat × AFn)}, Entries P l → ∀ {f x}, (f, x) ∈ l → Entry P f x
  | e :: l, h, f, x, hm => by
    rcases List.mem_cons.1 hm with rfl | hm
    · exact h.1
    · exact Entries.mem h.2 hm

theorem compF_code {P : Program} {fn : Func} {x : AFn} (h : compF P fn = some x) : ∃ ps body res, x = .code ps body res := by
  unfold compF at h
  simp only [Option.bind_eq_some_iff] at h
  obtain ⟨c, _, ac, _, rs, _, h⟩ := h
  split at h
  · cases h; exact ⟨_, _, _, rfl⟩
  · cases h

theorem tblOf_ok {P : Program} {l : List (Nat × AFn)} (hm : P.follows .mixedOrders = true) (h : Entries P l) : TblOk P (tblOf l) := {
  mixed := hm
  mono f g hg := by
    obtain ⟨fn, _, _, _, hc⟩ := h.mem (tblOf_mem hg)
    obtain ⟨_, _, _, e⟩ := compF_code hc
    cases e
  enters f x hx := by
    obtain ⟨fn, h1, h2, h3, _⟩ := h.mem (tblOf_mem hx)
    exact ⟨fn, h1, h2, h3⟩
  code f ps body res hx := by
    obtain ⟨fn, h1, _, _, h4⟩ := h.mem (tblOf_mem hx)
    exact ⟨fn, h1, h4⟩
  prim f g hg := by
    obtain ⟨fn, _, _, _, hc⟩ := h.mem (tblOf_mem hg)
    obtain ⟨_, _, _, e⟩ := compF_code hc
    cases e }

theorem TblOk.prim_set {P : Program} {tbl : Tr AFn} (T : TblOk P tbl) {f : Nat} {g : List AV → Heap → CRes} (hp : PrimOk P f g) (hm : ∀ vs H v H', H.ro ≤ H.nx → g vs H = .ret v H' → Mono H H') (he : Enters P f) : TblOk P (tbl.set (key f) (.prim g)) := {
  mixed := T.mixed
  mono f' g' hg := by
    by_cases e : f = f'
    · subst e; rw [Tr.get_set_same] at hg; cases hg; exact hm
    · rw [Tr.get_set_other (fun k => e (key_inj k))] at hg; exact T.mono f' g' hg
  enters f' x hx := by
    by_cases e : f = f'
    · subst e; exact he
    · rw [Tr.get_set_other (fun k => e (key_inj k))] at hx; exact T.enters f' x hx
  code f' ps body res hx := by
    by_cases e : f = f'
    · subst e; rw [Tr.get_set_same] at hx; cases hx
    · rw [Tr.get_set_other (fun k => e (key_inj k))] at hx; exact T.code f' ps body res hx
  prim f' g' hg := by
    by_cases e : f = f'
    · subst e; rw [Tr.get_set_same] at hg; cases hg; exact hp
    · rw [Tr.get_set_other (fun k => e (key_inj k))] at hg; exact T.prim f' g' hg }
end Go.Ai
