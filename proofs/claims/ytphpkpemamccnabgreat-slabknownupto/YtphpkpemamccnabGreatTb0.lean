/- The table of the program's functions, with slices.Insert from the library's shelf. -/
import Derived.Test.YtphpkpemamccnabGreatIns
import Derived.Test.YtphpkpemamccnabGreatAiYPrim
import Derived.KernelRfl
namespace Go.Proofs.YtphpkpemamccnabGreat.slabKnown
open Go.Ai Go.Proofs
noncomputable def tb0 : Tr AFn := (tblP Tryz.prog).set (key 57) (.prim insertG)
theorem enters : Ai.Enters Tryz.prog 57 := ⟨Tryz.f57, Tryz.func57, by kernel_rfl, by kernel_rfl⟩
theorem tb0_ok : TblOk Tryz.prog tb0 := (tblP_ok (by kernel_rfl)).prim_set (f := 57) (insert_ok Tryz.laysIns) (fun _ _ _ _ hr h => insertG_mono hr h) enters
noncomputable def fd0 : Nat → (YFn → CRes) → CRes := findYQ 57 insertY (findYP Tryz.prog)
theorem fd0_ok : FindY tb0 fd0 := findYQ_ok insertY_ok (findYP_ok Tryz.prog)
theorem tb0_get {f : Nat} {x : AFn} (h : f ≠ 57) (hc : codeOf Tryz.prog f = some x) : tb0.get (key f) = some x := by
  unfold tb0
  rw [Tr.get_set_other fun e => h (key_inj e).symm, tblP_get]; exact hc
end Go.Proofs.YtphpkpemamccnabGreat.slabKnown
