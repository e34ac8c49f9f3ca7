/- The table of the program's functions, with slices.Insert from the library's shelf. -/
import Derived.Test.YtphpkpemamccnacGreatIns
import Derived.Test.YtphpkpemamccnacGreatAiYPrim
import Derived.KernelRfl
namespace Go.Proofs.YtphpkpemamccnacGreat.tableNames
open Go.Ai Go.Proofs
noncomputable def tb0 : Tr AFn := (tblP Tryz.prog).set (key 175) (.prim insertG)
theorem enters : Ai.Enters Tryz.prog 175 := ⟨Tryz.f175, Tryz.func175, by kernel_rfl, by kernel_rfl⟩
theorem tb0_ok : TblOk Tryz.prog tb0 := (tblP_ok (by kernel_rfl)).prim_set (f := 175) (insert_ok Tryz.laysIns) (fun _ _ _ _ hr h => insertG_mono hr h) enters
noncomputable def fd0 : Nat → (YFn → CRes) → CRes := findYQ 175 insertY (findYP Tryz.prog)
theorem fd0_ok : FindY tb0 fd0 := findYQ_ok insertY_ok (findYP_ok Tryz.prog)
end Go.Proofs.YtphpkpemamccnacGreat.tableNames
