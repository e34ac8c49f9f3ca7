/- The table of the program's functions, with those from the library's shelf. -/
import Derived.Test.YtphpkpemamccnaaGreatIns
import Derived.Test.YtphpkpemamccnaaGreatAiYPrim
import Derived.KernelRfl
import Derived.Test.YtphpkpemamccnaaGreatLeast
import Derived.Test.YtphpkpemamccnaaGreatAiLeastY
namespace Go.Proofs.YtphpkpemamccnaaGreat.anonNames
open Go.Ai Go.Proofs
noncomputable def tb0 : Tr AFn := (tblP Tryz.prog).set (key 27) (.prim insertG)
theorem enters : Ai.Enters Tryz.prog 27 := ⟨Tryz.f27, Tryz.func27, by kernel_rfl, by kernel_rfl⟩
theorem tb0_ok : TblOk Tryz.prog tb0 := (tblP_ok (by kernel_rfl)).prim_set (f := 27) (insert_ok Tryz.laysIns) (fun _ _ _ _ hr h => insertG_mono hr h) enters
noncomputable def fd0 : Nat → (YFn → CRes) → CRes := findYQ 27 insertY (findYP Tryz.prog)
theorem fd0_ok : FindY tb0 fd0 := findYQ_ok insertY_ok (findYP_ok Tryz.prog)
noncomputable def tb : Tr AFn := tb0.set (key 45) (.prim (leastG (callW tb0)))
theorem enters' : Ai.Enters Tryz.prog 45 := ⟨Tryz.f45, Tryz.func45, by kernel_rfl, by kernel_rfl⟩
theorem tb_ok : TblOk Tryz.prog tb := tb0_ok.prim_set (f := 45) (YtphpkpemamccnaaGreat.least.least_ok (callW_ok tb0_ok) (callW_mono tb0_ok)) (fun _ _ _ _ _ h => leastG_mono h) enters'
noncomputable def fd : Nat → (YFn → CRes) → CRes := findYQ 45 (leastY (callY fd0 100000 1000)) fd0
theorem fd_ok : FindY tb fd := findYQ_ok (leastY_ok (callY_sound tb0_ok.mono fd0_ok 1000)) fd0_ok
end Go.Proofs.YtphpkpemamccnaaGreat.anonNames
