/- The table of the program's functions, with those that stand for the library's and for the least key of a map. -/
import Derived.Test.YtphpkpemamccnabGreatSorted
import Derived.Test.YtphpkpemamccnabGreatLeast
import Derived.Test.YtphpkpemamccnabGreatAiLeastY
namespace Go.Proofs.YtphpkpemamccnabGreat.slabKnown
open Go.Ai Go.Proofs
noncomputable def tb1 : Tr AFn := tb0.set (key 22) (.prim (leastG (callW tb0)))
theorem enters1 : Ai.Enters Tryz.prog 22 := ⟨Tryz.f22, Tryz.func22, by kernel_rfl, by kernel_rfl⟩
theorem tb1_ok : TblOk Tryz.prog tb1 := tb0_ok.prim_set (f := 22) (YtphpkpemamccnabGreat.least.least_ok (callW_ok tb0_ok) (callW_mono tb0_ok)) (fun _ _ _ _ _ h => leastG_mono h) enters1
noncomputable def fd1 : Nat → (YFn → CRes) → CRes := findYQ 22 (leastY (callY fd0 100000 1000)) fd0
theorem fd1_ok : FindY tb1 fd1 := findYQ_ok (leastY_ok (callY_sound tb0_ok.mono fd0_ok 1000)) fd0_ok
noncomputable def tb : Tr AFn := tb1.set (key 30) (.prim (Ai.sortedG 46))
theorem enters2 : Ai.Enters Tryz.prog 30 := ⟨Tryz.f30, Tryz.func30, by kernel_rfl, by kernel_rfl⟩
theorem tb_ok : TblOk Tryz.prog tb := tb1_ok.prim_set (f := 30) Try.sorted_ok (fun _ _ _ _ hr h => sortedG_mono hr h) enters2
noncomputable def fd : Nat → (YFn → CRes) → CRes := findYQ 30 (sortedY 46) fd1
theorem fd_ok : FindY tb fd := findYQ_ok sortedY_ok fd1_ok
end Go.Proofs.YtphpkpemamccnabGreat.slabKnown
