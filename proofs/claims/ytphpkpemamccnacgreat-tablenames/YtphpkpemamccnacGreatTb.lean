/- The table, with the answer of the chapter's example. -/
import Derived.Test.YtphpkpemamccnacGreatAwake
namespace Go.Proofs.YtphpkpemamccnacGreat.tableNames
open Go.Ai Go.Proofs
noncomputable def tb : Tr AFn := tb0.set (key 17) (.prim (memoG [] (.bool true)))
theorem enters1 : Ai.Enters Tryz.prog 17 := ⟨Tryz.f17, Tryz.func17, by kernel_rfl, by kernel_rfl⟩
theorem tb_ok : TblOk Tryz.prog tb := tb0_ok.prim_set (f := 17) (memoY_prim tb0_ok fd0_ok rfl rfl awake) (fun _ _ _ _ _ h => memoG_mono h) enters1
noncomputable def fd : Nat → (YFn → CRes) → CRes := findYQ 17 (memoY [] (.bool true)) fd0
theorem fd_ok : FindY tb fd := findYQ_ok memoY_ok fd0_ok
end Go.Proofs.YtphpkpemamccnacGreat.tableNames
