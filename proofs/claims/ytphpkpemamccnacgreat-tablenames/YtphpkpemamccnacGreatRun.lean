/- The run of the closed statement by the interpreter in continuation style: true, whatever comes behind it. -/
import Derived.Test.YtphpkpemamccnacGreatTb
namespace Go.Proofs.YtphpkpemamccnacGreat.tableNames
open Go.Ai Go.Proofs
set_option maxRecDepth 1000000 in
set_option maxHeartbeats 1000000000 in
theorem run (J : AV → CRes) : callY fd 100000 1000 (.func 3 [] []) [] ⟨.leaf, 0, 0⟩ (fun v _ => J v) = J (.bool true) := by kernel_rfl
end Go.Proofs.YtphpkpemamccnacGreat.tableNames
