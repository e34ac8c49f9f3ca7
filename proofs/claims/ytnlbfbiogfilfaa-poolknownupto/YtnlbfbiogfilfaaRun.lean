/- The run of the closed statement by the interpreter. -/
import Derived.Test.YtnlbfbiogfilfaaSorted
import Derived.Test.YtnlbfbiogfilfaaIns
namespace Go.Proofs.Ytnlbfbiogfilfaa.Acs
open Go.Ai Go.Proofs
theorem enters67 : Ai.Enters Try.prog 67 := ⟨Try.f67, Try.func67, by kernel_rfl, by kernel_rfl⟩
noncomputable def tb : Tr AFn := (tbl.set (key 67) (.prim insertG)).set (key 27) (.prim (sortedG 48))
theorem tb_ok : TblOk Try.prog tb :=
  (tbl_ok.prim_set (f := 67) (insert_ok Try.laysIns) (fun _ _ _ _ hr h => insertG_mono hr h) enters67).prim_set Try.sorted_ok (fun _ _ _ _ hr h => sortedG_mono hr h) Try.enters27
def isTrue (r : CRes) : Bool := match r with
  | .ret (.bool true) _ => true
  | _ => false
set_option maxRecDepth 1000000 in
theorem known_run : isTrue (call tb 100000 (.func 5 [] []) [] ⟨.leaf, 0, 0⟩) = true := by decide +kernel
end Go.Proofs.Ytnlbfbiogfilfaa.Acs
