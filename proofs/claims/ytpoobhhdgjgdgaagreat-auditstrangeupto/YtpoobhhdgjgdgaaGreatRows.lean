/-
  No cell of these rows narrows 'for every input' (looked for: loops, veiled, ifaces, maps, wideKeys, modest, calm, conditions, laid).
  DERIVED. THE GIVEN ROWS OF THIS SEAT. 2 by the template 'for every input the law returns true; each argument reads behind the call as it read before'; 0 by the template 'total and deterministic' (their statements: YtpoobhhdgjgdgaaGreatTotals.lean).
  GIVEN WITH THE SEED: the statements are not yours to turn. If you find one false, say at which input.
  Laid BY PROGRAM, IN A SANDBOX (cutbox-rows.mjs): the forced cells as the released guide's own fill.sh prints them over the translation b82431b95f4b5652… (all of the seat's roots in one cut). By AI agents, Wed Nov 11 2026. No macro, syntax, notation, axiom, sorry.
-/
import Derived.Test.YtpoobhhdgjgdgaaGreatChecked
import GoSem.Claim
import GoSem.ClaimJoined
import GoSem.ClaimMapViews
import Derived.JoinedTies
import Derived.KernelRfl
namespace Go.Proofs.YtpoobhhdgjgdgaaGreat
/- THE CELL 'sum', in the pinned program and in every row, IS THE sha256 OF THE DUMP (.gsa) THAT YtpoobhhdgjgdgaaGreatProg.lean LOADS. Nothing in Lean hashes anything: it is a label: what it is worth is what the hold of that sum in a sandbox is worth. -/
noncomputable def Tryz.pinned : Pinned := { name := "ytpoobhhdgjgdgaagreat", sum := "b82431b95f4b5652044f3cdea50eea95b88b14a2321c7fe399c98e439a10a56b", checked := Tryz.checked }
namespace Rows
def none {H : Type} : Left H := { results := [], args := [] }

/-- 'cofferdamlaw28.AuditStrange': WHATEVER THE INPUT: true; the input reads as it did. -/
def auditStrangeSpec : ChangeSpec := { name := "auditStrange", fn := fun _ => fun
  | [d1, d2, d3] => { results := [.lit (.bool true)], args := [d1, d2, d3] }
  | _ => none }
def auditStrangeRow : OpenClaim := { program := "ytpoobhhdgjgdgaagreat", sum := "b82431b95f4b5652044f3cdea50eea95b88b14a2321c7fe399c98e439a10a56b", func := "cofferdam/cofferdamlaw28.AuditStrange", spec := "auditStrange", unfollowed := true, recurses := true, plainKeys := false, apart := false }
def AuditStrangeSaid : Prop := auditStrangeRow.holds Tryz.pinned (OpenSpec.ofChange auditStrangeSpec)

/-- ITS FALSE NEIGHBOUR: 'it returns false'. Refute it at one input. -/
def auditStrangeWrong : ChangeSpec := { name := "auditStrange", fn := fun _ => fun
  | [d1, d2, d3] => { results := [.lit (.bool false)], args := [d1, d2, d3] }
  | _ => none }
def AuditStrangeWrongFalsely : Prop := auditStrangeRow.holds Tryz.pinned (OpenSpec.ofChange auditStrangeWrong)

/-- 'cofferdamlaw28.AuditSound': WHATEVER THE INPUT: true; the input reads as it did. -/
def auditSoundSpec : ChangeSpec := { name := "auditSound", fn := fun _ => fun
  | [d1, d2] => { results := [.lit (.bool true)], args := [d1, d2] }
  | _ => none }
def auditSoundRow : OpenClaim := { program := "ytpoobhhdgjgdgaagreat", sum := "b82431b95f4b5652044f3cdea50eea95b88b14a2321c7fe399c98e439a10a56b", func := "cofferdam/cofferdamlaw28.AuditSound", spec := "auditSound", unfollowed := true, recurses := true, plainKeys := false, apart := false }
def AuditSoundSaid : Prop := auditSoundRow.holds Tryz.pinned (OpenSpec.ofChange auditSoundSpec)

/-- ITS FALSE NEIGHBOUR: 'it returns false'. Refute it at one input. -/
def auditSoundWrong : ChangeSpec := { name := "auditSound", fn := fun _ => fun
  | [d1, d2] => { results := [.lit (.bool false)], args := [d1, d2] }
  | _ => none }
def AuditSoundWrongFalsely : Prop := auditSoundRow.holds Tryz.pinned (OpenSpec.ofChange auditSoundWrong)

/- THE SECOND FORM. 'bulk': how many values and letters a reading holds, each counted each time it is reached (what is shared counts as often as it is met; a slice's spare places count too). A statement '..UptoSaid' is the law's where the arguments, and the package variables that the reading takes, are together of bulk at most 1048576: NARROWER than '..Said'. Prove '..Said' where nothing that the law and all that it calls make is longer than what came in: it says more and counts as full. Else prove '..UptoSaid'. A law counts once. -/
mutual
def uptoBulk {H : Type} : DataW H → Nat
  | .lit (.string bytes) => bytes.length + 1
  | .lit _ => 1
  | .nil => 1
  | .ptr d => uptoBulk d + 1
  | .slice elems spare => uptoBulkAll elems + uptoBulkAll spare + 1
  | .agg parts => uptoBulkAll parts + 1
  | .iface _ d => uptoBulk d + 1
  | .map entries => uptoBulkEntries entries + 1
  | .held _ => 1
def uptoBulkAll {H : Type} : List (DataW H) → Nat
  | [] => 0
  | d :: r => uptoBulk d + uptoBulkAll r
def uptoBulkEntries {H : Type} : List (Lit × DataW H) → Nat
  | [] => 0
  | x :: r => uptoBulkEntry x + uptoBulkEntries r
def uptoBulkEntry {H : Type} : Lit × DataW H → Nat
  | (.string bytes, d) => bytes.length + uptoBulk d + 1
  | (_, d) => uptoBulk d + 1
 end
def uptoSmall : (H : Type) → List (DataW H) → Bool := fun _ ds => decide (uptoBulkAll ds ≤ 1048576)
def OpenSpec.upto (s : _root_.Go.ChangeSpec) : _root_.Go.OpenSpec := { _root_.Go.OpenSpec.ofChange s with cond := some uptoSmall }

/-- 'cofferdamlaw28.AuditStrange', WHERE WHAT IT READS IS OF BULK AT MOST 1048576: true; the input reads as it did. -/
def auditStrangeUptoRow : OpenClaim := { program := "ytpoobhhdgjgdgaagreat", sum := "b82431b95f4b5652044f3cdea50eea95b88b14a2321c7fe399c98e439a10a56b", func := "cofferdam/cofferdamlaw28.AuditStrange", spec := "auditStrange", unfollowed := true, recurses := true, plainKeys := false, apart := false, narrowed := true }
def AuditStrangeUptoSaid : Prop := auditStrangeUptoRow.holds Tryz.pinned (OpenSpec.upto auditStrangeSpec)

/-- 'cofferdamlaw28.AuditSound', WHERE WHAT IT READS IS OF BULK AT MOST 1048576: true; the input reads as it did. -/
def auditSoundUptoRow : OpenClaim := { program := "ytpoobhhdgjgdgaagreat", sum := "b82431b95f4b5652044f3cdea50eea95b88b14a2321c7fe399c98e439a10a56b", func := "cofferdam/cofferdamlaw28.AuditSound", spec := "auditSound", unfollowed := true, recurses := true, plainKeys := false, apart := false, narrowed := true }
def AuditSoundUptoSaid : Prop := auditSoundUptoRow.holds Tryz.pinned (OpenSpec.upto auditSoundSpec)

end Rows
end Go.Proofs.YtpoobhhdgjgdgaaGreat
