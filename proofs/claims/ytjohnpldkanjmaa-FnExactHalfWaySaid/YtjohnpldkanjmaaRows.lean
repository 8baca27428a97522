/-
  No cell of these rows narrows 'for every input' (looked for: loops, veiled, ifaces, maps, wideKeys, modest, calm, conditions, laid).
  DERIVED. THE GIVEN ROWS OF THIS SEAT. 12 by the template 'for every input the law returns true; each argument reads behind the call as it read before'; 0 by the template 'total and deterministic' (their statements: YtjohnpldkanjmaaTotals.lean).
  GIVEN WITH THE SEED: the statements are not yours to turn. If you find one false, say at which input.
  Laid BY PROGRAM, IN A SANDBOX (cutbox-rows.mjs): the forced cells as the released guide's own fill.sh prints them over the translation ea86ba57b4fe059e… (all of the seat's roots in one cut). By AI agents, Wed Nov 11 2026. No macro, syntax, notation, axiom, sorry.
-/
import Derived.Test.YtjohnpldkanjmaaChecked
import GoSem.Claim
import GoSem.ClaimJoined
import GoSem.ClaimMapViews
import Derived.JoinedTies
import Derived.KernelRfl
namespace Go.Proofs.Ytjohnpldkanjmaa
/- THE CELL 'sum', in the pinned program and in every row, IS THE sha256 OF THE DUMP (.gsa) THAT YtjohnpldkanjmaaProg.lean LOADS. Nothing in Lean hashes anything: it is a label: what it is worth is what the hold of that sum in a sandbox is worth. -/
noncomputable def Try.pinned : Pinned := { name := "ytjohnpldkanjmaa", sum := "ea86ba57b4fe059e572301dd28df772e06b50c982b50ef3d191797c0419fc426", checked := Try.checked }
namespace Rows
def none {H : Type} : Left H := { results := [], args := [] }

/-- 'laws.FnExactSplitExact': WHATEVER THE INPUT: true; the input reads as it did. -/
def fnExactSplitExactSpec : ChangeSpec := { name := "fnExactSplitExact", fn := fun _ => fun
  | [d1, d2] => { results := [.lit (.bool true)], args := [d1, d2] }
  | _ => none }
def fnExactSplitExactRow : OpenClaim := { program := "ytjohnpldkanjmaa", sum := "ea86ba57b4fe059e572301dd28df772e06b50c982b50ef3d191797c0419fc426", func := "loop.example/g01302/laws.FnExactSplitExact", spec := "fnExactSplitExact", unfollowed := true, recurses := true, apart := false }
def FnExactSplitExactSaid : Prop := fnExactSplitExactRow.holds Try.pinned (OpenSpec.ofChange fnExactSplitExactSpec)

/-- ITS FALSE NEIGHBOUR: 'it returns false'. Refute it at one input. -/
def fnExactSplitExactWrong : ChangeSpec := { name := "fnExactSplitExact", fn := fun _ => fun
  | [d1, d2] => { results := [.lit (.bool false)], args := [d1, d2] }
  | _ => none }
def FnExactSplitExactWrongFalsely : Prop := fnExactSplitExactRow.holds Try.pinned (OpenSpec.ofChange fnExactSplitExactWrong)

/-- 'laws.FnExactSameRiver': WHATEVER THE INPUT: true; the input reads as it did. -/
def fnExactSameRiverSpec : ChangeSpec := { name := "fnExactSameRiver", fn := fun _ => fun
  | [d1, d2] => { results := [.lit (.bool true)], args := [d1, d2] }
  | _ => none }
def fnExactSameRiverRow : OpenClaim := { program := "ytjohnpldkanjmaa", sum := "ea86ba57b4fe059e572301dd28df772e06b50c982b50ef3d191797c0419fc426", func := "loop.example/g01302/laws.FnExactSameRiver", spec := "fnExactSameRiver", apart := false }
def FnExactSameRiverSaid : Prop := fnExactSameRiverRow.holds Try.pinned (OpenSpec.ofChange fnExactSameRiverSpec)

/-- ITS FALSE NEIGHBOUR: 'it returns false'. Refute it at one input. -/
def fnExactSameRiverWrong : ChangeSpec := { name := "fnExactSameRiver", fn := fun _ => fun
  | [d1, d2] => { results := [.lit (.bool false)], args := [d1, d2] }
  | _ => none }
def FnExactSameRiverWrongFalsely : Prop := fnExactSameRiverRow.holds Try.pinned (OpenSpec.ofChange fnExactSameRiverWrong)

/-- 'laws.FnExactLineRiver': WHATEVER THE INPUT: true; the input reads as it did. -/
def fnExactLineRiverSpec : ChangeSpec := { name := "fnExactLineRiver", fn := fun _ => fun
  | [d] => { results := [.lit (.bool true)], args := [d] }
  | _ => none }
def fnExactLineRiverRow : OpenClaim := { program := "ytjohnpldkanjmaa", sum := "ea86ba57b4fe059e572301dd28df772e06b50c982b50ef3d191797c0419fc426", func := "loop.example/g01302/laws.FnExactLineRiver", spec := "fnExactLineRiver", apart := false }
def FnExactLineRiverSaid : Prop := fnExactLineRiverRow.holds Try.pinned (OpenSpec.ofChange fnExactLineRiverSpec)

/-- ITS FALSE NEIGHBOUR: 'it returns false'. Refute it at one input. -/
def fnExactLineRiverWrong : ChangeSpec := { name := "fnExactLineRiver", fn := fun _ => fun
  | [d] => { results := [.lit (.bool false)], args := [d] }
  | _ => none }
def FnExactLineRiverWrongFalsely : Prop := fnExactLineRiverRow.holds Try.pinned (OpenSpec.ofChange fnExactLineRiverWrong)

/-- 'laws.FnExactHalfWay': WHATEVER THE INPUT: true; the input reads as it did. -/
def fnExactHalfWaySpec : ChangeSpec := { name := "fnExactHalfWay", fn := fun _ => fun
  | [d] => { results := [.lit (.bool true)], args := [d] }
  | _ => none }
def fnExactHalfWayRow : OpenClaim := { program := "ytjohnpldkanjmaa", sum := "ea86ba57b4fe059e572301dd28df772e06b50c982b50ef3d191797c0419fc426", func := "loop.example/g01302/laws.FnExactHalfWay", spec := "fnExactHalfWay", unfollowed := true, recurses := true, apart := false }
def FnExactHalfWaySaid : Prop := fnExactHalfWayRow.holds Try.pinned (OpenSpec.ofChange fnExactHalfWaySpec)

/-- ITS FALSE NEIGHBOUR: 'it returns false'. Refute it at one input. -/
def fnExactHalfWayWrong : ChangeSpec := { name := "fnExactHalfWay", fn := fun _ => fun
  | [d] => { results := [.lit (.bool false)], args := [d] }
  | _ => none }
def FnExactHalfWayWrongFalsely : Prop := fnExactHalfWayRow.holds Try.pinned (OpenSpec.ofChange fnExactHalfWayWrong)

/-- 'laws.FnExactValidRiver': WHATEVER THE INPUT: true; the input reads as it did. -/
def fnExactValidRiverSpec : ChangeSpec := { name := "fnExactValidRiver", fn := fun _ => fun
  | [d] => { results := [.lit (.bool true)], args := [d] }
  | _ => none }
def fnExactValidRiverRow : OpenClaim := { program := "ytjohnpldkanjmaa", sum := "ea86ba57b4fe059e572301dd28df772e06b50c982b50ef3d191797c0419fc426", func := "loop.example/g01302/laws.FnExactValidRiver", spec := "fnExactValidRiver", unfollowed := true, recurses := true, apart := false }
def FnExactValidRiverSaid : Prop := fnExactValidRiverRow.holds Try.pinned (OpenSpec.ofChange fnExactValidRiverSpec)

/-- ITS FALSE NEIGHBOUR: 'it returns false'. Refute it at one input. -/
def fnExactValidRiverWrong : ChangeSpec := { name := "fnExactValidRiver", fn := fun _ => fun
  | [d] => { results := [.lit (.bool false)], args := [d] }
  | _ => none }
def FnExactValidRiverWrongFalsely : Prop := fnExactValidRiverRow.holds Try.pinned (OpenSpec.ofChange fnExactValidRiverWrong)

/-- 'laws.FnExactByRights': WHATEVER THE INPUT: true; the input reads as it did. -/
def fnExactByRightsSpec : ChangeSpec := { name := "fnExactByRights", fn := fun _ => fun
  | [d1, d2, d3] => { results := [.lit (.bool true)], args := [d1, d2, d3] }
  | _ => none }
def fnExactByRightsRow : OpenClaim := { program := "ytjohnpldkanjmaa", sum := "ea86ba57b4fe059e572301dd28df772e06b50c982b50ef3d191797c0419fc426", func := "loop.example/g01302/laws.FnExactByRights", spec := "fnExactByRights", unfollowed := true, recurses := true, apart := false }
def FnExactByRightsSaid : Prop := fnExactByRightsRow.holds Try.pinned (OpenSpec.ofChange fnExactByRightsSpec)

/-- ITS FALSE NEIGHBOUR: 'it returns false'. Refute it at one input. -/
def fnExactByRightsWrong : ChangeSpec := { name := "fnExactByRights", fn := fun _ => fun
  | [d1, d2, d3] => { results := [.lit (.bool false)], args := [d1, d2, d3] }
  | _ => none }
def FnExactByRightsWrongFalsely : Prop := fnExactByRightsRow.holds Try.pinned (OpenSpec.ofChange fnExactByRightsWrong)

/-- 'laws.FnExactStoredIn': WHATEVER THE INPUT: true; the input reads as it did. -/
def fnExactStoredInSpec : ChangeSpec := { name := "fnExactStoredIn", fn := fun _ => fun
  | [d] => { results := [.lit (.bool true)], args := [d] }
  | _ => none }
def fnExactStoredInRow : OpenClaim := { program := "ytjohnpldkanjmaa", sum := "ea86ba57b4fe059e572301dd28df772e06b50c982b50ef3d191797c0419fc426", func := "loop.example/g01302/laws.FnExactStoredIn", spec := "fnExactStoredIn", unfollowed := true, recurses := true, apart := false }
def FnExactStoredInSaid : Prop := fnExactStoredInRow.holds Try.pinned (OpenSpec.ofChange fnExactStoredInSpec)

/-- ITS FALSE NEIGHBOUR: 'it returns false'. Refute it at one input. -/
def fnExactStoredInWrong : ChangeSpec := { name := "fnExactStoredIn", fn := fun _ => fun
  | [d] => { results := [.lit (.bool false)], args := [d] }
  | _ => none }
def FnExactStoredInWrongFalsely : Prop := fnExactStoredInRow.holds Try.pinned (OpenSpec.ofChange fnExactStoredInWrong)

/-- 'laws.FnExactMeetingOf': WHATEVER THE INPUT: true; the input reads as it did. -/
def fnExactMeetingOfSpec : ChangeSpec := { name := "fnExactMeetingOf", fn := fun _ => fun
  | [d1, d2, d3] => { results := [.lit (.bool true)], args := [d1, d2, d3] }
  | _ => none }
def fnExactMeetingOfRow : OpenClaim := { program := "ytjohnpldkanjmaa", sum := "ea86ba57b4fe059e572301dd28df772e06b50c982b50ef3d191797c0419fc426", func := "loop.example/g01302/laws.FnExactMeetingOf", spec := "fnExactMeetingOf", unfollowed := true, recurses := true, apart := false }
def FnExactMeetingOfSaid : Prop := fnExactMeetingOfRow.holds Try.pinned (OpenSpec.ofChange fnExactMeetingOfSpec)

/-- ITS FALSE NEIGHBOUR: 'it returns false'. Refute it at one input. -/
def fnExactMeetingOfWrong : ChangeSpec := { name := "fnExactMeetingOf", fn := fun _ => fun
  | [d1, d2, d3] => { results := [.lit (.bool false)], args := [d1, d2, d3] }
  | _ => none }
def FnExactMeetingOfWrongFalsely : Prop := fnExactMeetingOfRow.holds Try.pinned (OpenSpec.ofChange fnExactMeetingOfWrong)

/-- 'laws.FnExactOutletsOf': WHATEVER THE INPUT: true; the input reads as it did. -/
def fnExactOutletsOfSpec : ChangeSpec := { name := "fnExactOutletsOf", fn := fun _ => fun
  | [d] => { results := [.lit (.bool true)], args := [d] }
  | _ => none }
def fnExactOutletsOfRow : OpenClaim := { program := "ytjohnpldkanjmaa", sum := "ea86ba57b4fe059e572301dd28df772e06b50c982b50ef3d191797c0419fc426", func := "loop.example/g01302/laws.FnExactOutletsOf", spec := "fnExactOutletsOf", unfollowed := true, recurses := true, apart := false }
def FnExactOutletsOfSaid : Prop := fnExactOutletsOfRow.holds Try.pinned (OpenSpec.ofChange fnExactOutletsOfSpec)

/-- ITS FALSE NEIGHBOUR: 'it returns false'. Refute it at one input. -/
def fnExactOutletsOfWrong : ChangeSpec := { name := "fnExactOutletsOf", fn := fun _ => fun
  | [d] => { results := [.lit (.bool false)], args := [d] }
  | _ => none }
def FnExactOutletsOfWrongFalsely : Prop := fnExactOutletsOfRow.holds Try.pinned (OpenSpec.ofChange fnExactOutletsOfWrong)

/-- 'laws.FnExactDepthsIn': WHATEVER THE INPUT: true; the input reads as it did. -/
def fnExactDepthsInSpec : ChangeSpec := { name := "fnExactDepthsIn", fn := fun _ => fun
  | [d] => { results := [.lit (.bool true)], args := [d] }
  | _ => none }
def fnExactDepthsInRow : OpenClaim := { program := "ytjohnpldkanjmaa", sum := "ea86ba57b4fe059e572301dd28df772e06b50c982b50ef3d191797c0419fc426", func := "loop.example/g01302/laws.FnExactDepthsIn", spec := "fnExactDepthsIn", unfollowed := true, recurses := true, apart := false }
def FnExactDepthsInSaid : Prop := fnExactDepthsInRow.holds Try.pinned (OpenSpec.ofChange fnExactDepthsInSpec)

/-- ITS FALSE NEIGHBOUR: 'it returns false'. Refute it at one input. -/
def fnExactDepthsInWrong : ChangeSpec := { name := "fnExactDepthsIn", fn := fun _ => fun
  | [d] => { results := [.lit (.bool false)], args := [d] }
  | _ => none }
def FnExactDepthsInWrongFalsely : Prop := fnExactDepthsInRow.holds Try.pinned (OpenSpec.ofChange fnExactDepthsInWrong)

/-- 'laws.FnExactUpFrom': WHATEVER THE INPUT: true; the input reads as it did. -/
def fnExactUpFromSpec : ChangeSpec := { name := "fnExactUpFrom", fn := fun _ => fun
  | [d1, d2] => { results := [.lit (.bool true)], args := [d1, d2] }
  | _ => none }
def fnExactUpFromRow : OpenClaim := { program := "ytjohnpldkanjmaa", sum := "ea86ba57b4fe059e572301dd28df772e06b50c982b50ef3d191797c0419fc426", func := "loop.example/g01302/laws.FnExactUpFrom", spec := "fnExactUpFrom", unfollowed := true, recurses := true, apart := false }
def FnExactUpFromSaid : Prop := fnExactUpFromRow.holds Try.pinned (OpenSpec.ofChange fnExactUpFromSpec)

/-- ITS FALSE NEIGHBOUR: 'it returns false'. Refute it at one input. -/
def fnExactUpFromWrong : ChangeSpec := { name := "fnExactUpFrom", fn := fun _ => fun
  | [d1, d2] => { results := [.lit (.bool false)], args := [d1, d2] }
  | _ => none }
def FnExactUpFromWrongFalsely : Prop := fnExactUpFromRow.holds Try.pinned (OpenSpec.ofChange fnExactUpFromWrong)

/-- 'laws.FnExactFlowOrder': WHATEVER THE INPUT: true; the input reads as it did. -/
def fnExactFlowOrderSpec : ChangeSpec := { name := "fnExactFlowOrder", fn := fun _ => fun
  | [d] => { results := [.lit (.bool true)], args := [d] }
  | _ => none }
def fnExactFlowOrderRow : OpenClaim := { program := "ytjohnpldkanjmaa", sum := "ea86ba57b4fe059e572301dd28df772e06b50c982b50ef3d191797c0419fc426", func := "loop.example/g01302/laws.FnExactFlowOrder", spec := "fnExactFlowOrder", unfollowed := true, recurses := true, apart := false }
def FnExactFlowOrderSaid : Prop := fnExactFlowOrderRow.holds Try.pinned (OpenSpec.ofChange fnExactFlowOrderSpec)

/-- ITS FALSE NEIGHBOUR: 'it returns false'. Refute it at one input. -/
def fnExactFlowOrderWrong : ChangeSpec := { name := "fnExactFlowOrder", fn := fun _ => fun
  | [d] => { results := [.lit (.bool false)], args := [d] }
  | _ => none }
def FnExactFlowOrderWrongFalsely : Prop := fnExactFlowOrderRow.holds Try.pinned (OpenSpec.ofChange fnExactFlowOrderWrong)

/- THE SECOND FORM. 'bulk': how many values and letters a reading holds, each counted each time it is reached (what is shared counts as often as it is met; a slice's spare places count too). A statement '..UptoSaid' is the law's where the arguments, and the package variables that the reading takes, are together of bulk at most 1048576: NARROWER than '..Said'. Prove '..Said' where nothing that the law and all that it calls make is longer than what came in: it says more and counts as full. Else prove '..UptoSaid'. A law counts once. -/
mutual
def uptoBulk {H : Type} : DataW H → Nat
  | .lit (.string bytes) => bytes.length + 1
  | .lit _ => 1
  | .nil => 1
  | .ptr d => uptoBulk d + 1
  | .slice elems spare => uptoBulkAll elems + uptoBulkAll spare + 1
  | .agg parts => uptoBulkAll parts + 1
  | .iface _ d => uptoBulk d + 1
  | .map entries => uptoBulkEntries entries + 1
  | .held _ => 1
def uptoBulkAll {H : Type} : List (DataW H) → Nat
  | [] => 0
  | d :: r => uptoBulk d + uptoBulkAll r
def uptoBulkEntries {H : Type} : List (Lit × DataW H) → Nat
  | [] => 0
  | x :: r => uptoBulkEntry x + uptoBulkEntries r
def uptoBulkEntry {H : Type} : Lit × DataW H → Nat
  | (.string bytes, d) => bytes.length + uptoBulk d + 1
  | (_, d) => uptoBulk d + 1
 end
def uptoSmall : (H : Type) → List (DataW H) → Bool := fun _ ds => decide (uptoBulkAll ds ≤ 1048576)
def OpenSpec.upto (s : _root_.Go.ChangeSpec) : _root_.Go.OpenSpec := { _root_.Go.OpenSpec.ofChange s with cond := some uptoSmall }

/-- 'laws.FnExactSplitExact', WHERE WHAT IT READS IS OF BULK AT MOST 1048576: true; the input reads as it did. -/
def fnExactSplitExactUptoRow : OpenClaim := { program := "ytjohnpldkanjmaa", sum := "ea86ba57b4fe059e572301dd28df772e06b50c982b50ef3d191797c0419fc426", func := "loop.example/g01302/laws.FnExactSplitExact", spec := "fnExactSplitExact", unfollowed := true, recurses := true, apart := false, narrowed := true }
def FnExactSplitExactUptoSaid : Prop := fnExactSplitExactUptoRow.holds Try.pinned (OpenSpec.upto fnExactSplitExactSpec)

/-- 'laws.FnExactSameRiver', WHERE WHAT IT READS IS OF BULK AT MOST 1048576: true; the input reads as it did. -/
def fnExactSameRiverUptoRow : OpenClaim := { program := "ytjohnpldkanjmaa", sum := "ea86ba57b4fe059e572301dd28df772e06b50c982b50ef3d191797c0419fc426", func := "loop.example/g01302/laws.FnExactSameRiver", spec := "fnExactSameRiver", apart := false, narrowed := true }
def FnExactSameRiverUptoSaid : Prop := fnExactSameRiverUptoRow.holds Try.pinned (OpenSpec.upto fnExactSameRiverSpec)

/-- 'laws.FnExactLineRiver', WHERE WHAT IT READS IS OF BULK AT MOST 1048576: true; the input reads as it did. -/
def fnExactLineRiverUptoRow : OpenClaim := { program := "ytjohnpldkanjmaa", sum := "ea86ba57b4fe059e572301dd28df772e06b50c982b50ef3d191797c0419fc426", func := "loop.example/g01302/laws.FnExactLineRiver", spec := "fnExactLineRiver", apart := false, narrowed := true }
def FnExactLineRiverUptoSaid : Prop := fnExactLineRiverUptoRow.holds Try.pinned (OpenSpec.upto fnExactLineRiverSpec)

/-- 'laws.FnExactHalfWay', WHERE WHAT IT READS IS OF BULK AT MOST 1048576: true; the input reads as it did. -/
def fnExactHalfWayUptoRow : OpenClaim := { program := "ytjohnpldkanjmaa", sum := "ea86ba57b4fe059e572301dd28df772e06b50c982b50ef3d191797c0419fc426", func := "loop.example/g01302/laws.FnExactHalfWay", spec := "fnExactHalfWay", unfollowed := true, recurses := true, apart := false, narrowed := true }
def FnExactHalfWayUptoSaid : Prop := fnExactHalfWayUptoRow.holds Try.pinned (OpenSpec.upto fnExactHalfWaySpec)

/-- 'laws.FnExactValidRiver', WHERE WHAT IT READS IS OF BULK AT MOST 1048576: true; the input reads as it did. -/
def fnExactValidRiverUptoRow : OpenClaim := { program := "ytjohnpldkanjmaa", sum := "ea86ba57b4fe059e572301dd28df772e06b50c982b50ef3d191797c0419fc426", func := "loop.example/g01302/laws.FnExactValidRiver", spec := "fnExactValidRiver", unfollowed := true, recurses := true, apart := false, narrowed := true }
def FnExactValidRiverUptoSaid : Prop := fnExactValidRiverUptoRow.holds Try.pinned (OpenSpec.upto fnExactValidRiverSpec)

/-- 'laws.FnExactByRights', WHERE WHAT IT READS IS OF BULK AT MOST 1048576: true; the input reads as it did. -/
def fnExactByRightsUptoRow : OpenClaim := { program := "ytjohnpldkanjmaa", sum := "ea86ba57b4fe059e572301dd28df772e06b50c982b50ef3d191797c0419fc426", func := "loop.example/g01302/laws.FnExactByRights", spec := "fnExactByRights", unfollowed := true, recurses := true, apart := false, narrowed := true }
def FnExactByRightsUptoSaid : Prop := fnExactByRightsUptoRow.holds Try.pinned (OpenSpec.upto fnExactByRightsSpec)

/-- 'laws.FnExactStoredIn', WHERE WHAT IT READS IS OF BULK AT MOST 1048576: true; the input reads as it did. -/
def fnExactStoredInUptoRow : OpenClaim := { program := "ytjohnpldkanjmaa", sum := "ea86ba57b4fe059e572301dd28df772e06b50c982b50ef3d191797c0419fc426", func := "loop.example/g01302/laws.FnExactStoredIn", spec := "fnExactStoredIn", unfollowed := true, recurses := true, apart := false, narrowed := true }
def FnExactStoredInUptoSaid : Prop := fnExactStoredInUptoRow.holds Try.pinned (OpenSpec.upto fnExactStoredInSpec)

/-- 'laws.FnExactMeetingOf', WHERE WHAT IT READS IS OF BULK AT MOST 1048576: true; the input reads as it did. -/
def fnExactMeetingOfUptoRow : OpenClaim := { program := "ytjohnpldkanjmaa", sum := "ea86ba57b4fe059e572301dd28df772e06b50c982b50ef3d191797c0419fc426", func := "loop.example/g01302/laws.FnExactMeetingOf", spec := "fnExactMeetingOf", unfollowed := true, recurses := true, apart := false, narrowed := true }
def FnExactMeetingOfUptoSaid : Prop := fnExactMeetingOfUptoRow.holds Try.pinned (OpenSpec.upto fnExactMeetingOfSpec)

/-- 'laws.FnExactOutletsOf', WHERE WHAT IT READS IS OF BULK AT MOST 1048576: true; the input reads as it did. -/
def fnExactOutletsOfUptoRow : OpenClaim := { program := "ytjohnpldkanjmaa", sum := "ea86ba57b4fe059e572301dd28df772e06b50c982b50ef3d191797c0419fc426", func := "loop.example/g01302/laws.FnExactOutletsOf", spec := "fnExactOutletsOf", unfollowed := true, recurses := true, apart := false, narrowed := true }
def FnExactOutletsOfUptoSaid : Prop := fnExactOutletsOfUptoRow.holds Try.pinned (OpenSpec.upto fnExactOutletsOfSpec)

/-- 'laws.FnExactDepthsIn', WHERE WHAT IT READS IS OF BULK AT MOST 1048576: true; the input reads as it did. -/
def fnExactDepthsInUptoRow : OpenClaim := { program := "ytjohnpldkanjmaa", sum := "ea86ba57b4fe059e572301dd28df772e06b50c982b50ef3d191797c0419fc426", func := "loop.example/g01302/laws.FnExactDepthsIn", spec := "fnExactDepthsIn", unfollowed := true, recurses := true, apart := false, narrowed := true }
def FnExactDepthsInUptoSaid : Prop := fnExactDepthsInUptoRow.holds Try.pinned (OpenSpec.upto fnExactDepthsInSpec)

/-- 'laws.FnExactUpFrom', WHERE WHAT IT READS IS OF BULK AT MOST 1048576: true; the input reads as it did. -/
def fnExactUpFromUptoRow : OpenClaim := { program := "ytjohnpldkanjmaa", sum := "ea86ba57b4fe059e572301dd28df772e06b50c982b50ef3d191797c0419fc426", func := "loop.example/g01302/laws.FnExactUpFrom", spec := "fnExactUpFrom", unfollowed := true, recurses := true, apart := false, narrowed := true }
def FnExactUpFromUptoSaid : Prop := fnExactUpFromUptoRow.holds Try.pinned (OpenSpec.upto fnExactUpFromSpec)

/-- 'laws.FnExactFlowOrder', WHERE WHAT IT READS IS OF BULK AT MOST 1048576: true; the input reads as it did. -/
def fnExactFlowOrderUptoRow : OpenClaim := { program := "ytjohnpldkanjmaa", sum := "ea86ba57b4fe059e572301dd28df772e06b50c982b50ef3d191797c0419fc426", func := "loop.example/g01302/laws.FnExactFlowOrder", spec := "fnExactFlowOrder", unfollowed := true, recurses := true, apart := false, narrowed := true }
def FnExactFlowOrderUptoSaid : Prop := fnExactFlowOrderUptoRow.holds Try.pinned (OpenSpec.upto fnExactFlowOrderSpec)

end Rows
end Go.Proofs.Ytjohnpldkanjmaa
