/-
  No cell of these rows narrows 'for every input' (looked for: loops, veiled, ifaces, maps, wideKeys, modest, calm, conditions, laid).
  DERIVED. THE GIVEN ROWS OF THIS SEAT. 12 by the template 'for every input the law returns true; each argument reads behind the call as it read before'; 0 by the template 'total and deterministic' (their statements: YtlhfpjpgglfcfaaTotals.lean).
  GIVEN WITH THE SEED: the statements are not yours to turn. If you find one false, say at which input.
  Laid BY PROGRAM, IN A SANDBOX (cutbox-rows.mjs): the forced cells as the released guide's own fill.sh prints them over the translation b8d799d226016b45… (all of the seat's roots in one cut). By AI agents, Wed Nov 11 2026. No macro, syntax, notation, axiom, sorry.
-/
import Derived.Test.YtlhfpjpgglfcfaaChecked
import GoSem.Claim
import GoSem.ClaimJoined
import GoSem.ClaimMapViews
import Derived.JoinedTies
import Derived.KernelRfl
namespace Go.Proofs.Ytlhfpjpgglfcfaa
/- THE CELL 'sum', in the pinned program and in every row, IS THE sha256 OF THE DUMP (.gsa) THAT YtlhfpjpgglfcfaaProg.lean LOADS. Nothing in Lean hashes anything: it is a label: what it is worth is what the hold of that sum in a sandbox is worth. -/
noncomputable def Try.pinned : Pinned := { name := "ytlhfpjpgglfcfaa", sum := "b8d799d226016b45ebb0e9b68f6cbfaa6a92da46d1e1b4d7ded35abfeaf9d2e0", checked := Try.checked }
namespace Rows
def none {H : Type} : Left H := { results := [], args := [] }

/-- 'laws.FnExactMiddleAt': WHATEVER THE INPUT: true; the input reads as it did. -/
def fnExactMiddleAtSpec : ChangeSpec := { name := "fnExactMiddleAt", fn := fun _ => fun
  | [d1, d2] => { results := [.lit (.bool true)], args := [d1, d2] }
  | _ => none }
def fnExactMiddleAtRow : OpenClaim := { program := "ytlhfpjpgglfcfaa", sum := "b8d799d226016b45ebb0e9b68f6cbfaa6a92da46d1e1b4d7ded35abfeaf9d2e0", func := "loop.example/g01302/laws.FnExactMiddleAt", spec := "fnExactMiddleAt", inPlace := ["math.sqrt", "math.Float64bits", "math.Float64frombits"], unfollowed := true, recurses := true, apart := false }
def FnExactMiddleAtSaid : Prop := fnExactMiddleAtRow.holds Try.pinned (OpenSpec.ofChange fnExactMiddleAtSpec)

/-- ITS FALSE NEIGHBOUR: 'it returns false'. Refute it at one input. -/
def fnExactMiddleAtWrong : ChangeSpec := { name := "fnExactMiddleAt", fn := fun _ => fun
  | [d1, d2] => { results := [.lit (.bool false)], args := [d1, d2] }
  | _ => none }
def FnExactMiddleAtWrongFalsely : Prop := fnExactMiddleAtRow.holds Try.pinned (OpenSpec.ofChange fnExactMiddleAtWrong)

/-- 'laws.FnExactSwiftnessAt': WHATEVER THE INPUT: true; the input reads as it did. -/
def fnExactSwiftnessAtSpec : ChangeSpec := { name := "fnExactSwiftnessAt", fn := fun _ => fun
  | [d1, d2, d3] => { results := [.lit (.bool true)], args := [d1, d2, d3] }
  | _ => none }
def fnExactSwiftnessAtRow : OpenClaim := { program := "ytlhfpjpgglfcfaa", sum := "b8d799d226016b45ebb0e9b68f6cbfaa6a92da46d1e1b4d7ded35abfeaf9d2e0", func := "loop.example/g01302/laws.FnExactSwiftnessAt", spec := "fnExactSwiftnessAt", inPlace := ["math.sqrt", "math.Float64bits", "math.Float64frombits"], unfollowed := true, recurses := true, apart := false }
def FnExactSwiftnessAtSaid : Prop := fnExactSwiftnessAtRow.holds Try.pinned (OpenSpec.ofChange fnExactSwiftnessAtSpec)

/-- ITS FALSE NEIGHBOUR: 'it returns false'. Refute it at one input. -/
def fnExactSwiftnessAtWrong : ChangeSpec := { name := "fnExactSwiftnessAt", fn := fun _ => fun
  | [d1, d2, d3] => { results := [.lit (.bool false)], args := [d1, d2, d3] }
  | _ => none }
def FnExactSwiftnessAtWrongFalsely : Prop := fnExactSwiftnessAtRow.holds Try.pinned (OpenSpec.ofChange fnExactSwiftnessAtWrong)

/-- 'laws.FnExactCulvertFlow': WHATEVER THE INPUT: true; the input reads as it did. -/
def fnExactCulvertFlowSpec : ChangeSpec := { name := "fnExactCulvertFlow", fn := fun _ => fun
  | [d1, d2, d3, d4, d5] => { results := [.lit (.bool true)], args := [d1, d2, d3, d4, d5] }
  | _ => none }
def fnExactCulvertFlowRow : OpenClaim := { program := "ytlhfpjpgglfcfaa", sum := "b8d799d226016b45ebb0e9b68f6cbfaa6a92da46d1e1b4d7ded35abfeaf9d2e0", func := "loop.example/g01302/laws.FnExactCulvertFlow", spec := "fnExactCulvertFlow", inPlace := ["math.sqrt", "math.Float64bits", "math.Float64frombits"], unfollowed := true, recurses := true, apart := false }
def FnExactCulvertFlowSaid : Prop := fnExactCulvertFlowRow.holds Try.pinned (OpenSpec.ofChange fnExactCulvertFlowSpec)

/-- ITS FALSE NEIGHBOUR: 'it returns false'. Refute it at one input. -/
def fnExactCulvertFlowWrong : ChangeSpec := { name := "fnExactCulvertFlow", fn := fun _ => fun
  | [d1, d2, d3, d4, d5] => { results := [.lit (.bool false)], args := [d1, d2, d3, d4, d5] }
  | _ => none }
def FnExactCulvertFlowWrongFalsely : Prop := fnExactCulvertFlowRow.holds Try.pinned (OpenSpec.ofChange fnExactCulvertFlowWrong)

/-- 'laws.FnExactOtherDepth': WHATEVER THE INPUT: true; the input reads as it did. -/
def fnExactOtherDepthSpec : ChangeSpec := { name := "fnExactOtherDepth", fn := fun _ => fun
  | [d1, d2, d3] => { results := [.lit (.bool true)], args := [d1, d2, d3] }
  | _ => none }
def fnExactOtherDepthRow : OpenClaim := { program := "ytlhfpjpgglfcfaa", sum := "b8d799d226016b45ebb0e9b68f6cbfaa6a92da46d1e1b4d7ded35abfeaf9d2e0", func := "loop.example/g01302/laws.FnExactOtherDepth", spec := "fnExactOtherDepth", inPlace := ["math.Float64bits", "math.Float64frombits"], unfollowed := true, recurses := true, apart := false }
def FnExactOtherDepthSaid : Prop := fnExactOtherDepthRow.holds Try.pinned (OpenSpec.ofChange fnExactOtherDepthSpec)

/-- ITS FALSE NEIGHBOUR: 'it returns false'. Refute it at one input. -/
def fnExactOtherDepthWrong : ChangeSpec := { name := "fnExactOtherDepth", fn := fun _ => fun
  | [d1, d2, d3] => { results := [.lit (.bool false)], args := [d1, d2, d3] }
  | _ => none }
def FnExactOtherDepthWrongFalsely : Prop := fnExactOtherDepthRow.holds Try.pinned (OpenSpec.ofChange fnExactOtherDepthWrong)

/-- 'laws.FnExactJumpDepth': WHATEVER THE INPUT: true; the input reads as it did. -/
def fnExactJumpDepthSpec : ChangeSpec := { name := "fnExactJumpDepth", fn := fun _ => fun
  | [d1, d2, d3] => { results := [.lit (.bool true)], args := [d1, d2, d3] }
  | _ => none }
def fnExactJumpDepthRow : OpenClaim := { program := "ytlhfpjpgglfcfaa", sum := "b8d799d226016b45ebb0e9b68f6cbfaa6a92da46d1e1b4d7ded35abfeaf9d2e0", func := "loop.example/g01302/laws.FnExactJumpDepth", spec := "fnExactJumpDepth", inPlace := ["math.Float64bits", "math.Float64frombits"], unfollowed := true, recurses := true, apart := false }
def FnExactJumpDepthSaid : Prop := fnExactJumpDepthRow.holds Try.pinned (OpenSpec.ofChange fnExactJumpDepthSpec)

/-- ITS FALSE NEIGHBOUR: 'it returns false'. Refute it at one input. -/
def fnExactJumpDepthWrong : ChangeSpec := { name := "fnExactJumpDepth", fn := fun _ => fun
  | [d1, d2, d3] => { results := [.lit (.bool false)], args := [d1, d2, d3] }
  | _ => none }
def FnExactJumpDepthWrongFalsely : Prop := fnExactJumpDepthRow.holds Try.pinned (OpenSpec.ofChange fnExactJumpDepthWrong)

/-- 'laws.FnExactFlowAt': WHATEVER THE INPUT: true; the input reads as it did. -/
def fnExactFlowAtSpec : ChangeSpec := { name := "fnExactFlowAt", fn := fun _ => fun
  | [d1, d2] => { results := [.lit (.bool true)], args := [d1, d2] }
  | _ => none }
def fnExactFlowAtRow : OpenClaim := { program := "ytlhfpjpgglfcfaa", sum := "b8d799d226016b45ebb0e9b68f6cbfaa6a92da46d1e1b4d7ded35abfeaf9d2e0", func := "loop.example/g01302/laws.FnExactFlowAt", spec := "fnExactFlowAt", inPlace := ["math.sqrt", "math.Float64frombits", "math.Float64bits"], unfollowed := true, recurses := true, apart := false }
def FnExactFlowAtSaid : Prop := fnExactFlowAtRow.holds Try.pinned (OpenSpec.ofChange fnExactFlowAtSpec)

/-- ITS FALSE NEIGHBOUR: 'it returns false'. Refute it at one input. -/
def fnExactFlowAtWrong : ChangeSpec := { name := "fnExactFlowAt", fn := fun _ => fun
  | [d1, d2] => { results := [.lit (.bool false)], args := [d1, d2] }
  | _ => none }
def FnExactFlowAtWrongFalsely : Prop := fnExactFlowAtRow.holds Try.pinned (OpenSpec.ofChange fnExactFlowAtWrong)

/-- 'laws.FnExactJumpLoss': WHATEVER THE INPUT: true; the input reads as it did. -/
def fnExactJumpLossSpec : ChangeSpec := { name := "fnExactJumpLoss", fn := fun _ => fun
  | [d1, d2, d3] => { results := [.lit (.bool true)], args := [d1, d2, d3] }
  | _ => none }
def fnExactJumpLossRow : OpenClaim := { program := "ytlhfpjpgglfcfaa", sum := "b8d799d226016b45ebb0e9b68f6cbfaa6a92da46d1e1b4d7ded35abfeaf9d2e0", func := "loop.example/g01302/laws.FnExactJumpLoss", spec := "fnExactJumpLoss", inPlace := ["math.Float64bits", "math.Float64frombits"], unfollowed := true, recurses := true, apart := false }
def FnExactJumpLossSaid : Prop := fnExactJumpLossRow.holds Try.pinned (OpenSpec.ofChange fnExactJumpLossSpec)

/-- ITS FALSE NEIGHBOUR: 'it returns false'. Refute it at one input. -/
def fnExactJumpLossWrong : ChangeSpec := { name := "fnExactJumpLoss", fn := fun _ => fun
  | [d1, d2, d3] => { results := [.lit (.bool false)], args := [d1, d2, d3] }
  | _ => none }
def FnExactJumpLossWrongFalsely : Prop := fnExactJumpLossRow.holds Try.pinned (OpenSpec.ofChange fnExactJumpLossWrong)

/-- 'laws.FnExactSteepnessAt': WHATEVER THE INPUT: true; the input reads as it did. -/
def fnExactSteepnessAtSpec : ChangeSpec := { name := "fnExactSteepnessAt", fn := fun _ => fun
  | [d1, d2, d3] => { results := [.lit (.bool true)], args := [d1, d2, d3] }
  | _ => none }
def fnExactSteepnessAtRow : OpenClaim := { program := "ytlhfpjpgglfcfaa", sum := "b8d799d226016b45ebb0e9b68f6cbfaa6a92da46d1e1b4d7ded35abfeaf9d2e0", func := "loop.example/g01302/laws.FnExactSteepnessAt", spec := "fnExactSteepnessAt", inPlace := ["math.sqrt", "math.Float64frombits", "math.Float64bits"], unfollowed := true, recurses := true, apart := false }
def FnExactSteepnessAtSaid : Prop := fnExactSteepnessAtRow.holds Try.pinned (OpenSpec.ofChange fnExactSteepnessAtSpec)

/-- ITS FALSE NEIGHBOUR: 'it returns false'. Refute it at one input. -/
def fnExactSteepnessAtWrong : ChangeSpec := { name := "fnExactSteepnessAt", fn := fun _ => fun
  | [d1, d2, d3] => { results := [.lit (.bool false)], args := [d1, d2, d3] }
  | _ => none }
def FnExactSteepnessAtWrongFalsely : Prop := fnExactSteepnessAtRow.holds Try.pinned (OpenSpec.ofChange fnExactSteepnessAtWrong)

/-- 'laws.FnExactNormalDepth': WHATEVER THE INPUT: true; the input reads as it did. -/
def fnExactNormalDepthSpec : ChangeSpec := { name := "fnExactNormalDepth", fn := fun _ => fun
  | [d1, d2] => { results := [.lit (.bool true)], args := [d1, d2] }
  | _ => none }
def fnExactNormalDepthRow : OpenClaim := { program := "ytlhfpjpgglfcfaa", sum := "b8d799d226016b45ebb0e9b68f6cbfaa6a92da46d1e1b4d7ded35abfeaf9d2e0", func := "loop.example/g01302/laws.FnExactNormalDepth", spec := "fnExactNormalDepth", inPlace := ["math.sqrt", "math.Float64frombits", "math.Float64bits"], unfollowed := true, recurses := true, apart := false }
def FnExactNormalDepthSaid : Prop := fnExactNormalDepthRow.holds Try.pinned (OpenSpec.ofChange fnExactNormalDepthSpec)

/-- ITS FALSE NEIGHBOUR: 'it returns false'. Refute it at one input. -/
def fnExactNormalDepthWrong : ChangeSpec := { name := "fnExactNormalDepth", fn := fun _ => fun
  | [d1, d2] => { results := [.lit (.bool false)], args := [d1, d2] }
  | _ => none }
def FnExactNormalDepthWrongFalsely : Prop := fnExactNormalDepthRow.holds Try.pinned (OpenSpec.ofChange fnExactNormalDepthWrong)

/-- 'laws.FnExactIsMild': WHATEVER THE INPUT: true; the input reads as it did. -/
def fnExactIsMildSpec : ChangeSpec := { name := "fnExactIsMild", fn := fun _ => fun
  | [d1, d2] => { results := [.lit (.bool true)], args := [d1, d2] }
  | _ => none }
def fnExactIsMildRow : OpenClaim := { program := "ytlhfpjpgglfcfaa", sum := "b8d799d226016b45ebb0e9b68f6cbfaa6a92da46d1e1b4d7ded35abfeaf9d2e0", func := "loop.example/g01302/laws.FnExactIsMild", spec := "fnExactIsMild", inPlace := ["math.sqrt", "math.Float64frombits", "math.Float64bits"], unfollowed := true, recurses := true, apart := false }
def FnExactIsMildSaid : Prop := fnExactIsMildRow.holds Try.pinned (OpenSpec.ofChange fnExactIsMildSpec)

/-- ITS FALSE NEIGHBOUR: 'it returns false'. Refute it at one input. -/
def fnExactIsMildWrong : ChangeSpec := { name := "fnExactIsMild", fn := fun _ => fun
  | [d1, d2] => { results := [.lit (.bool false)], args := [d1, d2] }
  | _ => none }
def FnExactIsMildWrongFalsely : Prop := fnExactIsMildRow.holds Try.pinned (OpenSpec.ofChange fnExactIsMildWrong)

/-- 'laws.FnExactBackStep': WHATEVER THE INPUT: true; the input reads as it did. -/
def fnExactBackStepSpec : ChangeSpec := { name := "fnExactBackStep", fn := fun _ => fun
  | [d1, d2, d3, d4] => { results := [.lit (.bool true)], args := [d1, d2, d3, d4] }
  | _ => none }
def fnExactBackStepRow : OpenClaim := { program := "ytlhfpjpgglfcfaa", sum := "b8d799d226016b45ebb0e9b68f6cbfaa6a92da46d1e1b4d7ded35abfeaf9d2e0", func := "loop.example/g01302/laws.FnExactBackStep", spec := "fnExactBackStep", inPlace := ["math.sqrt", "math.Float64frombits", "math.Float64bits"], unfollowed := true, recurses := true, apart := false }
def FnExactBackStepSaid : Prop := fnExactBackStepRow.holds Try.pinned (OpenSpec.ofChange fnExactBackStepSpec)

/-- ITS FALSE NEIGHBOUR: 'it returns false'. Refute it at one input. -/
def fnExactBackStepWrong : ChangeSpec := { name := "fnExactBackStep", fn := fun _ => fun
  | [d1, d2, d3, d4] => { results := [.lit (.bool false)], args := [d1, d2, d3, d4] }
  | _ => none }
def FnExactBackStepWrongFalsely : Prop := fnExactBackStepRow.holds Try.pinned (OpenSpec.ofChange fnExactBackStepWrong)

/-- 'laws.FnExactBackWater': WHATEVER THE INPUT: true; the input reads as it did. -/
def fnExactBackWaterSpec : ChangeSpec := { name := "fnExactBackWater", fn := fun _ => fun
  | [d1, d2, d3, d4, d5] => { results := [.lit (.bool true)], args := [d1, d2, d3, d4, d5] }
  | _ => none }
def fnExactBackWaterRow : OpenClaim := { program := "ytlhfpjpgglfcfaa", sum := "b8d799d226016b45ebb0e9b68f6cbfaa6a92da46d1e1b4d7ded35abfeaf9d2e0", func := "loop.example/g01302/laws.FnExactBackWater", spec := "fnExactBackWater", inPlace := ["math.sqrt", "math.Float64frombits", "math.Float64bits"], unfollowed := true, recurses := true, apart := false }
def FnExactBackWaterSaid : Prop := fnExactBackWaterRow.holds Try.pinned (OpenSpec.ofChange fnExactBackWaterSpec)

/-- ITS FALSE NEIGHBOUR: 'it returns false'. Refute it at one input. -/
def fnExactBackWaterWrong : ChangeSpec := { name := "fnExactBackWater", fn := fun _ => fun
  | [d1, d2, d3, d4, d5] => { results := [.lit (.bool false)], args := [d1, d2, d3, d4, d5] }
  | _ => none }
def FnExactBackWaterWrongFalsely : Prop := fnExactBackWaterRow.holds Try.pinned (OpenSpec.ofChange fnExactBackWaterWrong)

/- THE SECOND FORM. 'bulk': how many values and letters a reading holds, each counted each time it is reached (what is shared counts as often as it is met; a slice's spare places count too). A statement '..UptoSaid' is the law's where the arguments, and the package variables that the reading takes, are together of bulk at most 1048576: NARROWER than '..Said'. Prove '..Said' where nothing that the law and all that it calls make is longer than what came in: it says more and counts as full. Else prove '..UptoSaid'. A law counts once. -/
mutual
def uptoBulk {H : Type} : DataW H → Nat
  | .lit (.string bytes) => bytes.length + 1
  | .lit _ => 1
  | .nil => 1
  | .ptr d => uptoBulk d + 1
  | .slice elems spare => uptoBulkAll elems + uptoBulkAll spare + 1
  | .agg parts => uptoBulkAll parts + 1
  | .iface _ d => uptoBulk d + 1
  | .map entries => uptoBulkEntries entries + 1
  | .held _ => 1
def uptoBulkAll {H : Type} : List (DataW H) → Nat
  | [] => 0
  | d :: r => uptoBulk d + uptoBulkAll r
def uptoBulkEntries {H : Type} : List (Lit × DataW H) → Nat
  | [] => 0
  | x :: r => uptoBulkEntry x + uptoBulkEntries r
def uptoBulkEntry {H : Type} : Lit × DataW H → Nat
  | (.string bytes, d) => bytes.length + uptoBulk d + 1
  | (_, d) => uptoBulk d + 1
 end
def uptoSmall : (H : Type) → List (DataW H) → Bool := fun _ ds => decide (uptoBulkAll ds ≤ 1048576)
def OpenSpec.upto (s : _root_.Go.ChangeSpec) : _root_.Go.OpenSpec := { _root_.Go.OpenSpec.ofChange s with cond := some uptoSmall }

/-- 'laws.FnExactMiddleAt', WHERE WHAT IT READS IS OF BULK AT MOST 1048576: true; the input reads as it did. -/
def fnExactMiddleAtUptoRow : OpenClaim := { program := "ytlhfpjpgglfcfaa", sum := "b8d799d226016b45ebb0e9b68f6cbfaa6a92da46d1e1b4d7ded35abfeaf9d2e0", func := "loop.example/g01302/laws.FnExactMiddleAt", spec := "fnExactMiddleAt", inPlace := ["math.sqrt", "math.Float64bits", "math.Float64frombits"], unfollowed := true, recurses := true, apart := false, narrowed := true }
def FnExactMiddleAtUptoSaid : Prop := fnExactMiddleAtUptoRow.holds Try.pinned (OpenSpec.upto fnExactMiddleAtSpec)

/-- 'laws.FnExactSwiftnessAt', WHERE WHAT IT READS IS OF BULK AT MOST 1048576: true; the input reads as it did. -/
def fnExactSwiftnessAtUptoRow : OpenClaim := { program := "ytlhfpjpgglfcfaa", sum := "b8d799d226016b45ebb0e9b68f6cbfaa6a92da46d1e1b4d7ded35abfeaf9d2e0", func := "loop.example/g01302/laws.FnExactSwiftnessAt", spec := "fnExactSwiftnessAt", inPlace := ["math.sqrt", "math.Float64bits", "math.Float64frombits"], unfollowed := true, recurses := true, apart := false, narrowed := true }
def FnExactSwiftnessAtUptoSaid : Prop := fnExactSwiftnessAtUptoRow.holds Try.pinned (OpenSpec.upto fnExactSwiftnessAtSpec)

/-- 'laws.FnExactCulvertFlow', WHERE WHAT IT READS IS OF BULK AT MOST 1048576: true; the input reads as it did. -/
def fnExactCulvertFlowUptoRow : OpenClaim := { program := "ytlhfpjpgglfcfaa", sum := "b8d799d226016b45ebb0e9b68f6cbfaa6a92da46d1e1b4d7ded35abfeaf9d2e0", func := "loop.example/g01302/laws.FnExactCulvertFlow", spec := "fnExactCulvertFlow", inPlace := ["math.sqrt", "math.Float64bits", "math.Float64frombits"], unfollowed := true, recurses := true, apart := false, narrowed := true }
def FnExactCulvertFlowUptoSaid : Prop := fnExactCulvertFlowUptoRow.holds Try.pinned (OpenSpec.upto fnExactCulvertFlowSpec)

/-- 'laws.FnExactOtherDepth', WHERE WHAT IT READS IS OF BULK AT MOST 1048576: true; the input reads as it did. -/
def fnExactOtherDepthUptoRow : OpenClaim := { program := "ytlhfpjpgglfcfaa", sum := "b8d799d226016b45ebb0e9b68f6cbfaa6a92da46d1e1b4d7ded35abfeaf9d2e0", func := "loop.example/g01302/laws.FnExactOtherDepth", spec := "fnExactOtherDepth", inPlace := ["math.Float64bits", "math.Float64frombits"], unfollowed := true, recurses := true, apart := false, narrowed := true }
def FnExactOtherDepthUptoSaid : Prop := fnExactOtherDepthUptoRow.holds Try.pinned (OpenSpec.upto fnExactOtherDepthSpec)

/-- 'laws.FnExactJumpDepth', WHERE WHAT IT READS IS OF BULK AT MOST 1048576: true; the input reads as it did. -/
def fnExactJumpDepthUptoRow : OpenClaim := { program := "ytlhfpjpgglfcfaa", sum := "b8d799d226016b45ebb0e9b68f6cbfaa6a92da46d1e1b4d7ded35abfeaf9d2e0", func := "loop.example/g01302/laws.FnExactJumpDepth", spec := "fnExactJumpDepth", inPlace := ["math.Float64bits", "math.Float64frombits"], unfollowed := true, recurses := true, apart := false, narrowed := true }
def FnExactJumpDepthUptoSaid : Prop := fnExactJumpDepthUptoRow.holds Try.pinned (OpenSpec.upto fnExactJumpDepthSpec)

/-- 'laws.FnExactFlowAt', WHERE WHAT IT READS IS OF BULK AT MOST 1048576: true; the input reads as it did. -/
def fnExactFlowAtUptoRow : OpenClaim := { program := "ytlhfpjpgglfcfaa", sum := "b8d799d226016b45ebb0e9b68f6cbfaa6a92da46d1e1b4d7ded35abfeaf9d2e0", func := "loop.example/g01302/laws.FnExactFlowAt", spec := "fnExactFlowAt", inPlace := ["math.sqrt", "math.Float64frombits", "math.Float64bits"], unfollowed := true, recurses := true, apart := false, narrowed := true }
def FnExactFlowAtUptoSaid : Prop := fnExactFlowAtUptoRow.holds Try.pinned (OpenSpec.upto fnExactFlowAtSpec)

/-- 'laws.FnExactJumpLoss', WHERE WHAT IT READS IS OF BULK AT MOST 1048576: true; the input reads as it did. -/
def fnExactJumpLossUptoRow : OpenClaim := { program := "ytlhfpjpgglfcfaa", sum := "b8d799d226016b45ebb0e9b68f6cbfaa6a92da46d1e1b4d7ded35abfeaf9d2e0", func := "loop.example/g01302/laws.FnExactJumpLoss", spec := "fnExactJumpLoss", inPlace := ["math.Float64bits", "math.Float64frombits"], unfollowed := true, recurses := true, apart := false, narrowed := true }
def FnExactJumpLossUptoSaid : Prop := fnExactJumpLossUptoRow.holds Try.pinned (OpenSpec.upto fnExactJumpLossSpec)

/-- 'laws.FnExactSteepnessAt', WHERE WHAT IT READS IS OF BULK AT MOST 1048576: true; the input reads as it did. -/
def fnExactSteepnessAtUptoRow : OpenClaim := { program := "ytlhfpjpgglfcfaa", sum := "b8d799d226016b45ebb0e9b68f6cbfaa6a92da46d1e1b4d7ded35abfeaf9d2e0", func := "loop.example/g01302/laws.FnExactSteepnessAt", spec := "fnExactSteepnessAt", inPlace := ["math.sqrt", "math.Float64frombits", "math.Float64bits"], unfollowed := true, recurses := true, apart := false, narrowed := true }
def FnExactSteepnessAtUptoSaid : Prop := fnExactSteepnessAtUptoRow.holds Try.pinned (OpenSpec.upto fnExactSteepnessAtSpec)

/-- 'laws.FnExactNormalDepth', WHERE WHAT IT READS IS OF BULK AT MOST 1048576: true; the input reads as it did. -/
def fnExactNormalDepthUptoRow : OpenClaim := { program := "ytlhfpjpgglfcfaa", sum := "b8d799d226016b45ebb0e9b68f6cbfaa6a92da46d1e1b4d7ded35abfeaf9d2e0", func := "loop.example/g01302/laws.FnExactNormalDepth", spec := "fnExactNormalDepth", inPlace := ["math.sqrt", "math.Float64frombits", "math.Float64bits"], unfollowed := true, recurses := true, apart := false, narrowed := true }
def FnExactNormalDepthUptoSaid : Prop := fnExactNormalDepthUptoRow.holds Try.pinned (OpenSpec.upto fnExactNormalDepthSpec)

/-- 'laws.FnExactIsMild', WHERE WHAT IT READS IS OF BULK AT MOST 1048576: true; the input reads as it did. -/
def fnExactIsMildUptoRow : OpenClaim := { program := "ytlhfpjpgglfcfaa", sum := "b8d799d226016b45ebb0e9b68f6cbfaa6a92da46d1e1b4d7ded35abfeaf9d2e0", func := "loop.example/g01302/laws.FnExactIsMild", spec := "fnExactIsMild", inPlace := ["math.sqrt", "math.Float64frombits", "math.Float64bits"], unfollowed := true, recurses := true, apart := false, narrowed := true }
def FnExactIsMildUptoSaid : Prop := fnExactIsMildUptoRow.holds Try.pinned (OpenSpec.upto fnExactIsMildSpec)

/-- 'laws.FnExactBackStep', WHERE WHAT IT READS IS OF BULK AT MOST 1048576: true; the input reads as it did. -/
def fnExactBackStepUptoRow : OpenClaim := { program := "ytlhfpjpgglfcfaa", sum := "b8d799d226016b45ebb0e9b68f6cbfaa6a92da46d1e1b4d7ded35abfeaf9d2e0", func := "loop.example/g01302/laws.FnExactBackStep", spec := "fnExactBackStep", inPlace := ["math.sqrt", "math.Float64frombits", "math.Float64bits"], unfollowed := true, recurses := true, apart := false, narrowed := true }
def FnExactBackStepUptoSaid : Prop := fnExactBackStepUptoRow.holds Try.pinned (OpenSpec.upto fnExactBackStepSpec)

/-- 'laws.FnExactBackWater', WHERE WHAT IT READS IS OF BULK AT MOST 1048576: true; the input reads as it did. -/
def fnExactBackWaterUptoRow : OpenClaim := { program := "ytlhfpjpgglfcfaa", sum := "b8d799d226016b45ebb0e9b68f6cbfaa6a92da46d1e1b4d7ded35abfeaf9d2e0", func := "loop.example/g01302/laws.FnExactBackWater", spec := "fnExactBackWater", inPlace := ["math.sqrt", "math.Float64frombits", "math.Float64bits"], unfollowed := true, recurses := true, apart := false, narrowed := true }
def FnExactBackWaterUptoSaid : Prop := fnExactBackWaterUptoRow.holds Try.pinned (OpenSpec.upto fnExactBackWaterSpec)

end Rows
end Go.Proofs.Ytlhfpjpgglfcfaa
