/-
  No cell of these rows narrows 'for every input' (looked for: loops, veiled, ifaces, maps, wideKeys, modest, calm, conditions, laid).
  DERIVED. THE GIVEN ROWS OF THIS SEAT. 12 by the template 'for every input the law returns true; each argument reads behind the call as it read before'; 0 by the template 'total and deterministic' (their statements: YtikmeahdcipanaaTotals.lean).
  GIVEN WITH THE SEED: the statements are not yours to turn. If you find one false, say at which input.
  Laid BY PROGRAM, IN A SANDBOX (cutbox-rows.mjs): the forced cells as the released guide's own fill.sh prints them over the translation ee118a4c8986f5b1… (all of the seat's roots in one cut). By AI agents, Wed Nov 11 2026. No macro, syntax, notation, axiom, sorry.
-/
import Derived.Test.YtikmeahdcipanaaChecked
import GoSem.Claim
import GoSem.ClaimJoined
import GoSem.ClaimMapViews
import Derived.JoinedTies
import Derived.KernelRfl
namespace Go.Proofs.Ytikmeahdcipanaa
/- THE CELL 'sum', in the pinned program and in every row, IS THE sha256 OF THE DUMP (.gsa) THAT YtikmeahdcipanaaProg.lean LOADS. Nothing in Lean hashes anything: it is a label: what it is worth is what the hold of that sum in a sandbox is worth. -/
noncomputable def Try.pinned : Pinned := { name := "ytikmeahdcipanaa", sum := "ee118a4c8986f5b11c5d2f53f48b4cbca332c1f1e22d2c92d6ee2853a15569a2", checked := Try.checked }
namespace Rows
def none {H : Type} : Left H := { results := [], args := [] }

/-- 'laws.FnExactLakeOut': WHATEVER THE INPUT: true; the input reads as it did. -/
def fnExactLakeOutSpec : ChangeSpec := { name := "fnExactLakeOut", fn := fun _ => fun
  | [d1, d2] => { results := [.lit (.bool true)], args := [d1, d2] }
  | _ => none }
def fnExactLakeOutRow : OpenClaim := { program := "ytikmeahdcipanaa", sum := "ee118a4c8986f5b11c5d2f53f48b4cbca332c1f1e22d2c92d6ee2853a15569a2", func := "loop.example/g01302/laws.FnExactLakeOut", spec := "fnExactLakeOut", inPlace := ["math.Float64bits", "math.Float64frombits"], unfollowed := true, recurses := true, apart := false }
def FnExactLakeOutSaid : Prop := fnExactLakeOutRow.holds Try.pinned (OpenSpec.ofChange fnExactLakeOutSpec)

/-- ITS FALSE NEIGHBOUR: 'it returns false'. Refute it at one input. -/
def fnExactLakeOutWrong : ChangeSpec := { name := "fnExactLakeOut", fn := fun _ => fun
  | [d1, d2] => { results := [.lit (.bool false)], args := [d1, d2] }
  | _ => none }
def FnExactLakeOutWrongFalsely : Prop := fnExactLakeOutRow.holds Try.pinned (OpenSpec.ofChange fnExactLakeOutWrong)

/-- 'laws.FnExactStepLake': WHATEVER THE INPUT: true; the input reads as it did. -/
def fnExactStepLakeSpec : ChangeSpec := { name := "fnExactStepLake", fn := fun _ => fun
  | [d1, d2, d3, d4, d5] => { results := [.lit (.bool true)], args := [d1, d2, d3, d4, d5] }
  | _ => none }
def fnExactStepLakeRow : OpenClaim := { program := "ytikmeahdcipanaa", sum := "ee118a4c8986f5b11c5d2f53f48b4cbca332c1f1e22d2c92d6ee2853a15569a2", func := "loop.example/g01302/laws.FnExactStepLake", spec := "fnExactStepLake", inPlace := ["math.Float64bits", "math.Float64frombits"], unfollowed := true, recurses := true, apart := false }
def FnExactStepLakeSaid : Prop := fnExactStepLakeRow.holds Try.pinned (OpenSpec.ofChange fnExactStepLakeSpec)

/-- ITS FALSE NEIGHBOUR: 'it returns false'. Refute it at one input. -/
def fnExactStepLakeWrong : ChangeSpec := { name := "fnExactStepLake", fn := fun _ => fun
  | [d1, d2, d3, d4, d5] => { results := [.lit (.bool false)], args := [d1, d2, d3, d4, d5] }
  | _ => none }
def FnExactStepLakeWrongFalsely : Prop := fnExactStepLakeRow.holds Try.pinned (OpenSpec.ofChange fnExactStepLakeWrong)

/-- 'laws.FnExactRouteLake': WHATEVER THE INPUT: true; the input reads as it did. -/
def fnExactRouteLakeSpec : ChangeSpec := { name := "fnExactRouteLake", fn := fun _ => fun
  | [d1, d2, d3, d4] => { results := [.lit (.bool true)], args := [d1, d2, d3, d4] }
  | _ => none }
def fnExactRouteLakeRow : OpenClaim := { program := "ytikmeahdcipanaa", sum := "ee118a4c8986f5b11c5d2f53f48b4cbca332c1f1e22d2c92d6ee2853a15569a2", func := "loop.example/g01302/laws.FnExactRouteLake", spec := "fnExactRouteLake", inPlace := ["math.Float64bits", "math.Float64frombits"], unfollowed := true, recurses := true, apart := false }
def FnExactRouteLakeSaid : Prop := fnExactRouteLakeRow.holds Try.pinned (OpenSpec.ofChange fnExactRouteLakeSpec)

/-- ITS FALSE NEIGHBOUR: 'it returns false'. Refute it at one input. -/
def fnExactRouteLakeWrong : ChangeSpec := { name := "fnExactRouteLake", fn := fun _ => fun
  | [d1, d2, d3, d4] => { results := [.lit (.bool false)], args := [d1, d2, d3, d4] }
  | _ => none }
def FnExactRouteLakeWrongFalsely : Prop := fnExactRouteLakeRow.holds Try.pinned (OpenSpec.ofChange fnExactRouteLakeWrong)

/-- 'laws.FnExactRouteReach': WHATEVER THE INPUT: true; the input reads as it did. -/
def fnExactRouteReachSpec : ChangeSpec := { name := "fnExactRouteReach", fn := fun _ => fun
  | [d1, d2, d3, d4] => { results := [.lit (.bool true)], args := [d1, d2, d3, d4] }
  | _ => none }
def fnExactRouteReachRow : OpenClaim := { program := "ytikmeahdcipanaa", sum := "ee118a4c8986f5b11c5d2f53f48b4cbca332c1f1e22d2c92d6ee2853a15569a2", func := "loop.example/g01302/laws.FnExactRouteReach", spec := "fnExactRouteReach", inPlace := ["math.Float64bits", "math.Float64frombits"], unfollowed := true, recurses := true, apart := false }
def FnExactRouteReachSaid : Prop := fnExactRouteReachRow.holds Try.pinned (OpenSpec.ofChange fnExactRouteReachSpec)

/-- ITS FALSE NEIGHBOUR: 'it returns false'. Refute it at one input. -/
def fnExactRouteReachWrong : ChangeSpec := { name := "fnExactRouteReach", fn := fun _ => fun
  | [d1, d2, d3, d4] => { results := [.lit (.bool false)], args := [d1, d2, d3, d4] }
  | _ => none }
def FnExactRouteReachWrongFalsely : Prop := fnExactRouteReachRow.holds Try.pinned (OpenSpec.ofChange fnExactRouteReachWrong)

/-- 'laws.FnExactRouteReaches': WHATEVER THE INPUT: true; the input reads as it did. -/
def fnExactRouteReachesSpec : ChangeSpec := { name := "fnExactRouteReaches", fn := fun _ => fun
  | [d1, d2, d3] => { results := [.lit (.bool true)], args := [d1, d2, d3] }
  | _ => none }
def fnExactRouteReachesRow : OpenClaim := { program := "ytikmeahdcipanaa", sum := "ee118a4c8986f5b11c5d2f53f48b4cbca332c1f1e22d2c92d6ee2853a15569a2", func := "loop.example/g01302/laws.FnExactRouteReaches", spec := "fnExactRouteReaches", inPlace := ["math.Float64bits", "math.Float64frombits"], unfollowed := true, recurses := true, apart := false }
def FnExactRouteReachesSaid : Prop := fnExactRouteReachesRow.holds Try.pinned (OpenSpec.ofChange fnExactRouteReachesSpec)

/-- ITS FALSE NEIGHBOUR: 'it returns false'. Refute it at one input. -/
def fnExactRouteReachesWrong : ChangeSpec := { name := "fnExactRouteReaches", fn := fun _ => fun
  | [d1, d2, d3] => { results := [.lit (.bool false)], args := [d1, d2, d3] }
  | _ => none }
def FnExactRouteReachesWrongFalsely : Prop := fnExactRouteReachesRow.holds Try.pinned (OpenSpec.ofChange fnExactRouteReachesWrong)

/-- 'laws.FnExactRouteShared': WHATEVER THE INPUT: true; the input reads as it did. -/
def fnExactRouteSharedSpec : ChangeSpec := { name := "fnExactRouteShared", fn := fun _ => fun
  | [d1, d2, d3, d4] => { results := [.lit (.bool true)], args := [d1, d2, d3, d4] }
  | _ => none }
def fnExactRouteSharedRow : OpenClaim := { program := "ytikmeahdcipanaa", sum := "ee118a4c8986f5b11c5d2f53f48b4cbca332c1f1e22d2c92d6ee2853a15569a2", func := "loop.example/g01302/laws.FnExactRouteShared", spec := "fnExactRouteShared", inPlace := ["math.Float64bits", "math.Float64frombits"], unfollowed := true, recurses := true, apart := false }
def FnExactRouteSharedSaid : Prop := fnExactRouteSharedRow.holds Try.pinned (OpenSpec.ofChange fnExactRouteSharedSpec)

/-- ITS FALSE NEIGHBOUR: 'it returns false'. Refute it at one input. -/
def fnExactRouteSharedWrong : ChangeSpec := { name := "fnExactRouteShared", fn := fun _ => fun
  | [d1, d2, d3, d4] => { results := [.lit (.bool false)], args := [d1, d2, d3, d4] }
  | _ => none }
def FnExactRouteSharedWrongFalsely : Prop := fnExactRouteSharedRow.holds Try.pinned (OpenSpec.ofChange fnExactRouteSharedWrong)

/-- 'laws.FnExactEnergyOfCanal': WHATEVER THE INPUT: true; the input reads as it did. -/
def fnExactEnergyOfCanalSpec : ChangeSpec := { name := "fnExactEnergyOfCanal", fn := fun _ => fun
  | [d] => { results := [.lit (.bool true)], args := [d] }
  | _ => none }
def fnExactEnergyOfCanalRow : OpenClaim := { program := "ytikmeahdcipanaa", sum := "ee118a4c8986f5b11c5d2f53f48b4cbca332c1f1e22d2c92d6ee2853a15569a2", func := "loop.example/g01302/laws.FnExactEnergyOfCanal", spec := "fnExactEnergyOfCanal", inPlace := ["math.Float64bits", "math.Float64frombits"], unfollowed := true, recurses := true, apart := false }
def FnExactEnergyOfCanalSaid : Prop := fnExactEnergyOfCanalRow.holds Try.pinned (OpenSpec.ofChange fnExactEnergyOfCanalSpec)

/-- ITS FALSE NEIGHBOUR: 'it returns false'. Refute it at one input. -/
def fnExactEnergyOfCanalWrong : ChangeSpec := { name := "fnExactEnergyOfCanal", fn := fun _ => fun
  | [d] => { results := [.lit (.bool false)], args := [d] }
  | _ => none }
def FnExactEnergyOfCanalWrongFalsely : Prop := fnExactEnergyOfCanalRow.holds Try.pinned (OpenSpec.ofChange fnExactEnergyOfCanalWrong)

/-- 'laws.FnExactStepCanal': WHATEVER THE INPUT: true; the input reads as it did. -/
def fnExactStepCanalSpec : ChangeSpec := { name := "fnExactStepCanal", fn := fun _ => fun
  | [d1, d2, d3] => { results := [.lit (.bool true)], args := [d1, d2, d3] }
  | _ => none }
def fnExactStepCanalRow : OpenClaim := { program := "ytikmeahdcipanaa", sum := "ee118a4c8986f5b11c5d2f53f48b4cbca332c1f1e22d2c92d6ee2853a15569a2", func := "loop.example/g01302/laws.FnExactStepCanal", spec := "fnExactStepCanal", inPlace := ["math.Float64bits", "math.Float64frombits"], unfollowed := true, recurses := true, apart := false }
def FnExactStepCanalSaid : Prop := fnExactStepCanalRow.holds Try.pinned (OpenSpec.ofChange fnExactStepCanalSpec)

/-- ITS FALSE NEIGHBOUR: 'it returns false'. Refute it at one input. -/
def fnExactStepCanalWrong : ChangeSpec := { name := "fnExactStepCanal", fn := fun _ => fun
  | [d1, d2, d3] => { results := [.lit (.bool false)], args := [d1, d2, d3] }
  | _ => none }
def FnExactStepCanalWrongFalsely : Prop := fnExactStepCanalRow.holds Try.pinned (OpenSpec.ofChange fnExactStepCanalWrong)

/-- 'laws.FnExactRunCanal': WHATEVER THE INPUT: true; the input reads as it did. -/
def fnExactRunCanalSpec : ChangeSpec := { name := "fnExactRunCanal", fn := fun _ => fun
  | [d1, d2, d3] => { results := [.lit (.bool true)], args := [d1, d2, d3] }
  | _ => none }
def fnExactRunCanalRow : OpenClaim := { program := "ytikmeahdcipanaa", sum := "ee118a4c8986f5b11c5d2f53f48b4cbca332c1f1e22d2c92d6ee2853a15569a2", func := "loop.example/g01302/laws.FnExactRunCanal", spec := "fnExactRunCanal", inPlace := ["math.Float64bits", "math.Float64frombits"], unfollowed := true, recurses := true, apart := false }
def FnExactRunCanalSaid : Prop := fnExactRunCanalRow.holds Try.pinned (OpenSpec.ofChange fnExactRunCanalSpec)

/-- ITS FALSE NEIGHBOUR: 'it returns false'. Refute it at one input. -/
def fnExactRunCanalWrong : ChangeSpec := { name := "fnExactRunCanal", fn := fun _ => fun
  | [d1, d2, d3] => { results := [.lit (.bool false)], args := [d1, d2, d3] }
  | _ => none }
def FnExactRunCanalWrongFalsely : Prop := fnExactRunCanalRow.holds Try.pinned (OpenSpec.ofChange fnExactRunCanalWrong)

/-- 'laws.FnExactStepWave': WHATEVER THE INPUT: true; the input reads as it did. -/
def fnExactStepWaveSpec : ChangeSpec := { name := "fnExactStepWave", fn := fun _ => fun
  | [d1, d2, d3, d4, d5] => { results := [.lit (.bool true)], args := [d1, d2, d3, d4, d5] }
  | _ => none }
def fnExactStepWaveRow : OpenClaim := { program := "ytikmeahdcipanaa", sum := "ee118a4c8986f5b11c5d2f53f48b4cbca332c1f1e22d2c92d6ee2853a15569a2", func := "loop.example/g01302/laws.FnExactStepWave", spec := "fnExactStepWave", inPlace := ["math.sqrt", "math.Float64bits", "math.Float64frombits"], unfollowed := true, recurses := true, apart := false }
def FnExactStepWaveSaid : Prop := fnExactStepWaveRow.holds Try.pinned (OpenSpec.ofChange fnExactStepWaveSpec)

/-- ITS FALSE NEIGHBOUR: 'it returns false'. Refute it at one input. -/
def fnExactStepWaveWrong : ChangeSpec := { name := "fnExactStepWave", fn := fun _ => fun
  | [d1, d2, d3, d4, d5] => { results := [.lit (.bool false)], args := [d1, d2, d3, d4, d5] }
  | _ => none }
def FnExactStepWaveWrongFalsely : Prop := fnExactStepWaveRow.holds Try.pinned (OpenSpec.ofChange fnExactStepWaveWrong)

/-- 'laws.FnExactRunWave': WHATEVER THE INPUT: true; the input reads as it did. -/
def fnExactRunWaveSpec : ChangeSpec := { name := "fnExactRunWave", fn := fun _ => fun
  | [d1, d2, d3, d4, d5] => { results := [.lit (.bool true)], args := [d1, d2, d3, d4, d5] }
  | _ => none }
def fnExactRunWaveRow : OpenClaim := { program := "ytikmeahdcipanaa", sum := "ee118a4c8986f5b11c5d2f53f48b4cbca332c1f1e22d2c92d6ee2853a15569a2", func := "loop.example/g01302/laws.FnExactRunWave", spec := "fnExactRunWave", inPlace := ["math.sqrt", "math.Float64bits", "math.Float64frombits"], unfollowed := true, recurses := true, apart := false }
def FnExactRunWaveSaid : Prop := fnExactRunWaveRow.holds Try.pinned (OpenSpec.ofChange fnExactRunWaveSpec)

/-- ITS FALSE NEIGHBOUR: 'it returns false'. Refute it at one input. -/
def fnExactRunWaveWrong : ChangeSpec := { name := "fnExactRunWave", fn := fun _ => fun
  | [d1, d2, d3, d4, d5] => { results := [.lit (.bool false)], args := [d1, d2, d3, d4, d5] }
  | _ => none }
def FnExactRunWaveWrongFalsely : Prop := fnExactRunWaveRow.holds Try.pinned (OpenSpec.ofChange fnExactRunWaveWrong)

/-- 'laws.FnExactTidesOf': WHATEVER THE INPUT: true; the input reads as it did. -/
def fnExactTidesOfSpec : ChangeSpec := { name := "fnExactTidesOf", fn := fun _ => fun
  | [d1, d2] => { results := [.lit (.bool true)], args := [d1, d2] }
  | _ => none }
def fnExactTidesOfRow : OpenClaim := { program := "ytikmeahdcipanaa", sum := "ee118a4c8986f5b11c5d2f53f48b4cbca332c1f1e22d2c92d6ee2853a15569a2", func := "loop.example/g01302/laws.FnExactTidesOf", spec := "fnExactTidesOf", inPlace := ["math.Float64bits", "math.Float64frombits"], unfollowed := true, recurses := true, apart := false }
def FnExactTidesOfSaid : Prop := fnExactTidesOfRow.holds Try.pinned (OpenSpec.ofChange fnExactTidesOfSpec)

/-- ITS FALSE NEIGHBOUR: 'it returns false'. Refute it at one input. -/
def fnExactTidesOfWrong : ChangeSpec := { name := "fnExactTidesOf", fn := fun _ => fun
  | [d1, d2] => { results := [.lit (.bool false)], args := [d1, d2] }
  | _ => none }
def FnExactTidesOfWrongFalsely : Prop := fnExactTidesOfRow.holds Try.pinned (OpenSpec.ofChange fnExactTidesOfWrong)

/- THE SECOND FORM. 'bulk': how many values and letters a reading holds, each counted each time it is reached (what is shared counts as often as it is met; a slice's spare places count too). A statement '..UptoSaid' is the law's where the arguments, and the package variables that the reading takes, are together of bulk at most 1048576: NARROWER than '..Said'. Prove '..Said' where nothing that the law and all that it calls make is longer than what came in: it says more and counts as full. Else prove '..UptoSaid'. A law counts once. -/
mutual
def uptoBulk {H : Type} : DataW H → Nat
  | .lit (.string bytes) => bytes.length + 1
  | .lit _ => 1
  | .nil => 1
  | .ptr d => uptoBulk d + 1
  | .slice elems spare => uptoBulkAll elems + uptoBulkAll spare + 1
  | .agg parts => uptoBulkAll parts + 1
  | .iface _ d => uptoBulk d + 1
  | .map entries => uptoBulkEntries entries + 1
  | .held _ => 1
def uptoBulkAll {H : Type} : List (DataW H) → Nat
  | [] => 0
  | d :: r => uptoBulk d + uptoBulkAll r
def uptoBulkEntries {H : Type} : List (Lit × DataW H) → Nat
  | [] => 0
  | x :: r => uptoBulkEntry x + uptoBulkEntries r
def uptoBulkEntry {H : Type} : Lit × DataW H → Nat
  | (.string bytes, d) => bytes.length + uptoBulk d + 1
  | (_, d) => uptoBulk d + 1
 end
def uptoSmall : (H : Type) → List (DataW H) → Bool := fun _ ds => decide (uptoBulkAll ds ≤ 1048576)
def OpenSpec.upto (s : _root_.Go.ChangeSpec) : _root_.Go.OpenSpec := { _root_.Go.OpenSpec.ofChange s with cond := some uptoSmall }

/-- 'laws.FnExactLakeOut', WHERE WHAT IT READS IS OF BULK AT MOST 1048576: true; the input reads as it did. -/
def fnExactLakeOutUptoRow : OpenClaim := { program := "ytikmeahdcipanaa", sum := "ee118a4c8986f5b11c5d2f53f48b4cbca332c1f1e22d2c92d6ee2853a15569a2", func := "loop.example/g01302/laws.FnExactLakeOut", spec := "fnExactLakeOut", inPlace := ["math.Float64bits", "math.Float64frombits"], unfollowed := true, recurses := true, apart := false, narrowed := true }
def FnExactLakeOutUptoSaid : Prop := fnExactLakeOutUptoRow.holds Try.pinned (OpenSpec.upto fnExactLakeOutSpec)

/-- 'laws.FnExactStepLake', WHERE WHAT IT READS IS OF BULK AT MOST 1048576: true; the input reads as it did. -/
def fnExactStepLakeUptoRow : OpenClaim := { program := "ytikmeahdcipanaa", sum := "ee118a4c8986f5b11c5d2f53f48b4cbca332c1f1e22d2c92d6ee2853a15569a2", func := "loop.example/g01302/laws.FnExactStepLake", spec := "fnExactStepLake", inPlace := ["math.Float64bits", "math.Float64frombits"], unfollowed := true, recurses := true, apart := false, narrowed := true }
def FnExactStepLakeUptoSaid : Prop := fnExactStepLakeUptoRow.holds Try.pinned (OpenSpec.upto fnExactStepLakeSpec)

/-- 'laws.FnExactRouteLake', WHERE WHAT IT READS IS OF BULK AT MOST 1048576: true; the input reads as it did. -/
def fnExactRouteLakeUptoRow : OpenClaim := { program := "ytikmeahdcipanaa", sum := "ee118a4c8986f5b11c5d2f53f48b4cbca332c1f1e22d2c92d6ee2853a15569a2", func := "loop.example/g01302/laws.FnExactRouteLake", spec := "fnExactRouteLake", inPlace := ["math.Float64bits", "math.Float64frombits"], unfollowed := true, recurses := true, apart := false, narrowed := true }
def FnExactRouteLakeUptoSaid : Prop := fnExactRouteLakeUptoRow.holds Try.pinned (OpenSpec.upto fnExactRouteLakeSpec)

/-- 'laws.FnExactRouteReach', WHERE WHAT IT READS IS OF BULK AT MOST 1048576: true; the input reads as it did. -/
def fnExactRouteReachUptoRow : OpenClaim := { program := "ytikmeahdcipanaa", sum := "ee118a4c8986f5b11c5d2f53f48b4cbca332c1f1e22d2c92d6ee2853a15569a2", func := "loop.example/g01302/laws.FnExactRouteReach", spec := "fnExactRouteReach", inPlace := ["math.Float64bits", "math.Float64frombits"], unfollowed := true, recurses := true, apart := false, narrowed := true }
def FnExactRouteReachUptoSaid : Prop := fnExactRouteReachUptoRow.holds Try.pinned (OpenSpec.upto fnExactRouteReachSpec)

/-- 'laws.FnExactRouteReaches', WHERE WHAT IT READS IS OF BULK AT MOST 1048576: true; the input reads as it did. -/
def fnExactRouteReachesUptoRow : OpenClaim := { program := "ytikmeahdcipanaa", sum := "ee118a4c8986f5b11c5d2f53f48b4cbca332c1f1e22d2c92d6ee2853a15569a2", func := "loop.example/g01302/laws.FnExactRouteReaches", spec := "fnExactRouteReaches", inPlace := ["math.Float64bits", "math.Float64frombits"], unfollowed := true, recurses := true, apart := false, narrowed := true }
def FnExactRouteReachesUptoSaid : Prop := fnExactRouteReachesUptoRow.holds Try.pinned (OpenSpec.upto fnExactRouteReachesSpec)

/-- 'laws.FnExactRouteShared', WHERE WHAT IT READS IS OF BULK AT MOST 1048576: true; the input reads as it did. -/
def fnExactRouteSharedUptoRow : OpenClaim := { program := "ytikmeahdcipanaa", sum := "ee118a4c8986f5b11c5d2f53f48b4cbca332c1f1e22d2c92d6ee2853a15569a2", func := "loop.example/g01302/laws.FnExactRouteShared", spec := "fnExactRouteShared", inPlace := ["math.Float64bits", "math.Float64frombits"], unfollowed := true, recurses := true, apart := false, narrowed := true }
def FnExactRouteSharedUptoSaid : Prop := fnExactRouteSharedUptoRow.holds Try.pinned (OpenSpec.upto fnExactRouteSharedSpec)

/-- 'laws.FnExactEnergyOfCanal', WHERE WHAT IT READS IS OF BULK AT MOST 1048576: true; the input reads as it did. -/
def fnExactEnergyOfCanalUptoRow : OpenClaim := { program := "ytikmeahdcipanaa", sum := "ee118a4c8986f5b11c5d2f53f48b4cbca332c1f1e22d2c92d6ee2853a15569a2", func := "loop.example/g01302/laws.FnExactEnergyOfCanal", spec := "fnExactEnergyOfCanal", inPlace := ["math.Float64bits", "math.Float64frombits"], unfollowed := true, recurses := true, apart := false, narrowed := true }
def FnExactEnergyOfCanalUptoSaid : Prop := fnExactEnergyOfCanalUptoRow.holds Try.pinned (OpenSpec.upto fnExactEnergyOfCanalSpec)

/-- 'laws.FnExactStepCanal', WHERE WHAT IT READS IS OF BULK AT MOST 1048576: true; the input reads as it did. -/
def fnExactStepCanalUptoRow : OpenClaim := { program := "ytikmeahdcipanaa", sum := "ee118a4c8986f5b11c5d2f53f48b4cbca332c1f1e22d2c92d6ee2853a15569a2", func := "loop.example/g01302/laws.FnExactStepCanal", spec := "fnExactStepCanal", inPlace := ["math.Float64bits", "math.Float64frombits"], unfollowed := true, recurses := true, apart := false, narrowed := true }
def FnExactStepCanalUptoSaid : Prop := fnExactStepCanalUptoRow.holds Try.pinned (OpenSpec.upto fnExactStepCanalSpec)

/-- 'laws.FnExactRunCanal', WHERE WHAT IT READS IS OF BULK AT MOST 1048576: true; the input reads as it did. -/
def fnExactRunCanalUptoRow : OpenClaim := { program := "ytikmeahdcipanaa", sum := "ee118a4c8986f5b11c5d2f53f48b4cbca332c1f1e22d2c92d6ee2853a15569a2", func := "loop.example/g01302/laws.FnExactRunCanal", spec := "fnExactRunCanal", inPlace := ["math.Float64bits", "math.Float64frombits"], unfollowed := true, recurses := true, apart := false, narrowed := true }
def FnExactRunCanalUptoSaid : Prop := fnExactRunCanalUptoRow.holds Try.pinned (OpenSpec.upto fnExactRunCanalSpec)

/-- 'laws.FnExactStepWave', WHERE WHAT IT READS IS OF BULK AT MOST 1048576: true; the input reads as it did. -/
def fnExactStepWaveUptoRow : OpenClaim := { program := "ytikmeahdcipanaa", sum := "ee118a4c8986f5b11c5d2f53f48b4cbca332c1f1e22d2c92d6ee2853a15569a2", func := "loop.example/g01302/laws.FnExactStepWave", spec := "fnExactStepWave", inPlace := ["math.sqrt", "math.Float64bits", "math.Float64frombits"], unfollowed := true, recurses := true, apart := false, narrowed := true }
def FnExactStepWaveUptoSaid : Prop := fnExactStepWaveUptoRow.holds Try.pinned (OpenSpec.upto fnExactStepWaveSpec)

/-- 'laws.FnExactRunWave', WHERE WHAT IT READS IS OF BULK AT MOST 1048576: true; the input reads as it did. -/
def fnExactRunWaveUptoRow : OpenClaim := { program := "ytikmeahdcipanaa", sum := "ee118a4c8986f5b11c5d2f53f48b4cbca332c1f1e22d2c92d6ee2853a15569a2", func := "loop.example/g01302/laws.FnExactRunWave", spec := "fnExactRunWave", inPlace := ["math.sqrt", "math.Float64bits", "math.Float64frombits"], unfollowed := true, recurses := true, apart := false, narrowed := true }
def FnExactRunWaveUptoSaid : Prop := fnExactRunWaveUptoRow.holds Try.pinned (OpenSpec.upto fnExactRunWaveSpec)

/-- 'laws.FnExactTidesOf', WHERE WHAT IT READS IS OF BULK AT MOST 1048576: true; the input reads as it did. -/
def fnExactTidesOfUptoRow : OpenClaim := { program := "ytikmeahdcipanaa", sum := "ee118a4c8986f5b11c5d2f53f48b4cbca332c1f1e22d2c92d6ee2853a15569a2", func := "loop.example/g01302/laws.FnExactTidesOf", spec := "fnExactTidesOf", inPlace := ["math.Float64bits", "math.Float64frombits"], unfollowed := true, recurses := true, apart := false, narrowed := true }
def FnExactTidesOfUptoSaid : Prop := fnExactTidesOfUptoRow.holds Try.pinned (OpenSpec.upto fnExactTidesOfSpec)

end Rows
end Go.Proofs.Ytikmeahdcipanaa
