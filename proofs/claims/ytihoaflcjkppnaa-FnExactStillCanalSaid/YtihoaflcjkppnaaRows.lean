/-
  No cell of these rows narrows 'for every input' (looked for: loops, veiled, ifaces, maps, wideKeys, modest, calm, conditions, laid).
  DERIVED. THE GIVEN ROWS OF THIS SEAT. 12 by the template 'for every input the law returns true; each argument reads behind the call as it read before'; 0 by the template 'total and deterministic' (their statements: YtihoaflcjkppnaaTotals.lean).
  GIVEN WITH THE SEED: the statements are not yours to turn. If you find one false, say at which input.
  Laid BY PROGRAM, IN A SANDBOX (cutbox-rows.mjs): the forced cells as the released guide's own fill.sh prints them over the translation 70eca9802dda4084… (all of the seat's roots in one cut). By AI agents, Wed Nov 11 2026. No macro, syntax, notation, axiom, sorry.
-/
import Derived.Test.YtihoaflcjkppnaaChecked
import GoSem.Claim
import GoSem.ClaimJoined
import GoSem.ClaimMapViews
import Derived.JoinedTies
import Derived.KernelRfl
namespace Go.Proofs.Ytihoaflcjkppnaa
/- THE CELL 'sum', in the pinned program and in every row, IS THE sha256 OF THE DUMP (.gsa) THAT YtihoaflcjkppnaaProg.lean LOADS. Nothing in Lean hashes anything: it is a label: what it is worth is what the hold of that sum in a sandbox is worth. -/
noncomputable def Try.pinned : Pinned := { name := "ytihoaflcjkppnaa", sum := "70eca9802dda40844a2ce2b0cf53093aa7c5285192d2c51d66a2913d6e25c4f5", checked := Try.checked }
namespace Rows
def none {H : Type} : Left H := { results := [], args := [] }

/-- 'laws.FnExactValidReach': WHATEVER THE INPUT: true; the input reads as it did. -/
def fnExactValidReachSpec : ChangeSpec := { name := "fnExactValidReach", fn := fun _ => fun
  | [d] => { results := [.lit (.bool true)], args := [d] }
  | _ => none }
def fnExactValidReachRow : OpenClaim := { program := "ytihoaflcjkppnaa", sum := "70eca9802dda40844a2ce2b0cf53093aa7c5285192d2c51d66a2913d6e25c4f5", func := "loop.example/g01302/laws.FnExactValidReach", spec := "fnExactValidReach", inPlace := ["math.Float64bits", "math.Float64frombits"], apart := false }
def FnExactValidReachSaid : Prop := fnExactValidReachRow.holds Try.pinned (OpenSpec.ofChange fnExactValidReachSpec)

/-- ITS FALSE NEIGHBOUR: 'it returns false'. Refute it at one input. -/
def fnExactValidReachWrong : ChangeSpec := { name := "fnExactValidReach", fn := fun _ => fun
  | [d] => { results := [.lit (.bool false)], args := [d] }
  | _ => none }
def FnExactValidReachWrongFalsely : Prop := fnExactValidReachRow.holds Try.pinned (OpenSpec.ofChange fnExactValidReachWrong)

/-- 'laws.FnExactHeldInReach': WHATEVER THE INPUT: true; the input reads as it did. -/
def fnExactHeldInReachSpec : ChangeSpec := { name := "fnExactHeldInReach", fn := fun _ => fun
  | [d1, d2, d3] => { results := [.lit (.bool true)], args := [d1, d2, d3] }
  | _ => none }
def fnExactHeldInReachRow : OpenClaim := { program := "ytihoaflcjkppnaa", sum := "70eca9802dda40844a2ce2b0cf53093aa7c5285192d2c51d66a2913d6e25c4f5", func := "loop.example/g01302/laws.FnExactHeldInReach", spec := "fnExactHeldInReach", inPlace := ["math.Float64bits", "math.Float64frombits"], unfollowed := true, recurses := true, apart := false }
def FnExactHeldInReachSaid : Prop := fnExactHeldInReachRow.holds Try.pinned (OpenSpec.ofChange fnExactHeldInReachSpec)

/-- ITS FALSE NEIGHBOUR: 'it returns false'. Refute it at one input. -/
def fnExactHeldInReachWrong : ChangeSpec := { name := "fnExactHeldInReach", fn := fun _ => fun
  | [d1, d2, d3] => { results := [.lit (.bool false)], args := [d1, d2, d3] }
  | _ => none }
def FnExactHeldInReachWrongFalsely : Prop := fnExactHeldInReachRow.holds Try.pinned (OpenSpec.ofChange fnExactHeldInReachWrong)

/-- 'laws.FnExactReachShares': WHATEVER THE INPUT: true; the input reads as it did. -/
def fnExactReachSharesSpec : ChangeSpec := { name := "fnExactReachShares", fn := fun _ => fun
  | [d1, d2] => { results := [.lit (.bool true)], args := [d1, d2] }
  | _ => none }
def fnExactReachSharesRow : OpenClaim := { program := "ytihoaflcjkppnaa", sum := "70eca9802dda40844a2ce2b0cf53093aa7c5285192d2c51d66a2913d6e25c4f5", func := "loop.example/g01302/laws.FnExactReachShares", spec := "fnExactReachShares", inPlace := ["math.Float64bits", "math.Float64frombits"], unfollowed := true, recurses := true, apart := false }
def FnExactReachSharesSaid : Prop := fnExactReachSharesRow.holds Try.pinned (OpenSpec.ofChange fnExactReachSharesSpec)

/-- ITS FALSE NEIGHBOUR: 'it returns false'. Refute it at one input. -/
def fnExactReachSharesWrong : ChangeSpec := { name := "fnExactReachShares", fn := fun _ => fun
  | [d1, d2] => { results := [.lit (.bool false)], args := [d1, d2] }
  | _ => none }
def FnExactReachSharesWrongFalsely : Prop := fnExactReachSharesRow.holds Try.pinned (OpenSpec.ofChange fnExactReachSharesWrong)

/-- 'laws.FnExactSameReaches': WHATEVER THE INPUT: true; the input reads as it did. -/
def fnExactSameReachesSpec : ChangeSpec := { name := "fnExactSameReaches", fn := fun _ => fun
  | [d1, d2] => { results := [.lit (.bool true)], args := [d1, d2] }
  | _ => none }
def fnExactSameReachesRow : OpenClaim := { program := "ytihoaflcjkppnaa", sum := "70eca9802dda40844a2ce2b0cf53093aa7c5285192d2c51d66a2913d6e25c4f5", func := "loop.example/g01302/laws.FnExactSameReaches", spec := "fnExactSameReaches", inPlace := ["math.Float32bits", "math.Float64bits"], unfollowed := true, recurses := true, apart := false }
def FnExactSameReachesSaid : Prop := fnExactSameReachesRow.holds Try.pinned (OpenSpec.ofChange fnExactSameReachesSpec)

/-- ITS FALSE NEIGHBOUR: 'it returns false'. Refute it at one input. -/
def fnExactSameReachesWrong : ChangeSpec := { name := "fnExactSameReaches", fn := fun _ => fun
  | [d1, d2] => { results := [.lit (.bool false)], args := [d1, d2] }
  | _ => none }
def FnExactSameReachesWrongFalsely : Prop := fnExactSameReachesRow.holds Try.pinned (OpenSpec.ofChange fnExactSameReachesWrong)

/-- 'laws.FnExactSameLake': WHATEVER THE INPUT: true; the input reads as it did. -/
def fnExactSameLakeSpec : ChangeSpec := { name := "fnExactSameLake", fn := fun _ => fun
  | [d1, d2] => { results := [.lit (.bool true)], args := [d1, d2] }
  | _ => none }
def fnExactSameLakeRow : OpenClaim := { program := "ytihoaflcjkppnaa", sum := "70eca9802dda40844a2ce2b0cf53093aa7c5285192d2c51d66a2913d6e25c4f5", func := "loop.example/g01302/laws.FnExactSameLake", spec := "fnExactSameLake", inPlace := ["math.Float32bits", "math.Float64bits"], unfollowed := true, recurses := true, apart := false }
def FnExactSameLakeSaid : Prop := fnExactSameLakeRow.holds Try.pinned (OpenSpec.ofChange fnExactSameLakeSpec)

/-- ITS FALSE NEIGHBOUR: 'it returns false'. Refute it at one input. -/
def fnExactSameLakeWrong : ChangeSpec := { name := "fnExactSameLake", fn := fun _ => fun
  | [d1, d2] => { results := [.lit (.bool false)], args := [d1, d2] }
  | _ => none }
def FnExactSameLakeWrongFalsely : Prop := fnExactSameLakeRow.holds Try.pinned (OpenSpec.ofChange fnExactSameLakeWrong)

/-- 'laws.FnExactWaveFlow': WHATEVER THE INPUT: true; the input reads as it did. -/
def fnExactWaveFlowSpec : ChangeSpec := { name := "fnExactWaveFlow", fn := fun _ => fun
  | [d1, d2] => { results := [.lit (.bool true)], args := [d1, d2] }
  | _ => none }
def fnExactWaveFlowRow : OpenClaim := { program := "ytihoaflcjkppnaa", sum := "70eca9802dda40844a2ce2b0cf53093aa7c5285192d2c51d66a2913d6e25c4f5", func := "loop.example/g01302/laws.FnExactWaveFlow", spec := "fnExactWaveFlow", inPlace := ["math.sqrt", "math.Float64bits", "math.Float64frombits"], apart := false }
def FnExactWaveFlowSaid : Prop := fnExactWaveFlowRow.holds Try.pinned (OpenSpec.ofChange fnExactWaveFlowSpec)

/-- ITS FALSE NEIGHBOUR: 'it returns false'. Refute it at one input. -/
def fnExactWaveFlowWrong : ChangeSpec := { name := "fnExactWaveFlow", fn := fun _ => fun
  | [d1, d2] => { results := [.lit (.bool false)], args := [d1, d2] }
  | _ => none }
def FnExactWaveFlowWrongFalsely : Prop := fnExactWaveFlowRow.holds Try.pinned (OpenSpec.ofChange fnExactWaveFlowWrong)

/-- 'laws.FnExactSameCanal': WHATEVER THE INPUT: true; the input reads as it did. -/
def fnExactSameCanalSpec : ChangeSpec := { name := "fnExactSameCanal", fn := fun _ => fun
  | [d1, d2] => { results := [.lit (.bool true)], args := [d1, d2] }
  | _ => none }
def fnExactSameCanalRow : OpenClaim := { program := "ytihoaflcjkppnaa", sum := "70eca9802dda40844a2ce2b0cf53093aa7c5285192d2c51d66a2913d6e25c4f5", func := "loop.example/g01302/laws.FnExactSameCanal", spec := "fnExactSameCanal", inPlace := ["math.Float32bits", "math.Float64bits"], unfollowed := true, recurses := true, apart := false }
def FnExactSameCanalSaid : Prop := fnExactSameCanalRow.holds Try.pinned (OpenSpec.ofChange fnExactSameCanalSpec)

/-- ITS FALSE NEIGHBOUR: 'it returns false'. Refute it at one input. -/
def fnExactSameCanalWrong : ChangeSpec := { name := "fnExactSameCanal", fn := fun _ => fun
  | [d1, d2] => { results := [.lit (.bool false)], args := [d1, d2] }
  | _ => none }
def FnExactSameCanalWrongFalsely : Prop := fnExactSameCanalRow.holds Try.pinned (OpenSpec.ofChange fnExactSameCanalWrong)

/-- 'laws.FnExactValidLake': WHATEVER THE INPUT: true; the input reads as it did. -/
def fnExactValidLakeSpec : ChangeSpec := { name := "fnExactValidLake", fn := fun _ => fun
  | [d] => { results := [.lit (.bool true)], args := [d] }
  | _ => none }
def fnExactValidLakeRow : OpenClaim := { program := "ytihoaflcjkppnaa", sum := "70eca9802dda40844a2ce2b0cf53093aa7c5285192d2c51d66a2913d6e25c4f5", func := "loop.example/g01302/laws.FnExactValidLake", spec := "fnExactValidLake", inPlace := ["math.Float64bits", "math.Float64frombits"], unfollowed := true, recurses := true, apart := false }
def FnExactValidLakeSaid : Prop := fnExactValidLakeRow.holds Try.pinned (OpenSpec.ofChange fnExactValidLakeSpec)

/-- ITS FALSE NEIGHBOUR: 'it returns false'. Refute it at one input. -/
def fnExactValidLakeWrong : ChangeSpec := { name := "fnExactValidLake", fn := fun _ => fun
  | [d] => { results := [.lit (.bool false)], args := [d] }
  | _ => none }
def FnExactValidLakeWrongFalsely : Prop := fnExactValidLakeRow.holds Try.pinned (OpenSpec.ofChange fnExactValidLakeWrong)

/-- 'laws.FnExactValidCanal': WHATEVER THE INPUT: true; the input reads as it did. -/
def fnExactValidCanalSpec : ChangeSpec := { name := "fnExactValidCanal", fn := fun _ => fun
  | [d] => { results := [.lit (.bool true)], args := [d] }
  | _ => none }
def fnExactValidCanalRow : OpenClaim := { program := "ytihoaflcjkppnaa", sum := "70eca9802dda40844a2ce2b0cf53093aa7c5285192d2c51d66a2913d6e25c4f5", func := "loop.example/g01302/laws.FnExactValidCanal", spec := "fnExactValidCanal", inPlace := ["math.Float64bits", "math.Float64frombits"], unfollowed := true, recurses := true, apart := false }
def FnExactValidCanalSaid : Prop := fnExactValidCanalRow.holds Try.pinned (OpenSpec.ofChange fnExactValidCanalSpec)

/-- ITS FALSE NEIGHBOUR: 'it returns false'. Refute it at one input. -/
def fnExactValidCanalWrong : ChangeSpec := { name := "fnExactValidCanal", fn := fun _ => fun
  | [d] => { results := [.lit (.bool false)], args := [d] }
  | _ => none }
def FnExactValidCanalWrongFalsely : Prop := fnExactValidCanalRow.holds Try.pinned (OpenSpec.ofChange fnExactValidCanalWrong)

/-- 'laws.FnExactBreakDepth': WHATEVER THE INPUT: true; the input reads as it did. -/
def fnExactBreakDepthSpec : ChangeSpec := { name := "fnExactBreakDepth", fn := fun _ => fun
  | [d1, d2, d3] => { results := [.lit (.bool true)], args := [d1, d2, d3] }
  | _ => none }
def fnExactBreakDepthRow : OpenClaim := { program := "ytihoaflcjkppnaa", sum := "70eca9802dda40844a2ce2b0cf53093aa7c5285192d2c51d66a2913d6e25c4f5", func := "loop.example/g01302/laws.FnExactBreakDepth", spec := "fnExactBreakDepth", inPlace := ["math.sqrt", "math.Float64bits", "math.Float64frombits"], apart := false }
def FnExactBreakDepthSaid : Prop := fnExactBreakDepthRow.holds Try.pinned (OpenSpec.ofChange fnExactBreakDepthSpec)

/-- ITS FALSE NEIGHBOUR: 'it returns false'. Refute it at one input. -/
def fnExactBreakDepthWrong : ChangeSpec := { name := "fnExactBreakDepth", fn := fun _ => fun
  | [d1, d2, d3] => { results := [.lit (.bool false)], args := [d1, d2, d3] }
  | _ => none }
def FnExactBreakDepthWrongFalsely : Prop := fnExactBreakDepthRow.holds Try.pinned (OpenSpec.ofChange fnExactBreakDepthWrong)

/-- 'laws.FnExactBreakFlow': WHATEVER THE INPUT: true; the input reads as it did. -/
def fnExactBreakFlowSpec : ChangeSpec := { name := "fnExactBreakFlow", fn := fun _ => fun
  | [d1, d2, d3] => { results := [.lit (.bool true)], args := [d1, d2, d3] }
  | _ => none }
def fnExactBreakFlowRow : OpenClaim := { program := "ytihoaflcjkppnaa", sum := "70eca9802dda40844a2ce2b0cf53093aa7c5285192d2c51d66a2913d6e25c4f5", func := "loop.example/g01302/laws.FnExactBreakFlow", spec := "fnExactBreakFlow", inPlace := ["math.sqrt", "math.Float64bits", "math.Float64frombits"], apart := false }
def FnExactBreakFlowSaid : Prop := fnExactBreakFlowRow.holds Try.pinned (OpenSpec.ofChange fnExactBreakFlowSpec)

/-- ITS FALSE NEIGHBOUR: 'it returns false'. Refute it at one input. -/
def fnExactBreakFlowWrong : ChangeSpec := { name := "fnExactBreakFlow", fn := fun _ => fun
  | [d1, d2, d3] => { results := [.lit (.bool false)], args := [d1, d2, d3] }
  | _ => none }
def FnExactBreakFlowWrongFalsely : Prop := fnExactBreakFlowRow.holds Try.pinned (OpenSpec.ofChange fnExactBreakFlowWrong)

/-- 'laws.FnExactStillCanal': WHATEVER THE INPUT: true; the input reads as it did. -/
def fnExactStillCanalSpec : ChangeSpec := { name := "fnExactStillCanal", fn := fun _ => fun
  | [d1, d2, d3, d4] => { results := [.lit (.bool true)], args := [d1, d2, d3, d4] }
  | _ => none }
def fnExactStillCanalRow : OpenClaim := { program := "ytihoaflcjkppnaa", sum := "70eca9802dda40844a2ce2b0cf53093aa7c5285192d2c51d66a2913d6e25c4f5", func := "loop.example/g01302/laws.FnExactStillCanal", spec := "fnExactStillCanal", inPlace := ["math.Float64bits", "math.Float64frombits"], unfollowed := true, recurses := true, apart := false }
def FnExactStillCanalSaid : Prop := fnExactStillCanalRow.holds Try.pinned (OpenSpec.ofChange fnExactStillCanalSpec)

/-- ITS FALSE NEIGHBOUR: 'it returns false'. Refute it at one input. -/
def fnExactStillCanalWrong : ChangeSpec := { name := "fnExactStillCanal", fn := fun _ => fun
  | [d1, d2, d3, d4] => { results := [.lit (.bool false)], args := [d1, d2, d3, d4] }
  | _ => none }
def FnExactStillCanalWrongFalsely : Prop := fnExactStillCanalRow.holds Try.pinned (OpenSpec.ofChange fnExactStillCanalWrong)

/- THE SECOND FORM. 'bulk': how many values and letters a reading holds, each counted each time it is reached (what is shared counts as often as it is met; a slice's spare places count too). A statement '..UptoSaid' is the law's where the arguments, and the package variables that the reading takes, are together of bulk at most 1048576: NARROWER than '..Said'. Prove '..Said' where nothing that the law and all that it calls make is longer than what came in: it says more and counts as full. Else prove '..UptoSaid'. A law counts once. -/
mutual
def uptoBulk {H : Type} : DataW H → Nat
  | .lit (.string bytes) => bytes.length + 1
  | .lit _ => 1
  | .nil => 1
  | .ptr d => uptoBulk d + 1
  | .slice elems spare => uptoBulkAll elems + uptoBulkAll spare + 1
  | .agg parts => uptoBulkAll parts + 1
  | .iface _ d => uptoBulk d + 1
  | .map entries => uptoBulkEntries entries + 1
  | .held _ => 1
def uptoBulkAll {H : Type} : List (DataW H) → Nat
  | [] => 0
  | d :: r => uptoBulk d + uptoBulkAll r
def uptoBulkEntries {H : Type} : List (Lit × DataW H) → Nat
  | [] => 0
  | x :: r => uptoBulkEntry x + uptoBulkEntries r
def uptoBulkEntry {H : Type} : Lit × DataW H → Nat
  | (.string bytes, d) => bytes.length + uptoBulk d + 1
  | (_, d) => uptoBulk d + 1
 end
def uptoSmall : (H : Type) → List (DataW H) → Bool := fun _ ds => decide (uptoBulkAll ds ≤ 1048576)
def OpenSpec.upto (s : _root_.Go.ChangeSpec) : _root_.Go.OpenSpec := { _root_.Go.OpenSpec.ofChange s with cond := some uptoSmall }

/-- 'laws.FnExactValidReach', WHERE WHAT IT READS IS OF BULK AT MOST 1048576: true; the input reads as it did. -/
def fnExactValidReachUptoRow : OpenClaim := { program := "ytihoaflcjkppnaa", sum := "70eca9802dda40844a2ce2b0cf53093aa7c5285192d2c51d66a2913d6e25c4f5", func := "loop.example/g01302/laws.FnExactValidReach", spec := "fnExactValidReach", inPlace := ["math.Float64bits", "math.Float64frombits"], apart := false, narrowed := true }
def FnExactValidReachUptoSaid : Prop := fnExactValidReachUptoRow.holds Try.pinned (OpenSpec.upto fnExactValidReachSpec)

/-- 'laws.FnExactHeldInReach', WHERE WHAT IT READS IS OF BULK AT MOST 1048576: true; the input reads as it did. -/
def fnExactHeldInReachUptoRow : OpenClaim := { program := "ytihoaflcjkppnaa", sum := "70eca9802dda40844a2ce2b0cf53093aa7c5285192d2c51d66a2913d6e25c4f5", func := "loop.example/g01302/laws.FnExactHeldInReach", spec := "fnExactHeldInReach", inPlace := ["math.Float64bits", "math.Float64frombits"], unfollowed := true, recurses := true, apart := false, narrowed := true }
def FnExactHeldInReachUptoSaid : Prop := fnExactHeldInReachUptoRow.holds Try.pinned (OpenSpec.upto fnExactHeldInReachSpec)

/-- 'laws.FnExactReachShares', WHERE WHAT IT READS IS OF BULK AT MOST 1048576: true; the input reads as it did. -/
def fnExactReachSharesUptoRow : OpenClaim := { program := "ytihoaflcjkppnaa", sum := "70eca9802dda40844a2ce2b0cf53093aa7c5285192d2c51d66a2913d6e25c4f5", func := "loop.example/g01302/laws.FnExactReachShares", spec := "fnExactReachShares", inPlace := ["math.Float64bits", "math.Float64frombits"], unfollowed := true, recurses := true, apart := false, narrowed := true }
def FnExactReachSharesUptoSaid : Prop := fnExactReachSharesUptoRow.holds Try.pinned (OpenSpec.upto fnExactReachSharesSpec)

/-- 'laws.FnExactSameReaches', WHERE WHAT IT READS IS OF BULK AT MOST 1048576: true; the input reads as it did. -/
def fnExactSameReachesUptoRow : OpenClaim := { program := "ytihoaflcjkppnaa", sum := "70eca9802dda40844a2ce2b0cf53093aa7c5285192d2c51d66a2913d6e25c4f5", func := "loop.example/g01302/laws.FnExactSameReaches", spec := "fnExactSameReaches", inPlace := ["math.Float32bits", "math.Float64bits"], unfollowed := true, recurses := true, apart := false, narrowed := true }
def FnExactSameReachesUptoSaid : Prop := fnExactSameReachesUptoRow.holds Try.pinned (OpenSpec.upto fnExactSameReachesSpec)

/-- 'laws.FnExactSameLake', WHERE WHAT IT READS IS OF BULK AT MOST 1048576: true; the input reads as it did. -/
def fnExactSameLakeUptoRow : OpenClaim := { program := "ytihoaflcjkppnaa", sum := "70eca9802dda40844a2ce2b0cf53093aa7c5285192d2c51d66a2913d6e25c4f5", func := "loop.example/g01302/laws.FnExactSameLake", spec := "fnExactSameLake", inPlace := ["math.Float32bits", "math.Float64bits"], unfollowed := true, recurses := true, apart := false, narrowed := true }
def FnExactSameLakeUptoSaid : Prop := fnExactSameLakeUptoRow.holds Try.pinned (OpenSpec.upto fnExactSameLakeSpec)

/-- 'laws.FnExactWaveFlow', WHERE WHAT IT READS IS OF BULK AT MOST 1048576: true; the input reads as it did. -/
def fnExactWaveFlowUptoRow : OpenClaim := { program := "ytihoaflcjkppnaa", sum := "70eca9802dda40844a2ce2b0cf53093aa7c5285192d2c51d66a2913d6e25c4f5", func := "loop.example/g01302/laws.FnExactWaveFlow", spec := "fnExactWaveFlow", inPlace := ["math.sqrt", "math.Float64bits", "math.Float64frombits"], apart := false, narrowed := true }
def FnExactWaveFlowUptoSaid : Prop := fnExactWaveFlowUptoRow.holds Try.pinned (OpenSpec.upto fnExactWaveFlowSpec)

/-- 'laws.FnExactSameCanal', WHERE WHAT IT READS IS OF BULK AT MOST 1048576: true; the input reads as it did. -/
def fnExactSameCanalUptoRow : OpenClaim := { program := "ytihoaflcjkppnaa", sum := "70eca9802dda40844a2ce2b0cf53093aa7c5285192d2c51d66a2913d6e25c4f5", func := "loop.example/g01302/laws.FnExactSameCanal", spec := "fnExactSameCanal", inPlace := ["math.Float32bits", "math.Float64bits"], unfollowed := true, recurses := true, apart := false, narrowed := true }
def FnExactSameCanalUptoSaid : Prop := fnExactSameCanalUptoRow.holds Try.pinned (OpenSpec.upto fnExactSameCanalSpec)

/-- 'laws.FnExactValidLake', WHERE WHAT IT READS IS OF BULK AT MOST 1048576: true; the input reads as it did. -/
def fnExactValidLakeUptoRow : OpenClaim := { program := "ytihoaflcjkppnaa", sum := "70eca9802dda40844a2ce2b0cf53093aa7c5285192d2c51d66a2913d6e25c4f5", func := "loop.example/g01302/laws.FnExactValidLake", spec := "fnExactValidLake", inPlace := ["math.Float64bits", "math.Float64frombits"], unfollowed := true, recurses := true, apart := false, narrowed := true }
def FnExactValidLakeUptoSaid : Prop := fnExactValidLakeUptoRow.holds Try.pinned (OpenSpec.upto fnExactValidLakeSpec)

/-- 'laws.FnExactValidCanal', WHERE WHAT IT READS IS OF BULK AT MOST 1048576: true; the input reads as it did. -/
def fnExactValidCanalUptoRow : OpenClaim := { program := "ytihoaflcjkppnaa", sum := "70eca9802dda40844a2ce2b0cf53093aa7c5285192d2c51d66a2913d6e25c4f5", func := "loop.example/g01302/laws.FnExactValidCanal", spec := "fnExactValidCanal", inPlace := ["math.Float64bits", "math.Float64frombits"], unfollowed := true, recurses := true, apart := false, narrowed := true }
def FnExactValidCanalUptoSaid : Prop := fnExactValidCanalUptoRow.holds Try.pinned (OpenSpec.upto fnExactValidCanalSpec)

/-- 'laws.FnExactBreakDepth', WHERE WHAT IT READS IS OF BULK AT MOST 1048576: true; the input reads as it did. -/
def fnExactBreakDepthUptoRow : OpenClaim := { program := "ytihoaflcjkppnaa", sum := "70eca9802dda40844a2ce2b0cf53093aa7c5285192d2c51d66a2913d6e25c4f5", func := "loop.example/g01302/laws.FnExactBreakDepth", spec := "fnExactBreakDepth", inPlace := ["math.sqrt", "math.Float64bits", "math.Float64frombits"], apart := false, narrowed := true }
def FnExactBreakDepthUptoSaid : Prop := fnExactBreakDepthUptoRow.holds Try.pinned (OpenSpec.upto fnExactBreakDepthSpec)

/-- 'laws.FnExactBreakFlow', WHERE WHAT IT READS IS OF BULK AT MOST 1048576: true; the input reads as it did. -/
def fnExactBreakFlowUptoRow : OpenClaim := { program := "ytihoaflcjkppnaa", sum := "70eca9802dda40844a2ce2b0cf53093aa7c5285192d2c51d66a2913d6e25c4f5", func := "loop.example/g01302/laws.FnExactBreakFlow", spec := "fnExactBreakFlow", inPlace := ["math.sqrt", "math.Float64bits", "math.Float64frombits"], apart := false, narrowed := true }
def FnExactBreakFlowUptoSaid : Prop := fnExactBreakFlowUptoRow.holds Try.pinned (OpenSpec.upto fnExactBreakFlowSpec)

/-- 'laws.FnExactStillCanal', WHERE WHAT IT READS IS OF BULK AT MOST 1048576: true; the input reads as it did. -/
def fnExactStillCanalUptoRow : OpenClaim := { program := "ytihoaflcjkppnaa", sum := "70eca9802dda40844a2ce2b0cf53093aa7c5285192d2c51d66a2913d6e25c4f5", func := "loop.example/g01302/laws.FnExactStillCanal", spec := "fnExactStillCanal", inPlace := ["math.Float64bits", "math.Float64frombits"], unfollowed := true, recurses := true, apart := false, narrowed := true }
def FnExactStillCanalUptoSaid : Prop := fnExactStillCanalUptoRow.holds Try.pinned (OpenSpec.upto fnExactStillCanalSpec)

end Rows
end Go.Proofs.Ytihoaflcjkppnaa
