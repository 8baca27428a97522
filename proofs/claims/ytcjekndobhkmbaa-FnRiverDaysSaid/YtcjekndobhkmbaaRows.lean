/-
  No cell of these rows narrows 'for every input' (looked for: loops, veiled, ifaces, maps, wideKeys, modest, calm, conditions, laid).
  DERIVED. THE GIVEN ROWS OF THIS SEAT. 5 by the template 'for every input the law returns true; each argument reads behind the call as it read before'; 0 by the template 'total and deterministic' (their statements: YtcjekndobhkmbaaTotals.lean).
  GIVEN WITH THE SEED: the statements are not yours to turn. If you find one false, say at which input.
  Laid BY PROGRAM, IN A SANDBOX (cutbox-rows.mjs): the forced cells as the released guide's own fill.sh prints them over the translation 020a63daf59b8947… (all of the seat's roots in one cut). By AI agents, Wed Nov 11 2026. No macro, syntax, notation, axiom, sorry.
-/
import Derived.Test.YtcjekndobhkmbaaChecked
import GoSem.Claim
import GoSem.ClaimJoined
import GoSem.ClaimMapViews
import Derived.JoinedTies
import Derived.KernelRfl
namespace Go.Proofs.Ytcjekndobhkmbaa
/- THE CELL 'sum', in the pinned program and in every row, IS THE sha256 OF THE DUMP (.gsa) THAT YtcjekndobhkmbaaProg.lean LOADS. Nothing in Lean hashes anything: it is a label: what it is worth is what the hold of that sum in a sandbox is worth. -/
noncomputable def Try.pinned : Pinned := { name := "ytcjekndobhkmbaa", sum := "020a63daf59b894707a566b3a2726b255e3281601061c4885989c78d0623c430", checked := Try.checked }
namespace Rows
def none {H : Type} : Left H := { results := [], args := [] }

/-- 'laws.FnExactCutWants': WHATEVER THE INPUT: true; the input reads as it did. -/
def fnExactCutWantsSpec : ChangeSpec := { name := "fnExactCutWants", fn := fun _ => fun
  | [d1, d2, d3] => { results := [.lit (.bool true)], args := [d1, d2, d3] }
  | _ => none }
def fnExactCutWantsRow : OpenClaim := { program := "ytcjekndobhkmbaa", sum := "020a63daf59b894707a566b3a2726b255e3281601061c4885989c78d0623c430", func := "loop.example/g01302/laws.FnExactCutWants", spec := "fnExactCutWants", unfollowed := true, recurses := true, apart := false }
def FnExactCutWantsSaid : Prop := fnExactCutWantsRow.holds Try.pinned (OpenSpec.ofChange fnExactCutWantsSpec)

/-- ITS FALSE NEIGHBOUR: 'it returns false'. Refute it at one input. -/
def fnExactCutWantsWrong : ChangeSpec := { name := "fnExactCutWants", fn := fun _ => fun
  | [d1, d2, d3] => { results := [.lit (.bool false)], args := [d1, d2, d3] }
  | _ => none }
def FnExactCutWantsWrongFalsely : Prop := fnExactCutWantsRow.holds Try.pinned (OpenSpec.ofChange fnExactCutWantsWrong)

/-- 'laws.FnExactSetDam': WHATEVER THE INPUT: true; the input reads as it did. -/
def fnExactSetDamSpec : ChangeSpec := { name := "fnExactSetDam", fn := fun _ => fun
  | [d1, d2, d3] => { results := [.lit (.bool true)], args := [d1, d2, d3] }
  | _ => none }
def fnExactSetDamRow : OpenClaim := { program := "ytcjekndobhkmbaa", sum := "020a63daf59b894707a566b3a2726b255e3281601061c4885989c78d0623c430", func := "loop.example/g01302/laws.FnExactSetDam", spec := "fnExactSetDam", unfollowed := true, recurses := true, apart := false }
def FnExactSetDamSaid : Prop := fnExactSetDamRow.holds Try.pinned (OpenSpec.ofChange fnExactSetDamSpec)

/-- ITS FALSE NEIGHBOUR: 'it returns false'. Refute it at one input. -/
def fnExactSetDamWrong : ChangeSpec := { name := "fnExactSetDam", fn := fun _ => fun
  | [d1, d2, d3] => { results := [.lit (.bool false)], args := [d1, d2, d3] }
  | _ => none }
def FnExactSetDamWrongFalsely : Prop := fnExactSetDamRow.holds Try.pinned (OpenSpec.ofChange fnExactSetDamWrong)

/-- 'laws.FnExactSetWant': WHATEVER THE INPUT: true; the input reads as it did. -/
def fnExactSetWantSpec : ChangeSpec := { name := "fnExactSetWant", fn := fun _ => fun
  | [d1, d2, d3] => { results := [.lit (.bool true)], args := [d1, d2, d3] }
  | _ => none }
def fnExactSetWantRow : OpenClaim := { program := "ytcjekndobhkmbaa", sum := "020a63daf59b894707a566b3a2726b255e3281601061c4885989c78d0623c430", func := "loop.example/g01302/laws.FnExactSetWant", spec := "fnExactSetWant", unfollowed := true, recurses := true, apart := false }
def FnExactSetWantSaid : Prop := fnExactSetWantRow.holds Try.pinned (OpenSpec.ofChange fnExactSetWantSpec)

/-- ITS FALSE NEIGHBOUR: 'it returns false'. Refute it at one input. -/
def fnExactSetWantWrong : ChangeSpec := { name := "fnExactSetWant", fn := fun _ => fun
  | [d1, d2, d3] => { results := [.lit (.bool false)], args := [d1, d2, d3] }
  | _ => none }
def FnExactSetWantWrongFalsely : Prop := fnExactSetWantRow.holds Try.pinned (OpenSpec.ofChange fnExactSetWantWrong)

/-- 'laws.FnSplits': WHATEVER THE INPUT: true; the input reads as it did. -/
def fnSplitsSpec : ChangeSpec := { name := "fnSplits", fn := fun _ => fun
  | [d1, d2] => { results := [.lit (.bool true)], args := [d1, d2] }
  | _ => none }
def fnSplitsRow : OpenClaim := { program := "ytcjekndobhkmbaa", sum := "020a63daf59b894707a566b3a2726b255e3281601061c4885989c78d0623c430", func := "loop.example/g01302/laws.FnSplits", spec := "fnSplits", unfollowed := true, recurses := true, apart := false }
def FnSplitsSaid : Prop := fnSplitsRow.holds Try.pinned (OpenSpec.ofChange fnSplitsSpec)

/-- ITS FALSE NEIGHBOUR: 'it returns false'. Refute it at one input. -/
def fnSplitsWrong : ChangeSpec := { name := "fnSplits", fn := fun _ => fun
  | [d1, d2] => { results := [.lit (.bool false)], args := [d1, d2] }
  | _ => none }
def FnSplitsWrongFalsely : Prop := fnSplitsRow.holds Try.pinned (OpenSpec.ofChange fnSplitsWrong)

/-- 'laws.FnRiverDays': WHATEVER THE INPUT: true; the input reads as it did. -/
def fnRiverDaysSpec : ChangeSpec := { name := "fnRiverDays", fn := fun _ => fun
  | [d1, d2] => { results := [.lit (.bool true)], args := [d1, d2] }
  | _ => none }
def fnRiverDaysRow : OpenClaim := { program := "ytcjekndobhkmbaa", sum := "020a63daf59b894707a566b3a2726b255e3281601061c4885989c78d0623c430", func := "loop.example/g01302/laws.FnRiverDays", spec := "fnRiverDays", unfollowed := true, recurses := true, apart := false }
def FnRiverDaysSaid : Prop := fnRiverDaysRow.holds Try.pinned (OpenSpec.ofChange fnRiverDaysSpec)

/-- ITS FALSE NEIGHBOUR: 'it returns false'. Refute it at one input. -/
def fnRiverDaysWrong : ChangeSpec := { name := "fnRiverDays", fn := fun _ => fun
  | [d1, d2] => { results := [.lit (.bool false)], args := [d1, d2] }
  | _ => none }
def FnRiverDaysWrongFalsely : Prop := fnRiverDaysRow.holds Try.pinned (OpenSpec.ofChange fnRiverDaysWrong)

/- THE SECOND FORM. 'bulk': how many values and letters a reading holds, each counted each time it is reached (what is shared counts as often as it is met; a slice's spare places count too). A statement '..UptoSaid' is the law's where the arguments, and the package variables that the reading takes, are together of bulk at most 1048576: NARROWER than '..Said'. Prove '..Said' where nothing that the law and all that it calls make is longer than what came in: it says more and counts as full. Else prove '..UptoSaid'. A law counts once. -/
mutual
def uptoBulk {H : Type} : DataW H → Nat
  | .lit (.string bytes) => bytes.length + 1
  | .lit _ => 1
  | .nil => 1
  | .ptr d => uptoBulk d + 1
  | .slice elems spare => uptoBulkAll elems + uptoBulkAll spare + 1
  | .agg parts => uptoBulkAll parts + 1
  | .iface _ d => uptoBulk d + 1
  | .map entries => uptoBulkEntries entries + 1
  | .held _ => 1
def uptoBulkAll {H : Type} : List (DataW H) → Nat
  | [] => 0
  | d :: r => uptoBulk d + uptoBulkAll r
def uptoBulkEntries {H : Type} : List (Lit × DataW H) → Nat
  | [] => 0
  | x :: r => uptoBulkEntry x + uptoBulkEntries r
def uptoBulkEntry {H : Type} : Lit × DataW H → Nat
  | (.string bytes, d) => bytes.length + uptoBulk d + 1
  | (_, d) => uptoBulk d + 1
 end
def uptoSmall : (H : Type) → List (DataW H) → Bool := fun _ ds => decide (uptoBulkAll ds ≤ 1048576)
def OpenSpec.upto (s : _root_.Go.ChangeSpec) : _root_.Go.OpenSpec := { _root_.Go.OpenSpec.ofChange s with cond := some uptoSmall }

/-- 'laws.FnExactCutWants', WHERE WHAT IT READS IS OF BULK AT MOST 1048576: true; the input reads as it did. -/
def fnExactCutWantsUptoRow : OpenClaim := { program := "ytcjekndobhkmbaa", sum := "020a63daf59b894707a566b3a2726b255e3281601061c4885989c78d0623c430", func := "loop.example/g01302/laws.FnExactCutWants", spec := "fnExactCutWants", unfollowed := true, recurses := true, apart := false, narrowed := true }
def FnExactCutWantsUptoSaid : Prop := fnExactCutWantsUptoRow.holds Try.pinned (OpenSpec.upto fnExactCutWantsSpec)

/-- 'laws.FnExactSetDam', WHERE WHAT IT READS IS OF BULK AT MOST 1048576: true; the input reads as it did. -/
def fnExactSetDamUptoRow : OpenClaim := { program := "ytcjekndobhkmbaa", sum := "020a63daf59b894707a566b3a2726b255e3281601061c4885989c78d0623c430", func := "loop.example/g01302/laws.FnExactSetDam", spec := "fnExactSetDam", unfollowed := true, recurses := true, apart := false, narrowed := true }
def FnExactSetDamUptoSaid : Prop := fnExactSetDamUptoRow.holds Try.pinned (OpenSpec.upto fnExactSetDamSpec)

/-- 'laws.FnExactSetWant', WHERE WHAT IT READS IS OF BULK AT MOST 1048576: true; the input reads as it did. -/
def fnExactSetWantUptoRow : OpenClaim := { program := "ytcjekndobhkmbaa", sum := "020a63daf59b894707a566b3a2726b255e3281601061c4885989c78d0623c430", func := "loop.example/g01302/laws.FnExactSetWant", spec := "fnExactSetWant", unfollowed := true, recurses := true, apart := false, narrowed := true }
def FnExactSetWantUptoSaid : Prop := fnExactSetWantUptoRow.holds Try.pinned (OpenSpec.upto fnExactSetWantSpec)

/-- 'laws.FnSplits', WHERE WHAT IT READS IS OF BULK AT MOST 1048576: true; the input reads as it did. -/
def fnSplitsUptoRow : OpenClaim := { program := "ytcjekndobhkmbaa", sum := "020a63daf59b894707a566b3a2726b255e3281601061c4885989c78d0623c430", func := "loop.example/g01302/laws.FnSplits", spec := "fnSplits", unfollowed := true, recurses := true, apart := false, narrowed := true }
def FnSplitsUptoSaid : Prop := fnSplitsUptoRow.holds Try.pinned (OpenSpec.upto fnSplitsSpec)

/-- 'laws.FnRiverDays', WHERE WHAT IT READS IS OF BULK AT MOST 1048576: true; the input reads as it did. -/
def fnRiverDaysUptoRow : OpenClaim := { program := "ytcjekndobhkmbaa", sum := "020a63daf59b894707a566b3a2726b255e3281601061c4885989c78d0623c430", func := "loop.example/g01302/laws.FnRiverDays", spec := "fnRiverDays", unfollowed := true, recurses := true, apart := false, narrowed := true }
def FnRiverDaysUptoSaid : Prop := fnRiverDaysUptoRow.holds Try.pinned (OpenSpec.upto fnRiverDaysSpec)

end Rows
end Go.Proofs.Ytcjekndobhkmbaa
