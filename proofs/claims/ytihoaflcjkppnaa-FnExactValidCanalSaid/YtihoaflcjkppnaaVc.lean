/- Canals that hold. -/
import Derived.Test.YtihoaflcjkppnaaCa
set_option linter.unusedVariables false
set_option linter.unusedSimpArgs false
namespace Go.Proofs.Ytihoaflcjkppnaa
open Go.RowKit

def vCanal (cx cy cz n m : Nat) (cs ds : List Nat) : Bool := isLen cx && (isLen cy && (isMass cz && (decide (1 ≤ n) && (decide (n ≤ 48) && (decide (m = n) && (cs.all (isFin .f32) && ds.all (isFin .f32)))))))
set_option maxRecDepth 100000 in
theorem within_c {w : World} {x l h : Int} : Calls Try.prog 75 #[.int .i64 x, .int .i64 l, .int .i64 h] w (RB w (decide (l ≤ x) && decide (x ≤ h))) := by
  by_cases h1 : l ≤ x
  all_goals by_cases h2 : x ≤ h
  all_goals
    go_enter Try.func75, Try.ntmps75
    go_wp2
    go_ret
    exact RB.mk0 (by simp [h1, h2])

end Go.Proofs.Ytihoaflcjkppnaa
