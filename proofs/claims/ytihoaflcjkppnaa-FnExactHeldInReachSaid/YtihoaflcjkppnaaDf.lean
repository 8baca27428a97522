/- What the functions compute, on canonical words. No program is in sight. -/
import Derived.Test.YtihoaflcjkppnaaMb
set_option linter.unusedVariables false
namespace Go.Proofs.Ytihoaflcjkppnaa
open Go.RowKit

/-- A valid reach. -/
def vReach (d l : Nat) : Bool := isLen d && fge .f32 l 0 && fle .f32 l 1056964608
/-- What a reach holds. -/
def heldR (d l i o : Nat) : Nat × Bool := if (vReach d l && isFin .f32 i && isFin .f32 o) = true then num32 (fmul .f32 d (fadd .f32 (fmul .f32 l i) (fmul .f32 (fsub .f32 1065353216 l) o))) else (0, false)
end Go.Proofs.Ytihoaflcjkppnaa
