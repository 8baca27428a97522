/- Reaches: what the shares of the drawn reaches are like. -/
import Derived.Test.YtpglfnkkmafhbaaMu
import Derived.Test.YtpglfnkkmafhbaaPa
import Derived.Test.YtpglfnkkmafhbaaHd1d
set_option linter.unusedVariables false
set_option linter.unusedSimpArgs false
set_option linter.constructorNameAsVariable false
namespace Go.Proofs.Ytpglfnkkmafhbaa
open Go.RowKit
set_option maxRecDepth 100000
def qab (x : Rat) : Rat := if 0 ≤ x then x else -x
theorem qab_le {x m : Rat} (h : qab x ≤ m) : -m ≤ x ∧ x ≤ m := by
  unfold qab at h; split at h <;> grind
/-- What is asked of three shares. -/
def factB (A B C h : Rat) : Bool :=
  decide (qab C ≤ 93 / 100) && decide (qab (B + A * C) ≤ h * (1 - qab C)) && decide (qab (1 - A) ≤ h) && decide (qab A + h ≤ 27 / 10) && decide (2 * qab A + 2 * qab B + (1 + qab C) * (271 / 100) ≤ 68 * (1 - qab C)) && decide (3 * qab (A + B + C - 1) ≤ 1 / 200 * (1 - qab C))
def hOf (A B C : Rat) : Rat := if qab (1 - A) ≤ qab (B + A * C) / (1 - qab C) then qab (B + A * C) / (1 - qab C) else qab (1 - A)
def rowB (A B C : Rat) : Bool := factB A B C (hOf A B C)
noncomputable def shareB (a b c : Nat) : Bool :=
  isFin .f32 a && isFin .f32 b && isFin .f32 c && rowB (rv .f32 a) (rv .f32 b) (rv .f32 c) && !(fgt .f64 (wb10Gap (fadd .f64 (fadd .f64 (fup a) (fup b)) (fup c)) 4607182418800017408) 4562254508917369340)
def shA (d l t : Nat) : Nat := fdiv .f32 (fsub .f32 t (fmul .f32 (fmul .f32 1073741824 d) l)) (fadd .f32 (fmul .f32 (fmul .f32 1073741824 d) (fsub .f32 1065353216 l)) t)
def shB (d l t : Nat) : Nat := fdiv .f32 (fadd .f32 t (fmul .f32 (fmul .f32 1073741824 d) l)) (fadd .f32 (fmul .f32 (fmul .f32 1073741824 d) (fsub .f32 1065353216 l)) t)
def shC (d l t : Nat) : Nat := fdiv .f32 (fsub .f32 (fmul .f32 (fmul .f32 1073741824 d) (fsub .f32 1065353216 l)) t) (fadd .f32 (fmul .f32 (fmul .f32 1073741824 d) (fsub .f32 1065353216 l)) t)
def rdW (i : Int) : Nat := fdiv .f32 (FloatKind.nearest .f32 (1 + i)) 1082130432
def rlW (i : Int) : Nat := fdiv .f32 (FloatKind.nearest .f32 i) 1090519040
theorem tab_share : ∀ i : Fin 12, ∀ j : Fin 5, ∀ t : Fin 8, shareB (shA (rdW i.val) (rlW j.val) (rdW t.val)) (shB (rdW i.val) (rlW j.val) (rdW t.val)) (shC (rdW i.val) (rlW j.val) (rdW t.val)) = true := by decide +kernel
theorem tab_heldr : ∀ i : Fin 12, ∀ j : Fin 5, (iValidReach (rdW i.val) (rlW j.val) && isFin .f32 (fmul .f32 (rdW i.val) (fadd .f32 (fmul .f32 (rlW j.val) 1073741824) (fmul .f32 (fsub .f32 1065353216 (rlW j.val)) 1073741824))) && !(fgt .f64 (wb10Gap (fup (fmul .f32 (rdW i.val) (fadd .f32 (fmul .f32 (rlW j.val) 1073741824) (fmul .f32 (fsub .f32 1065353216 (rlW j.val)) 1073741824)))) (fmul .f64 4611686018427387904 (fup (rdW i.val)))) 4562254508917369340)) = true := by decide +kernel
theorem tab_tick : ∀ t : Fin 8, isLen (rdW t.val) = true := by decide +kernel
end Go.Proofs.Ytpglfnkkmafhbaa
