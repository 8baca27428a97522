/- Lakes of halves: the stores that the law looks at. -/
import Derived.Test.YtpglfnkkmafhbaaBn
set_option linter.unusedVariables false
set_option linter.unusedSectionVars false
set_option linter.unusedSimpArgs false
set_option linter.constructorNameAsVariable false
namespace Go.Proofs.Ytpglfnkkmafhbaa
open Go.RowKit
set_option maxRecDepth 100000
theorem near9 : ∀ v : Fin 9, isFin .f32 (FloatKind.nearest .f32 (v.val : Int)) = true ∧ rv .f32 (FloatKind.nearest .f32 (v.val : Int)) = (v.val : Rat) := by decide +kernel
theorem c_eight : isFin .f32 1090519040 = true ∧ rv .f32 1090519040 = 8 := by decide +kernel
section
variable {xs ys : List Nat} {P Q : Nat → Nat} (h : LakeH xs ys P Q) (h2 : 2 ≤ xs.length) (h5 : xs.length ≤ 5)
include h h2 h5
theorem store_ok (v : Fin 9) : isFin .f32 (fadd .f32 (xs.getD 0 0) (fdiv .f32 (fmul .f32 (fsub .f32 (xs.getD (xs.length - 1) 0) (xs.getD 0 0)) (FloatKind.nearest .f32 (v.val : Int))) 1090519040)) = true ∧
    xR xs 0 ≤ rv .f32 (fadd .f32 (xs.getD 0 0) (fdiv .f32 (fmul .f32 (fsub .f32 (xs.getD (xs.length - 1) 0) (xs.getD 0 0)) (FloatKind.nearest .f32 (v.val : Int))) 1090519040)) ∧
    rv .f32 (fadd .f32 (xs.getD 0 0) (fdiv .f32 (fmul .f32 (fsub .f32 (xs.getD (xs.length - 1) 0) (xs.getD 0 0)) (FloatKind.nearest .f32 (v.val : Int))) 1090519040)) ≤ xR xs (xs.length - 1) := by
  obtain ⟨f0, r0⟩ := h.hx 0 (by omega)
  obtain ⟨f9, r9⟩ := h.hx (xs.length - 1) (by omega)
  have pm9 := h.pm (xs.length - 1) (by omega)
  have mp := mono_P h.px (xs.length - 1) 0 (by omega)
  rw [Nat.zero_add] at mp
  obtain ⟨d1, d2⟩ := half_sub f9 f0 r9 r0 (by omega) (by omega)
  obtain ⟨n1, n2⟩ := near9 v
  obtain ⟨e1, e2⟩ := c_eight
  have hv : (v.val : Rat) ≤ 8 := by
    have g : ((v.val : Nat) : Rat) ≤ ((8 : Nat) : Rat) := by exact_mod_cast (show v.val ≤ 8 by omega)
    exact g
  have hv0 : (0 : Rat) ≤ (v.val : Rat) := by exact_mod_cast Nat.zero_le _
  have hn0 : (0 : Rat) ≤ ((P (xs.length - 1) - P 0 : Nat) : Rat) := by exact_mod_cast Nat.zero_le _
  have hp : (P (xs.length - 1) : Rat) = ((P (xs.length - 1) - P 0 : Nat) : Rat) + (P 0 : Rat) := by rw [← Rat.natCast_add, Nat.sub_add_cancel (by omega)]
  have hp0 : (0 : Rat) ≤ (P 0 : Rat) := by exact_mod_cast Nat.zero_le _
  obtain ⟨k1, k2⟩ := hw_ok (show 8 * (P (xs.length - 1) - P 0) ≤ 300 by omega)
  obtain ⟨l1, l2⟩ := hw_ok (show P (xs.length - 1) - P 0 ≤ 300 by omega)
  obtain ⟨m1, m2⟩ := hw_ok (show P (xs.length - 1) ≤ 300 by omega)
  obtain ⟨o1, o2⟩ := hw_ok (show P 0 ≤ 300 by omega)
  have e8 : ((8 * (P (xs.length - 1) - P 0) : Nat) : Rat) = 8 * ((P (xs.length - 1) - P 0 : Nat) : Rat) := Rat.natCast_mul _ _
  unfold xR
  rw [r0, r9, hp]
  rw [hp] at m2
  rw [e8] at k2
  generalize ((P (xs.length - 1) - P 0 : Nat) : Rat) = n at *
  have nv : n / 2 * (v.val : Rat) ≤ n / 2 * 8 := Rat.mul_le_mul_of_nonneg_left hv (by grind)
  have nv0 : 0 ≤ n / 2 * (v.val : Rat) := Rat.mul_nonneg (by grind) hv0
  obtain ⟨a1, a2, a3⟩ := mul_cap .f32 d1 n1 k1 (by rw [d2]; grind) (by rw [n2]; exact hv0) (by rw [d2, n2, k2]; grind)
  rw [k2] at a3
  obtain ⟨b1, b2, b3⟩ := div_cap .f32 a1 e1 l1 a2 (by rw [e2]; decide +kernel) (by rw [l2, e2]; grind)
  rw [l2] at b3
  obtain ⟨c1, c2, c3⟩ := add_cap .f32 f0 b1 m1 (by rw [r0]; grind) (by rw [r0, m2]; grind)
  have c4 := add_floor .f32 f0 b1 o1 c1 c2 (by rw [r0, o2]; grind)
  rw [m2] at c3
  rw [o2] at c4
  exact ⟨c1, c4, c3⟩
end
end Go.Proofs.Ytpglfnkkmafhbaa
