/- Reaches: a list of numbers down one reach, and how far the answers are from the straight ones. -/
import Derived.Test.YtpglfnkkmafhbaaHt
set_option linter.unusedVariables false
set_option linter.unusedSimpArgs false
set_option linter.constructorNameAsVariable false
namespace Go.Proofs.Ytpglfnkkmafhbaa
open Go.RowKit
set_option maxRecDepth 100000
theorem eps32 : eps .f32 = 1 / 8000000 := rfl
/-- Products of bounded numbers. -/
theorem mulB {x y m n : Rat} (h : -m ≤ x ∧ x ≤ m) (g : -n ≤ y ∧ y ≤ n) : -(m * n) ≤ x * y ∧ x * y ≤ m * n := by
  have h1 := Rat.mul_nonneg (show (0 : Rat) ≤ m - x by grind) (show (0 : Rat) ≤ n + y by grind)
  have h2 := Rat.mul_nonneg (show (0 : Rat) ≤ m + x by grind) (show (0 : Rat) ≤ n - y by grind)
  have h3 := Rat.mul_nonneg (show (0 : Rat) ≤ m - x by grind) (show (0 : Rat) ≤ n - y by grind)
  have h4 := Rat.mul_nonneg (show (0 : Rat) ≤ m + x by grind) (show (0 : Rat) ≤ n + y by grind)
  exact ⟨by grind, by grind⟩
/-- What is asked of three shares, with the caps named. -/
structure Fa (A B C α β P h : Rat) : Prop where
  a : -α ≤ A ∧ A ≤ α
  b : -β ≤ B ∧ B ≤ β
  c : -P ≤ C ∧ C ≤ P
  a0 : 0 ≤ α
  b0 : 0 ≤ β
  p0 : 0 ≤ P
  h0 : 0 ≤ h
  p : P ≤ 93 / 100
  e : -(h * (1 - P)) ≤ B + A * C ∧ B + A * C ≤ h * (1 - P)
  o : -h ≤ 1 - A ∧ 1 - A ≤ h
  g : α + h ≤ 27 / 10
  k : 2 * α + 2 * β + (1 + P) * (271 / 100) ≤ 68 * (1 - P)
  s : -(1 / 200 * (1 - P)) ≤ 3 * (A + B + C - 1) ∧ 3 * (A + B + C - 1) ≤ 1 / 200 * (1 - P)
theorem qab_nn (x : Rat) : 0 ≤ qab x := by unfold qab; split <;> grind
theorem fa_of {A B C : Rat} (h : rowB A B C = true) : ∃ α β P h, Fa A B C α β P h := by
  simp only [rowB, factB, Bool.and_eq_true, decide_eq_true_eq] at h
  obtain ⟨⟨⟨⟨⟨h1, h2⟩, h3⟩, h4⟩, h5⟩, h6⟩ := h
  have q1 := qab_le (Rat.le_refl (a := qab A))
  have q2 := qab_le (Rat.le_refl (a := qab B))
  have q3 := qab_le (Rat.le_refl (a := qab C))
  have q4 := qab_le h2
  have q5 := qab_le h3
  have q6 := qab_le (Rat.le_refl (a := qab (A + B + C - 1)))
  have n3 := qab_nn (1 - A)
  exact ⟨qab A, qab B, qab C, hOf A B C, ⟨q1, q2, q3, qab_nn _, qab_nn _, qab_nn _, by grind, h1, q4, q5, h4, h5, ⟨by grind, by grind⟩⟩⟩
/-- One step of a reach. -/
theorem out_step {a b c u1 u0 v : Nat} {α β P h M : Rat} (fa : isFin .f32 a = true) (fb : isFin .f32 b = true) (fc : isFin .f32 c = true) (F : Fa (rv .f32 a) (rv .f32 b) (rv .f32 c) α β P h)
    (f1 : isFin .f32 u1 = true) (f0 : isFin .f32 u0 = true) (fv : isFin .f32 v = true) (m1 : 1 ≤ M) (m2 : M ≤ 1000)
    (g1 : -M ≤ rv .f32 u1 ∧ rv .f32 u1 ≤ M) (g0 : -M ≤ rv .f32 u0 ∧ rv .f32 u0 ≤ M)
    (gv : -(h * M + 69 / 8000000 * M) ≤ rv .f32 v - rv .f32 a * rv .f32 u0 ∧ rv .f32 v - rv .f32 a * rv .f32 u0 ≤ h * M + 69 / 8000000 * M) :
    isFin .f32 (fadd .f32 (fadd .f32 (fmul .f32 a u1) (fmul .f32 b u0)) (fmul .f32 c v)) = true ∧
    (-(69 / 8000000 * M * (1 - P)) ≤ rv .f32 (fadd .f32 (fadd .f32 (fmul .f32 a u1) (fmul .f32 b u0)) (fmul .f32 c v)) - (rv .f32 a * rv .f32 u1 + rv .f32 b * rv .f32 u0 + rv .f32 c * rv .f32 v) ∧
      rv .f32 (fadd .f32 (fadd .f32 (fmul .f32 a u1) (fmul .f32 b u0)) (fmul .f32 c v)) - (rv .f32 a * rv .f32 u1 + rv .f32 b * rv .f32 u0 + rv .f32 c * rv .f32 v) ≤ 69 / 8000000 * M * (1 - P)) ∧
    (-(h * M + 69 / 8000000 * M) ≤ rv .f32 (fadd .f32 (fadd .f32 (fmul .f32 a u1) (fmul .f32 b u0)) (fmul .f32 c v)) - rv .f32 a * rv .f32 u1 ∧
      rv .f32 (fadd .f32 (fadd .f32 (fmul .f32 a u1) (fmul .f32 b u0)) (fmul .f32 c v)) - rv .f32 a * rv .f32 u1 ≤ h * M + 69 / 8000000 * M) := by
  have b1 := mulB F.a g1
  have b0 := mulB F.a g0
  have b2 := mulB F.b g0
  have b5 := mulB F.e g0
  have b6 := mulB F.c gv
  -- caps times M
  have n1 := Rat.mul_le_mul_of_nonneg_right F.g (show (0 : Rat) ≤ M by grind)
  have n2 := Rat.mul_le_mul_of_nonneg_right F.k (show (0 : Rat) ≤ M by grind)
  have n3 := Rat.mul_le_mul_of_nonneg_right F.p (show (0 : Rat) ≤ M by grind)
  have z1 := Rat.mul_nonneg F.a0 (show (0 : Rat) ≤ M by grind)
  have z2 := Rat.mul_nonneg F.b0 (show (0 : Rat) ≤ M by grind)
  have z3 := Rat.mul_nonneg F.p0 (show (0 : Rat) ≤ M by grind)
  have z4 := Rat.mul_nonneg F.h0 (show (0 : Rat) ≤ M by grind)
  have b3 : -(P * (271 / 100 * M)) ≤ rv .f32 c * rv .f32 v ∧ rv .f32 c * rv .f32 v ≤ P * (271 / 100 * M) := mulB F.c ⟨by grind, by grind⟩
  have hM : M ≤ 1000 := m2
  have big : (10000000 : Rat) ≤ 2 ^ 100 := by decide +kernel
  have q1 := mul_rv .f32 fa f1 (α * M) b1.1 b1.2 (by grind)
  have q2 := mul_rv .f32 fb f0 (β * M) b2.1 b2.2 (by grind)
  have q3 := mul_rv .f32 fc fv (P * (271 / 100 * M)) b3.1 b3.2 (by grind)
  generalize fmul .f32 a u1 = w1 at *
  generalize fmul .f32 b u0 = w2 at *
  generalize fmul .f32 c v = w3 at *
  obtain ⟨k1, l1, r1, -, -⟩ := q1
  obtain ⟨k2, l2, r2, -, -⟩ := q2
  obtain ⟨k3, l3, r3, -, -⟩ := q3
  rw [eps32] at l1 r1 l2 r2 l3 r3
  have q4 := add_rv .f32 k1 k2 (α * M + β * M + 1 / 1000 * M) (by grind) (by grind) (by grind)
  generalize fadd .f32 w1 w2 = w4 at *
  obtain ⟨k4, l4, r4, -, -⟩ := q4
  rw [eps32] at l4 r4
  have q5 := add_rv .f32 k4 k3 (271 / 100 * M) (by grind) (by grind) (by grind)
  generalize fadd .f32 w4 w3 = w5 at *
  obtain ⟨k5, l5, r5, -, -⟩ := q5
  rw [eps32] at l5 r5
  generalize rv .f32 a = A at *
  generalize rv .f32 b = B at *
  generalize rv .f32 c = C at *
  generalize rv .f32 u0 = U at *
  generalize rv .f32 u1 = U1 at *
  generalize rv .f32 v = V at *
  have d : -(69 / 8000000 * M * (1 - P)) ≤ rv .f32 w5 - (A * U1 + B * U + C * V) ∧ rv .f32 w5 - (A * U1 + B * U + C * V) ≤ 69 / 8000000 * M * (1 - P) := ⟨by grind, by grind⟩
  exact ⟨k5, d, by grind, by grind⟩
end Go.Proofs.Ytpglfnkkmafhbaa
