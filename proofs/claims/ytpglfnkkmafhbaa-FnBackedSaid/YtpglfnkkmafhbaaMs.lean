/- How far a rounded number is from the exact one: in rational numbers. -/
import Derived.Test.YtpglfnkkmafhbaaMr
set_option linter.unusedVariables false
set_option linter.unusedSimpArgs false
namespace Go.Proofs.Ytpglfnkkmafhbaa
open Go.RowKit
open Ieee
/-- The last place of all, as a number. -/
def iu (k : FloatKind) : Rat := ((2 : Rat) ^ uk k)⁻¹
theorem iu_pos (k : FloatKind) : 0 < iu k := by cases k <;> decide +kernel
theorem iu_mul (k : FloatKind) : (2 : Rat) ^ uk k * iu k = 1 := by cases k <;> decide +kernel
theorem iu_tiny (k : FloatKind) : iu k ≤ 1 / 10 ^ 44 := by cases k <;> decide +kernel
/-- What a finite word stands for. -/
def rv (k : FloatKind) (c : Nat) : Rat := (sgv k c : Rat) * iu k
def eps : FloatKind → Rat
  | .f32 => 1 / 8000000
  | .f64 => 1 / 4000000000000000
def Bq (k : FloatKind) : Rat := (k.format.binade : Rat)
theorem Bq_eq (k : FloatKind) : (k = .f32 ∧ Bq k = 8388608 ∧ eps k = 1 / 8000000) ∨ (k = .f64 ∧ Bq k = 4503599627370496 ∧ eps k = 1 / 4000000000000000) := by
  cases k
  · left; exact ⟨rfl, by decide +kernel, rfl⟩
  · right; exact ⟨rfl, by decide +kernel, rfl⟩
/-- The greatest rung that is spoken of. -/
def bigR : FloatKind → Nat
  | .f32 => 1904214016
  | .f64 => 5057542381537067008
theorem bigR_lt (k : FloatKind) : bigR k < k.format.infRung := by cases k <;> decide +kernel
theorem bigR_vl (k : FloatKind) : vl k (bigR k) = 2 ^ (uk k + 100) := by cases k <;> decide +kernel
theorem err_close {k : FloatKind} {x y z E : Rat} (hz : z = y ∨ z = -y) (h1 : Bq k * (x - y) ≤ z + Bq k * iu k) (h2 : Bq k * (y - x) ≤ z + Bq k * iu k) (l : -E ≤ x) (u : x ≤ E) :
    x - (E * eps k + 1 / 10 ^ 40) ≤ y ∧ y ≤ x + (E * eps k + 1 / 10 ^ 40) := by
  have t := iu_tiny k
  have p := iu_pos k
  generalize iu k = i at *
  rcases Bq_eq k with ⟨_, hb, he⟩ | ⟨_, hb, he⟩ <;> rw [hb] at h1 h2 <;> rw [he] <;> rcases hz with hz | hz <;> subst hz <;> refine ⟨by grind, by grind⟩
theorem abs_case (Y : Int) : ((Y.natAbs : Nat) : Rat) = (Y : Rat) ∨ ((Y.natAbs : Nat) : Rat) = -(Y : Rat) := by
  rcases Int.natAbs_eq Y with h | h
  · left
    have : ((Y.natAbs : Nat) : Int) = Y := h.symm
    exact_mod_cast this
  · right
    have h2 : ((Y.natAbs : Nat) : Int) = -Y := by omega
    exact_mod_cast h2
theorem up_int {k : FloatKind} {X : Int} {E : Rat} (l : -E ≤ (X : Rat) * iu k) (u : (X : Rat) * iu k ≤ E) (hE : E ≤ 2 ^ 100) : X.natAbs ≤ vl k (bigR k) := by
  rw [bigR_vl]
  have hi := iu_mul k
  have e : (X : Rat) * iu k * 2 ^ uk k = X := by grind
  have p : (0 : Rat) ≤ 2 ^ uk k := Rat.le_of_lt (Rat.pow_pos (by decide +kernel))
  have h1 := Rat.mul_le_mul_of_nonneg_right u p
  have h2 := Rat.mul_le_mul_of_nonneg_right l p
  have h3 := Rat.mul_le_mul_of_nonneg_right hE p
  rw [e] at h1 h2
  have hp : ((2 : Rat) ^ 100) * 2 ^ uk k = ((2 ^ (uk k + 100) : Nat) : Rat) := by
    rw [Nat.pow_add, Rat.natCast_mul, Rat.natCast_pow, Rat.natCast_pow, Rat.mul_comm]; rfl
  rw [hp] at h3
  have g1 : (X : Rat) ≤ ((2 ^ (uk k + 100) : Nat) : Rat) := by grind
  have g2 : -((2 ^ (uk k + 100) : Nat) : Rat) ≤ (X : Rat) := by grind
  generalize 2 ^ (uk k + 100) = N at g1 g2 ⊢
  have i1 : X ≤ (N : Int) := by exact_mod_cast g1
  have i2 : -(N : Int) ≤ X := by
    have h : ((-(N : Int) : Int) : Rat) ≤ (X : Rat) := by rw [Rat.intCast_neg, Rat.intCast_natCast]; exact g2
    exact Rat.intCast_le_intCast.1 h
  omega
/-- The common end: whole numbers become rational ones. -/
theorem to_rat {k : FloatKind} {X Y : Int} (h1 : (k.format.binade : Int) * (X - Y) ≤ Y.natAbs + k.format.binade) (h2 : (k.format.binade : Int) * (Y - X) ≤ Y.natAbs + k.format.binade) :
    Bq k * ((X : Rat) * iu k - (Y : Rat) * iu k) ≤ ((Y.natAbs : Nat) : Rat) * iu k + Bq k * iu k ∧ Bq k * ((Y : Rat) * iu k - (X : Rat) * iu k) ≤ ((Y.natAbs : Nat) : Rat) * iu k + Bq k * iu k := by
  have g1 : ((k.format.binade : Nat) : Rat) * ((X : Rat) - Y) ≤ ((Y.natAbs : Nat) : Rat) + ((k.format.binade : Nat) : Rat) := by exact_mod_cast h1
  have g2 : ((k.format.binade : Nat) : Rat) * ((Y : Rat) - X) ≤ ((Y.natAbs : Nat) : Rat) + ((k.format.binade : Nat) : Rat) := by exact_mod_cast h2
  have j1 := Rat.mul_le_mul_of_nonneg_right g1 (Rat.le_of_lt (iu_pos k))
  have j2 := Rat.mul_le_mul_of_nonneg_right g2 (Rat.le_of_lt (iu_pos k))
  unfold Bq
  refine ⟨by grind, by grind⟩
theorem sgn_rat {k : FloatKind} {Y : Int} : (0 ≤ Y → (0 : Rat) ≤ (Y : Rat) * iu k) ∧ (Y ≤ 0 → (Y : Rat) * iu k ≤ 0) := by
  have p := iu_pos k
  refine ⟨fun h => ?_, fun h => ?_⟩
  · have : (0 : Rat) ≤ (Y : Rat) := by exact_mod_cast h
    exact Rat.mul_nonneg this (Rat.le_of_lt p)
  · have : (Y : Rat) ≤ 0 := by exact_mod_cast h
    have := Rat.mul_le_mul_of_nonneg_right this (Rat.le_of_lt p)
    grind
theorem rat_sgn {k : FloatKind} {X : Int} : ((0 : Rat) ≤ (X : Rat) * iu k → 0 ≤ X) ∧ ((X : Rat) * iu k ≤ 0 → X ≤ 0) := by
  have p := iu_pos k
  refine ⟨fun h => ?_, fun h => ?_⟩
  · rcases Int.lt_or_le X 0 with g | g
    · exfalso
      have g' : (X : Rat) ≤ -1 := by
        have := Rat.intCast_le_intCast.2 (show X ≤ -1 by omega)
        simpa using this
      have := Rat.mul_le_mul_of_nonneg_right g' (Rat.le_of_lt p)
      grind
    · exact g
  · rcases Int.lt_or_le 0 X with g | g
    · exfalso
      have g' : (1 : Rat) ≤ (X : Rat) := by exact_mod_cast (show 1 ≤ X by omega)
      have := Rat.mul_le_mul_of_nonneg_right g' (Rat.le_of_lt p)
      grind
    · exact g
/-- What is said of an operation: it is finite, near, and has the right sign. -/
structure Near (k : FloatKind) (c : Nat) (x E : Rat) : Prop where
  fin : isFin k c = true
  lo : x - (E * eps k + 1 / 10 ^ 40) ≤ rv k c
  hi : rv k c ≤ x + (E * eps k + 1 / 10 ^ 40)
  pos : 0 ≤ x → 0 ≤ rv k c
  neg : x ≤ 0 → rv k c ≤ 0
theorem near_of {k : FloatKind} {c : Nat} {X : Int} {E : Rat} (hf : isFin k c = true) (h1 : (k.format.binade : Int) * (X - sgv k c) ≤ (sgv k c).natAbs + k.format.binade) (h2 : (k.format.binade : Int) * (sgv k c - X) ≤ (sgv k c).natAbs + k.format.binade)
    (h3 : 0 ≤ X → 0 ≤ sgv k c) (h4 : X ≤ 0 → sgv k c ≤ 0) (l : -E ≤ (X : Rat) * iu k) (u : (X : Rat) * iu k ≤ E) : Near k c ((X : Rat) * iu k) E := by
  obtain ⟨e1, e2⟩ := to_rat h1 h2
  have hc := err_close (k := k) (z := (((sgv k c).natAbs : Nat) : Rat) * iu k) (by rcases abs_case (sgv k c) with h | h <;> rw [h] <;> grind) e1 e2 l u
  exact ⟨hf, hc.1, hc.2, fun h => sgn_rat.1 (h3 (rat_sgn.1 h)), fun h => sgn_rat.2 (h4 (rat_sgn.2 h))⟩
theorem add_rv (k : FloatKind) {a b : Nat} (ha : isFin k a = true) (hb : isFin k b = true) (E : Rat) (l : -E ≤ rv k a + rv k b) (u : rv k a + rv k b ≤ E) (hE : E ≤ 2 ^ 100) : Near k (fadd k a b) (rv k a + rv k b) E := by
  have hx : rv k a + rv k b = ((sgv k a + sgv k b : Int) : Rat) * iu k := by
    unfold rv; rw [Rat.intCast_add, Rat.add_mul]
  rw [hx] at l u ⊢
  obtain ⟨h0, h1, h2, h3, h4⟩ := add_int k ha hb (bigR k) (bigR_lt k) (up_int l u hE)
  exact near_of h0 h1 h2 h3 h4 l u
theorem sub_rv (k : FloatKind) {a b : Nat} (ha : isFin k a = true) (hb : isFin k b = true) (E : Rat) (l : -E ≤ rv k a - rv k b) (u : rv k a - rv k b ≤ E) (hE : E ≤ 2 ^ 100) : Near k (fsub k a b) (rv k a - rv k b) E := by
  have hx : rv k a - rv k b = ((sgv k a - sgv k b : Int) : Rat) * iu k := by
    unfold rv; rw [Rat.intCast_sub]; grind
  rw [hx] at l u ⊢
  obtain ⟨h0, h1, h2, h3, h4⟩ := sub_int k ha hb (bigR k) (bigR_lt k) (up_int l u hE)
  exact near_of h0 h1 h2 h3 h4 l u
theorem pow_rat (n : Nat) : (((2 : Int) ^ n : Int) : Rat) = (2 : Rat) ^ n := by
  induction n with
  | zero => rfl
  | succ n ih => rw [Int.pow_succ, Rat.intCast_mul, ih, Rat.pow_succ]; rfl
theorem scale2 {B X Y Z U i : Rat} (hU : U * i = 1) (hi : 0 ≤ i) (h : B * (X - Y * U) ≤ (Z + B) * U) : B * (X * i * i - Y * i) ≤ Z * i + B * i := by
  have j := Rat.mul_le_mul_of_nonneg_right (Rat.mul_le_mul_of_nonneg_right h hi) hi
  have e1 : B * (X - Y * U) * i * i = B * (X * i * i - Y * i * (U * i)) := by grind
  have e2 : (Z + B) * U * i * i = (Z + B) * i * (U * i) := by grind
  rw [e1, e2, hU] at j
  grind
theorem scale3 {B X Y Z U i : Rat} (hU : U * i = 1) (hi : 0 ≤ i) (h : B * (Y * U - X) ≤ (Z + B) * U) : B * (Y * i - X * i * i) ≤ Z * i + B * i := by
  have j := Rat.mul_le_mul_of_nonneg_right (Rat.mul_le_mul_of_nonneg_right h hi) hi
  have e1 : B * (Y * U - X) * i * i = B * (Y * i * (U * i) - X * i * i) := by grind
  have e2 : (Z + B) * U * i * i = (Z + B) * i * (U * i) := by grind
  rw [e1, e2, hU] at j
  grind
theorem rat_sgn2 {k : FloatKind} {X : Int} : ((0 : Rat) ≤ (X : Rat) * iu k * iu k → 0 ≤ X) ∧ ((X : Rat) * iu k * iu k ≤ 0 → X ≤ 0) := by
  have p := iu_pos k
  have hi := iu_mul k
  have q : (0 : Rat) ≤ 2 ^ uk k := Rat.le_of_lt (Rat.pow_pos (by decide +kernel))
  refine ⟨fun h => (rat_sgn (k := k)).1 ?_, fun h => (rat_sgn (k := k)).2 ?_⟩
  · have j := Rat.mul_le_mul_of_nonneg_right h q
    have e : (X : Rat) * iu k * iu k * 2 ^ uk k = X * iu k * (2 ^ uk k * iu k) := by grind
    rw [e, hi] at j; grind
  · have j := Rat.mul_le_mul_of_nonneg_right h q
    have e : (X : Rat) * iu k * iu k * 2 ^ uk k = X * iu k * (2 ^ uk k * iu k) := by grind
    rw [e, hi] at j; grind
theorem mul_rv (k : FloatKind) {a b : Nat} (ha : isFin k a = true) (hb : isFin k b = true) (E : Rat) (l : -E ≤ rv k a * rv k b) (u : rv k a * rv k b ≤ E) (hE : E ≤ 2 ^ 100) : Near k (fmul k a b) (rv k a * rv k b) E := by
  have hx : rv k a * rv k b = ((sgv k a * sgv k b : Int) : Rat) * iu k * iu k := by
    unfold rv; rw [Rat.intCast_mul]; grind
  have hi := iu_mul k
  have q : (0 : Rat) ≤ 2 ^ uk k := Rat.le_of_lt (Rat.pow_pos (by decide +kernel))
  rw [hx] at l u ⊢
  have hX : (sgv k a * sgv k b).natAbs ≤ vl k (bigR k) * 2 ^ uk k := by
    generalize sgv k a * sgv k b = X at l u
    rw [bigR_vl]
    have e : (X : Rat) * iu k * iu k * 2 ^ uk k * 2 ^ uk k = X * (2 ^ uk k * iu k) * (2 ^ uk k * iu k) := by grind
    have h1 := Rat.mul_le_mul_of_nonneg_right (Rat.mul_le_mul_of_nonneg_right u q) q
    have h2 := Rat.mul_le_mul_of_nonneg_right (Rat.mul_le_mul_of_nonneg_right l q) q
    have h3 := Rat.mul_le_mul_of_nonneg_right (Rat.mul_le_mul_of_nonneg_right hE q) q
    rw [e, hi] at h1 h2
    have hp : ((2 : Rat) ^ 100) * 2 ^ uk k * 2 ^ uk k = ((2 ^ (uk k + 100) * 2 ^ uk k : Nat) : Rat) := by
      rw [Nat.pow_add, Rat.natCast_mul, Rat.natCast_mul, Rat.natCast_pow, Rat.natCast_pow]
      have : (((2 : Nat) : Rat)) = 2 := rfl
      rw [this]; grind
    rw [hp] at h3
    have g1 : (X : Rat) ≤ ((2 ^ (uk k + 100) * 2 ^ uk k : Nat) : Rat) := by grind
    have g2 : -((2 ^ (uk k + 100) * 2 ^ uk k : Nat) : Rat) ≤ (X : Rat) := by grind
    generalize 2 ^ (uk k + 100) * 2 ^ uk k = N at g1 g2 ⊢
    have i1 : X ≤ (N : Int) := by exact_mod_cast g1
    have i2 : -(N : Int) ≤ X := by
      have h : ((-(N : Int) : Int) : Rat) ≤ (X : Rat) := by rw [Rat.intCast_neg, Rat.intCast_natCast]; exact g2
      exact Rat.intCast_le_intCast.1 h
    omega
  obtain ⟨h0, h1, h2, h3, h4⟩ := mul_int k ha hb (bigR k) (bigR_lt k) hX
  generalize sgv k a * sgv k b = X at *
  generalize hc : sgv k (fmul k a b) = Y at *
  have g1 : ((k.format.binade : Nat) : Rat) * ((X : Rat) - Y * 2 ^ uk k) ≤ (((Y.natAbs : Nat) : Rat) + ((k.format.binade : Nat) : Rat)) * 2 ^ uk k := by
    have := Rat.intCast_le_intCast.2 h1
    simp only [Rat.intCast_mul, Rat.intCast_sub, Rat.intCast_add, pow_rat, Rat.intCast_natCast] at this
    exact this
  have g2 : ((k.format.binade : Nat) : Rat) * ((Y : Rat) * 2 ^ uk k - X) ≤ (((Y.natAbs : Nat) : Rat) + ((k.format.binade : Nat) : Rat)) * 2 ^ uk k := by
    have := Rat.intCast_le_intCast.2 h2
    simp only [Rat.intCast_mul, Rat.intCast_sub, Rat.intCast_add, pow_rat, Rat.intCast_natCast] at this
    exact this
  have p := Rat.le_of_lt (iu_pos k)
  have hcl := err_close (k := k) (x := (X : Rat) * iu k * iu k) (y := (Y : Rat) * iu k) (z := ((Y.natAbs : Nat) : Rat) * iu k) (E := E) (by rcases abs_case Y with h | h <;> rw [h] <;> grind) (scale2 hi p g1) (scale3 hi p g2) l u
  have hr : rv k (fmul k a b) = (Y : Rat) * iu k := by unfold rv; rw [hc]
  refine ⟨h0, by rw [hr]; exact hcl.1, by rw [hr]; exact hcl.2, fun h => ?_, fun h => ?_⟩
  · rw [hr]; exact sgn_rat.1 (h3 (rat_sgn2.1 h))
  · rw [hr]; exact sgn_rat.2 (h4 (rat_sgn2.2 h))
/-- Quotients by what is greater than zero. -/
theorem div_rv (k : FloatKind) {a b : Nat} (ha : isFin k a = true) (hb : isFin k b = true) (hb0 : 0 < rv k b) (x E : Rat) (hx : x * rv k b = rv k a) (l : -E ≤ x) (u : x ≤ E) (hE : E ≤ 2 ^ 100) : Near k (fdiv k a b) x E := by
  have hi := iu_mul k
  have p := iu_pos k
  have p0 := Rat.le_of_lt p
  have q : (0 : Rat) ≤ 2 ^ uk k := Rat.le_of_lt (Rat.pow_pos (by decide +kernel))
  have b0 : 0 < sgv k b := by
    rcases Int.lt_or_le 0 (sgv k b) with h | h
    · exact h
    · have := (sgn_rat (k := k)).2 h
      unfold rv at hb0; grind
  unfold rv at hx
  have hX : (sgv k a).natAbs * 2 ^ uk k ≤ vl k (bigR k) * (sgv k b).natAbs := by
    rw [bigR_vl]
    have bn : ((sgv k b).natAbs : Int) = sgv k b := by omega
    have e0 : (sgv k a : Rat) = x * (sgv k b : Rat) := by
      have : x * ((sgv k b : Rat) * iu k) * 2 ^ uk k = (sgv k a : Rat) * iu k * 2 ^ uk k := by rw [hx]
      have e1 : x * ((sgv k b : Rat) * iu k) * 2 ^ uk k = x * sgv k b * (2 ^ uk k * iu k) := by grind
      have e2 : (sgv k a : Rat) * iu k * 2 ^ uk k = sgv k a * (2 ^ uk k * iu k) := by grind
      rw [e1, e2, hi] at this; grind
    have bq : (0 : Rat) ≤ (sgv k b : Rat) := by exact_mod_cast (Int.le_of_lt b0)
    have h1 := Rat.mul_le_mul_of_nonneg_right u bq
    have h2 := Rat.mul_le_mul_of_nonneg_right l bq
    have h3 := Rat.mul_le_mul_of_nonneg_right hE bq
    have g1 : (sgv k a : Rat) ≤ ((2 ^ 100 * sgv k b : Int) : Rat) := by rw [Rat.intCast_mul, pow_rat]; grind
    have g2 : ((-(2 ^ 100 * sgv k b) : Int) : Rat) ≤ (sgv k a : Rat) := by rw [Rat.intCast_neg, Rat.intCast_mul, pow_rat]; grind
    have i1 := Rat.intCast_le_intCast.1 g1
    have i2 := Rat.intCast_le_intCast.1 g2
    have i3 : (sgv k a).natAbs ≤ 2 ^ 100 * (sgv k b).natAbs := by omega
    have i4 := Nat.mul_le_mul_right (2 ^ uk k) i3
    rw [Nat.pow_add]
    calc (sgv k a).natAbs * 2 ^ uk k ≤ 2 ^ 100 * (sgv k b).natAbs * 2 ^ uk k := i4
      _ = 2 ^ uk k * 2 ^ 100 * (sgv k b).natAbs := by ac_rfl
  obtain ⟨h0, h1, h2, h3, h4⟩ := div_int k ha hb b0 (bigR k) (bigR_lt k) hX
  generalize hA : sgv k a = A at *
  generalize hD : sgv k b = D at *
  generalize hc : sgv k (fdiv k a b) = Y at *
  have g1 : ((k.format.binade : Nat) : Rat) * ((A : Rat) * 2 ^ uk k - Y * D) ≤ (((Y.natAbs : Nat) : Rat) + ((k.format.binade : Nat) : Rat)) * D := by
    have := Rat.intCast_le_intCast.2 h1
    simp only [Rat.intCast_mul, Rat.intCast_sub, Rat.intCast_add, pow_rat, Rat.intCast_natCast] at this
    exact this
  have g2 : ((k.format.binade : Nat) : Rat) * ((Y : Rat) * D - A * 2 ^ uk k) ≤ (((Y.natAbs : Nat) : Rat) + ((k.format.binade : Nat) : Rat)) * D := by
    have := Rat.intCast_le_intCast.2 h2
    simp only [Rat.intCast_mul, Rat.intCast_sub, Rat.intCast_add, pow_rat, Rat.intCast_natCast] at this
    exact this
  -- divided by what is greater than zero
  have dq : (0 : Rat) < (D : Rat) * iu k := by
    have : (1 : Rat) ≤ (D : Rat) := by exact_mod_cast (show (1 : Int) ≤ D by omega)
    have := Rat.mul_le_mul_of_nonneg_right this p0
    grind
  have j1 := Rat.mul_le_mul_of_nonneg_right (Rat.mul_le_mul_of_nonneg_right g1 p0) p0
  have j2 := Rat.mul_le_mul_of_nonneg_right (Rat.mul_le_mul_of_nonneg_right g2 p0) p0
  have k1 : (((k.format.binade : Nat) : Rat) * (x - Y * iu k)) * ((D : Rat) * iu k) ≤ (((Y.natAbs : Nat) : Rat) * iu k + ((k.format.binade : Nat) : Rat) * iu k) * ((D : Rat) * iu k) := by
    have e : ((k.format.binade : Nat) : Rat) * ((A : Rat) * 2 ^ uk k - Y * D) * iu k * iu k = ((k.format.binade : Nat) : Rat) * (A * iu k * (2 ^ uk k * iu k) - Y * iu k * (D * iu k)) := by grind
    rw [e, hi] at j1
    have : ((k.format.binade : Nat) : Rat) * (A * iu k * 1 - Y * iu k * (D * iu k)) = (((k.format.binade : Nat) : Rat) * (x - Y * iu k)) * ((D : Rat) * iu k) := by rw [← hx]; grind
    rw [this] at j1
    refine Rat.le_trans j1 ?_
    have : (((Y.natAbs : Nat) : Rat) + ((k.format.binade : Nat) : Rat)) * D * iu k * iu k = (((Y.natAbs : Nat) : Rat) * iu k + ((k.format.binade : Nat) : Rat) * iu k) * ((D : Rat) * iu k) := by grind
    rw [this]; exact Rat.le_refl
  have k2 : (((k.format.binade : Nat) : Rat) * (Y * iu k - x)) * ((D : Rat) * iu k) ≤ (((Y.natAbs : Nat) : Rat) * iu k + ((k.format.binade : Nat) : Rat) * iu k) * ((D : Rat) * iu k) := by
    have e : ((k.format.binade : Nat) : Rat) * ((Y : Rat) * D - A * 2 ^ uk k) * iu k * iu k = ((k.format.binade : Nat) : Rat) * (Y * iu k * (D * iu k) - A * iu k * (2 ^ uk k * iu k)) := by grind
    rw [e, hi] at j2
    have : ((k.format.binade : Nat) : Rat) * (Y * iu k * (D * iu k) - A * iu k * 1) = (((k.format.binade : Nat) : Rat) * (Y * iu k - x)) * ((D : Rat) * iu k) := by rw [← hx]; grind
    rw [this] at j2
    refine Rat.le_trans j2 ?_
    have : (((Y.natAbs : Nat) : Rat) + ((k.format.binade : Nat) : Rat)) * D * iu k * iu k = (((Y.natAbs : Nat) : Rat) * iu k + ((k.format.binade : Nat) : Rat) * iu k) * ((D : Rat) * iu k) := by grind
    rw [this]; exact Rat.le_refl
  have m1 := Rat.le_of_mul_le_mul_right k1 dq
  have m2 := Rat.le_of_mul_le_mul_right k2 dq
  have hcl := err_close (k := k) (x := x) (y := (Y : Rat) * iu k) (z := ((Y.natAbs : Nat) : Rat) * iu k) (E := E) (by rcases abs_case Y with h | h <;> rw [h] <;> grind) m1 m2 l u
  have hr : rv k (fdiv k a b) = (Y : Rat) * iu k := by unfold rv; rw [hc]
  refine ⟨h0, by rw [hr]; exact hcl.1, by rw [hr]; exact hcl.2, fun h => ?_, fun h => ?_⟩
  · rw [hr]
    refine sgn_rat.1 (h3 ((rat_sgn (k := k)).1 ?_))
    rw [← hx]; exact Rat.mul_nonneg h (Rat.le_of_lt dq)
  · rw [hr]
    refine sgn_rat.2 (h4 ((rat_sgn (k := k)).2 ?_))
    rw [← hx]
    have := Rat.mul_le_mul_of_nonneg_right h (Rat.le_of_lt dq)
    grind
end Go.Proofs.Ytpglfnkkmafhbaa
