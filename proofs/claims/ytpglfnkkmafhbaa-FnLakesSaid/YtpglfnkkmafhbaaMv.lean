/- Floats as rational numbers: a word that bounds the exact result bounds the rounded one. -/
import Derived.Test.YtpglfnkkmafhbaaMu
set_option linter.unusedVariables false
set_option linter.unusedSimpArgs false
namespace Go.Proofs.Ytpglfnkkmafhbaa
open Go.RowKit
open Ieee
set_option maxRecDepth 100000
/-- A word that is not below zero, and is no -0. -/
theorem posw (k : FloatKind) {r : Nat} (hr : r < k.format.infRung) : isFin k r = true ∧ rv k r = (vl k r : Rat) * iu k ∧ 0 ≤ rv k r := by
  have hm := pos_sgn k hr
  obtain ⟨m, e, h1, h2, h3⟩ := pos_read k hr
  have hs : sgn k r = false := (read_sgn' h1).symm
  have e : rv k r = (vl k r : Rat) * iu k := by
    unfold rv sgv
    rw [hs, hm]
    simp only [sv, Bool.false_eq_true, if_false]
    rw [Rat.intCast_natCast]
  refine ⟨(fin_iff k r).2 (by rw [hm]; exact hr), e, ?_⟩
  rw [e]
  exact Rat.mul_nonneg (by exact_mod_cast Nat.zero_le _) (Rat.le_of_lt (iu_pos k))
theorem nat_of_rat {k : FloatKind} {a b : Nat} (h : (a : Rat) * iu k ≤ (b : Rat) * iu k) : a ≤ b := by
  have := Rat.le_of_mul_le_mul_right h (iu_pos k)
  exact_mod_cast this
/-- What is finite and not below zero is its magnitude. -/
theorem mag_rv (k : FloatKind) {c : Nat} (h0 : 0 ≤ rv k c) : rv k c = (vl k (mg k c) : Rat) * iu k := by
  have h := (rat_sgn (k := k) (X := sgv k c)).1 h0
  unfold rv
  congr 1
  have : (sgv k c).natAbs = vl k (mg k c) := by unfold sgv; exact sv_abs1 _ _
  have e : sgv k c = (vl k (mg k c) : Int) := by omega
  rw [e, Rat.intCast_natCast]
theorem add_cap (k : FloatKind) {a b r : Nat} (ha : isFin k a = true) (hb : isFin k b = true) (hr : r < k.format.infRung) (h0 : 0 ≤ rv k a + rv k b) (h : rv k a + rv k b ≤ rv k r) : isFin k (fadd k a b) = true ∧ 0 ≤ rv k (fadd k a b) ∧ rv k (fadd k a b) ≤ rv k r := by
  obtain ⟨pf, pe, p0⟩ := posw k hr
  have hx : rv k a + rv k b = ((sgv k a + sgv k b : Int) : Rat) * iu k := by
    unfold rv; rw [Rat.intCast_add, Rat.add_mul]
  rw [hx] at h0 h
  have hX0 := (rat_sgn (k := k)).1 h0
  have hX : (sgv k a + sgv k b).natAbs ≤ vl k r := by
    rw [pe] at h
    generalize sgv k a + sgv k b = X at *
    refine nat_of_rat (k := k) ?_
    have e : ((X.natAbs : Nat) : Rat) = (X : Rat) := by
      have : ((X.natAbs : Nat) : Int) = X := Int.natAbs_of_nonneg hX0
      exact_mod_cast this
    rw [e]; exact h
  obtain ⟨g0, _, _, g3, _⟩ := add_int k ha hb r hr hX
  obtain ⟨s, m, i, ra, la, va⟩ := fin_mg k ((fin_iff k a).1 ha)
  obtain ⟨t, n, j, rb, lb, vb⟩ := fin_mg k ((fin_iff k b).1 hb)
  obtain ⟨z, T, e, e1, e2, e3, _, _⟩ := add_near3 k ra rb la lb va vb (fadd k a b) t (by unfold fadd Format.add; rw [ra, rb]; rfl)
  rw [read_sgn' ra, read_sgn' rb] at e3
  have hle : mg k (fadd k a b) ≤ r := by
    rw [e1]
    refine near_le0 k e2 ?_
    rw [e3]; exact hX
  have c0 : 0 ≤ rv k (fadd k a b) := sgn_rat.1 (g3 hX0)
  refine ⟨g0, c0, ?_⟩
  rw [mag_rv k c0, pe]
  exact Rat.mul_le_mul_of_nonneg_right (by exact_mod_cast vl_le k hle) (Rat.le_of_lt (iu_pos k))
theorem sub_cap (k : FloatKind) {a b r : Nat} (ha : isFin k a = true) (hb : isFin k b = true) (hr : r < k.format.infRung) (h0 : 0 ≤ rv k a - rv k b) (h : rv k a - rv k b ≤ rv k r) : isFin k (fsub k a b) = true ∧ 0 ≤ rv k (fsub k a b) ∧ rv k (fsub k a b) ≤ rv k r := by
  obtain ⟨pf, pe, p0⟩ := posw k hr
  have hx : rv k a - rv k b = ((sgv k a - sgv k b : Int) : Rat) * iu k := by
    unfold rv; rw [Rat.intCast_sub]; grind
  rw [hx] at h0 h
  have hX0 := (rat_sgn (k := k)).1 h0
  have hX : (sgv k a - sgv k b).natAbs ≤ vl k r := by
    rw [pe] at h
    generalize sgv k a - sgv k b = X at *
    refine nat_of_rat (k := k) ?_
    have e : ((X.natAbs : Nat) : Rat) = (X : Rat) := by
      have : ((X.natAbs : Nat) : Int) = X := Int.natAbs_of_nonneg hX0
      exact_mod_cast this
    rw [e]; exact h
  obtain ⟨g0, _, _, g3, _⟩ := sub_int k ha hb r hr hX
  obtain ⟨s, m, i, ra, la, va⟩ := fin_mg k ((fin_iff k a).1 ha)
  obtain ⟨t, n, j, rb, lb, vb⟩ := fin_mg k ((fin_iff k b).1 hb)
  obtain ⟨z, T, e, e1, e2, e3, _, _⟩ := add_near3 k ra rb la lb va vb (fsub k a b) (!t) (by unfold fsub Format.sub; rw [ra, rb]; rfl)
  have hn : ∀ v : Nat, sv (!(sgn k b)) v = - sv (sgn k b) v := fun v => by cases sgn k b <;> simp [sv]
  rw [read_sgn' ra, read_sgn' rb, hn] at e3
  have hle : mg k (fsub k a b) ≤ r := by
    rw [e1]
    refine near_le0 k e2 ?_
    rw [e3]; exact hX
  have c0 : 0 ≤ rv k (fsub k a b) := sgn_rat.1 (g3 hX0)
  refine ⟨g0, c0, ?_⟩
  rw [mag_rv k c0, pe]
  exact Rat.mul_le_mul_of_nonneg_right (by exact_mod_cast vl_le k hle) (Rat.le_of_lt (iu_pos k))
/-- From below: a word that the exact sum reaches is reached by the rounded one. -/
theorem add_floor (k : FloatKind) {a b r : Nat} (ha : isFin k a = true) (hb : isFin k b = true) (hr : r < k.format.infRung) (hc : isFin k (fadd k a b) = true) (h0 : 0 ≤ rv k (fadd k a b)) (h : rv k r ≤ rv k a + rv k b) : rv k r ≤ rv k (fadd k a b) := by
  obtain ⟨pf, pe, p0⟩ := posw k hr
  have hx : rv k a + rv k b = ((sgv k a + sgv k b : Int) : Rat) * iu k := by
    unfold rv; rw [Rat.intCast_add, Rat.add_mul]
  rw [hx] at h
  have hX0 := (rat_sgn (k := k)).1 (Rat.le_trans p0 h)
  obtain ⟨s, m, i, ra, la, va⟩ := fin_mg k ((fin_iff k a).1 ha)
  obtain ⟨t, n, j, rb, lb, vb⟩ := fin_mg k ((fin_iff k b).1 hb)
  obtain ⟨z, T, e, e1, e2, e3, _, _⟩ := add_near3 k ra rb la lb va vb (fadd k a b) t (by unfold fadd Format.add; rw [ra, rb]; rfl)
  rw [read_sgn' ra, read_sgn' rb] at e3
  have hX : vl k r ≤ (sgv k a + sgv k b).natAbs := by
    rw [pe] at h
    generalize sgv k a + sgv k b = X at *
    refine nat_of_rat (k := k) ?_
    have e : ((X.natAbs : Nat) : Rat) = (X : Rat) := by
      have : ((X.natAbs : Nat) : Int) = X := Int.natAbs_of_nonneg hX0
      exact_mod_cast this
    rw [e]; exact h
  have hge : r ≤ mg k (fadd k a b) := by
    rw [e1]
    refine near_ge0 k e2 (Nat.le_of_lt hr) ?_
    rw [e3]; exact hX
  rw [mag_rv k h0, pe]
  exact Rat.mul_le_mul_of_nonneg_right (by exact_mod_cast vl_le k hge) (Rat.le_of_lt (iu_pos k))
theorem mul_cap (k : FloatKind) {a b r : Nat} (ha : isFin k a = true) (hb : isFin k b = true) (hr : r < k.format.infRung) (a0 : 0 ≤ rv k a) (b0 : 0 ≤ rv k b) (h : rv k a * rv k b ≤ rv k r) : isFin k (fmul k a b) = true ∧ 0 ≤ rv k (fmul k a b) ∧ rv k (fmul k a b) ≤ rv k r := by
  obtain ⟨pf, pe, p0⟩ := posw k hr
  have ea := mag_rv k a0
  have eb := mag_rv k b0
  have hi := iu_mul k
  have key : vl k (mg k a) * vl k (mg k b) ≤ vl k r * 2 ^ uk k := by
    rw [ea, eb, pe] at h
    have q : (0 : Rat) ≤ 2 ^ uk k := Rat.le_of_lt (Rat.pow_pos (by decide +kernel))
    have h1 := Rat.mul_le_mul_of_nonneg_right h q
    have e1 : (vl k (mg k a) : Rat) * iu k * ((vl k (mg k b) : Rat) * iu k) * 2 ^ uk k = ((vl k (mg k a) * vl k (mg k b) : Nat) : Rat) * iu k * (2 ^ uk k * iu k) := by rw [Rat.natCast_mul]; grind
    have e2 : (vl k r : Rat) * iu k * 2 ^ uk k = ((vl k r * 2 ^ uk k : Nat) : Rat) * iu k := by
      rw [Rat.natCast_mul, Rat.natCast_pow]
      have : (((2 : Nat)) : Rat) = 2 := rfl
      rw [this]; grind
    rw [e1, e2, hi, Rat.mul_one] at h1
    exact nat_of_rat h1
  have hle := mul_le k ((fin_iff k a).1 ha) ((fin_iff k b).1 hb) key
  have hf : isFin k (fmul k a b) = true := (fin_iff k _).2 (Nat.lt_of_le_of_lt hle hr)
  have hX : (sgv k a * sgv k b).natAbs ≤ vl k r * 2 ^ uk k := by
    have e1 : (sgv k a).natAbs = vl k (mg k a) := by unfold sgv; exact sv_abs1 _ _
    have e2 : (sgv k b).natAbs = vl k (mg k b) := by unfold sgv; exact sv_abs1 _ _
    rw [Int.natAbs_mul, e1, e2]; exact key
  obtain ⟨_, _, _, g3, _⟩ := mul_int k ha hb r hr hX
  have c0 : 0 ≤ rv k (fmul k a b) := sgn_rat.1 (g3 (Int.mul_nonneg ((rat_sgn (k := k)).1 a0) ((rat_sgn (k := k)).1 b0)))
  refine ⟨hf, c0, ?_⟩
  rw [mag_rv k c0, pe]
  exact Rat.mul_le_mul_of_nonneg_right (by exact_mod_cast vl_le k hle) (Rat.le_of_lt (iu_pos k))
theorem div_cap (k : FloatKind) {a b r : Nat} (ha : isFin k a = true) (hb : isFin k b = true) (hr : r < k.format.infRung) (a0 : 0 ≤ rv k a) (b0 : 0 < rv k b) (h : rv k a ≤ rv k r * rv k b) : isFin k (fdiv k a b) = true ∧ 0 ≤ rv k (fdiv k a b) ∧ rv k (fdiv k a b) ≤ rv k r := by
  obtain ⟨pf, pe, p0⟩ := posw k hr
  have ea := mag_rv k a0
  have eb := mag_rv k (Rat.le_of_lt b0)
  have hi := iu_mul k
  have bs : 0 < sgv k b := by
    rcases Int.lt_or_le 0 (sgv k b) with g | g
    · exact g
    · have := (sgn_rat (k := k)).2 g
      unfold rv at b0; grind
  have e1 : (sgv k a).natAbs = vl k (mg k a) := by unfold sgv; exact sv_abs1 _ _
  have e2 : (sgv k b).natAbs = vl k (mg k b) := by unfold sgv; exact sv_abs1 _ _
  have key : vl k (mg k a) * 2 ^ uk k ≤ vl k r * vl k (mg k b) := by
    rw [ea, eb, pe] at h
    have q : (0 : Rat) ≤ 2 ^ uk k := Rat.le_of_lt (Rat.pow_pos (by decide +kernel))
    have h1 := Rat.mul_le_mul_of_nonneg_right h q
    have e4 : (vl k r : Rat) * iu k * ((vl k (mg k b) : Rat) * iu k) * 2 ^ uk k = ((vl k r * vl k (mg k b) : Nat) : Rat) * iu k * (2 ^ uk k * iu k) := by rw [Rat.natCast_mul]; grind
    have e3 : (vl k (mg k a) : Rat) * iu k * 2 ^ uk k = ((vl k (mg k a) * 2 ^ uk k : Nat) : Rat) * iu k := by
      rw [Rat.natCast_mul, Rat.natCast_pow]
      have : (((2 : Nat)) : Rat) = 2 := rfl
      rw [this]; grind
    rw [e3, e4, hi, Rat.mul_one] at h1
    exact nat_of_rat h1
  have hle := div_le k ((fin_iff k a).1 ha) ((fin_iff k b).1 hb) (by omega) key
  have hf : isFin k (fdiv k a b) = true := (fin_iff k _).2 (Nat.lt_of_le_of_lt hle hr)
  obtain ⟨_, _, _, g3, _⟩ := div_int k ha hb bs r hr (by rw [e1, e2]; exact key)
  have c0 : 0 ≤ rv k (fdiv k a b) := sgn_rat.1 (g3 ((rat_sgn (k := k)).1 a0))
  refine ⟨hf, c0, ?_⟩
  rw [mag_rv k c0, pe]
  exact Rat.mul_le_mul_of_nonneg_right (by exact_mod_cast vl_le k hle) (Rat.le_of_lt (iu_pos k))
end Go.Proofs.Ytpglfnkkmafhbaa
