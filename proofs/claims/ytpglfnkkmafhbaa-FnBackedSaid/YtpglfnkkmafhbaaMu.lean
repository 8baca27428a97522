/- Floats as rational numbers: square roots. -/
import Derived.Test.YtpglfnkkmafhbaaMt
set_option linter.unusedVariables false
set_option linter.unusedSimpArgs false
namespace Go.Proofs.Ytpglfnkkmafhbaa
open Go.RowKit
open Ieee
set_option maxRecDepth 100000
theorem two_ne0 : (2 : Rat) ≠ 0 := by decide +kernel
theorem zp {p b : Int} (h : b ≤ p) : ((2 ^ (p - b).toNat : Nat) : Rat) * (2 : Rat) ^ b = (2 : Rat) ^ p := by
  rw [Rat.natCast_pow, ← Rat.zpow_natCast]
  have e : (((2 : Nat)) : Rat) = 2 := rfl
  rw [e, ← Rat.zpow_add two_ne0]
  congr 1; omega
theorem zpos (p : Int) : (0 : Rat) < (2 : Rat) ^ p := Rat.zpow_pos (by decide +kernel)
theorem iu_zp (k : FloatKind) : iu k = (2 : Rat) ^ k.format.leastPlace := by cases k <;> decide +kernel
/-- What a positive word is, next to a number at any place. -/
theorem near_rat (k : FloatKind) (T : Nat) (p : Int) (hf : k.format.nearest false T p % k.format.signWeight < k.format.infRung) :
    Bq k * ((T : Rat) * (2 : Rat) ^ p) ≤ Bq k * ((vl k (mg k (k.format.nearest false T p)) : Rat) * iu k) + (vl k (mg k (k.format.nearest false T p)) : Rat) * iu k + Bq k * iu k ∧
    Bq k * ((vl k (mg k (k.format.nearest false T p)) : Rat) * iu k) ≤ Bq k * ((T : Rat) * (2 : Rat) ^ p) + (vl k (mg k (k.format.nearest false T p)) : Rat) * iu k + Bq k * iu k := by
  obtain ⟨q1, q2⟩ := near_err k.format false T p (min p k.format.leastPlace) (Int.min_le_left _ _) (Int.min_le_right _ _) hf
  change k.format.binade * (T * 2 ^ (p - min p k.format.leastPlace).toNat) ≤ (k.format.binade * vl k (mg k (k.format.nearest false T p)) + vl k (mg k (k.format.nearest false T p)) + k.format.binade) * 2 ^ (k.format.leastPlace - min p k.format.leastPlace).toNat at q1
  change k.format.binade * vl k (mg k (k.format.nearest false T p)) * 2 ^ (k.format.leastPlace - min p k.format.leastPlace).toNat ≤ k.format.binade * (T * 2 ^ (p - min p k.format.leastPlace).toNat) + (vl k (mg k (k.format.nearest false T p)) + k.format.binade) * 2 ^ (k.format.leastPlace - min p k.format.leastPlace).toNat at q2
  have e1 := zp (Int.min_le_left p k.format.leastPlace)
  have e2 := zp (Int.min_le_right p k.format.leastPlace)
  have zb := Rat.le_of_lt (zpos (min p k.format.leastPlace))
  rw [← iu_zp] at e2
  generalize vl k (mg k (k.format.nearest false T p)) = v at *
  generalize (2 : Rat) ^ min p k.format.leastPlace = z at *
  generalize 2 ^ (p - min p k.format.leastPlace).toNat = M at *
  generalize 2 ^ (k.format.leastPlace - min p k.format.leastPlace).toNat = U at *
  unfold Bq
  have c1 : ((k.format.binade : Nat) : Rat) * ((T : Rat) * (M : Rat)) ≤ (((k.format.binade : Nat) : Rat) * (v : Rat) + v + ((k.format.binade : Nat) : Rat)) * (U : Rat) := by exact_mod_cast q1
  have c2 : ((k.format.binade : Nat) : Rat) * (v : Rat) * (U : Rat) ≤ ((k.format.binade : Nat) : Rat) * ((T : Rat) * (M : Rat)) + ((v : Rat) + ((k.format.binade : Nat) : Rat)) * (U : Rat) := by exact_mod_cast q2
  have j1 := Rat.mul_le_mul_of_nonneg_right c1 zb
  have j2 := Rat.mul_le_mul_of_nonneg_right c2 zb
  rw [← e1, ← e2]
  refine ⟨by grind, by grind⟩
theorem near_le_rat (k : FloatKind) (T : Nat) (p : Int) (r : Nat) (h : (T : Rat) * (2 : Rat) ^ p ≤ (vl k r : Rat) * iu k) : mg k (k.format.nearest false T p) ≤ r := by
  refine near_le k.format false T p (min p k.format.leastPlace) (Int.min_le_left _ _) (Int.min_le_right _ _) r ?_
  change T * 2 ^ (p - min p k.format.leastPlace).toNat ≤ vl k r * 2 ^ (k.format.leastPlace - min p k.format.leastPlace).toNat
  have e1 := zp (Int.min_le_left p k.format.leastPlace)
  have e2 := zp (Int.min_le_right p k.format.leastPlace)
  have zb := zpos (min p k.format.leastPlace)
  rw [iu_zp, ← e1, ← e2] at h
  generalize vl k r = v at *
  generalize (2 : Rat) ^ min p k.format.leastPlace = z at *
  generalize 2 ^ (p - min p k.format.leastPlace).toNat = M at *
  generalize 2 ^ (k.format.leastPlace - min p k.format.leastPlace).toNat = U at *
  have h2 : ((T : Rat) * (M : Rat)) * z ≤ ((v : Rat) * (U : Rat)) * z := by grind
  have h3 := Rat.le_of_mul_le_mul_right h2 zb
  exact_mod_cast h3
theorem rootFrom_le (n : Nat) : ∀ (t r : Nat), r * r ≤ n → Ieee.Datum.rootFrom n t r * Ieee.Datum.rootFrom n t r ≤ n
  | 0, r, h => by unfold Ieee.Datum.rootFrom; exact h
  | t + 1, r, h => by
    unfold Ieee.Datum.rootFrom
    dsimp only
    split
    · rename_i h'
      exact rootFrom_le n t _ h'
    · exact rootFrom_le n t r h
theorem rootFrom_gt (n : Nat) : ∀ (t r : Nat), n < (r + 2 ^ t) * (r + 2 ^ t) → n < (Ieee.Datum.rootFrom n t r + 1) * (Ieee.Datum.rootFrom n t r + 1)
  | 0, r, h => by unfold Ieee.Datum.rootFrom; simpa using h
  | t + 1, r, h => by
    unfold Ieee.Datum.rootFrom
    dsimp only
    rw [Nat.one_shiftLeft]
    split
    · refine rootFrom_gt n t _ ?_
      rw [Nat.pow_succ] at h
      rw [show r + 2 ^ t + 2 ^ t = r + 2 ^ t * 2 by omega]; exact h
    · rename_i h'
      exact rootFrom_gt n t r (by omega)
/-- What a root is next to. -/
theorem root_parts (k : FloatKind) {c : Nat} (hc : c < k.format.infRung) (h0 : vl k c ≠ 0) : ∃ (w n T : Nat) (h : Int), fsqrt k c = k.format.nearest false T (h - 1) ∧ w * w ≤ n ∧ n < (w + 1) * (w + 1) ∧ 2 * w ≤ T ∧ T ≤ 2 * w + 1 ∧ 2 ^ 20 ≤ w ∧ (vl k c : Rat) * iu k = (n : Rat) * ((2 : Rat) ^ h * (2 : Rat) ^ h) := by
  obtain ⟨m, i, rc, lc, vc⟩ := pos_read k hc
  have hm : m ≠ 0 := by
    intro e; rw [e, Nat.zero_mul] at vc
    exact h0 vc.symm
  have hF : 20 ≤ k.format.fractionBits := by cases k <;> decide +kernel
  unfold fsqrt Ieee.Format.sqrt
  rw [rc]
  simp only [Ieee.Datum.root]
  rw [if_neg hm]
  simp only [Bool.false_eq_true, if_false, Option.map_some, Option.getD_some]
  generalize hmore : 2 * (k.format.fractionBits + 2) - m.log2 + ((i - ((2 * (k.format.fractionBits + 2) - m.log2 : Nat) : Int)) % 2).toNat = more
  have hev : (i - (more : Int)) % 2 = 0 := by rw [← hmore]; omega
  generalize hn : m <<< more = n
  generalize hw : Ieee.Datum.rootFrom n (n.log2 / 2 + 1) 0 = whole
  have hmax : n < (whole + 1) * (whole + 1) := by
    rw [← hw]
    refine rootFrom_gt n _ 0 ?_
    rw [Nat.zero_add, ← Nat.pow_add]
    exact Nat.lt_of_lt_of_le Nat.lt_log2_self (Nat.pow_le_pow_right (by omega) (by omega))
  have hmin : whole * whole ≤ n := by rw [← hw]; exact rootFrom_le n _ 0 (by omega)
  have hn2 : n = m * 2 ^ more := by rw [← hn, Nat.shiftLeft_eq]
  generalize hh : (i - (more : Int)) / 2 = h2
  have hi : i = 2 * h2 + (more : Int) := by omega
  refine ⟨whole, n, 2 * whole + (whole * whole != n).toNat, h2, rfl, hmin, hmax, by omega, by cases (whole * whole != n) <;> simp, ?_, ?_⟩
  · -- the root is long
    have hbig : 2 ^ 42 ≤ n := by
      have h1 : 2 ^ m.log2 ≤ m := Nat.log2_self_le hm
      have h2 : 2 ^ m.log2 * 2 ^ more ≤ n := by rw [hn2]; exact Nat.mul_le_mul_right _ h1
      rw [← Nat.pow_add] at h2
      exact Nat.le_trans (Nat.pow_le_pow_right (by omega) (by omega)) h2
    rcases Nat.lt_or_ge whole (2 ^ 20) with h | h
    · exfalso
      have := Nat.mul_le_mul (show whole + 1 ≤ 2 ^ 20 by omega) (show whole + 1 ≤ 2 ^ 20 by omega)
      have e : (2 : Nat) ^ 20 * 2 ^ 20 = 2 ^ 40 := by decide
      have e2 : (2 : Nat) ^ 40 ≤ 2 ^ 42 := by decide
      omega
    · exact h
  · rw [← vc, iu_zp, hn2, Rat.natCast_mul, Rat.natCast_mul, Rat.mul_assoc, zp lc, hi]
    rw [Rat.mul_assoc, ← Rat.zpow_add two_ne0, show (2 : Int) * h2 + (more : Int) = (more : Int) + (h2 + h2) by omega, Rat.zpow_add two_ne0 (more : Int), Rat.zpow_natCast, Rat.natCast_pow]
    rfl
theorem sq_mono {x y : Rat} (h0 : 0 ≤ x) (h : x ≤ y) : x * x ≤ y * y :=
  Rat.le_trans (Rat.mul_le_mul_of_nonneg_left h h0) (Rat.mul_le_mul_of_nonneg_right h (Rat.le_trans h0 h))
theorem sq_inv {x y : Rat} (hy : 0 ≤ y) (h : x * x ≤ y * y) : x ≤ y := by
  rcases Rat.le_total (a := x) (b := y) with q | q
  · exact q
  · rcases Rat.le_total (a := x) (b := 0) with z | z
    · exact Rat.le_trans z hy
    · have h1 := Rat.mul_le_mul_of_nonneg_left q hy
      have h2 := Rat.mul_le_mul_of_nonneg_right q z
      -- x = y
      have e : (x - y) * (x - y) ≤ 0 := by grind
      have e2 : x - y = 0 := by
        rcases Rat.le_total (a := x - y) (b := 0) with g | g
        · grind
        · have h3 : 0 ≤ (x - y) * (x - y) := Rat.mul_nonneg g g
          have h4 : (x - y) * (x - y) = 0 := Rat.le_antisymm e h3
          rcases Rat.mul_eq_zero.1 h4 with w | w <;> exact w
      grind
/-- A root of a double word that is greater than zero: next to a number whose square is near. -/
theorem root64 {c : Nat} (hc : c < FloatKind.f64.format.infRung) (h0 : vl .f64 c ≠ 0) (hbig : (vl .f64 c : Rat) * iu .f64 ≤ 1000000000000) :
    isFin .f64 (fsqrt .f64 c) = true ∧ ∃ P : Rat, 0 ≤ P ∧ P ≤ 1000000 ∧ P * P ≤ (vl .f64 c : Rat) * iu .f64 ∧ (vl .f64 c : Rat) * iu .f64 ≤ P * P * (1 + 2 / 1000000) ∧ P * (1 - 1 / 1000000) - 1 / 10 ^ 40 ≤ rv .f64 (fsqrt .f64 c) ∧ rv .f64 (fsqrt .f64 c) ≤ P * (1 + 1 / 1000000) + 1 / 10 ^ 40 ∧ 0 ≤ rv .f64 (fsqrt .f64 c) := by
  obtain ⟨w, n, T, h, e1, e2, e3, e4, e5, e6, e7⟩ := root_parts .f64 hc h0
  have tp := zpos h
  have ip := iu_pos .f64
  have it := iu_tiny .f64
  have hz : (2 : Rat) ^ (h - 1) = (2 : Rat) ^ h * (1 / 2) := by
    rw [show h - 1 = h + (-1) by omega, Rat.zpow_add two_ne0]
    congr 1
    decide +kernel
  rw [e7] at hbig ⊢
  generalize (2 : Rat) ^ h = t at *
  have w0 : (2 : Rat) ^ 20 ≤ (w : Rat) := by
    have : ((2 ^ 20 : Nat) : Rat) ≤ (w : Rat) := by exact_mod_cast e6
    exact this
  have w1 : (1048576 : Rat) ≤ (w : Rat) := Rat.le_trans (by decide +kernel) w0
  have t0 := Rat.le_of_lt tp
  -- P = w * t
  have hn1 : (w : Rat) * w ≤ (n : Rat) := by exact_mod_cast e2
  have hn2 : (n : Rat) ≤ ((w : Rat) + 1) * ((w : Rat) + 1) := by
    have : n ≤ (w + 1) * (w + 1) := Nat.le_of_lt e3
    exact_mod_cast this
  have hT1 : 2 * (w : Rat) ≤ (T : Rat) := by exact_mod_cast e4
  have hT2 : (T : Rat) ≤ 2 * (w : Rat) + 1 := by exact_mod_cast e5
  have tt : 0 ≤ t * t := Rat.mul_nonneg t0 t0
  have a1 : (w : Rat) * w * (t * t) ≤ (n : Rat) * (t * t) := Rat.mul_le_mul_of_nonneg_right hn1 tt
  have a2 : (n : Rat) * (t * t) ≤ ((w : Rat) + 1) * ((w : Rat) + 1) * (t * t) := Rat.mul_le_mul_of_nonneg_right hn2 tt
  have tw : 1048576 * t ≤ (w : Rat) * t := Rat.mul_le_mul_of_nonneg_right w1 t0
  have P0 : 0 ≤ (w : Rat) * t := Rat.mul_nonneg (by grind) t0
  have PP : ((w : Rat) * t) * ((w : Rat) * t) = (w : Rat) * w * (t * t) := by grind
  have P6 : (w : Rat) * t ≤ 1000000 := sq_inv (by decide +kernel) (by rw [PP]; exact Rat.le_trans a1 (Rat.le_trans hbig (by decide +kernel)))
  have up : ((w : Rat) + 1) * ((w : Rat) + 1) * (t * t) = ((w : Rat) * t + t) * ((w : Rat) * t + t) := by grind
  -- the word
  have X1 : (w : Rat) * t ≤ (T : Rat) * (2 : Rat) ^ (h - 1) := by
    rw [hz]
    have := Rat.mul_le_mul_of_nonneg_right hT1 t0
    grind
  have X2 : (T : Rat) * (2 : Rat) ^ (h - 1) ≤ (w : Rat) * t + t := by
    rw [hz]
    have := Rat.mul_le_mul_of_nonneg_right hT2 t0
    grind
  have hr : mg .f64 (fsqrt .f64 c) ≤ bigR .f64 := by
    rw [e1]
    refine near_le_rat .f64 T (h - 1) _ ?_
    have e : (vl .f64 (bigR .f64) : Rat) * iu .f64 = 2 ^ 100 := by decide +kernel
    rw [e]
    have : (2000000 : Rat) ≤ 2 ^ 100 := by decide +kernel
    grind
  have hf : mg .f64 (fsqrt .f64 c) < FloatKind.f64.format.infRung := Nat.lt_of_le_of_lt hr (bigR_lt .f64)
  obtain ⟨b1, b2⟩ := near_rat .f64 T (h - 1) (by rw [← e1]; exact hf)
  rw [← e1] at b1 b2
  have hs : sgn .f64 (fsqrt .f64 c) = false := by rw [e1]; exact sgn_near _ _ _ _
  have hy : rv .f64 (fsqrt .f64 c) = (vl .f64 (mg .f64 (fsqrt .f64 c)) : Rat) * iu .f64 := by
    unfold rv sgv
    rw [hs]
    simp only [sv, Bool.false_eq_true, if_false]
    rw [Rat.intCast_natCast]
  have y0 : 0 ≤ (vl .f64 (mg .f64 (fsqrt .f64 c)) : Rat) * iu .f64 := Rat.mul_nonneg (by exact_mod_cast Nat.zero_le _) (Rat.le_of_lt ip)
  have hB : Bq .f64 = 4503599627370496 := by decide +kernel
  rw [hB] at b1 b2
  rw [hy]
  generalize (vl .f64 (mg .f64 (fsqrt .f64 c)) : Rat) * iu .f64 = y at *
  generalize iu .f64 = i at *
  generalize (T : Rat) * (2 : Rat) ^ (h - 1) = X at *
  generalize hP : (w : Rat) * t = P at *
  refine ⟨(fin_iff .f64 _).2 hf, P, P0, P6, by rw [PP]; exact a1, ?_, by grind, by grind, y0⟩
  rw [up] at a2
  refine Rat.le_trans a2 ?_
  have s1 : (P + t) * (P + t) ≤ (P * (1 + 1 / 1048576)) * (P * (1 + 1 / 1048576)) := sq_mono (by grind) (by grind)
  have pp0 : 0 ≤ P * P := Rat.mul_nonneg P0 P0
  refine Rat.le_trans s1 ?_
  have : (P * (1 + 1 / 1048576)) * (P * (1 + 1 / 1048576)) = P * P * ((1 + 1 / 1048576) * (1 + 1 / 1048576)) := by grind
  rw [this]
  exact Rat.mul_le_mul_of_nonneg_left (by decide +kernel) pp0
/-- **ROOTS**: a root of a word that is not below zero is finite, and its square is near. -/
theorem froot_rv {c : Nat} (hc : isFin .f32 c = true) (h0 : 0 ≤ rv .f32 c) (hbig : rv .f32 c ≤ 1000000000000) :
    isFin .f32 (froot c) = true ∧ 0 ≤ rv .f32 (froot c) ∧ rv .f32 (froot c) ≤ 1000003 ∧ rv .f32 (froot c) * rv .f32 (froot c) ≤ rv .f32 c * (1 + 1 / 100000) + 1 / 10 ^ 20 ∧ rv .f32 c ≤ rv .f32 (froot c) * rv .f32 (froot c) * (1 + 1 / 100000) + 1 / 10 ^ 20 := by
  obtain ⟨uf, ur⟩ := fup_rv hc
  have ip := iu_pos .f64
  by_cases hz : vl .f32 (mg .f32 c) = 0
  · -- zero, of either sign
    have hfin := (fin_iff .f32 c).1 hc
    obtain ⟨s, m, e, hr, l, v⟩ := fin_mg .f32 hfin
    rw [hz] at v
    have m0 : m = 0 := by
      rcases Nat.eq_zero_or_pos m with g | g
      · exact g
      · have := Nat.mul_pos g (Nat.two_pow_pos (e - FloatKind.f32.format.leastPlace).toNat)
        omega
    subst m0
    have hu := fup_num' hr
    have h2 : FloatKind.f64.format.nearest s 0 e = FloatKind.f64.format.word s 0 := by unfold Ieee.Format.nearest; rw [if_pos rfl]
    rw [h2] at hu
    have hz' : rv .f32 c = 0 := by
      unfold rv sgv
      rw [hz]
      cases sgn .f32 c <;> simp [sv, Rat.zero_mul]
    have key : froot c = fdown (fsqrt .f64 (FloatKind.f64.format.word s 0)) := by unfold froot; rw [hu]
    rw [hz', key]
    cases s <;> decide +kernel
  · -- a positive word
    have hfin := (fin_iff .f32 c).1 hc
    have hs : sgn .f32 c = false := by
      cases hh : sgn .f32 c with
      | false => rfl
      | true =>
        exfalso
        have : rv .f32 c < 0 := by
          unfold rv sgv
          rw [hh]
          simp only [sv, if_true]
          have p := iu_pos .f32
          have g : (1 : Rat) ≤ (vl .f32 (mg .f32 c) : Rat) := by exact_mod_cast (show 1 ≤ vl .f32 (mg .f32 c) by omega)
          have := Rat.mul_le_mul_of_nonneg_right g (Rat.le_of_lt p)
          rw [Rat.intCast_neg, Rat.intCast_natCast]
          grind
        grind
    obtain ⟨s, m, e, hr, l, v⟩ := fin_mg .f32 hfin
    have hsf : s = false := by rw [read_sgn' hr]; exact hs
    subst hsf
    have hu := fup_num' hr
    have hpos : mg .f64 (fup c) = fup c := by rw [hu]; exact near_pos _ _ _
    have ufi := (fin_iff .f64 _).1 uf
    rw [hpos] at ufi
    have hvr : rv .f64 (fup c) = (vl .f64 (fup c) : Rat) * iu .f64 := by
      unfold rv sgv
      rw [hu, sgn_near, ← hu, hpos]
      simp only [sv, Bool.false_eq_true, if_false]
      rw [Rat.intCast_natCast]
    have hvz : vl .f64 (fup c) ≠ 0 := fun h => by
      rw [h] at hvr
      have z : rv .f32 c = 0 := by
        rw [← ur, hvr]
        have : ((0 : Nat) : Rat) = 0 := rfl
        rw [this, Rat.zero_mul]
      unfold rv sgv at z
      rw [hs] at z
      simp only [sv, Bool.false_eq_true, if_false, Rat.intCast_natCast] at z
      have p := iu_pos .f32
      have g : (1 : Rat) ≤ (vl .f32 (mg .f32 c) : Rat) := by exact_mod_cast (show 1 ≤ vl .f32 (mg .f32 c) by omega)
      have := Rat.mul_le_mul_of_nonneg_right g (Rat.le_of_lt p)
      grind
    obtain ⟨f1, P, P0, P6, q1, q2, q3, q4, q5⟩ := root64 ufi hvz (by rw [← hvr, ur]; exact hbig)
    rw [← hvr, ur] at q1 q2
    have d := fdown_rv f1 (rv .f64 (fsqrt .f64 (fup c))) (by grind) Rat.le_refl (by
      have : (2000000 : Rat) ≤ 2 ^ 100 := by decide +kernel
      grind)
    have dl := d.lo
    have dh := d.hi
    have dp := d.pos q5
    have e32 : eps .f32 = 1 / 8000000 := rfl
    rw [e32] at dl dh
    change _ ≤ rv .f32 (froot c) at dl
    change rv .f32 (froot c) ≤ _ at dh
    change 0 ≤ rv .f32 (froot c) at dp
    generalize rv .f64 (fsqrt .f64 (fup c)) = y at *
    generalize rv .f32 (froot c) = S at *
    generalize rv .f32 c = a at *
    have l1 : S ≤ P * (1 + 2 / 1000000) + 1 / 10 ^ 39 := by grind
    have l2 : P ≤ (S + 1 / 10 ^ 39) * (1 + 2 / 1000000) := by grind
    have pp0 : 0 ≤ P * P := Rat.mul_nonneg P0 P0
    have m1 := sq_mono dp l1
    have m2 := sq_mono P0 l2
    refine ⟨d.fin, dp, by grind, ?_, ?_⟩
    · grind
    · grind
end Go.Proofs.Ytpglfnkkmafhbaa
