/- Floats as rational numbers: comparing, widening, constants. -/
import Derived.Test.YtpglfnkkmafhbaaMs
set_option linter.unusedVariables false
set_option linter.unusedSimpArgs false
namespace Go.Proofs.Ytpglfnkkmafhbaa
open Go.RowKit
open Ieee
set_option maxRecDepth 100000
theorem order_int (k : FloatKind) {a b : Nat} (ha : isFin k a = true) (hb : isFin k b = true) : k.format.order a b = some (compare (sgv k a) (sgv k b)) := by
  obtain ⟨s, m, i, ra, la, va⟩ := fin_mg k ((fin_iff k a).1 ha)
  obtain ⟨t, n, j, rb, lb, vb⟩ := fin_mg k ((fin_iff k b).1 hb)
  have h := order_fin k ra rb la lb va vb
  rw [read_sgn' ra, read_sgn' rb] at h
  exact h
theorem rv_le_iff (k : FloatKind) (a b : Nat) : rv k a ≤ rv k b ↔ sgv k a ≤ sgv k b := by
  have p := iu_pos k
  unfold rv
  refine ⟨fun h => ?_, fun h => ?_⟩
  · rcases Int.lt_or_le (sgv k b) (sgv k a) with g | g
    · exfalso
      have g1 : (sgv k b : Rat) + 1 ≤ (sgv k a : Rat) := by
        have := Rat.intCast_le_intCast.2 (show sgv k b + 1 ≤ sgv k a by omega)
        rw [Rat.intCast_add] at this; exact this
      have := Rat.mul_le_mul_of_nonneg_right g1 (Rat.le_of_lt p)
      grind
    · exact g
  · exact Rat.mul_le_mul_of_nonneg_right (Rat.intCast_le_intCast.2 h) (Rat.le_of_lt p)
theorem cmp_lt {a b : Int} : compare a b = .lt ↔ a < b := by
  simp [compare, compareOfLessAndEq]; split <;> simp_all <;> split <;> simp_all
theorem cmp_gt {a b : Int} : compare a b = .gt ↔ b < a := by
  simp only [compare, compareOfLessAndEq]
  by_cases h1 : a < b
  · rw [if_pos h1]; simp; omega
  · rw [if_neg h1]
    by_cases h2 : a = b
    · rw [if_pos h2]; simp; omega
    · rw [if_neg h2]; simp; omega
theorem cmp_eq {a b : Int} : compare a b = .eq ↔ a = b := by
  simp only [compare, compareOfLessAndEq]
  by_cases h1 : a < b
  · rw [if_pos h1]; simp; omega
  · rw [if_neg h1]
    by_cases h2 : a = b
    · rw [if_pos h2]; simp [h2]
    · rw [if_neg h2]; simp [h2]
theorem fle_rv (k : FloatKind) {a b : Nat} (ha : isFin k a = true) (hb : isFin k b = true) : fle k a b = true ↔ rv k a ≤ rv k b := by
  unfold fle
  rw [order_int k ha hb, rv_le_iff, Bool.or_eq_true, beq_iff_eq, beq_iff_eq, Option.some.injEq, Option.some.injEq, cmp_lt, cmp_eq]
  omega
theorem fge_rv (k : FloatKind) {a b : Nat} (ha : isFin k a = true) (hb : isFin k b = true) : fge k a b = true ↔ rv k b ≤ rv k a := by
  unfold fge
  rw [order_int k ha hb, rv_le_iff, Bool.or_eq_true, beq_iff_eq, beq_iff_eq, Option.some.injEq, Option.some.injEq, cmp_gt, cmp_eq]
  omega
theorem flt_rv (k : FloatKind) {a b : Nat} (ha : isFin k a = true) (hb : isFin k b = true) : flt k a b = true ↔ rv k a < rv k b := by
  have := rv_le_iff k b a
  unfold flt
  rw [order_int k ha hb, beq_iff_eq, Option.some.injEq, cmp_lt, ← Rat.not_le, this]
  omega
theorem fgt_rv (k : FloatKind) {a b : Nat} (ha : isFin k a = true) (hb : isFin k b = true) : fgt k a b = true ↔ rv k b < rv k a := by
  have := rv_le_iff k a b
  unfold fgt
  rw [order_int k ha hb, beq_iff_eq, Option.some.injEq, cmp_gt, ← Rat.not_le, this]
  omega
theorem feq_rv (k : FloatKind) {a b : Nat} (ha : isFin k a = true) (hb : isFin k b = true) : feq k a b = true ↔ rv k a = rv k b := by
  have h1 := rv_le_iff k a b
  have h2 := rv_le_iff k b a
  unfold feq
  rw [order_int k ha hb, beq_iff_eq, Option.some.injEq, cmp_eq]
  refine ⟨fun h => Rat.le_antisymm (h1.2 (by omega)) (h2.2 (by omega)), fun h => ?_⟩
  have a1 := h1.1 (by rw [h]; exact Rat.le_refl)
  have a2 := h2.1 (by rw [h]; exact Rat.le_refl)
  omega
theorem fup_num' {x : Nat} {s : Bool} {m : Nat} {e : Int} (h : FloatKind.f32.format.read x = .number s m e) : fup x = FloatKind.f64.format.nearest s m e := by
  unfold fup
  have hn : isN .f32 x = false := by unfold isN; rw [h]; rfl
  rw [if_neg (by rw [hn]; decide)]
  show FloatKind.f64.format.write (FloatKind.f32.format.read x) = _
  rw [h]; rfl
theorem fdown_num' {x : Nat} {s : Bool} {m : Nat} {e : Int} (h : FloatKind.f64.format.read x = .number s m e) : fdown x = FloatKind.f32.format.nearest s m e := by
  unfold fdown
  have hn : isN .f64 x = false := by unfold isN; rw [h]; rfl
  rw [if_neg (by rw [hn]; decide)]
  show FloatKind.f32.format.write (FloatKind.f64.format.read x) = _
  rw [h]; rfl
theorem lp64 : FloatKind.f64.format.leastPlace = -1074 := by decide +kernel
theorem lp32 : FloatKind.f32.format.leastPlace = -149 := by decide +kernel
theorem iu_up : (((2 ^ 925 : Nat) : Nat) : Rat) * iu .f64 = iu .f32 := by decide +kernel
theorem inf_a : vl .f32 FloatKind.f32.format.infRung ≤ 2 ^ 277 := by decide +kernel
theorem inf_b : 2 ^ 277 * 2 ^ 925 < vl .f64 FloatKind.f64.format.infRung := by decide +kernel
theorem inf_c : vl .f64 (bigR .f64) = vl .f32 (bigR .f32) * 2 ^ 925 := by decide +kernel
theorem inf_vl : ∃ N P : Nat, P = 2 ^ 925 ∧ vl .f32 FloatKind.f32.format.infRung ≤ N ∧ N * P < vl .f64 FloatKind.f64.format.infRung ∧ vl .f64 (bigR .f64) = vl .f32 (bigR .f32) * P := ⟨_, _, rfl, inf_a, inf_b, inf_c⟩
theorem no_between {a b c : Nat} (h2 : c < b) (h1 : b ≤ a) (h3 : a ≤ c) : False := by omega
theorem le_as {a b c : Nat} (h : a ≤ b) (e : b = c) : a ≤ c := by omega
/-- Widening is exact. -/
theorem fup_rv {x : Nat} (hx : isFin .f32 x = true) : isFin .f64 (fup x) = true ∧ rv .f64 (fup x) = rv .f32 x := by
  have hf := (fin_iff .f32 x).1 hx
  obtain ⟨s, m, e, hr, l, v⟩ := fin_mg .f32 hf
  rw [lp32] at l v
  have hn := fup_num' hr
  obtain ⟨μ, τ, hs, hμ⟩ := val_short (B := FloatKind.f32.format.binade) (Nat.two_pow_pos _) (mg .f32 x)
  have hB : FloatKind.f32.format.binade ≤ FloatKind.f64.format.binade := by decide +kernel
  obtain ⟨r, hr2⟩ := short_rung (B := FloatKind.f64.format.binade) (Nat.two_pow_pos _) (τ + 925) μ (by omega)
  have hv : vl .f64 r = vl .f32 (mg .f32 x) * 2 ^ 925 := by
    show val _ r = val _ (mg .f32 x) * 2 ^ 925
    rw [hr2, hs, Nat.pow_add, Nat.mul_assoc]
  obtain ⟨N, P, hP, hN1, hN2, _⟩ := inf_vl
  have hbig : vl .f64 r ≤ N * P := by
    rw [hv, ← hP]
    exact Nat.mul_le_mul_right _ (Nat.le_trans (val_mono (Nat.two_pow_pos _) (Nat.le_of_lt hf)) hN1)
  have hri : r < FloatKind.f64.format.infRung := by
    rcases Nat.lt_or_ge r FloatKind.f64.format.infRung with h | h
    · exact h
    · exfalso
      have h1 : vl .f64 FloatKind.f64.format.infRung ≤ vl .f64 r := val_mono (Nat.two_pow_pos _) h
      have h2 := hN2
      exact no_between h2 h1 hbig
  have hT : m * 2 ^ (e - FloatKind.f64.format.leastPlace).toNat = vl .f64 r := by
    rw [lp64, show (e - -1074).toNat = (e - -149).toNat + 925 by omega, Nat.pow_add, ← Nat.mul_assoc, v, hv]
  have hl : FloatKind.f64.format.leastPlace ≤ e := by rw [lp64]; omega
  have g1 : mg .f64 (fup x) ≤ r := by rw [hn]; exact near_le0 .f64 hl (by rw [hT]; exact Nat.le_refl _)
  have g2 : r ≤ mg .f64 (fup x) := by rw [hn]; exact near_ge0 .f64 hl (Nat.le_of_lt hri) (by rw [hT]; exact Nat.le_refl _)
  have g : mg .f64 (fup x) = r := by omega
  refine ⟨(fin_iff .f64 _).2 (by rw [g]; exact hri), ?_⟩
  have hsg : sgn .f64 (fup x) = sgn .f32 x := by rw [hn, sgn_near, ← read_sgn' hr]
  have hsv : sgv .f64 (fup x) = sgv .f32 x * ((2 ^ 925 : Nat) : Int) := by
    unfold sgv
    rw [hsg, g, hv]
    generalize 2 ^ 925 = N
    cases sgn .f32 x <;> simp [sv, Int.neg_mul]
  unfold rv
  rw [hsv, Rat.intCast_mul, Rat.intCast_natCast, Rat.mul_assoc, iu_up]
/-- Narrowing. -/
theorem fdown_rv {x : Nat} (hx : isFin .f64 x = true) (E : Rat) (l : -E ≤ rv .f64 x) (u : rv .f64 x ≤ E) (hE : E ≤ 2 ^ 100) : Near .f32 (fdown x) (rv .f64 x) E := by
  have hf := (fin_iff .f64 x).1 hx
  obtain ⟨s, m, e, hr, le, v⟩ := fin_mg .f64 hf
  rw [lp64] at le v
  have hn := fdown_num' hr
  have hX := up_int (k := .f64) (X := sgv .f64 x) l u hE
  have av : (sgv .f64 x).natAbs = vl .f64 (mg .f64 x) := by unfold sgv; exact sv_abs1 _ _
  obtain ⟨N, P, hP, _, _, hb⟩ := inf_vl
  have hle : mg .f32 (fdown x) ≤ bigR .f32 := by
    rw [hn]
    refine near_le FloatKind.f32.format s m e (-1074) le (by rw [lp32]; omega) _ ?_
    rw [v, lp32, show (-149 - -1074 : Int).toNat = 925 from rfl, ← av]
    rw [← hP]
    exact le_as hX hb
  have hff : mg .f32 (fdown x) < FloatKind.f32.format.infRung := Nat.lt_of_le_of_lt hle (bigR_lt .f32)
  have he := near_err FloatKind.f32.format s m e (-1074) le (by rw [lp32]; omega) (by rw [← hn]; exact hff)
  rw [← hn, v, lp32, show (-149 - -1074 : Int).toNat = 925 from rfl] at he
  have hs : sgn .f32 (fdown x) = sgn .f64 x := by rw [hn, sgn_near, ← read_sgn' hr]
  have habs : (sgv .f32 (fdown x)).natAbs = vl .f32 (mg .f32 (fdown x)) := by unfold sgv; exact sv_abs1 _ _
  have z0 : vl .f64 (mg .f64 x) = 0 → vl .f32 (mg .f32 (fdown x)) = 0 := fun h => by
    have : mg .f32 (fdown x) ≤ 0 := by
      rw [hn]
      refine near_le FloatKind.f32.format s m e (-1074) le (by rw [lp32]; omega) _ ?_
      rw [v, h]; exact Nat.zero_le _
    rw [show mg .f32 (fdown x) = 0 by omega]; exact vl_null .f32
  change FloatKind.f32.format.binade * vl .f64 (mg .f64 x) ≤ (FloatKind.f32.format.binade * vl .f32 (mg .f32 (fdown x)) + vl .f32 (mg .f32 (fdown x)) + FloatKind.f32.format.binade) * 2 ^ 925 ∧ FloatKind.f32.format.binade * vl .f32 (mg .f32 (fdown x)) * 2 ^ 925 ≤ FloatKind.f32.format.binade * vl .f64 (mg .f64 x) + (vl .f32 (mg .f32 (fdown x)) + FloatKind.f32.format.binade) * 2 ^ 925 at he
  obtain ⟨q1, q2⟩ := he
  have hiu := iu_up
  have hA : sgv .f64 x = sv (sgn .f64 x) (vl .f64 (mg .f64 x)) := rfl
  have hY : sgv .f32 (fdown x) = sv (sgn .f64 x) (vl .f32 (mg .f32 (fdown x))) := by unfold sgv; rw [hs]
  have hBq : Bq .f32 = ((FloatKind.f32.format.binade : Nat) : Rat) := rfl
  have key : (FloatKind.f32.format.binade : Int) * (sgv .f64 x - sgv .f32 (fdown x) * ((2 ^ 925 : Nat) : Int)) ≤ ((sgv .f32 (fdown x)).natAbs + FloatKind.f32.format.binade) * ((2 ^ 925 : Nat) : Int) ∧ (FloatKind.f32.format.binade : Int) * (sgv .f32 (fdown x) * ((2 ^ 925 : Nat) : Int) - sgv .f64 x) ≤ ((sgv .f32 (fdown x)).natAbs + FloatKind.f32.format.binade) * ((2 ^ 925 : Nat) : Int) ∧ (0 ≤ sgv .f64 x → 0 ≤ sgv .f32 (fdown x)) ∧ (sgv .f64 x ≤ 0 → sgv .f32 (fdown x) ≤ 0) := by
    rw [habs, hA, hY]
    generalize vl .f32 (mg .f32 (fdown x)) = y at *
    generalize vl .f64 (mg .f64 x) = P at *
    generalize sgn .f64 x = z at *
    generalize 2 ^ 925 = U at *
    generalize FloatKind.f32.format.binade = B at *
    have c1 : (B : Int) * P ≤ (B * y + y + B) * U := by exact_mod_cast q1
    have c2 : (B : Int) * y * U ≤ B * P + (y + B) * U := by exact_mod_cast q2
    cases z with
    | false =>
      simp only [sv, Bool.false_eq_true, if_false]
      refine ⟨by grind, by grind, fun _ => by omega, fun h => ?_⟩
      have := z0 (by omega); omega
    | true =>
      simp only [sv, if_true]
      refine ⟨by grind, by grind, fun h => ?_, fun _ => by omega⟩
      have := z0 (by omega); omega
  obtain ⟨h1, h2, h3, h4⟩ := key
  generalize hcx : sgv .f64 x = X at *
  generalize hc : sgv .f32 (fdown x) = Y at *
  generalize 2 ^ 925 = U at *
  have p := Rat.le_of_lt (iu_pos .f64)
  have g1 : ((FloatKind.f32.format.binade : Nat) : Rat) * ((X : Rat) - Y * (U : Rat)) ≤ (((Y.natAbs : Nat) : Rat) + ((FloatKind.f32.format.binade : Nat) : Rat)) * (U : Rat) := by
    have := Rat.intCast_le_intCast.2 h1
    simp only [Rat.intCast_mul, Rat.intCast_sub, Rat.intCast_add, Rat.intCast_natCast] at this
    exact this
  have g2 : ((FloatKind.f32.format.binade : Nat) : Rat) * ((Y : Rat) * (U : Rat) - X) ≤ (((Y.natAbs : Nat) : Rat) + ((FloatKind.f32.format.binade : Nat) : Rat)) * (U : Rat) := by
    have := Rat.intCast_le_intCast.2 h2
    simp only [Rat.intCast_mul, Rat.intCast_sub, Rat.intCast_add, Rat.intCast_natCast] at this
    exact this
  have j1 := Rat.mul_le_mul_of_nonneg_right g1 p
  have j2 := Rat.mul_le_mul_of_nonneg_right g2 p
  have m1 : Bq .f32 * ((X : Rat) * iu .f64 - Y * iu .f32) ≤ ((Y.natAbs : Nat) : Rat) * iu .f32 + Bq .f32 * iu .f32 := by
    rw [← hiu, hBq]; grind
  have m2 : Bq .f32 * ((Y : Rat) * iu .f32 - X * iu .f64) ≤ ((Y.natAbs : Nat) : Rat) * iu .f32 + Bq .f32 * iu .f32 := by
    rw [← hiu, hBq]; grind
  have hx' : rv .f64 x = (X : Rat) * iu .f64 := by unfold rv; rw [hcx]
  have hr' : rv .f32 (fdown x) = (Y : Rat) * iu .f32 := by unfold rv; rw [hc]
  rw [hx'] at l u ⊢
  have hcl := err_close (k := .f32) (x := (X : Rat) * iu .f64) (y := (Y : Rat) * iu .f32) (z := ((Y.natAbs : Nat) : Rat) * iu .f32) (E := E) (by rcases abs_case Y with h | h <;> rw [h] <;> grind) m1 m2 l u
  refine ⟨(fin_iff .f32 _).2 hff, by rw [hr']; exact hcl.1, by rw [hr']; exact hcl.2, fun h => ?_, fun h => ?_⟩
  · rw [hr']; exact sgn_rat.1 (h3 ((rat_sgn (k := .f64)).1 h))
  · rw [hr']; exact sgn_rat.2 (h4 ((rat_sgn (k := .f64)).2 h))
end Go.Proofs.Ytpglfnkkmafhbaa
