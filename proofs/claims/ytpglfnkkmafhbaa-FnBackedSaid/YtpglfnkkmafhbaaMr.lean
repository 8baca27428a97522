/- How far a rounded number is from the exact one: in whole numbers. -/
import Derived.Test.YtpglfnkkmafhbaaMg
set_option linter.unusedVariables false
set_option linter.unusedSimpArgs false
namespace Go.Proofs.Ytpglfnkkmafhbaa
open Go.RowKit
open Ieee
theorem gap_le {B : Nat} (hB : 0 < B) (g : Nat) : B * val B (g + 1) ≤ B * val B g + val B g + B := by
  rcases Nat.lt_or_ge g B with h | h
  · rw [val_low hB g (by omega)]
    have e : val B (g + 1) = g + 1 := val_low hB (g + 1) (by omega)
    rw [e, Nat.mul_add]; omega
  · -- g = q * B + t with B ≤ t < 2 * B
    obtain ⟨q, t, e, ht1, ht2⟩ : ∃ q t, g = q * B + t ∧ B ≤ t ∧ t < 2 * B := by
      have d := Nat.div_add_mod g B
      have m := Nat.mod_lt g hB
      have p1 : 1 ≤ g / B := (Nat.one_le_div_iff hB).2 h
      refine ⟨g / B - 1, B + g % B, ?_, by omega, by omega⟩
      rw [Nat.sub_mul, Nat.one_mul, Nat.mul_comm]
      have : B * 1 ≤ B * (g / B) := Nat.mul_le_mul_left _ p1
      omega
    subst e
    have e1 : val B (q * B + t) = t * 2 ^ q := by rw [val_shift hB _ _ ht1, val_low hB _ ht2]
    have e2 : val B (q * B + t + 1) = (t + 1) * 2 ^ q := by
      rw [show q * B + t + 1 = q * B + (t + 1) from rfl, val_shift hB _ _ (by omega)]
      rcases Nat.lt_or_ge (t + 1) (2 * B) with h2 | h2
      · rw [val_low hB _ h2]
      · have e : t + 1 = 1 * B + B := by omega
        rw [e, val_shift hB _ _ (Nat.le_refl _), val_low hB _ (by omega)]
        congr 1; omega
    rw [e1, e2, Nat.add_mul, Nat.one_mul, Nat.mul_add]
    have : B * 2 ^ q ≤ t * 2 ^ q := Nat.mul_le_mul_right _ ht1
    omega
/-- The error of a rounded number: less than a step. -/
theorem near_err (f : Format) (s : Bool) (m : Nat) (p b : Int) (hbp : b ≤ p) (hbl : b ≤ f.leastPlace) (hfin : f.nearest s m p % f.signWeight < f.infRung) :
    f.binade * (m * 2 ^ (p - b).toNat) ≤ (f.binade * val f.binade (f.nearest s m p % f.signWeight) + val f.binade (f.nearest s m p % f.signWeight) + f.binade) * 2 ^ (f.leastPlace - b).toNat ∧
    f.binade * val f.binade (f.nearest s m p % f.signWeight) * 2 ^ (f.leastPlace - b).toNat ≤ f.binade * (m * 2 ^ (p - b).toNat) + (val f.binade (f.nearest s m p % f.signWeight) + f.binade) * 2 ^ (f.leastPlace - b).toNat := by
  have hB : 0 < f.binade := Nat.two_pow_pos _
  have hge := fun r hr h => near_ge f s m p b hbp hbl r hr h
  have hle := fun r h => near_le f s m p b hbp hbl r h
  generalize f.nearest s m p % f.signWeight = g at *
  generalize m * 2 ^ (p - b).toNat = V at *
  generalize 2 ^ (f.leastPlace - b).toNat = U at *
  refine ⟨?_, ?_⟩
  · have h1 : V ≤ val f.binade (g + 1) * U := by
      rcases Nat.lt_or_ge V (val f.binade (g + 1) * U) with h | h
      · omega
      · have := hge (g + 1) (by omega) h; omega
    have h2 := Nat.mul_le_mul_left f.binade h1
    have h3 := Nat.mul_le_mul_right U (gap_le hB g)
    rw [Nat.mul_assoc] at h3
    omega
  · rcases Nat.eq_zero_or_pos g with h0 | h0
    · have : val f.binade g = 0 := by rw [h0]; exact val_low hB 0 (by omega)
      rw [this, Nat.mul_zero, Nat.zero_mul]; exact Nat.zero_le _
    · have h1 : val f.binade (g - 1) * U ≤ V := by
        rcases Nat.lt_or_ge V (val f.binade (g - 1) * U) with h | h
        · have := hle (g - 1) (by omega); omega
        · exact h
      have h2 := Nat.mul_le_mul_left f.binade h1
      have h3 := Nat.mul_le_mul_right U (gap_le hB (g - 1))
      rw [show g - 1 + 1 = g by omega] at h3
      have h4 : val f.binade (g - 1) * U ≤ val f.binade g * U := Nat.mul_le_mul_right _ (val_mono hB (by omega))
      rw [Nat.add_mul, Nat.add_mul, Nat.mul_assoc f.binade (val f.binade (g - 1))] at h3
      rw [Nat.add_mul]
      omega
/-- What a finite word stands for, in units of its kind's last place. -/
def sgv (k : FloatKind) (c : Nat) : Int := sv (sgn k c) (vl k (mg k c))
abbrev uk (k : FloatKind) : Nat := (-k.format.leastPlace).toNat
theorem sgn_near (k : FloatKind) (z : Bool) (T : Nat) (e : Int) : sgn k (k.format.nearest z T e) = z := by
  have hi := k.format.infRung_lt
  unfold sgn Format.nearest
  split
  · exact word_sgn _ z _ (sw_pos _)
  · exact word_sgn _ z _ (by omega)
theorem read_sgn' {k : FloatKind} {c : Nat} {s : Bool} {m : Nat} {e : Int} (h : k.format.read c = .number s m e) : s = sgn k c := by
  have hn : isN k c = false := by unfold isN; rw [h]; rfl
  have := read_neg k c hn
  rw [h] at this; exact this
theorem fin_iff (k : FloatKind) (c : Nat) : isFin k c = true ↔ mg k c < k.format.infRung := by
  have hb := binade_le k
  refine ⟨fun h => ?_, fun h => ?_⟩
  · unfold isFin at h
    cases hr : k.format.read c with
    | number s m e => exact (read_val hb hr).2.2
    | infinity s => rw [hr] at h; cases h
    | nan s t => rw [hr] at h; cases h
  · obtain ⟨s, m, e, hr, _, _⟩ := fin_mg k h
    unfold isFin
    rw [hr]
theorem vl_null (k : FloatKind) : vl k 0 = 0 := by cases k <;> decide +kernel
theorem sv_abs1 (z : Bool) (x : Nat) : (sv z x).natAbs = x := by cases z <;> simp [sv]
theorem add_near3 (k : FloatKind) {a b : Nat} {s t : Bool} {m n : Nat} {i j : Int} (ra : k.format.read a = .number s m i) (rb : k.format.read b = .number t n j) (la : k.format.leastPlace ≤ i) (lb : k.format.leastPlace ≤ j)
    (va : m * 2 ^ (i - k.format.leastPlace).toNat = vl k (mg k a)) (vb : n * 2 ^ (j - k.format.leastPlace).toNat = vl k (mg k b)) (c : Nat) (t' : Bool)
    (h0 : c = k.format.nearest (if Ieee.signed s m (i - min i j).toNat + Ieee.signed t' n (j - min i j).toNat = 0 then s && t' else decide (Ieee.signed s m (i - min i j).toNat + Ieee.signed t' n (j - min i j).toNat < 0)) (Ieee.signed s m (i - min i j).toNat + Ieee.signed t' n (j - min i j).toNat).natAbs (min i j)) :
    ∃ z T e, c = k.format.nearest z T e ∧ k.format.leastPlace ≤ e ∧ T * 2 ^ (e - k.format.leastPlace).toNat = (sv s (vl k (mg k a)) + sv t' (vl k (mg k b))).natAbs ∧
      (z = true → sv s (vl k (mg k a)) + sv t' (vl k (mg k b)) ≤ 0) ∧ (z = false → 0 ≤ sv s (vl k (mg k a)) + sv t' (vl k (mg k b))) := by
  refine ⟨_, _, _, h0, by omega, ?_⟩
  rw [signed_mul, signed_mul]
  have e1 : m * 2 ^ (i - k.format.leastPlace).toNat = m * 2 ^ (i - min i j).toNat * 2 ^ (min i j - k.format.leastPlace).toNat := pow_split (by omega) (by omega)
  have e2 : n * 2 ^ (j - k.format.leastPlace).toNat = n * 2 ^ (j - min i j).toNat * 2 ^ (min i j - k.format.leastPlace).toNat := pow_split (by omega) (by omega)
  rw [← va, ← vb, e1, e2]
  generalize m * 2 ^ (i - min i j).toNat = x
  generalize n * 2 ^ (j - min i j).toNat = y
  have hw : 0 < 2 ^ (min i j - k.format.leastPlace).toNat := Nat.two_pow_pos _
  generalize 2 ^ (min i j - k.format.leastPlace).toNat = w at hw
  have hw' : (0 : Int) < w := by omega
  have hs : (sv s (x * w) + sv t' (y * w)) = ((if s = true then -(x : Int) else x) + (if t' = true then -(y : Int) else y)) * (w : Int) := by
    unfold sv
    cases s <;> cases t' <;> simp [Int.add_mul, Int.neg_mul]
  rw [hs]
  generalize ((if s = true then -(x : Int) else x) + (if t' = true then -(y : Int) else y)) = tot
  refine ⟨by rw [Int.natAbs_mul, Int.natAbs_natCast], fun hz => ?_, fun hz => ?_⟩
  · by_cases h : tot = 0
    · rw [h, Int.zero_mul]; exact Int.le_refl _
    · rw [if_neg h] at hz
      have := of_decide_eq_true hz
      exact Int.le_of_lt (Int.mul_neg_of_neg_of_pos this hw')
  · by_cases h : tot = 0
    · rw [h, Int.zero_mul]; exact Int.le_refl _
    · rw [if_neg h] at hz
      have := of_decide_eq_false hz
      exact Int.mul_nonneg (by omega) (by omega)
/-- A word next to a whole number of units: told once for sums and differences. -/
theorem near_int (k : FloatKind) {c : Nat} {z : Bool} {T : Nat} {e : Int} {X : Int} (h1 : c = k.format.nearest z T e) (h2 : k.format.leastPlace ≤ e) (h3 : T * 2 ^ (e - k.format.leastPlace).toNat = X.natAbs) (h4 : z = true → X ≤ 0) (h5 : z = false → 0 ≤ X) (r : Nat) (hr : r < k.format.infRung) (hX : X.natAbs ≤ vl k r) :
    isFin k c = true ∧ (k.format.binade : Int) * (X - sgv k c) ≤ (sgv k c).natAbs + k.format.binade ∧ (k.format.binade : Int) * (sgv k c - X) ≤ (sgv k c).natAbs + k.format.binade ∧ (0 ≤ X → 0 ≤ sgv k c) ∧ (X ≤ 0 → sgv k c ≤ 0) := by
  have hle : mg k c ≤ r := by rw [h1]; exact near_le0 k h2 (by rw [h3]; exact hX)
  have hf : mg k c < k.format.infRung := by omega
  have he := near_err k.format z T e k.format.leastPlace h2 (Int.le_refl _) (by rw [← h1]; exact hf)
  rw [← h1, h3, Int.sub_self] at he
  simp only [Int.toNat_zero, Nat.pow_zero, Nat.mul_one] at he
  have hs : sgn k c = z := by rw [h1]; exact sgn_near k z T e
  have habs : (sgv k c).natAbs = vl k (mg k c) := by unfold sgv; exact sv_abs1 _ _
  have e0 : X = 0 → vl k (mg k c) = 0 := fun h => by
    have : mg k c ≤ 0 := by rw [h1]; exact near_le0 k h2 (by rw [h3, h]; exact Nat.zero_le _)
    rw [show mg k c = 0 by omega]; exact vl_null k
  refine ⟨(fin_iff k c).2 hf, ?_⟩
  rw [habs]
  change k.format.binade * X.natAbs ≤ k.format.binade * vl k (mg k c) + vl k (mg k c) + k.format.binade ∧ k.format.binade * vl k (mg k c) ≤ k.format.binade * X.natAbs + (vl k (mg k c) + k.format.binade) at he
  obtain ⟨q1, q2⟩ := he
  generalize vl k (mg k c) = v at *
  have c1 : ((k.format.binade * X.natAbs : Nat) : Int) ≤ ((k.format.binade * v + v + k.format.binade : Nat) : Int) := by exact_mod_cast q1
  have c2 : ((k.format.binade * v : Nat) : Int) ≤ ((k.format.binade * X.natAbs + (v + k.format.binade) : Nat) : Int) := by exact_mod_cast q2
  rw [Int.natCast_add, Int.natCast_add, Int.natCast_mul, Int.natCast_mul] at c1
  rw [Int.natCast_add, Int.natCast_add, Int.natCast_mul, Int.natCast_mul] at c2
  cases z with
  | false =>
    have hX0 := h5 rfl
    have ea : (X.natAbs : Int) = X := Int.natAbs_of_nonneg hX0
    rw [ea] at c1 c2
    have ev : sgv k c = (v : Int) := by
      have := habs
      unfold sgv at this ⊢
      rw [hs] at this ⊢
      simp only [sv, Bool.false_eq_true, if_false] at this ⊢
      omega
    rw [ev, Int.mul_sub, Int.mul_sub]
    refine ⟨by omega, by omega, fun _ => by omega, fun h => ?_⟩
    have := e0 (by omega); omega
  | true =>
    have hX0 := h4 rfl
    have ea : (X.natAbs : Int) = -X := by omega
    rw [ea, Int.mul_neg] at c1 c2
    have ev : sgv k c = -(v : Int) := by
      have := habs
      unfold sgv at this ⊢
      rw [hs] at this ⊢
      simp only [sv, if_true] at this ⊢
      omega
    rw [ev, Int.mul_sub, Int.mul_sub, Int.mul_neg]
    refine ⟨by omega, by omega, fun h => ?_, fun _ => by omega⟩
    have := e0 (by omega); omega
theorem add_int (k : FloatKind) {a b : Nat} (ha : isFin k a = true) (hb : isFin k b = true) (r : Nat) (hr : r < k.format.infRung) (hX : (sgv k a + sgv k b).natAbs ≤ vl k r) :
    isFin k (fadd k a b) = true ∧ (k.format.binade : Int) * (sgv k a + sgv k b - sgv k (fadd k a b)) ≤ (sgv k (fadd k a b)).natAbs + k.format.binade ∧ (k.format.binade : Int) * (sgv k (fadd k a b) - (sgv k a + sgv k b)) ≤ (sgv k (fadd k a b)).natAbs + k.format.binade ∧ (0 ≤ sgv k a + sgv k b → 0 ≤ sgv k (fadd k a b)) ∧ (sgv k a + sgv k b ≤ 0 → sgv k (fadd k a b) ≤ 0) := by
  obtain ⟨s, m, i, ra, la, va⟩ := fin_mg k ((fin_iff k a).1 ha)
  obtain ⟨t, n, j, rb, lb, vb⟩ := fin_mg k ((fin_iff k b).1 hb)
  obtain ⟨z, T, e, e1, e2, e3, e4, e5⟩ := add_near3 k ra rb la lb va vb (fadd k a b) t (by unfold fadd Format.add; rw [ra, rb]; rfl)
  rw [read_sgn' ra, read_sgn' rb] at e3 e4 e5
  exact near_int k e1 e2 e3 e4 e5 r hr hX
theorem sub_int (k : FloatKind) {a b : Nat} (ha : isFin k a = true) (hb : isFin k b = true) (r : Nat) (hr : r < k.format.infRung) (hX : (sgv k a - sgv k b).natAbs ≤ vl k r) :
    isFin k (fsub k a b) = true ∧ (k.format.binade : Int) * (sgv k a - sgv k b - sgv k (fsub k a b)) ≤ (sgv k (fsub k a b)).natAbs + k.format.binade ∧ (k.format.binade : Int) * (sgv k (fsub k a b) - (sgv k a - sgv k b)) ≤ (sgv k (fsub k a b)).natAbs + k.format.binade ∧ (0 ≤ sgv k a - sgv k b → 0 ≤ sgv k (fsub k a b)) ∧ (sgv k a - sgv k b ≤ 0 → sgv k (fsub k a b) ≤ 0) := by
  obtain ⟨s, m, i, ra, la, va⟩ := fin_mg k ((fin_iff k a).1 ha)
  obtain ⟨t, n, j, rb, lb, vb⟩ := fin_mg k ((fin_iff k b).1 hb)
  obtain ⟨z, T, e, e1, e2, e3, e4, e5⟩ := add_near3 k ra rb la lb va vb (fsub k a b) (!t) (by unfold fsub Format.sub; rw [ra, rb]; rfl)
  have hn : ∀ v : Nat, sv (!(sgn k b)) v = - sv (sgn k b) v := fun v => by cases sgn k b <;> simp [sv]
  rw [read_sgn' ra, read_sgn' rb, hn] at e3 e4 e5
  exact near_int k e1 e2 e3 e4 e5 r hr hX
theorem sv_mul (s t : Bool) (x y : Nat) : sv s x * sv t y = sv (s ^^ t) (x * y) := by
  cases s <;> cases t <;> simp [sv, Int.mul_neg, Int.neg_mul]
theorem mul_int (k : FloatKind) {a b : Nat} (ha : isFin k a = true) (hb : isFin k b = true) (r : Nat) (hr : r < k.format.infRung) (hX : (sgv k a * sgv k b).natAbs ≤ vl k r * 2 ^ uk k) :
    isFin k (fmul k a b) = true ∧ (k.format.binade : Int) * (sgv k a * sgv k b - sgv k (fmul k a b) * 2 ^ uk k) ≤ ((sgv k (fmul k a b)).natAbs + k.format.binade) * 2 ^ uk k ∧ (k.format.binade : Int) * (sgv k (fmul k a b) * 2 ^ uk k - sgv k a * sgv k b) ≤ ((sgv k (fmul k a b)).natAbs + k.format.binade) * 2 ^ uk k ∧ (0 ≤ sgv k a * sgv k b → 0 ≤ sgv k (fmul k a b)) ∧ (sgv k a * sgv k b ≤ 0 → sgv k (fmul k a b) ≤ 0) := by
  obtain ⟨s, m, i, ra, la, va⟩ := fin_mg k ((fin_iff k a).1 ha)
  obtain ⟨t, n, j, rb, lb, vb⟩ := fin_mg k ((fin_iff k b).1 hb)
  have hL := least_neg k
  have hP : sgv k a * sgv k b = sv (s ^^ t) (vl k (mg k a) * vl k (mg k b)) := by unfold sgv; rw [sv_mul, ← read_sgn' ra, ← read_sgn' rb]
  rw [hP, sv_abs1] at hX
  have hle := mul_le k ((fin_iff k a).1 ha) ((fin_iff k b).1 hb) hX
  have hf : mg k (fmul k a b) < k.format.infRung := by omega
  have hm := mul_read k ra rb
  have he := near_err k.format (s ^^ t) (m * n) (i + j) (k.format.leastPlace + k.format.leastPlace) (by omega) (by omega) (by rw [← hm]; exact hf)
  rw [← hm] at he
  rw [show (i + j - (k.format.leastPlace + k.format.leastPlace)).toNat = (i - k.format.leastPlace).toNat + (j - k.format.leastPlace).toNat by omega, Nat.pow_add, show (k.format.leastPlace - (k.format.leastPlace + k.format.leastPlace)).toNat = uk k by show _ = (-k.format.leastPlace).toNat; omega] at he
  rw [show m * n * (2 ^ (i - k.format.leastPlace).toNat * 2 ^ (j - k.format.leastPlace).toNat) = m * 2 ^ (i - k.format.leastPlace).toNat * (n * 2 ^ (j - k.format.leastPlace).toNat) by ac_rfl, va, vb] at he
  have hs : sgn k (fmul k a b) = (s ^^ t) := by rw [hm]; exact sgn_near k _ _ _
  have habs : (sgv k (fmul k a b)).natAbs = vl k (mg k (fmul k a b)) := by unfold sgv; exact sv_abs1 _ _
  have hY : sgv k (fmul k a b) = sv (s ^^ t) (vl k (mg k (fmul k a b))) := by unfold sgv; rw [hs]
  refine ⟨(fin_iff k _).2 hf, ?_⟩
  have z0 : vl k (mg k a) * vl k (mg k b) = 0 → vl k (mg k (fmul k a b)) = 0 := fun h => by
    have : mg k (fmul k a b) ≤ 0 := mul_le k ((fin_iff k a).1 ha) ((fin_iff k b).1 hb) (by rw [h]; exact Nat.zero_le _)
    rw [show mg k (fmul k a b) = 0 by omega]; exact vl_null k
  rw [habs, hP, hY]
  change k.format.binade * (vl k (mg k a) * vl k (mg k b)) ≤ (k.format.binade * vl k (mg k (fmul k a b)) + vl k (mg k (fmul k a b)) + k.format.binade) * 2 ^ uk k ∧ k.format.binade * vl k (mg k (fmul k a b)) * 2 ^ uk k ≤ k.format.binade * (vl k (mg k a) * vl k (mg k b)) + (vl k (mg k (fmul k a b)) + k.format.binade) * 2 ^ uk k at he
  obtain ⟨q1, q2⟩ := he
  generalize vl k (mg k (fmul k a b)) = v at *
  generalize vl k (mg k a) * vl k (mg k b) = P at *
  generalize (s ^^ t) = z at *
  have hu : ((2 ^ uk k : Nat) : Int) = (2 : Int) ^ uk k := by exact_mod_cast rfl
  rw [← hu]
  generalize 2 ^ uk k = U at *
  generalize k.format.binade = B at *
  have c1 : (B : Int) * P ≤ (B * v + v + B) * U := by exact_mod_cast q1
  have c2 : (B : Int) * v * U ≤ B * P + (v + B) * U := by exact_mod_cast q2
  have w0 : (0 : Int) ≤ v := Int.natCast_nonneg _
  have p0 : (0 : Int) ≤ P := Int.natCast_nonneg _
  cases z with
  | false =>
    simp only [sv, Bool.false_eq_true, if_false]
    refine ⟨by grind, by grind, fun _ => w0, fun h => ?_⟩
    have := z0 (by omega); omega
  | true =>
    simp only [sv, if_true]
    refine ⟨by grind, by grind, fun h => ?_, fun _ => by omega⟩
    have := z0 (by omega); omega
theorem step_dn {B v0 v1 D W : Nat} (h1 : v0 * D ≤ W) (h3 : B * v1 ≤ B * v0 + v0 + B) (h4 : v0 ≤ v1) : B * v1 * D ≤ B * W + (v1 + B) * D := by
  have a1 := Nat.mul_le_mul_left B h1
  have a2 := Nat.mul_le_mul_right D h3
  have a3 := Nat.mul_le_mul_right D h4
  rw [Nat.add_mul, Nat.add_mul, Nat.mul_assoc B v0] at a2
  rw [Nat.add_mul]
  omega
theorem div_int (k : FloatKind) {a b : Nat} (ha : isFin k a = true) (hb : isFin k b = true) (hb0 : 0 < sgv k b) (r : Nat) (hr : r < k.format.infRung) (hX : (sgv k a).natAbs * 2 ^ uk k ≤ vl k r * (sgv k b).natAbs) :
    isFin k (fdiv k a b) = true ∧ (k.format.binade : Int) * (sgv k a * 2 ^ uk k - sgv k (fdiv k a b) * sgv k b) ≤ ((sgv k (fdiv k a b)).natAbs + k.format.binade) * sgv k b ∧ (k.format.binade : Int) * (sgv k (fdiv k a b) * sgv k b - sgv k a * 2 ^ uk k) ≤ ((sgv k (fdiv k a b)).natAbs + k.format.binade) * sgv k b ∧ (0 ≤ sgv k a → 0 ≤ sgv k (fdiv k a b)) ∧ (sgv k a ≤ 0 → sgv k (fdiv k a b) ≤ 0) := by
  have fa := (fin_iff k a).1 ha
  have fb := (fin_iff k b).1 hb
  obtain ⟨s, m, i, ra, la, va⟩ := fin_mg k fa
  obtain ⟨t, n, j, rb, lb, vb⟩ := fin_mg k fb
  have hB : 0 < k.format.binade := Nat.two_pow_pos _
  have av : (sgv k a).natAbs = vl k (mg k a) := by unfold sgv; exact sv_abs1 _ _
  have bv : (sgv k b).natAbs = vl k (mg k b) := by unfold sgv; exact sv_abs1 _ _
  have b0 : vl k (mg k b) ≠ 0 := by rw [← bv]; omega
  have bs : sgv k b = (vl k (mg k b) : Int) := by omega
  have bt : sgn k b = false := by
    cases h : sgn k b with
    | false => rfl
    | true => unfold sgv at hb0; rw [h] at hb0; simp only [sv, if_true] at hb0; omega
  rw [av, bv] at hX
  have hle := div_le k fa fb b0 hX
  have hf : mg k (fdiv k a b) < k.format.infRung := by omega
  have hm := div_read k ra rb (vl_pos_mant vb b0)
  have hs : sgn k (fdiv k a b) = sgn k a := by
    have : sgn k (fdiv k a b) = (s ^^ t) := by rw [hm]; exact sgn_near k _ _ _
    rw [this, read_sgn' ra, read_sgn' rb, bt]; simp
  have habs : (sgv k (fdiv k a b)).natAbs = vl k (mg k (fdiv k a b)) := by unfold sgv; exact sv_abs1 _ _
  have z0 : vl k (mg k a) = 0 → vl k (mg k (fdiv k a b)) = 0 := fun h => by
    have : mg k (fdiv k a b) ≤ 0 := div_le k fa fb b0 (by rw [h, Nat.zero_mul]; exact Nat.zero_le _)
    rw [show mg k (fdiv k a b) = 0 by omega]; exact vl_null k
  have q1 : k.format.binade * (vl k (mg k a) * 2 ^ uk k) ≤ (k.format.binade * vl k (mg k (fdiv k a b)) + vl k (mg k (fdiv k a b)) + k.format.binade) * vl k (mg k b) := by
    have h1 : vl k (mg k a) * 2 ^ uk k ≤ vl k (mg k (fdiv k a b) + 1) * vl k (mg k b) := by
      by_cases h0 : vl k (mg k a) = 0
      · rw [h0, Nat.zero_mul]; exact Nat.zero_le _
      · rcases Nat.lt_or_ge (vl k (mg k a) * 2 ^ uk k) (vl k (mg k (fdiv k a b) + 1) * vl k (mg k b)) with h | h
        · omega
        · have := div_ge k fa fb b0 (by omega) h0 h; omega
    have h2 := Nat.mul_le_mul_left k.format.binade h1
    have h3 := Nat.mul_le_mul_right (vl k (mg k b)) (gap_le hB (mg k (fdiv k a b)))
    rw [Nat.mul_assoc] at h3
    exact Nat.le_trans h2 h3
  have q2 : k.format.binade * vl k (mg k (fdiv k a b)) * vl k (mg k b) ≤ k.format.binade * (vl k (mg k a) * 2 ^ uk k) + (vl k (mg k (fdiv k a b)) + k.format.binade) * vl k (mg k b) := by
    rcases Nat.eq_zero_or_pos (mg k (fdiv k a b)) with h0 | h0
    · have : vl k (mg k (fdiv k a b)) = 0 := by rw [h0]; exact vl_null k
      rw [this, Nat.mul_zero, Nat.zero_mul]; exact Nat.zero_le _
    · have h1 : vl k (mg k (fdiv k a b) - 1) * vl k (mg k b) ≤ vl k (mg k a) * 2 ^ uk k := by
        rcases Nat.lt_or_ge (vl k (mg k a) * 2 ^ uk k) (vl k (mg k (fdiv k a b) - 1) * vl k (mg k b)) with h | h
        · have := div_le k fa fb b0 (Nat.le_of_lt h); omega
        · exact h
      have h3 := gap_le hB (mg k (fdiv k a b) - 1)
      rw [show mg k (fdiv k a b) - 1 + 1 = mg k (fdiv k a b) by omega] at h3
      exact step_dn h1 h3 (val_mono hB (by omega))
  refine ⟨(fin_iff k _).2 hf, ?_⟩
  have hA : sgv k a = sv (sgn k a) (vl k (mg k a)) := rfl
  have hY : sgv k (fdiv k a b) = sv (sgn k a) (vl k (mg k (fdiv k a b))) := by unfold sgv; rw [hs]
  rw [habs, hA, hY, bs]
  generalize vl k (mg k (fdiv k a b)) = v at *
  generalize vl k (mg k a) = P at *
  generalize vl k (mg k b) = D at *
  generalize sgn k a = z at *
  have hu : ((2 ^ uk k : Nat) : Int) = (2 : Int) ^ uk k := by exact_mod_cast rfl
  rw [← hu]
  generalize 2 ^ uk k = U at *
  generalize k.format.binade = B at *
  have c1 : (B : Int) * (P * U) ≤ (B * v + v + B) * D := by exact_mod_cast q1
  have c2 : (B : Int) * v * D ≤ B * (P * U) + (v + B) * D := by exact_mod_cast q2
  have w0 : (0 : Int) ≤ v := Int.natCast_nonneg _
  have p0 : (0 : Int) ≤ P := Int.natCast_nonneg _
  cases z with
  | false =>
    simp only [sv, Bool.false_eq_true, if_false]
    refine ⟨by grind, by grind, fun _ => w0, fun h => ?_⟩
    have := z0 (by omega); omega
  | true =>
    simp only [sv, if_true]
    refine ⟨by grind, by grind, fun h => ?_, fun _ => by omega⟩
    have := z0 (by omega); omega
/-- Short numbers are rungs. -/
theorem short_rung {B : Nat} (hB : 0 < B) : ∀ (τ μ : Nat), μ < 2 * B → ∃ r, val B r = μ * 2 ^ τ
  | 0, μ, h => ⟨μ, by rw [val_low hB μ h]; simp⟩
  | τ + 1, μ, h => by
    rcases Nat.lt_or_ge μ B with h1 | h1
    · obtain ⟨r, hr⟩ := short_rung hB τ (2 * μ) (by omega)
      exact ⟨r, by rw [hr, Nat.pow_succ]; ac_rfl⟩
    · exact ⟨(τ + 1) * B + μ, by rw [val_shift hB _ _ h1, val_low hB _ h]⟩
end Go.Proofs.Ytpglfnkkmafhbaa
