/- Bounds of quotients by rungs; the order of numbers by rungs. -/
import Derived.Test.YtpglfnkkmafhbaaMe
set_option linter.unusedVariables false
set_option linter.unusedSimpArgs false
namespace Go.Proofs.Ytpglfnkkmafhbaa
open Go.RowKit
open Ieee
theorem pow_move {x y a1 b1 a2 b2 : Nat} (h : x * 2 ^ a1 ≤ y * 2 ^ b1) (e : a1 + b2 = a2 + b1) : x * 2 ^ a2 ≤ y * 2 ^ b2 := by
  refine Nat.le_of_mul_le_mul_right (c := 2 ^ b1) ?_ (Nat.two_pow_pos _)
  rw [Nat.mul_assoc, ← Nat.pow_add, ← e, Nat.pow_add, ← Nat.mul_assoc]
  rw [show y * 2 ^ b2 * 2 ^ b1 = y * 2 ^ b1 * 2 ^ b2 by ac_rfl]
  exact Nat.mul_le_mul_right _ h
theorem stick_le {B W E n D : Nat} (hn : n ≠ 0) (hW : ∃ μ τ, W = μ * 2 ^ τ ∧ μ < 2 * B) (hQ : 2 * B ≤ D / n) (h : D * 2 ^ (E + 1) ≤ W * n) : (2 * (D / n) + (D % n != 0).toNat) * 2 ^ E ≤ W := by
  have dm := Nat.div_add_mod D n
  have hn' : 0 < n := by omega
  have h1 : D / n * 2 ^ (E + 1) * n ≤ W * n := by
    refine Nat.le_trans ?_ h
    rw [show D / n * 2 ^ (E + 1) * n = n * (D / n) * 2 ^ (E + 1) by ac_rfl]
    exact Nat.mul_le_mul_right _ (by omega)
  have h2 : D / n * 2 ^ (E + 1) ≤ W := Nat.le_of_mul_le_mul_right h1 hn'
  rcases Nat.eq_zero_or_pos (D % n) with h0 | h0
  · rw [h0]
    simp only [bne_self_eq_false, Bool.toNat_false, Nat.add_zero]
    rw [Nat.pow_succ] at h2
    rw [show 2 * (D / n) * 2 ^ E = D / n * (2 ^ E * 2) by ac_rfl]; exact h2
  · have hb : (D % n != 0) = true := by simp; omega
    rw [hb, Bool.toNat_true]
    obtain ⟨Y, hY⟩ := short_whole hW hQ h2
    have h3 : D / n * 2 ^ (E + 1) * n < W * n := by
      refine Nat.lt_of_lt_of_le ?_ h
      rw [show D / n * 2 ^ (E + 1) * n = n * (D / n) * 2 ^ (E + 1) by ac_rfl]
      exact Nat.mul_lt_mul_of_pos_right (by omega) (Nat.two_pow_pos _)
    have h4 : D / n * 2 ^ (E + 1) < Y * 2 ^ (E + 1) := by rw [← hY]; exact Nat.lt_of_mul_lt_mul_right h3
    have h5 : D / n < Y := Nat.lt_of_mul_lt_mul_right h4
    rw [hY, Nat.pow_succ, show Y * (2 ^ E * 2) = 2 * Y * 2 ^ E by ac_rfl]
    exact Nat.mul_le_mul_right _ (by omega)
theorem stick_ge {B W E n D : Nat} (hn : n ≠ 0) (hW : ∃ μ τ, W = μ * 2 ^ τ ∧ μ < 2 * B) (hQ : 2 * B ≤ D / n) (h : W * n ≤ D * 2 ^ (E + 1)) : W ≤ (2 * (D / n) + (D % n != 0).toNat) * 2 ^ E := by
  have dm := Nat.div_add_mod D n
  have ml := Nat.mod_lt D (show 0 < n by omega)
  have hn' : 0 < n := by omega
  rcases Nat.eq_zero_or_pos (D % n) with h0 | h0
  · rw [h0]
    simp only [bne_self_eq_false, Bool.toNat_false, Nat.add_zero]
    rw [show 2 * (D / n) * 2 ^ E = D / n * (2 ^ E * 2) by ac_rfl, ← Nat.pow_succ]
    refine Nat.le_of_mul_le_mul_right (c := n) ?_ hn'
    rw [show D / n * 2 ^ (E + 1) * n = n * (D / n) * 2 ^ (E + 1) by ac_rfl, show n * (D / n) = D by omega]
    exact h
  · have hb : (D % n != 0) = true := by simp; omega
    rw [hb, Bool.toNat_true]
    rcases Nat.lt_or_ge ((2 * (D / n) + 1) * 2 ^ E) W with hlt | hge
    · exfalso
      have h2 : D / n * 2 ^ (E + 1) ≤ W := by
        rw [Nat.pow_succ, show D / n * (2 ^ E * 2) = 2 * (D / n) * 2 ^ E by ac_rfl]
        rw [Nat.add_mul] at hlt; omega
      obtain ⟨Y, hY⟩ := short_whole hW hQ h2
      have h3 : W * n < (D / n + 1) * 2 ^ (E + 1) * n := by
        refine Nat.lt_of_le_of_lt h ?_
        rw [show (D / n + 1) * 2 ^ (E + 1) * n = (n * (D / n) + n) * 2 ^ (E + 1) by rw [Nat.mul_right_comm, Nat.add_mul, Nat.one_mul, Nat.mul_comm (D / n) n]]
        exact Nat.mul_lt_mul_of_pos_right (by omega) (Nat.two_pow_pos _)
      have h4 : W < (D / n + 1) * 2 ^ (E + 1) := Nat.lt_of_mul_lt_mul_right h3
      rw [hY] at h4
      have h5 : Y < D / n + 1 := Nat.lt_of_mul_lt_mul_right h4
      have h6 : Y * 2 ^ (E + 1) ≤ D / n * 2 ^ (E + 1) := Nat.mul_le_mul_right _ (by omega)
      rw [Nat.pow_succ, show D / n * (2 ^ E * 2) = 2 * (D / n) * 2 ^ E by ac_rfl] at h6
      rw [Nat.pow_succ] at hY
      rw [Nat.add_mul, Nat.one_mul] at hlt
      have := Nat.two_pow_pos E
      omega
    · exact hge
theorem short_mul {B w : Nat} (d : Nat) (h : ∃ μ τ, w = μ * 2 ^ τ ∧ μ < 2 * B) : ∃ μ τ, w * 2 ^ d = μ * 2 ^ τ ∧ μ < 2 * B := by
  obtain ⟨μ, τ, e, hm⟩ := h
  exact ⟨μ, τ + d, by rw [e, Nat.mul_assoc, ← Nat.pow_add], hm⟩
theorem vl_pos_mant {k : FloatKind} {c n : Nat} {j : Int} (h : n * 2 ^ (j - k.format.leastPlace).toNat = vl k c) (h0 : vl k c ≠ 0) : n ≠ 0 := by
  intro e; rw [e, Nat.zero_mul] at h; exact h0 h.symm
theorem div_le (k : FloatKind) {a b r : Nat} (ha : mg k a < k.format.infRung) (hb : mg k b < k.format.infRung) (h0 : vl k (mg k b) ≠ 0) (h : vl k (mg k a) * 2 ^ (-k.format.leastPlace).toNat ≤ vl k r * vl k (mg k b)) : mg k (fdiv k a b) ≤ r := by
  obtain ⟨s, m, i, ra, la, va⟩ := fin_mg k ha
  obtain ⟨t, n, j, rb, lb, vb⟩ := fin_mg k hb
  have hL := least_neg k
  have hB : 0 < k.format.binade := Nat.two_pow_pos _
  have hn := vl_pos_mant vb h0
  rw [div_read k ra rb hn]
  by_cases hm : m = 0
  · subst hm
    have e : 2 * (0 <<< (k.format.fractionBits + 2 + n.log2 - Nat.log2 0) / n) + (0 <<< (k.format.fractionBits + 2 + n.log2 - Nat.log2 0) % n != 0).toNat = 0 := by
      rw [Nat.zero_shiftLeft, Nat.zero_div, Nat.zero_mod]; rfl
    rw [e]
    refine near_le k.format _ 0 _ (min (i - j - ((k.format.fractionBits + 2 + n.log2 - Nat.log2 0 : Nat) : Int) - 1) k.format.leastPlace) (Int.min_le_left _ _) (Int.min_le_right _ _) r ?_
    rw [Nat.zero_mul]; exact Nat.zero_le _
  have hQ := quot_big k.format.fractionBits m n hm (mant_lt k ra) hn
  generalize hmore : k.format.fractionBits + 2 + n.log2 - m.log2 = more at hQ ⊢
  generalize hb' : min (i - j - (more : Int) - 1) (k.format.leastPlace - 1) = base
  refine near_le k.format _ _ _ base (by omega) (by omega) r ?_
  have hW := short_mul (k.format.leastPlace - base).toNat (val_short hB r)
  refine stick_le (B := k.format.binade) hn hW hQ ?_
  rw [Nat.shiftLeft_eq]
  rw [← va, ← vb] at h
  rw [Nat.mul_assoc, ← Nat.pow_add, ← Nat.mul_assoc] at h
  rw [Nat.mul_assoc, ← Nat.pow_add, show vl k r * 2 ^ (k.format.leastPlace - base).toNat * n = vl k r * n * 2 ^ (k.format.leastPlace - base).toNat by ac_rfl]
  exact pow_move h (by omega)
theorem div_ge (k : FloatKind) {a b r : Nat} (ha : mg k a < k.format.infRung) (hb : mg k b < k.format.infRung) (h0 : vl k (mg k b) ≠ 0) (hr : r ≤ k.format.infRung) (ha0 : vl k (mg k a) ≠ 0) (h : vl k r * vl k (mg k b) ≤ vl k (mg k a) * 2 ^ (-k.format.leastPlace).toNat) : r ≤ mg k (fdiv k a b) := by
  obtain ⟨s, m, i, ra, la, va⟩ := fin_mg k ha
  obtain ⟨t, n, j, rb, lb, vb⟩ := fin_mg k hb
  have hL := least_neg k
  have hB : 0 < k.format.binade := Nat.two_pow_pos _
  have hn := vl_pos_mant vb h0
  have hm := vl_pos_mant va ha0
  rw [div_read k ra rb hn]
  have hQ := quot_big k.format.fractionBits m n hm (mant_lt k ra) hn
  generalize hmore : k.format.fractionBits + 2 + n.log2 - m.log2 = more at hQ ⊢
  generalize hb' : min (i - j - (more : Int) - 1) (k.format.leastPlace - 1) = base
  refine near_ge k.format _ _ _ base (by omega) (by omega) r hr ?_
  have hW := short_mul (k.format.leastPlace - base).toNat (val_short hB r)
  refine stick_ge (B := k.format.binade) hn hW hQ ?_
  rw [Nat.shiftLeft_eq]
  rw [← va, ← vb] at h
  rw [show m * 2 ^ (i - k.format.leastPlace).toNat * 2 ^ (-k.format.leastPlace).toNat = m * 2 ^ ((i - k.format.leastPlace).toNat + (-k.format.leastPlace).toNat) by rw [Nat.mul_assoc, ← Nat.pow_add], ← Nat.mul_assoc] at h
  rw [Nat.mul_assoc m, ← Nat.pow_add, show vl k r * 2 ^ (k.format.leastPlace - base).toNat * n = vl k r * n * 2 ^ (k.format.leastPlace - base).toNat by ac_rfl]
  exact pow_move h (by omega)
/-! ### Words that are positive -/
theorem near_pos (f : Format) (m : Nat) (p : Int) : f.nearest false m p % f.signWeight = f.nearest false m p := by
  obtain ⟨g, e, _, _⟩ := near_g f false m p (min p f.leastPlace) (Int.min_le_left _ _) (Int.min_le_right _ _)
  have hi := f.infRung_lt
  rw [e]
  refine Nat.mod_eq_of_lt ?_
  unfold Format.word
  rw [if_neg (by decide)]
  omega
theorem vl_zero (k : FloatKind) {r : Nat} (h : vl k r = 0) : r = 0 := by
  have := val_self (B := k.format.binade) (Nat.two_pow_pos _) r
  unfold vl at h; omega
theorem vl_le (k : FloatKind) {r q : Nat} (h : r ≤ q) : vl k r ≤ vl k q := val_mono (Nat.two_pow_pos _) h
theorem vl_lt (k : FloatKind) {r q : Nat} (h : r < q) : vl k r < vl k q := val_lt (Nat.two_pow_pos _) h
theorem vl_le_iff (k : FloatKind) {r q : Nat} : vl k r ≤ vl k q ↔ r ≤ q := ⟨fun h => by
  rcases Nat.lt_or_ge q r with h1 | h1
  · have := vl_lt k h1; omega
  · exact h1, vl_le k⟩
theorem div_pos (k : FloatKind) {a b : Nat} (ha : a < k.format.infRung) (hb : b < k.format.infRung) (h0 : vl k b ≠ 0) : mg k (fdiv k a b) = fdiv k a b := by
  obtain ⟨m, i, ra, la, va⟩ := pos_read k ha
  obtain ⟨n, j, rb, lb, vb⟩ := pos_read k hb
  rw [div_read k ra rb (vl_pos_mant vb h0)]
  exact near_pos _ _ _
theorem mul_pos (k : FloatKind) {a b : Nat} (ha : a < k.format.infRung) (hb : b < k.format.infRung) : mg k (fmul k a b) = fmul k a b := by
  obtain ⟨m, i, ra, la, va⟩ := pos_read k ha
  obtain ⟨n, j, rb, lb, vb⟩ := pos_read k hb
  rw [mul_read k ra rb]
  exact near_pos _ _ _
/-! ### Order -/
theorem cmp_scale (x y : Int) (w : Nat) (hw : 0 < w) : compare (x * w) (y * w) = compare x y := by
  have hw' : (0 : Int) < w := by omega
  rcases Int.lt_trichotomy x y with h | h | h
  · rw [cmp_int, cmp_int, if_pos h, if_pos (Int.mul_lt_mul_of_pos_right h hw')]
  · subst h; rw [cmp_self, cmp_self]
  · have := Int.mul_lt_mul_of_pos_right h hw'
    rw [cmp_int, cmp_int, if_neg (by omega), if_neg (by omega), if_neg (by omega), if_neg (by omega)]
theorem order_fin (k : FloatKind) {a b : Nat} {s t : Bool} {m n : Nat} {i j : Int} (ra : k.format.read a = .number s m i) (rb : k.format.read b = .number t n j) (la : k.format.leastPlace ≤ i) (lb : k.format.leastPlace ≤ j)
    (va : m * 2 ^ (i - k.format.leastPlace).toNat = vl k (mg k a)) (vb : n * 2 ^ (j - k.format.leastPlace).toNat = vl k (mg k b)) : k.format.order a b = some (compare (sv s (vl k (mg k a))) (sv t (vl k (mg k b)))) := by
  unfold Format.order
  rw [ra, rb]
  simp only [Datum.order]
  rw [← va, ← vb, signed_mul, signed_mul]
  have e1 : m * 2 ^ (i - k.format.leastPlace).toNat = m * 2 ^ (i - min i j).toNat * 2 ^ (min i j - k.format.leastPlace).toNat := pow_split (by omega) (by omega)
  have e2 : n * 2 ^ (j - k.format.leastPlace).toNat = n * 2 ^ (j - min i j).toNat * 2 ^ (min i j - k.format.leastPlace).toNat := pow_split (by omega) (by omega)
  rw [e1, e2]
  generalize m * 2 ^ (i - min i j).toNat = x
  generalize n * 2 ^ (j - min i j).toNat = y
  have hw : 0 < 2 ^ (min i j - k.format.leastPlace).toNat := Nat.two_pow_pos _
  generalize 2 ^ (min i j - k.format.leastPlace).toNat = w at hw
  have q1 : sv s (x * w) = (if s = true then -(x : Int) else x) * w := by unfold sv; cases s <;> simp [Int.neg_mul]
  have q2 : sv t (y * w) = (if t = true then -(y : Int) else y) * w := by unfold sv; cases t <;> simp [Int.neg_mul]
  rw [q1, q2, cmp_scale _ _ _ hw]
theorem order_pos (k : FloatKind) {a b : Nat} (ha : a < k.format.infRung) (hb : b < k.format.infRung) : k.format.order a b = some (compare (vl k a : Int) (vl k b : Int)) := by
  obtain ⟨m, i, ra, la, va⟩ := pos_read k ha
  obtain ⟨n, j, rb, lb, vb⟩ := pos_read k hb
  rw [order_fin k ra rb la lb (by rw [va, pos_sgn k ha]) (by rw [vb, pos_sgn k hb]), pos_sgn k ha, pos_sgn k hb]; rfl
theorem flt_pos (k : FloatKind) {a b : Nat} (ha : a < k.format.infRung) (hb : b < k.format.infRung) : flt k a b = decide (a < b) := by
  unfold flt
  rw [order_pos k ha hb, cmp_int]
  rcases Nat.lt_trichotomy a b with h | h | h
  · have := vl_lt k h
    rw [if_pos (by omega), decide_eq_true h]; rfl
  · subst h; rw [if_neg (by omega), if_pos rfl, decide_eq_false (by omega)]; rfl
  · have := vl_lt k h
    rw [if_neg (by omega), if_neg (by omega), decide_eq_false (by omega)]; rfl
theorem fge_pos (k : FloatKind) {a b : Nat} (ha : a < k.format.infRung) (hb : b < k.format.infRung) : fge k a b = decide (b ≤ a) := by
  unfold fge
  rw [order_pos k ha hb, cmp_int]
  rcases Nat.lt_trichotomy a b with h | h | h
  · have := vl_lt k h
    rw [if_pos (by omega), decide_eq_false (by omega)]; rfl
  · subst h; rw [if_neg (by omega), if_pos rfl, decide_eq_true (by omega)]; rfl
  · have := vl_lt k h
    rw [if_neg (by omega), if_neg (by omega), decide_eq_true (by omega)]; rfl
end Go.Proofs.Ytpglfnkkmafhbaa
