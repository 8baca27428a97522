/- Bounds of sums, products and quotients by rungs. -/
import Derived.Test.YtpglfnkkmafhbaaMd
set_option linter.unusedVariables false
set_option linter.unusedSimpArgs false
namespace Go.Proofs.Ytpglfnkkmafhbaa
open Go.RowKit
open Ieee
abbrev mg (k : FloatKind) (c : Nat) : Nat := c % k.format.signWeight
abbrev vl (k : FloatKind) (r : Nat) : Nat := val k.format.binade r
theorem least_neg (k : FloatKind) : k.format.leastPlace ≤ 0 := by cases k <;> decide +kernel
theorem fin_mg (k : FloatKind) {c : Nat} (h : mg k c < k.format.infRung) : ∃ s m e, k.format.read c = .number s m e ∧ k.format.leastPlace ≤ e ∧ m * 2 ^ (e - k.format.leastPlace).toNat = vl k (mg k c) := by
  obtain ⟨s, m, e, hr⟩ := read_finite h
  obtain ⟨h1, h2, _⟩ := read_val (binade_le k) hr
  exact ⟨s, m, e, hr, h1, h2⟩
theorem mul_read (k : FloatKind) {a b : Nat} {s t : Bool} {m n : Nat} {i j : Int} (ha : k.format.read a = .number s m i) (hb : k.format.read b = .number t n j) : fmul k a b = k.format.nearest (s ^^ t) (m * n) (i + j) := by
  unfold fmul Format.mul
  rw [ha, hb]; rfl
theorem mul_le (k : FloatKind) {a b r : Nat} (ha : mg k a < k.format.infRung) (hb : mg k b < k.format.infRung) (h : vl k (mg k a) * vl k (mg k b) ≤ vl k r * 2 ^ (-k.format.leastPlace).toNat) : mg k (fmul k a b) ≤ r := by
  obtain ⟨s, m, i, ra, la, va⟩ := fin_mg k ha
  obtain ⟨t, n, j, rb, lb, vb⟩ := fin_mg k hb
  have hL := least_neg k
  rw [mul_read k ra rb]
  refine near_le k.format _ _ _ (k.format.leastPlace + k.format.leastPlace) (by omega) (by omega) r ?_
  rw [show (i + j - (k.format.leastPlace + k.format.leastPlace)).toNat = (i - k.format.leastPlace).toNat + (j - k.format.leastPlace).toNat by omega, Nat.pow_add, show (k.format.leastPlace - (k.format.leastPlace + k.format.leastPlace)).toNat = (-k.format.leastPlace).toNat by omega]
  rw [show m * n * (2 ^ (i - k.format.leastPlace).toNat * 2 ^ (j - k.format.leastPlace).toNat) = m * 2 ^ (i - k.format.leastPlace).toNat * (n * 2 ^ (j - k.format.leastPlace).toNat) by ac_rfl, va, vb]
  exact h
theorem mul_ge (k : FloatKind) {a b r : Nat} (ha : mg k a < k.format.infRung) (hb : mg k b < k.format.infRung) (hr : r ≤ k.format.infRung) (h : vl k r * 2 ^ (-k.format.leastPlace).toNat ≤ vl k (mg k a) * vl k (mg k b)) : r ≤ mg k (fmul k a b) := by
  obtain ⟨s, m, i, ra, la, va⟩ := fin_mg k ha
  obtain ⟨t, n, j, rb, lb, vb⟩ := fin_mg k hb
  have hL := least_neg k
  rw [mul_read k ra rb]
  refine near_ge k.format _ _ _ (k.format.leastPlace + k.format.leastPlace) (by omega) (by omega) r hr ?_
  rw [show (i + j - (k.format.leastPlace + k.format.leastPlace)).toNat = (i - k.format.leastPlace).toNat + (j - k.format.leastPlace).toNat by omega, Nat.pow_add, show (k.format.leastPlace - (k.format.leastPlace + k.format.leastPlace)).toNat = (-k.format.leastPlace).toNat by omega]
  rw [show m * n * (2 ^ (i - k.format.leastPlace).toNat * 2 ^ (j - k.format.leastPlace).toNat) = m * 2 ^ (i - k.format.leastPlace).toNat * (n * 2 ^ (j - k.format.leastPlace).toNat) by ac_rfl, va, vb]
  exact h
/-- What a number stands for, in units of the last place of all. -/
def sv (s : Bool) (v : Nat) : Int := if s then -(v : Int) else v
theorem sum_read (k : FloatKind) {s t : Bool} {m n : Nat} {i j : Int} (la : k.format.leastPlace ≤ i) (lb : k.format.leastPlace ≤ j) :
    ∃ z T e, (Datum.number s m i).sum (.number t n j) = some (.number z T e) ∧ k.format.leastPlace ≤ e ∧ T * 2 ^ (e - k.format.leastPlace).toNat = (sv s (m * 2 ^ (i - k.format.leastPlace).toNat) + sv t (n * 2 ^ (j - k.format.leastPlace).toNat)).natAbs := by
  refine ⟨_, _, _, rfl, by omega, ?_⟩
  rw [signed_mul, signed_mul]
  have e1 : m * 2 ^ (i - k.format.leastPlace).toNat = m * 2 ^ (i - min i j).toNat * 2 ^ (min i j - k.format.leastPlace).toNat := pow_split (by omega) (by omega)
  have e2 : n * 2 ^ (j - k.format.leastPlace).toNat = n * 2 ^ (j - min i j).toNat * 2 ^ (min i j - k.format.leastPlace).toNat := pow_split (by omega) (by omega)
  rw [e1, e2]
  generalize m * 2 ^ (i - min i j).toNat = x
  generalize n * 2 ^ (j - min i j).toNat = y
  generalize hw : 2 ^ (min i j - k.format.leastPlace).toNat = w
  have : (sv s (x * w) + sv t (y * w)) = ((if s = true then -(x : Int) else x) + (if t = true then -(y : Int) else y)) * (w : Int) := by
    unfold sv
    cases s <;> cases t <;> simp [Int.add_mul, Int.neg_mul]
  rw [this, Int.natAbs_mul, Int.natAbs_natCast]
theorem add_near (k : FloatKind) {a b : Nat} {s t : Bool} {m n : Nat} {i j : Int} (ra : k.format.read a = .number s m i) (rb : k.format.read b = .number t n j) (la : k.format.leastPlace ≤ i) (lb : k.format.leastPlace ≤ j)
    (va : m * 2 ^ (i - k.format.leastPlace).toNat = vl k (mg k a)) (vb : n * 2 ^ (j - k.format.leastPlace).toNat = vl k (mg k b)) :
    ∃ z T e, fadd k a b = k.format.nearest z T e ∧ k.format.leastPlace ≤ e ∧ T * 2 ^ (e - k.format.leastPlace).toNat = (sv s (vl k (mg k a)) + sv t (vl k (mg k b))).natAbs := by
  obtain ⟨z, T, e, h1, h2, h3⟩ := sum_read k (s := s) (t := t) (m := m) (n := n) la lb
  rw [va, vb] at h3
  refine ⟨z, T, e, ?_, h2, h3⟩
  unfold fadd Format.add
  rw [ra, rb, h1]; rfl
theorem sub_near (k : FloatKind) {a b : Nat} {s t : Bool} {m n : Nat} {i j : Int} (ra : k.format.read a = .number s m i) (rb : k.format.read b = .number t n j) (la : k.format.leastPlace ≤ i) (lb : k.format.leastPlace ≤ j)
    (va : m * 2 ^ (i - k.format.leastPlace).toNat = vl k (mg k a)) (vb : n * 2 ^ (j - k.format.leastPlace).toNat = vl k (mg k b)) :
    ∃ z T e, fsub k a b = k.format.nearest z T e ∧ k.format.leastPlace ≤ e ∧ T * 2 ^ (e - k.format.leastPlace).toNat = (sv s (vl k (mg k a)) + sv (!t) (vl k (mg k b))).natAbs := by
  obtain ⟨z, T, e, h1, h2, h3⟩ := sum_read k (s := s) (t := !t) (m := m) (n := n) la lb
  rw [va, vb] at h3
  refine ⟨z, T, e, ?_, h2, h3⟩
  unfold fsub Format.sub
  rw [ra, rb]
  simp only [Datum.opposite]
  rw [h1]; rfl
theorem sv_abs (s t : Bool) (x y : Nat) : (sv s x + sv t y).natAbs ≤ x + y := by
  unfold sv; cases s <;> cases t <;> simp <;> omega
theorem near_le0 (k : FloatKind) {z : Bool} {T : Nat} {e : Int} (le : k.format.leastPlace ≤ e) {r : Nat} (h : T * 2 ^ (e - k.format.leastPlace).toNat ≤ vl k r) : mg k (k.format.nearest z T e) ≤ r := by
  refine near_le k.format z T e k.format.leastPlace le (Int.le_refl _) r ?_
  rw [Int.sub_self]; simpa using h
theorem near_ge0 (k : FloatKind) {z : Bool} {T : Nat} {e : Int} (le : k.format.leastPlace ≤ e) {r : Nat} (hr : r ≤ k.format.infRung) (h : vl k r ≤ T * 2 ^ (e - k.format.leastPlace).toNat) : r ≤ mg k (k.format.nearest z T e) := by
  refine near_ge k.format z T e k.format.leastPlace le (Int.le_refl _) r hr ?_
  rw [Int.sub_self]; simpa using h
theorem add_le (k : FloatKind) {a b r : Nat} (ha : mg k a < k.format.infRung) (hb : mg k b < k.format.infRung) (h : vl k (mg k a) + vl k (mg k b) ≤ vl k r) : mg k (fadd k a b) ≤ r := by
  obtain ⟨s, m, i, ra, la, va⟩ := fin_mg k ha
  obtain ⟨t, n, j, rb, lb, vb⟩ := fin_mg k hb
  obtain ⟨z, T, e, h1, h2, h3⟩ := add_near k ra rb la lb va vb
  rw [h1]
  exact near_le0 k h2 (by rw [h3]; exact Nat.le_trans (sv_abs _ _ _ _) h)
theorem sub_le (k : FloatKind) {a b r : Nat} (ha : mg k a < k.format.infRung) (hb : mg k b < k.format.infRung) (h : vl k (mg k a) + vl k (mg k b) ≤ vl k r) : mg k (fsub k a b) ≤ r := by
  obtain ⟨s, m, i, ra, la, va⟩ := fin_mg k ha
  obtain ⟨t, n, j, rb, lb, vb⟩ := fin_mg k hb
  obtain ⟨z, T, e, h1, h2, h3⟩ := sub_near k ra rb la lb va vb
  rw [h1]
  exact near_le0 k h2 (by rw [h3]; exact Nat.le_trans (sv_abs _ _ _ _) h)
/-- Words below infinity: numbers not below zero. -/
theorem pos_sgn (k : FloatKind) {c : Nat} (h : c < k.format.infRung) : mg k c = c := by
  have := k.format.infRung_lt
  exact Nat.mod_eq_of_lt (by omega)
theorem pos_read (k : FloatKind) {c : Nat} (h : c < k.format.infRung) : ∃ m e, k.format.read c = .number false m e ∧ k.format.leastPlace ≤ e ∧ m * 2 ^ (e - k.format.leastPlace).toNat = vl k c := by
  have hi := k.format.infRung_lt
  have hc := pos_sgn k h
  obtain ⟨s, m, e, hr, l, v⟩ := fin_mg k (c := c) (by rw [hc]; exact h)
  have hs : s = false := by
    have hd : c / k.format.signWeight = 0 := Nat.div_eq_of_lt (by omega)
    unfold Format.read at hr
    dsimp only at hr
    rw [hd] at hr
    split at hr
    · injection hr with h1; exact h1.symm
    · split at hr
      · injection hr with h1; exact h1.symm
      · split at hr <;> cases hr
  subst hs
  exact ⟨m, e, hr, l, by rw [v, hc]⟩
theorem add_ge (k : FloatKind) {a b r : Nat} (ha : a < k.format.infRung) (hb : b < k.format.infRung) (hr : r ≤ k.format.infRung) (h : vl k r ≤ vl k a + vl k b) : r ≤ mg k (fadd k a b) := by
  obtain ⟨m, i, ra, la, va⟩ := pos_read k ha
  obtain ⟨n, j, rb, lb, vb⟩ := pos_read k hb
  obtain ⟨z, T, e, h1, h2, h3⟩ := add_near k ra rb la lb (by rw [va, pos_sgn k ha]) (by rw [vb, pos_sgn k hb])
  rw [h1]
  refine near_ge0 k h2 hr ?_
  rw [h3, pos_sgn k ha, pos_sgn k hb]
  simp only [sv, Bool.false_eq_true, if_false]
  omega
theorem sub_le_pos (k : FloatKind) {a b r : Nat} (ha : a < k.format.infRung) (hb : b < k.format.infRung) (h1 : vl k a ≤ vl k b + vl k r) (h2 : vl k b ≤ vl k a + vl k r) : mg k (fsub k a b) ≤ r := by
  obtain ⟨m, i, ra, la, va⟩ := pos_read k ha
  obtain ⟨n, j, rb, lb, vb⟩ := pos_read k hb
  obtain ⟨z, T, e, e1, e2, e3⟩ := sub_near k ra rb la lb (by rw [va, pos_sgn k ha]) (by rw [vb, pos_sgn k hb])
  rw [e1]
  refine near_le0 k e2 ?_
  rw [e3, pos_sgn k ha, pos_sgn k hb]
  simp only [sv, Bool.false_eq_true, if_false, Bool.not_false, if_true]
  omega
/-! ### Quotients -/
theorem log2_lt_of {a k : Nat} (h : a < 2 ^ k) (ha : a ≠ 0) : a.log2 < k := (Nat.log2_lt ha).2 h
theorem div_read (k : FloatKind) {a b : Nat} {s t : Bool} {m n : Nat} {i j : Int} (ha : k.format.read a = .number s m i) (hb : k.format.read b = .number t n j) (hn : n ≠ 0) :
    fdiv k a b = k.format.nearest (s ^^ t) (2 * ((m <<< (k.format.fractionBits + 2 + n.log2 - m.log2)) / n) + ((m <<< (k.format.fractionBits + 2 + n.log2 - m.log2)) % n != 0).toNat) (i - j - (k.format.fractionBits + 2 + n.log2 - m.log2 : Nat) - 1) := by
  unfold fdiv Format.div
  rw [ha, hb]
  simp only [Datum.quotient]
  rw [if_neg hn]; rfl
theorem mant_lt (k : FloatKind) {c : Nat} {s : Bool} {m : Nat} {e : Int} (h : k.format.read c = .number s m e) : m < 2 ^ (k.format.fractionBits + 1) := by
  have hB : 0 < k.format.binade := Nat.two_pow_pos _
  have h2 : 2 ^ (k.format.fractionBits + 1) = 2 * k.format.binade := by unfold Format.binade; rw [Nat.pow_succ, Nat.mul_comm]
  rw [h2]
  unfold Format.read at h
  dsimp only at h
  split at h
  · injection h with h1 h2 h3; omega
  · split at h
    · injection h with h1 h2 h3
      have := Nat.mod_lt (c % k.format.signWeight) hB
      omega
    · split at h <;> cases h
/-- A rung's magnitude is a short number at some place. -/
theorem val_short {B : Nat} (hB : 0 < B) (r : Nat) : ∃ μ τ, val B r = μ * 2 ^ τ ∧ μ < 2 * B := by
  unfold val
  split
  · exact ⟨r, 0, by simp, by omega⟩
  · exact ⟨_, _, rfl, by have := Nat.mod_lt r hB; omega⟩
/-- If a short number's magnitude is above a long one's, it is a whole number of the long one's units. -/
theorem short_whole {B w Q d : Nat} (h : ∃ μ τ, w = μ * 2 ^ τ ∧ μ < 2 * B) (hQ : 2 * B ≤ Q) (hw : Q * 2 ^ d ≤ w) : ∃ Y, w = Y * 2 ^ d := by
  obtain ⟨μ, τ, e, hm⟩ := h
  rcases Nat.le_total d τ with h1 | h1
  · exact ⟨μ * 2 ^ (τ - d), by rw [e, Nat.mul_assoc, ← Nat.pow_add]; congr 2; omega⟩
  · exfalso
    have h2 : μ * 2 ^ τ ≤ μ * 2 ^ d := Nat.mul_le_mul_left _ (Nat.pow_le_pow_right (by omega) h1)
    have h3 : μ * 2 ^ d < Q * 2 ^ d := Nat.mul_lt_mul_of_pos_right (by omega) (Nat.two_pow_pos _)
    omega
theorem quot_big (F m n : Nat) (hm : m ≠ 0) (hm2 : m < 2 ^ (F + 1)) (hn : n ≠ 0) : 2 * 2 ^ F ≤ (m <<< (F + 2 + n.log2 - m.log2)) / n := by
  have h1 : 2 ^ m.log2 ≤ m := Nat.log2_self_le hm
  have h2 : n < 2 ^ (n.log2 + 1) := Nat.lt_log2_self
  have h3 := log2_lt_of hm2 hm
  rw [Nat.shiftLeft_eq, Nat.le_div_iff_mul_le (by omega)]
  have h4 : 2 ^ m.log2 * 2 ^ (F + 2 + n.log2 - m.log2) = 2 * 2 ^ F * 2 ^ (n.log2 + 1) := by
    rw [← Nat.pow_add, show 2 * 2 ^ F = 2 ^ (F + 1) from by rw [Nat.pow_succ, Nat.mul_comm], ← Nat.pow_add]; congr 1; omega
  calc 2 * 2 ^ F * n ≤ 2 * 2 ^ F * 2 ^ (n.log2 + 1) := Nat.mul_le_mul_left _ (by omega)
    _ = 2 ^ m.log2 * 2 ^ (F + 2 + n.log2 - m.log2) := h4.symm
    _ ≤ m * 2 ^ (F + 2 + n.log2 - m.log2) := Nat.mul_le_mul_right _ h1
end Go.Proofs.Ytpglfnkkmafhbaa
