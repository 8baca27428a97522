/- Halves: a division by two is a product with a half. -/
import Derived.Test.YtlhfpjpgglfcfaaPa
set_option linter.unusedVariables false
set_option linter.unusedSimpArgs false
set_option linter.constructorNameAsVariable false
namespace Go.Proofs.Ytlhfpjpgglfcfaa
open Go.RowKit Ieee
theorem log2_shift {m : Nat} (h : m ≠ 0) (a : Nat) : (m * 2 ^ a).log2 = m.log2 + a := by
  have h2 : m * 2 ^ a ≠ 0 := Nat.mul_ne_zero h (by have := Nat.two_pow_pos a; omega)
  have l1 := (Nat.log2_eq_iff h (k := m.log2)).1 rfl
  refine (Nat.log2_eq_iff h2).2 ⟨?_, ?_⟩
  · rw [Nat.pow_add]; exact Nat.mul_le_mul_right _ l1.1
  · rw [show m.log2 + a + 1 = m.log2 + 1 + a from by omega, Nat.pow_add]; exact Nat.mul_lt_mul_of_pos_right l1.2 (Nat.two_pow_pos _)
theorem cut_zero (s : Bool) (n : Nat) : Toward.even.cut s n 0 = n := by
  simp [Toward.cut, Nat.mod_one]
theorem cut_exact (s : Bool) (m a d : Nat) (hm : m ≠ 0) (h : d ≤ a) : Toward.even.cut s (m * 2 ^ a) d = m * 2 ^ (a - d) := by
  have hp : 0 < 2 ^ d := Nat.two_pow_pos d
  have e : m * 2 ^ a = m * 2 ^ (a - d) * 2 ^ d := by rw [Nat.mul_assoc, ← Nat.pow_add, show a - d + d = a from by omega]
  have hmin : min d ((m * 2 ^ a).log2 + 2) = d := by rw [log2_shift hm]; omega
  unfold Toward.cut
  simp only [hmin, Nat.one_shiftLeft]
  rw [e, Nat.mul_div_cancel _ hp, Nat.mul_mod_left]
  have : ¬ (2 ^ d < 2 * 0) := by omega
  have h2 : (2 ^ d == 2 * 0) = false := by simp
  simp [h2]
theorem cut_shift (s : Bool) (m a d : Nat) (hm : m ≠ 0) : Toward.even.cut s (m * 2 ^ a) (d + a) = Toward.even.cut s m d := by
  have hp : 0 < 2 ^ a := Nat.two_pow_pos a
  have hmin : min (d + a) ((m * 2 ^ a).log2 + 2) = min d (m.log2 + 2) + a := by rw [log2_shift hm]; omega
  unfold Toward.cut
  simp only [hmin, Nat.one_shiftLeft]
  generalize min d (m.log2 + 2) = g
  rw [Nat.pow_add, Nat.mul_div_mul_right _ _ hp, Nat.mul_mod_mul_right]
  have h1 : decide (2 ^ g * 2 ^ a < 2 * (m % 2 ^ g * 2 ^ a)) = decide (2 ^ g < 2 * (m % 2 ^ g)) := by
    rw [← Nat.mul_assoc, decide_eq_decide]
    exact Nat.mul_lt_mul_right hp
  have h2 : (2 ^ g * 2 ^ a == 2 * (m % 2 ^ g * 2 ^ a)) = (2 ^ g == 2 * (m % 2 ^ g)) := by
    rw [← Nat.mul_assoc, Bool.eq_iff_iff]
    simp only [beq_iff_eq]
    exact Nat.mul_left_inj (by omega)
  simp only [h1, h2]
/-- The word nearest to a number, written in another way. -/
theorem nearest_shift (f : Format) (s : Bool) (m a : Nat) (p : Int) : f.nearest s (m * 2 ^ a) (p - a) = f.nearest s m p := by
  by_cases hm : m = 0
  · subst hm; simp [Format.nearest]
  have h2 : m * 2 ^ a ≠ 0 := Nat.mul_ne_zero hm (by have := Nat.two_pow_pos a; omega)
  unfold Format.nearest
  rw [if_neg hm, if_neg h2, log2_shift hm, show p - (a : Int) + ((m.log2 + a : Nat) : Int) - f.fractionBits = p + m.log2 - f.fractionBits from by omega]
  generalize max (p + (m.log2 : Int) - f.fractionBits) f.leastPlace = last
  have key : Toward.even.cut s ((m * 2 ^ a) <<< (p - a - last).toNat) (last - (p - a)).toNat = Toward.even.cut s (m <<< (p - last).toNat) (last - p).toNat := by
    simp only [Nat.shiftLeft_eq]
    rcases Int.lt_or_le p last with h | h
    · rw [show (p - (a : Int) - last).toNat = 0 from by omega, show (p - last).toNat = 0 from by omega, show (last - (p - (a : Int))).toNat = (last - p).toNat + a from by omega, Nat.pow_zero, Nat.mul_one, Nat.mul_one]
      exact cut_shift s m a _ hm
    · rw [show (last - p).toNat = 0 from by omega, cut_zero]
      rcases Int.lt_or_le (p - a) last with h1 | h1
      · rw [show (p - (a : Int) - last).toNat = 0 from by omega, Nat.pow_zero, Nat.mul_one, cut_exact s m a _ hm (by omega), show a - (last - (p - (a : Int))).toNat = (p - last).toNat from by omega]
      · rw [show (last - (p - (a : Int))).toNat = 0 from by omega, cut_zero, Nat.mul_assoc, ← Nat.pow_add, show a + (p - (a : Int) - last).toNat = (p - last).toNat from by omega]
  simp only [key]
theorem read_two : FloatKind.f32.format.read 1073741824 = .number false 8388608 (-22) := by decide +kernel
theorem read_half : FloatKind.f32.format.read 1056964608 = .number false 8388608 (-24) := by decide +kernel
theorem read_lt (k : FloatKind) (x : Nat) {s : Bool} {m : Nat} {e : Int} (h : k.format.read x = .number s m e) : m < 2 * k.format.binade := by
  unfold Format.read at h
  simp only at h
  split at h
  · cases h; omega
  · split at h
    · cases h
      have := Nat.mod_lt (x % k.format.signWeight) (show 0 < k.format.binade from Nat.two_pow_pos _)
      omega
    · split at h <;> cases h
theorem fdiv_two (x : Nat) : fdiv .f32 x 1073741824 = fmul .f32 1056964608 x := by
  unfold fdiv fmul Format.div Format.mul
  rw [read_two, read_half]
  cases hx : FloatKind.f32.format.read x with
  | nan s t => rfl
  | infinity s => simp [Datum.quotient, Datum.product]
  | number s m i =>
    have hm := read_lt .f32 x hx
    have hb : FloatKind.f32.format.binade = 2 ^ 23 := by decide +kernel
    have hfb : FloatKind.f32.format.fractionBits = 23 := by decide +kernel
    rw [hb] at hm
    simp only [Datum.quotient, Datum.product, Option.map_some, Option.getD_some, Format.write, Bool.xor_false, Bool.false_xor, hfb]
    rw [if_neg (by decide)]
    simp only [Option.map_some, Option.getD_some, Format.write]
    by_cases h0 : m = 0
    · subst h0; simp [Format.nearest]
    have hl : m.log2 ≤ 23 := by
      have := (Nat.log2_lt h0 (k := 24)).2 (by omega)
      omega
    have hlog : Nat.log2 8388608 = 23 := by decide +kernel
    rw [hlog]
    have hmore : 23 + 2 + 23 - m.log2 = 23 + (25 - m.log2) := by omega
    rw [hmore]
    generalize 25 - m.log2 = q
    have e1 : m <<< (23 + q) = m * 2 ^ q * 8388608 := by rw [Nat.shiftLeft_eq, Nat.pow_add, Nat.mul_comm (2 ^ 23), ← Nat.mul_assoc]
    rw [e1, Nat.mul_div_cancel _ (by decide), Nat.mul_mod_left]
    simp only [bne_self_eq_false, Bool.toNat_false, Nat.add_zero]
    rw [show 2 * (m * 2 ^ q) = m * 2 ^ (q + 1) from by rw [Nat.pow_succ]; ac_rfl, show i - -22 - ((23 + q : Nat) : Int) - 1 = (i - 1) - ((q + 1 : Nat) : Int) from by omega, nearest_shift,
      show 8388608 * m = m * 2 ^ 23 from by rw [Nat.mul_comm], show (-24 : Int) + i = (i - 1) - ((23 : Nat) : Int) from by omega, nearest_shift]
end Go.Proofs.Ytlhfpjpgglfcfaa
