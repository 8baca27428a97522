/- How deep the middle is at most; powers of greater exponents. -/
import Derived.Test.YtlhfpjpgglfcfaaPg
set_option linter.unusedVariables false
set_option linter.unusedSimpArgs false
set_option linter.constructorNameAsVariable false
namespace Go.Proofs.Ytlhfpjpgglfcfaa
open Go.RowKit
set_option maxRecDepth 100000

/-! ### Roots from below -/
theorem rootFrom_max (n : Nat) : ∀ (t r : Nat), n < (r + 2 ^ t) * (r + 2 ^ t) → n < (Ieee.Datum.rootFrom n t r + 1) * (Ieee.Datum.rootFrom n t r + 1)
  | 0, r, h => by unfold Ieee.Datum.rootFrom; simpa using h
  | t + 1, r, h => by
    unfold Ieee.Datum.rootFrom
    dsimp only
    rw [Nat.one_shiftLeft]
    split
    · refine rootFrom_max n t _ ?_
      rw [Nat.pow_succ] at h
      rw [show r + 2 ^ t + 2 ^ t = r + 2 ^ t * 2 by omega]; exact h
    · rename_i h'
      exact rootFrom_max n t r (by omega)
theorem root_ge_pow (k : FloatKind) {c ρ : Nat} {j : Int} (hc : c < k.format.infRung) (hρ : ρ ≤ k.format.infRung) (hj : k.format.leastPlace ≤ j) (hj2 : k.format.leastPlace ≤ 2 * j) (hv : vl k ρ = 2 ^ (j - k.format.leastPlace).toNat)
    (h : 2 ^ (2 * j - k.format.leastPlace).toNat ≤ vl k c) : ρ ≤ mg k (fsqrt k c) := by
  obtain ⟨m, i, rc, lc, vc⟩ := pos_read k hc
  have hm : m ≠ 0 := by
    intro e; rw [e, Nat.zero_mul] at vc
    have := Nat.two_pow_pos (2 * j - k.format.leastPlace).toNat
    omega
  unfold fsqrt Ieee.Format.sqrt
  rw [rc]
  simp only [Ieee.Datum.root]
  rw [if_neg hm]
  simp only [Bool.false_eq_true, if_false, Option.map_some, Option.getD_some]
  generalize hmore : 2 * (k.format.fractionBits + 2) - m.log2 + ((i - ((2 * (k.format.fractionBits + 2) - m.log2 : Nat) : Int)) % 2).toNat = more
  have hev : (i - (more : Int)) % 2 = 0 := by rw [← hmore]; omega
  generalize hn : m <<< more = n
  generalize hw : Ieee.Datum.rootFrom n (n.log2 / 2 + 1) 0 = whole
  have hmax : n < (whole + 1) * (whole + 1) := by
    rw [← hw]
    refine rootFrom_max n _ 0 ?_
    rw [Nat.zero_add, ← Nat.pow_add]
    exact Nat.lt_of_lt_of_le Nat.lt_log2_self (Nat.pow_le_pow_right (by omega) (by omega))
  have hn2 : n = m * 2 ^ more := by rw [← hn, Nat.shiftLeft_eq]
  generalize hh : (i - (more : Int)) / 2 = h2
  have hi : i - (more : Int) = 2 * h2 := by omega
  have hn1 : 0 < n := by rw [hn2]; exact Nat.mul_pos (by omega) (Nat.two_pow_pos _)
  have hw1 : 1 ≤ whole := by
    rcases Nat.eq_zero_or_pos whole with e | e
    · rw [e] at hmax; omega
    · exact e
  show ρ ≤ mg k (k.format.nearest false (2 * whole + (whole * whole != n).toNat) (h2 - 1))
  generalize hb : min (h2 - 1) k.format.leastPlace = b
  refine near_ge k.format false _ _ b (by omega) (by omega) ρ hρ ?_
  show vl k ρ * _ ≤ _
  rw [hv, ← Nat.pow_add, show (j - k.format.leastPlace).toNat + (k.format.leastPlace - b).toNat = (j - b).toNat by omega]
  have key : 2 ^ (j - b).toNat ≤ whole * 2 ^ (h2 - b).toNat := by
    rcases Int.lt_or_le j h2 with hlt | hge
    · have : 2 ^ (j - b).toNat ≤ 2 ^ (h2 - b).toNat := Nat.pow_le_pow_right (by omega) (by omega)
      exact Nat.le_trans this (Nat.le_mul_of_pos_left _ hw1)
    · have h3 : 2 ^ ((j - h2).toNat + (j - h2).toNat) ≤ n := by
        refine Nat.le_of_mul_le_mul_right (c := 2 ^ (i - k.format.leastPlace).toNat) ?_ (Nat.two_pow_pos _)
        rw [← Nat.pow_add, hn2, Nat.mul_right_comm, vc]
        refine Nat.le_trans (Nat.le_of_eq ?_) (Nat.mul_le_mul_right _ h)
        rw [← Nat.pow_add]; congr 1; omega
      have h4 : 2 ^ (j - h2).toNat ≤ whole := by
        rcases Nat.lt_or_ge whole (2 ^ (j - h2).toNat) with h5 | h5
        · exfalso
          have := Nat.mul_le_mul (show whole + 1 ≤ 2 ^ (j - h2).toNat by omega) (show whole + 1 ≤ 2 ^ (j - h2).toNat by omega)
          rw [← Nat.pow_add] at this
          omega
        · exact h5
      rw [show (j - b).toNat = (j - h2).toNat + (h2 - b).toNat by omega, Nat.pow_add]
      exact Nat.mul_le_mul_right _ h4
  refine Nat.le_trans key ?_
  rw [show (h2 - b).toNat = (h2 - 1 - b).toNat + 1 by omega, Nat.pow_succ]
  rw [show whole * (2 ^ (h2 - 1 - b).toNat * 2) = 2 * whole * 2 ^ (h2 - 1 - b).toNat by ac_rfl]
  exact Nat.mul_le_mul_right _ (by omega)
theorem pow_join (a b c : Nat) (h : a + b = c) : (2 : Nat) ^ a * 2 ^ b = 2 ^ c := by rw [← h, Nat.pow_add]
theorem fdown_ge {x r : Nat} (hx : mg .f64 x < FloatKind.f64.format.infRung) (hr : r ≤ FloatKind.f32.format.infRung) (h : vl .f32 r * 2 ^ 925 ≤ vl .f64 (mg .f64 x)) : r ≤ mg .f32 (fdown x) := by
  obtain ⟨s, m, e, hd, l, v⟩ := fin_mg .f64 hx
  rw [least64] at l v
  rw [fdown_num hd]
  refine near_ge FloatKind.f32.format s m e (-1074) l (by rw [least32]; omega) r hr ?_
  rw [v, least32, show (-149 - -1074 : Int).toNat = 925 from rfl]
  exact h
theorem vl_pow (k : FloatKind) (j : Nat) (h : 1 ≤ j) : vl k (j * k.format.binade) = k.format.binade * 2 ^ (j - 1) := by
  have hB : 0 < k.format.binade := Nat.two_pow_pos _
  have h1 : k.format.binade ≤ j * k.format.binade := Nat.le_mul_of_pos_left _ h
  unfold vl val
  rw [if_neg (by omega), Nat.mul_mod_left, Nat.mul_div_cancel _ hB, Nat.add_zero]
def p32 (j : Nat) : Nat := 1065353216 + j * 8388608
theorem p32_eq (j : Nat) : p32 j = (127 + j) * 8388608 := by unfold p32; omega
theorem vl_p32 (j : Nat) : vl .f32 (p32 j) = 2 ^ (149 + j) := by
  have h := vl_pow .f32 (127 + j) (by omega)
  rw [show FloatKind.f32.format.binade = 8388608 by decide +kernel] at h
  rw [p32_eq, h, show (8388608 : Nat) = 2 ^ 23 by decide, ← Nat.pow_add]; congr 1; omega
def p64 (j : Nat) : Nat := 4607182418800017408 + j * 4503599627370496
theorem p64_eq (j : Nat) : p64 j = (1023 + j) * 4503599627370496 := by unfold p64; omega
theorem vl_p64 (j : Nat) : vl .f64 (p64 j) = 2 ^ (1074 + j) := by
  have h := vl_pow .f64 (1023 + j) (by omega)
  rw [show FloatKind.f64.format.binade = 4503599627370496 by decide +kernel] at h
  rw [p64_eq, h, show (4503599627370496 : Nat) = 2 ^ 52 by decide, ← Nat.pow_add]; congr 1; omega
/-- The root of what is at least two to the power of 2j. -/
theorem froot_ge (c j : Nat) (hc : c < FloatKind.f32.format.infRung) (hj : j ≤ 60) (h : p32 (2 * j) ≤ c) : p32 j ≤ mg .f32 (froot c) := by
  have hm := pos_sgn .f32 hc
  have g1 : p64 (2 * j) ≤ FloatKind.f64.format.infRung := by rw [inf64]; unfold p64; omega
  have g2 : p64 j ≤ FloatKind.f64.format.infRung := by rw [inf64]; unfold p64; omega
  have g3 : p32 j < FloatKind.f32.format.infRung := by rw [inf32]; unfold p32; omega
  obtain ⟨m, e, rc, lc, vc⟩ := pos_read .f32 hc
  have hf : mg .f32 c < FloatKind.f32.format.infRung := by rw [hm]; exact hc
  have h1 : p64 (2 * j) ≤ mg .f64 (fup c) := by
    refine fup_ge hf g1 ?_
    rw [vl_p64, hm, show 1074 + 2 * j = (149 + 2 * j) + 925 by omega, Nat.pow_add, ← vl_p32]
    exact Nat.mul_le_mul_right _ (vl_le .f32 h)
  have h2 := (fup_zero c hf).2
  have hp : mg .f64 (fup c) = fup c := by rw [fup_num rc]; exact near_pos _ _ _
  rw [hp] at h1 h2
  have h3 : p64 j ≤ mg .f64 (fsqrt .f64 (fup c)) := by
    refine root_ge_pow .f64 (j := (j : Int)) (by rw [inf64]; omega) g2 (by rw [least64]; omega) (by rw [least64]; omega) ?_ ?_
    · rw [vl_p64, least64]; congr 1; omega
    · have := vl_le .f64 h1
      rw [vl_p64] at this
      rw [least64, show (2 * (j : Int) - -1074).toNat = 1074 + 2 * j by omega]; exact this
  rcases Nat.lt_or_ge (mg .f64 (fsqrt .f64 (fup c))) FloatKind.f64.format.infRung with hs | hs
  · refine fdown_ge hs (Nat.le_of_lt g3) ?_
    have := vl_le .f64 h3
    rw [vl_p64] at this
    rw [vl_p32, pow_join (149 + j) 925 (1074 + j) (by omega)]; exact this
  · have hni : isFin .f64 (fsqrt .f64 (fup c)) = false := by rw [q_fin_iff]; exact decide_eq_false (by omega)
    have hnn : isFin .f32 (froot c) = false := by
      unfold froot
      unfold isFin at hni
      cases hd : FloatKind.f64.format.read (fsqrt .f64 (fup c)) with
      | number s m e => rw [hd] at hni; cases hni
      | nan s t =>
        have : isN .f64 (fsqrt .f64 (fup c)) = true := by unfold isN; rw [hd]; rfl
        unfold fdown; rw [if_pos this]; decide +kernel
      | infinity s =>
        have h5 : isN .f64 (fsqrt .f64 (fup c)) = false := by unfold isN; rw [hd]; rfl
        unfold fdown
        rw [if_neg (by rw [h5]; decide)]
        show isFin .f32 (FloatKind.f32.format.write (FloatKind.f64.format.read (fsqrt .f64 (fup c)))) = false
        rw [hd]; cases s <;> decide +kernel
    rw [q_fin_iff] at hnn
    have := of_decide_eq_false hnn
    omega
/-! ### What is finite comes of what is finite -/
theorem not_fin_read {k : FloatKind} {c : Nat} (h : isFin k c = false) : (∃ s, k.format.read c = .infinity s) ∨ ∃ s t, k.format.read c = .nan s t := by
  unfold isFin at h
  cases hd : k.format.read c with
  | number s m e => rw [hd] at h; cases h
  | nan s t => exact .inr ⟨s, t, rfl⟩
  | infinity s => exact .inl ⟨s, rfl⟩
theorem inf_nofin (k : FloatKind) (s : Bool) : isFin k (k.format.write (.infinity s)) = false := by cases k <;> cases s <;> decide +kernel
theorem nan_nofin (k : FloatKind) : isFin k (nanOf k) = false := by cases k <;> decide +kernel
theorem opt_nofin (k : FloatKind) (o : Option Ieee.Datum) (h : o = none ∨ ∃ s, o = some (.infinity s)) : isFin k ((o.map k.format.write).getD (nanOf k)) = false := by
  rcases h with h | ⟨s, h⟩
  · rw [h]; exact nan_nofin k
  · rw [h]; exact inf_nofin k s
theorem fin_mul {k : FloatKind} {a b : Nat} (h : isFin k (fmul k a b) = true) : isFin k a = true ∧ isFin k b = true := by
  have key : (isFin k a = false ∨ isFin k b = false) → isFin k (fmul k a b) = false := by
    intro hh
    refine opt_nofin k _ ?_
    rcases hh with hh | hh
    · rcases not_fin_read hh with ⟨s, e⟩ | ⟨s, t, e⟩
      · rw [e]; cases hb : k.format.read b with
        | nan s t => exact .inl rfl
        | infinity t => exact .inr ⟨_, rfl⟩
        | number t n j => simp only [Ieee.Datum.product]; split; exact .inl rfl; exact .inr ⟨_, rfl⟩
      · rw [e]; exact .inl rfl
    · rcases not_fin_read hh with ⟨s, e⟩ | ⟨s, t, e⟩
      · rw [e]; cases ha : k.format.read a with
        | nan s t => exact .inl rfl
        | infinity t => exact .inr ⟨_, rfl⟩
        | number t n j => simp only [Ieee.Datum.product]; split; exact .inl rfl; exact .inr ⟨_, rfl⟩
      · rw [e]; cases ha : k.format.read a <;> exact .inl rfl
  cases ha : isFin k a with
  | false => rw [key (.inl ha)] at h; cases h
  | true =>
    cases hb : isFin k b with
    | false => rw [key (.inr hb)] at h; cases h
    | true => exact ⟨rfl, rfl⟩
theorem fin_add {k : FloatKind} {a b : Nat} (h : isFin k (fadd k a b) = true) : isFin k a = true ∧ isFin k b = true := by
  have key : (isFin k a = false ∨ isFin k b = false) → isFin k (fadd k a b) = false := by
    intro hh
    refine opt_nofin k _ ?_
    rcases hh with hh | hh
    · rcases not_fin_read hh with ⟨s, e⟩ | ⟨s, t, e⟩
      · rw [e]; cases hb : k.format.read b with
        | nan s t => exact .inl rfl
        | infinity t => simp only [Ieee.Datum.sum]; split; exact .inr ⟨_, rfl⟩; exact .inl rfl
        | number t n j => exact .inr ⟨_, rfl⟩
      · rw [e]; exact .inl rfl
    · rcases not_fin_read hh with ⟨s, e⟩ | ⟨s, t, e⟩
      · rw [e]; cases ha : k.format.read a with
        | nan s t => exact .inl rfl
        | infinity t => simp only [Ieee.Datum.sum]; split; exact .inr ⟨_, rfl⟩; exact .inl rfl
        | number t n j => exact .inr ⟨_, rfl⟩
      · rw [e]; cases ha : k.format.read a <;> exact .inl rfl
  cases ha : isFin k a with
  | false => rw [key (.inl ha)] at h; cases h
  | true =>
    cases hb : isFin k b with
    | false => rw [key (.inr hb)] at h; cases h
    | true => exact ⟨rfl, rfl⟩
theorem fin_root {c : Nat} (h : isFin .f32 (froot c) = true) : isFin .f32 c = true := by
  cases hc : isFin .f32 c with
  | true => rfl
  | false =>
    have h1 : isFin .f64 (fup c) = false := by rw [fin_up, hc]
    have h2 : isFin .f64 (fsqrt .f64 (fup c)) = false := by
      refine opt_nofin .f64 _ ?_
      rcases not_fin_read h1 with ⟨s, e⟩ | ⟨s, t, e⟩
      · rw [e]; cases s
        · exact .inr ⟨_, rfl⟩
        · exact .inl rfl
      · rw [e]; exact .inl rfl
    unfold froot at h
    rcases not_fin_read h2 with ⟨s, e⟩ | ⟨s, t, e⟩
    · have h5 : isN .f64 (fsqrt .f64 (fup c)) = false := by unfold isN; rw [e]; rfl
      unfold fdown at h
      rw [if_neg (by rw [h5]; decide)] at h
      have h6 : isFin .f32 (FloatKind.f32.format.write (FloatKind.f64.format.read (fsqrt .f64 (fup c)))) = true := h
      rw [e, inf_nofin] at h6; cases h6
    · have h5 : isN .f64 (fsqrt .f64 (fup c)) = true := by unfold isN; rw [e]; rfl
      unfold fdown at h
      rw [if_pos h5, nan_nofin] at h; cases h
theorem fin_lt {k : FloatKind} {c : Nat} (h : isFin k c = true) : mg k c < k.format.infRung := by rw [q_fin_iff] at h; exact of_decide_eq_true h
end Go.Proofs.Ytlhfpjpgglfcfaa
