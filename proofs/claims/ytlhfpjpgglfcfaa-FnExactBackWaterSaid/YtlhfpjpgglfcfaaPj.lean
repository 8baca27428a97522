/- How deep the middle is at most. -/
import Derived.Test.YtlhfpjpgglfcfaaPi
set_option linter.unusedVariables false
set_option linter.unusedSimpArgs false
set_option linter.constructorNameAsVariable false
namespace Go.Proofs.Ytlhfpjpgglfcfaa
open Go.RowKit
set_option maxRecDepth 100000

/-! ### Sums and their signs -/
theorem add_near2 (k : FloatKind) {a b : Nat} {s t : Bool} {m n : Nat} {i j : Int} (ra : k.format.read a = .number s m i) (rb : k.format.read b = .number t n j) (la : k.format.leastPlace ≤ i) (lb : k.format.leastPlace ≤ j)
    (va : m * 2 ^ (i - k.format.leastPlace).toNat = vl k (mg k a)) (vb : n * 2 ^ (j - k.format.leastPlace).toNat = vl k (mg k b)) :
    ∃ z T e, fadd k a b = k.format.nearest z T e ∧ k.format.leastPlace ≤ e ∧ T * 2 ^ (e - k.format.leastPlace).toNat = (sv s (vl k (mg k a)) + sv t (vl k (mg k b))).natAbs ∧
      (z = true → sv s (vl k (mg k a)) + sv t (vl k (mg k b)) < 0 ∨ s = true) ∧ (z = false → 0 ≤ sv s (vl k (mg k a)) + sv t (vl k (mg k b))) := by
  have h0 : k.format.add a b = some (k.format.nearest (if Ieee.signed s m (i - min i j).toNat + Ieee.signed t n (j - min i j).toNat = 0 then s && t else decide (Ieee.signed s m (i - min i j).toNat + Ieee.signed t n (j - min i j).toNat < 0)) (Ieee.signed s m (i - min i j).toNat + Ieee.signed t n (j - min i j).toNat).natAbs (min i j)) := by
    unfold Ieee.Format.add
    rw [ra, rb]; rfl
  refine ⟨_, _, _, by unfold fadd; rw [h0, Option.getD_some], by omega, ?_⟩
  rw [signed_mul, signed_mul]
  have e1 : m * 2 ^ (i - k.format.leastPlace).toNat = m * 2 ^ (i - min i j).toNat * 2 ^ (min i j - k.format.leastPlace).toNat := pow_split (by omega) (by omega)
  have e2 : n * 2 ^ (j - k.format.leastPlace).toNat = n * 2 ^ (j - min i j).toNat * 2 ^ (min i j - k.format.leastPlace).toNat := pow_split (by omega) (by omega)
  rw [← va, ← vb, e1, e2]
  generalize m * 2 ^ (i - min i j).toNat = x
  generalize n * 2 ^ (j - min i j).toNat = y
  have hw : 0 < 2 ^ (min i j - k.format.leastPlace).toNat := Nat.two_pow_pos _
  generalize 2 ^ (min i j - k.format.leastPlace).toNat = w at hw
  have hw' : (0 : Int) < w := by omega
  have hs : (sv s (x * w) + sv t (y * w)) = ((if s = true then -(x : Int) else x) + (if t = true then -(y : Int) else y)) * (w : Int) := by
    unfold sv
    cases s <;> cases t <;> simp [Int.add_mul, Int.neg_mul]
  rw [hs]
  generalize ((if s = true then -(x : Int) else x) + (if t = true then -(y : Int) else y)) = tot
  refine ⟨by rw [Int.natAbs_mul, Int.natAbs_natCast], fun hz => ?_, fun hz => ?_⟩
  · by_cases h : tot = 0
    · right
      rw [if_pos h] at hz
      cases s
      · cases hz
      · rfl
    · left
      rw [if_neg h] at hz
      have := of_decide_eq_true hz
      exact Int.mul_neg_of_neg_of_pos this hw'
  · by_cases h : tot = 0
    · rw [h, Int.zero_mul]; exact Int.le_refl _
    · rw [if_neg h] at hz
      have := of_decide_eq_false hz
      exact Int.mul_nonneg (by omega) (by omega)
theorem add_pos (k : FloatKind) {a b : Nat} (ha : a < k.format.infRung) (hb : b < k.format.infRung) : mg k (fadd k a b) = fadd k a b := by
  obtain ⟨m, i, ra, la, va⟩ := pos_read k ha
  obtain ⟨n, j, rb, lb, vb⟩ := pos_read k hb
  obtain ⟨z, T, e, e1, e2, e3, e4, e5⟩ := add_near2 k ra rb la lb (by rw [va, pos_sgn k ha]) (by rw [vb, pos_sgn k hb])
  cases z with
  | false => rw [e1]; exact near_pos _ _ _
  | true =>
    exfalso
    rcases e4 rfl with h | h
    · simp only [sv, Bool.false_eq_true, if_false] at h; omega
    · cases h
/-- Numbers that are not below zero, whatever zero's sign. -/
def okF (c : Nat) : Prop := mg .f32 c < FloatKind.f32.format.infRung ∧ (sgn .f32 c = true → vl .f32 (mg .f32 c) = 0)
theorem read_sgn {k : FloatKind} {c : Nat} {s : Bool} {m : Nat} {e : Int} (h : k.format.read c = .number s m e) : s = sgn k c := by
  have hn : isN k c = false := by unfold isN; rw [h]; rfl
  have := read_neg k c hn
  rw [h] at this; exact this
theorem ok_sv {c : Nat} (h : okF c) {s : Bool} {m : Nat} {e : Int} (hr : FloatKind.f32.format.read c = .number s m e) : sv s (vl .f32 (mg .f32 c)) = (vl .f32 (mg .f32 c) : Int) := by
  have hs := read_sgn hr
  unfold sv
  cases s with
  | false => rfl
  | true => rw [if_pos rfl, h.2 hs.symm]; rfl
theorem vl_zero0 (k : FloatKind) : vl k 0 = 0 := by cases k <;> decide +kernel
theorem ok_mul {a b : Nat} (ha : okF a) (hb : okF b) (hf : mg .f32 (fmul .f32 a b) < FloatKind.f32.format.infRung) : okF (fmul .f32 a b) := by
  refine ⟨hf, fun hs => ?_⟩
  obtain ⟨s, m, i, ra, la, va⟩ := fin_mg .f32 ha.1
  obtain ⟨t, n, j, rb, lb, vb⟩ := fin_mg .f32 hb.1
  have h1 : sgn .f32 (fmul .f32 a b) = (s ^^ t) := by
    rw [mul_read .f32 ra rb]
    exact encode_sgn .f32 (.number (s ^^ t) (m * n) (i + j)) rfl
  rw [h1] at hs
  have hz : vl .f32 (mg .f32 a) * vl .f32 (mg .f32 b) = 0 := by
    cases s with
    | true => rw [ha.2 (read_sgn ra).symm, Nat.zero_mul]
    | false =>
      cases t with
      | true => rw [hb.2 (read_sgn rb).symm, Nat.mul_zero]
      | false => cases hs
  have h2 := mul_le .f32 (r := 0) ha.1 hb.1 (by rw [hz]; exact Nat.zero_le _)
  rw [show mg .f32 (fmul .f32 a b) = 0 by omega]; exact vl_zero0 .f32
theorem add_ge_ok {a b r : Nat} (ha : okF a) (hb : okF b) (hr : r ≤ FloatKind.f32.format.infRung) (h : vl .f32 r ≤ vl .f32 (mg .f32 a) + vl .f32 (mg .f32 b)) : r ≤ mg .f32 (fadd .f32 a b) := by
  obtain ⟨s, m, i, ra, la, va⟩ := fin_mg .f32 ha.1
  obtain ⟨t, n, j, rb, lb, vb⟩ := fin_mg .f32 hb.1
  obtain ⟨z, T, e, e1, e2, e3⟩ := add_near .f32 ra rb la lb va vb
  rw [e1]
  refine near_ge0 .f32 e2 hr ?_
  rw [e3, ok_sv ha ra, ok_sv hb rb]; omega
theorem order_zero {c : Nat} (hf : isFin .f32 c = true) : ∃ s m e, FloatKind.f32.format.read c = .number s m e ∧ s = sgn .f32 c ∧ FloatKind.f32.format.order c 0 = some (compare (sv s (vl .f32 (mg .f32 c))) 0) := by
  obtain ⟨s, m, i, rc, lc, vc⟩ := fin_mg .f32 (fin_lt hf)
  obtain ⟨e, rz, lz⟩ := zero_read .f32
  have hz : vl .f32 (mg .f32 0) = 0 := by decide +kernel
  refine ⟨s, m, i, rc, read_sgn rc, ?_⟩
  rw [order_fin .f32 rc rz lc lz vc (by rw [hz, Nat.zero_mul]), hz]; rfl
theorem mass_ok {c : Nat} (h : isMass c = true) : okF c := by
  unfold isMass at h
  rw [Bool.and_eq_true] at h
  obtain ⟨s, m, e, rc, hs, ho⟩ := order_zero h.1
  refine ⟨fin_lt h.1, fun hg => ?_⟩
  rw [hg] at hs; subst hs
  have h2 := h.2
  unfold fge at h2
  rw [ho, cmp_int] at h2
  rcases Nat.eq_zero_or_pos (vl .f32 (mg .f32 c)) with h0 | h0
  · exact h0
  · unfold sv at h2
    rw [if_pos (by rw [if_pos rfl]; omega)] at h2
    cases h2
theorem len_pos {c : Nat} (h : isLen c = true) : okF c ∧ 1 ≤ vl .f32 (mg .f32 c) := by
  unfold isLen at h
  rw [Bool.and_eq_true] at h
  obtain ⟨s, m, e, rc, hs, ho⟩ := order_zero h.1
  have h2 := h.2
  unfold fgt at h2
  rw [ho, cmp_int] at h2
  have hs' : s = false := by
    cases s with
    | false => rfl
    | true =>
      unfold sv at h2
      rcases Nat.eq_zero_or_pos (vl .f32 (mg .f32 c)) with h0 | h0
      · rw [h0] at h2; cases h2
      · rw [if_pos (by rw [if_pos rfl]; omega)] at h2; cases h2
  subst hs'
  refine ⟨⟨fin_lt h.1, fun hg => by rw [← hs] at hg; cases hg⟩, ?_⟩
  rcases Nat.eq_zero_or_pos (vl .f32 (mg .f32 c)) with h0 | h0
  · rw [h0] at h2; cases h2
  · exact h0
/-! ### Doubled, many times -/
def q_dbl (r : Nat) : Nat := if r < 8388608 then 2 * r else r + 8388608
theorem q_vl_dbl (r : Nat) : vl .f32 (q_dbl r) = 2 * vl .f32 r := by
  have hb : FloatKind.f32.format.binade = 8388608 := by decide +kernel
  unfold vl q_dbl
  rw [hb]
  by_cases h : r < 8388608
  · rw [if_pos h, val_low (by omega) _ (by omega), val_low (by omega) _ (by omega)]
  · rw [if_neg h]
    have e := val_shift (B := 8388608) (by omega) 1 r (by omega)
    rw [show 1 * 8388608 + r = r + 8388608 by omega] at e
    rw [e]; omega
def shN : Nat → Nat → Nat
  | 0, r => r
  | n + 1, r => q_dbl (shN n r)
theorem vl_shN : ∀ (n r : Nat), vl .f32 (shN n r) = vl .f32 r * 2 ^ n
  | 0, r => by simp [shN]
  | n + 1, r => by
    show vl .f32 (q_dbl (shN n r)) = _
    rw [q_vl_dbl, vl_shN n r, Nat.pow_succ]; ac_rfl
theorem inf_p : FloatKind.f32.format.infRung = p32 128 := by decide +kernel
theorem root_sgn {c : Nat} (hc : c < FloatKind.f32.format.infRung) (hf : mg .f32 (froot c) < FloatKind.f32.format.infRung) : okF (froot c) := by
  refine ⟨hf, fun hs => ?_⟩
  exfalso
  obtain ⟨m, e, rc, lc, vc⟩ := pos_read .f32 hc
  have hp : mg .f64 (fup c) = fup c := by rw [fup_num rc]; exact near_pos _ _ _
  have h2 := (fup_zero c (by rw [pos_sgn .f32 hc]; exact hc)).2
  obtain ⟨m', e', rc', lc', vc'⟩ := pos_read .f64 (c := fup c) (by rw [inf64]; rw [hp] at h2; omega)
  have hsq : ∃ M E, fsqrt .f64 (fup c) = FloatKind.f64.format.write (.number false M E) := by
    unfold fsqrt Ieee.Format.sqrt
    rw [rc']
    simp only [Ieee.Datum.root]
    by_cases h0 : m' = 0
    · rw [if_pos h0]; exact ⟨_, _, rfl⟩
    · rw [if_neg h0]
      simp only [Bool.false_eq_true, if_false]
      exact ⟨_, _, rfl⟩
  obtain ⟨M, E, hw⟩ := hsq
  have hn : isN .f64 (fsqrt .f64 (fup c)) = false := by rw [hw]; exact isN_encode .f64 _ rfl
  have hs1 : sgn .f64 (fsqrt .f64 (fup c)) = false := by rw [hw]; exact encode_sgn .f64 (.number false M E) rfl
  have hneg := read_neg .f64 _ hn
  rw [hs1] at hneg
  unfold froot fdown at hs
  rw [if_neg (by rw [hn]; decide)] at hs
  have h5 := encode_sgn .f32 (FloatKind.f64.decode (fsqrt .f64 (fup c))) hn
  rw [hs] at h5
  have h6 : (FloatKind.f64.format.read (fsqrt .f64 (fup c))).neg = true := h5.symm
  rw [hneg] at h6; cases h6
/-! ### The middle -/
theorem pow_le_join {a b c : Nat} (h : a ≤ b + c) : (2 : Nat) ^ a ≤ 2 ^ b * 2 ^ c := by
  rw [← Nat.pow_add]; exact Nat.pow_le_pow_right (by omega) h
theorem area_wet (a b c d x : Nat) (ha : okF a) (hb : okF b) (hx : okF x) (hx1 : 1 ≤ vl .f32 (mg .f32 x)) (fa : isFin .f32 (sl04Area a b c d x) = true) (fw : isFin .f32 (sl04Wet a b c d x) = true) :
    vl .f32 (mg .f32 (sl04Area a b c d x)) ≤ 2 ^ 73 * vl .f32 (mg .f32 (sl04Wet a b c d x)) ∧ vl .f32 (mg .f32 (sl04Wet a b c d x)) ≠ 0 := by
  have eA : sl04Area a b c d x = fmul .f32 x (fadd .f32 a (fmul .f32 b x)) := rfl
  have eW : sl04Wet a b c d x = fadd .f32 a (fmul .f32 (fmul .f32 1073741824 x) (froot (fadd .f32 1065353216 (fmul .f32 b b)))) := rfl
  rw [eA] at fa ⊢
  rw [eW] at fw ⊢
  have fS := (fin_mul fa).2
  have fq := (fin_add fS).2
  have fP := (fin_add fw).2
  have fT := (fin_mul fP).1
  have fR := (fin_mul fP).2
  have fu := fin_root fR
  have fbb := (fin_add fu).2
  have hq := ok_mul hb hx (fin_lt fq)
  have htwo : okF 1073741824 := ⟨by decide +kernel, by decide +kernel⟩
  have hT := ok_mul htwo hx (fin_lt fT)
  have vtwo : vl .f32 (mg .f32 1073741824) = 2 ^ 150 := by decide +kernel
  have v1 : vl .f32 1065353216 = 2 ^ 149 := by decide +kernel
  have hone : (1065353216 : Nat) < FloatKind.f32.format.infRung := by decide +kernel
  -- the square is a positive word
  obtain ⟨s, m, i, rb, lb, vb⟩ := fin_mg .f32 hb.1
  have hbb : mg .f32 (fmul .f32 b b) = fmul .f32 b b := by
    rw [mul_read .f32 rb rb, Bool.xor_self]; exact near_pos _ _ _
  have lbb : fmul .f32 b b < FloatKind.f32.format.infRung := by have := fin_lt fbb; rw [hbb] at this; exact this
  have hu : mg .f32 (fadd .f32 1065353216 (fmul .f32 b b)) = fadd .f32 1065353216 (fmul .f32 b b) := add_pos .f32 hone lbb
  have lu : fadd .f32 1065353216 (fmul .f32 b b) < FloatKind.f32.format.infRung := by have := fin_lt fu; rw [hu] at this; exact this
  have hR := root_sgn lu (fin_lt fR)
  have hP := ok_mul hT hR (fin_lt fP)
  -- the root from below
  have rootJ : ∀ j, j ≤ 56 → (j = 0 ∨ p32 j ≤ mg .f32 b) → p32 j ≤ mg .f32 (froot (fadd .f32 1065353216 (fmul .f32 b b))) := by
    intro j hj hc
    refine froot_ge _ j lu (by omega) ?_
    rw [← hu]
    have g3 : p32 (2 * j) ≤ FloatKind.f32.format.infRung := by rw [inf32]; unfold p32; omega
    refine add_ge .f32 hone lbb g3 ?_
    rcases hc with h0 | h0
    · subst h0; exact Nat.le_trans (show vl .f32 (p32 (2 * 0)) ≤ vl .f32 1065353216 by decide +kernel) (Nat.le_add_right _ _)
    · have h1 : p32 (2 * j) ≤ mg .f32 (fmul .f32 b b) := by
        refine mul_ge .f32 hb.1 hb.1 g3 ?_
        have h2 := vl_le .f32 h0
        rw [vl_p32] at h2
        rw [vl_p32, unit32]
        refine Nat.le_trans (Nat.le_of_eq ?_) (Nat.mul_le_mul h2 h2)
        rw [← Nat.pow_add, ← Nat.pow_add]; congr 1; omega
      rw [hbb] at h1
      exact Nat.le_trans (vl_le .f32 h1) (Nat.le_add_left _ _)
  -- twice the depth, times the root
  have hTx : mg .f32 x ≤ mg .f32 (fmul .f32 1073741824 x) := by
    refine mul_ge .f32 htwo.1 hx.1 (Nat.le_of_lt hx.1) ?_
    rw [vtwo, unit32, Nat.mul_comm]
    exact Nat.mul_le_mul_right _ (by decide)
  have hPj : ∀ j, p32 j ≤ mg .f32 (froot (fadd .f32 1065353216 (fmul .f32 b b))) → vl .f32 (mg .f32 x) * 2 ^ j ≤ vl .f32 (mg .f32 (fmul .f32 (fmul .f32 1073741824 x) (froot (fadd .f32 1065353216 (fmul .f32 b b))))) := by
    intro j hj
    have h1 := vl_le .f32 hj
    rw [vl_p32] at h1
    have h2 := vl_le .f32 hTx
    have h3 : vl .f32 (mg .f32 x) * 2 ^ j * 2 ^ 149 ≤ vl .f32 (mg .f32 (fmul .f32 1073741824 x)) * vl .f32 (mg .f32 (froot (fadd .f32 1065353216 (fmul .f32 b b)))) := by
      refine Nat.le_trans (Nat.le_of_eq ?_) (Nat.mul_le_mul h2 h1)
      rw [Nat.mul_assoc, ← Nat.pow_add]; congr 2; omega
    rcases Nat.lt_or_ge FloatKind.f32.format.infRung (shN j (mg .f32 x)) with hs | hs
    · exfalso
      have h4 : FloatKind.f32.format.infRung ≤ mg .f32 (fmul .f32 (fmul .f32 1073741824 x) (froot (fadd .f32 1065353216 (fmul .f32 b b)))) := by
        refine mul_ge .f32 hT.1 hR.1 (Nat.le_refl _) (Nat.le_trans (Nat.mul_le_mul_right _ (vl_le .f32 (Nat.le_of_lt hs))) ?_)
        rw [vl_shN, unit32]; exact h3
      have := fin_lt fP
      omega
    · have h4 : shN j (mg .f32 x) ≤ mg .f32 (fmul .f32 (fmul .f32 1073741824 x) (froot (fadd .f32 1065353216 (fmul .f32 b b)))) := by
        refine mul_ge .f32 hT.1 hR.1 hs ?_
        rw [vl_shN, unit32]; exact h3
      have := vl_le .f32 h4
      rw [vl_shN] at this; exact this
  have hWa : vl .f32 (mg .f32 a) ≤ vl .f32 (mg .f32 (fadd .f32 a (fmul .f32 (fmul .f32 1073741824 x) (froot (fadd .f32 1065353216 (fmul .f32 b b)))))) := vl_le .f32 (add_ge_ok ha hP (Nat.le_of_lt ha.1) (Nat.le_add_right _ _))
  have hWP : vl .f32 (mg .f32 (fmul .f32 (fmul .f32 1073741824 x) (froot (fadd .f32 1065353216 (fmul .f32 b b))))) ≤ vl .f32 (mg .f32 (fadd .f32 a (fmul .f32 (fmul .f32 1073741824 x) (froot (fadd .f32 1065353216 (fmul .f32 b b)))))) := vl_le .f32 (add_ge_ok ha hP (Nat.le_of_lt hP.1) (Nat.le_add_left _ _))
  have hP0 := hPj 0 (rootJ 0 (by omega) (.inl rfl))
  rw [Nat.pow_zero, Nat.mul_one] at hP0
  -- the slope is below two to the power of 64
  have hb64 : mg .f32 b < p32 64 := by
    rcases Nat.lt_or_ge (mg .f32 b) (p32 64) with h | h
    · exact h
    · exfalso
      have h1 := vl_le .f32 h
      rw [vl_p32] at h1
      have : FloatKind.f32.format.infRung ≤ mg .f32 (fmul .f32 b b) := by
        refine mul_ge .f32 hb.1 hb.1 (Nat.le_refl _) ?_
        rw [inf_p, vl_p32, unit32]
        exact Nat.le_trans (Nat.le_of_eq ((pow_join (149 + 128) 149 426 rfl).trans (pow_join (149 + 64) (149 + 64) 426 rfl).symm)) (Nat.mul_le_mul h1 h1)
      have := fin_lt fbb
      omega
  generalize hWt : vl .f32 (mg .f32 (fadd .f32 a (fmul .f32 (fmul .f32 1073741824 x) (froot (fadd .f32 1065353216 (fmul .f32 b b)))))) = Wt at hWa hWP ⊢
  generalize hPt : vl .f32 (mg .f32 (fmul .f32 (fmul .f32 1073741824 x) (froot (fadd .f32 1065353216 (fmul .f32 b b))))) = Pt at hWP hP0 hPj
  refine ⟨?_, by omega⟩
  have hSf := fin_lt fS
  rcases Nat.lt_or_ge (mg .f32 x) (p32 64) with hx64 | hx64
  · have hX := vl_le .f32 (Nat.le_of_lt hx64)
    rw [vl_p32] at hX
    rcases Nat.lt_or_ge (mg .f32 a) (mg .f32 (fmul .f32 b x)) with haq | haq
    · have hvq := vl_le .f32 (Nat.le_of_lt haq)
      have hS : vl .f32 (mg .f32 (fadd .f32 a (fmul .f32 b x))) ≤ vl .f32 (mg .f32 (fmul .f32 b x)) * 2 ^ 1 := by
        rw [← vl_shN]
        refine vl_le .f32 (add_le .f32 ha.1 hq.1 ?_)
        rw [vl_shN]; omega
      have hj : ∃ j, j ≤ 56 ∧ mg .f32 b ≤ p32 (j + 8) ∧ (j = 0 ∨ p32 j ≤ mg .f32 b) := by
        rcases Nat.lt_or_ge (mg .f32 b) (p32 8) with h8 | h8
        · exact ⟨0, by omega, Nat.le_of_lt h8, .inl rfl⟩
        rcases Nat.lt_or_ge (mg .f32 b) (p32 16) with h16 | h16
        · exact ⟨8, by omega, Nat.le_of_lt h16, .inr h8⟩
        rcases Nat.lt_or_ge (mg .f32 b) (p32 24) with h24 | h24
        · exact ⟨16, by omega, Nat.le_of_lt h24, .inr h16⟩
        rcases Nat.lt_or_ge (mg .f32 b) (p32 32) with h32 | h32
        · exact ⟨24, by omega, Nat.le_of_lt h32, .inr h24⟩
        rcases Nat.lt_or_ge (mg .f32 b) (p32 40) with h40 | h40
        · exact ⟨32, by omega, Nat.le_of_lt h40, .inr h32⟩
        rcases Nat.lt_or_ge (mg .f32 b) (p32 48) with h48 | h48
        · exact ⟨40, by omega, Nat.le_of_lt h48, .inr h40⟩
        rcases Nat.lt_or_ge (mg .f32 b) (p32 56) with h56 | h56
        · exact ⟨48, by omega, Nat.le_of_lt h56, .inr h48⟩
        · exact ⟨56, by omega, Nat.le_of_lt hb64, .inr h56⟩
      obtain ⟨j, hj1, hj2, hj3⟩ := hj
      have hPw := hPj j (rootJ j hj1 hj3)
      have hbj := vl_le .f32 hj2
      rw [vl_p32] at hbj
      have hqj : vl .f32 (mg .f32 (fmul .f32 b x)) ≤ vl .f32 (mg .f32 x) * 2 ^ (j + 8) := by
        rw [← vl_shN]
        refine vl_le .f32 (mul_le .f32 hb.1 hx.1 ?_)
        rw [vl_shN, unit32]
        refine Nat.le_trans (Nat.mul_le_mul_right _ hbj) (Nat.le_of_eq ?_)
        rw [Nat.mul_assoc, ← Nat.pow_add, Nat.mul_comm]; congr 2; omega
      have hA : vl .f32 (mg .f32 (fmul .f32 x (fadd .f32 a (fmul .f32 b x)))) ≤ vl .f32 (mg .f32 x) * 2 ^ (73 + j) := by
        rw [← vl_shN]
        refine vl_le .f32 (mul_le .f32 hx.1 hSf ?_)
        rw [vl_shN, unit32]
        refine Nat.le_trans (Nat.mul_le_mul hX (Nat.le_trans hS (Nat.mul_le_mul_right _ hqj))) (Nat.le_of_eq ?_)
        rw [show 2 ^ (149 + 64) * (vl .f32 (mg .f32 x) * 2 ^ (j + 8) * 2 ^ 1) = vl .f32 (mg .f32 x) * (2 ^ (149 + 64) * 2 ^ (j + 8) * 2 ^ 1) by ac_rfl, ← Nat.pow_add, ← Nat.pow_add, Nat.mul_assoc, ← Nat.pow_add]
        congr 2; omega
      refine Nat.le_trans hA ?_
      refine Nat.le_trans (Nat.le_of_eq ?_) (Nat.mul_le_mul_left _ (Nat.le_trans hPw hWP))
      rw [Nat.pow_add]; ac_rfl
    · have hvq := vl_le .f32 haq
      have hS : vl .f32 (mg .f32 (fadd .f32 a (fmul .f32 b x))) ≤ vl .f32 (mg .f32 a) * 2 ^ 1 := by
        rw [← vl_shN]
        refine vl_le .f32 (add_le .f32 ha.1 hq.1 ?_)
        rw [vl_shN]; omega
      have hA : vl .f32 (mg .f32 (fmul .f32 x (fadd .f32 a (fmul .f32 b x)))) ≤ vl .f32 (mg .f32 a) * 2 ^ 65 := by
        rw [← vl_shN]
        refine vl_le .f32 (mul_le .f32 hx.1 hSf ?_)
        rw [vl_shN, unit32]
        refine Nat.le_trans (Nat.mul_le_mul hX hS) (Nat.le_of_eq ?_)
        rw [show 2 ^ (149 + 64) * (vl .f32 (mg .f32 a) * 2 ^ 1) = vl .f32 (mg .f32 a) * (2 ^ (149 + 64) * 2 ^ 1) by ac_rfl, ← Nat.pow_add, Nat.mul_assoc, ← Nat.pow_add]
      refine Nat.le_trans hA ?_
      rw [Nat.mul_comm]
      exact Nat.mul_le_mul (by decide) hWa
  · have hX := vl_le .f32 hx64
    rw [vl_p32] at hX
    have hA : vl .f32 (mg .f32 (fmul .f32 x (fadd .f32 a (fmul .f32 b x)))) ≤ 2 ^ (149 + 128) := by
      have e := vl_le .f32 (Nat.le_of_lt (fin_lt fa))
      rw [inf_p, vl_p32] at e; exact e
    refine Nat.le_trans hA ?_
    have : 2 ^ (149 + 64) ≤ Wt := by omega
    exact Nat.le_trans (pow_le_join (a := 149 + 128) (b := 73) (c := 149 + 64) (by omega)) (Nat.mul_le_mul_left _ this)
theorem mid_le (a b c d x : Nat) (hv : (vS a b c d && isLen x) = true) (fa : isFin .f32 (sl04Area a b c d x) = true) (fw : isFin .f32 (sl04Wet a b c d x) = true) : mg .f32 (midQ a b c d x) ≤ p32 73 := by
  simp only [vS, Bool.and_eq_true] at hv
  obtain ⟨hx, hx1⟩ := len_pos hv.2
  obtain ⟨h1, h2⟩ := area_wet a b c d x (mass_ok hv.1.1.1.1.1) (mass_ok hv.1.1.1.1.2) hx hx1 fa fw
  unfold midQ
  refine div_le .f32 (fin_lt fa) (fin_lt fw) h2 ?_
  rw [vl_p32, unit32, Nat.pow_add, Nat.mul_assoc, Nat.mul_comm]
  exact Nat.mul_le_mul_left _ h1
end Go.Proofs.Ytlhfpjpgglfcfaa
