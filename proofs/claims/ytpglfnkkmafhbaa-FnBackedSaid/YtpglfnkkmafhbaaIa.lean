/- The program's logarithms and exponentials are those words. The program's sections are those words. Normal and critical depths. Twice the exponent, the square. Steepness at a depth. Steepness at the normal depth; the test of a backstep. -/
import Derived.Test.YtpglfnkkmafhbaaKm
import Derived.Test.YtpglfnkkmafhbaaGq1d
set_option linter.unusedVariables false
set_option linter.unusedSimpArgs false
set_option linter.constructorNameAsVariable false
namespace Go.Proofs.Ytpglfnkkmafhbaa
open Go.RowKit
set_option maxRecDepth 100000
theorem runL_steps {σ ρ : Type} {f : σ → Option (σ ⊕ ρ)} {r : ρ} : ∀ (n k : Nat) (s : Nat → σ), (∀ j, k ≤ j → j < k + n → f (s j) = some (.inl (s (j + 1)))) → f (s (k + n)) = some (.inr r) → runL f (s k) = some r
  | 0, k, s, h, he => runL_out he
  | n + 1, k, s, h, he => (runL_in (h k (Nat.le_refl _) (by omega))).trans (runL_steps n (k + 1) s (fun j h1 h2 => h j (by omega) (by omega)) (by rw [show k + 1 + n = k + (n + 1) by omega]; exact he))
/-- While a number is brought near one. -/
structure LI (m : Rat) (k : Nat) (y e : Nat) (E : Int) : Prop where
  fy : isFin .f64 y = true
  fe : isFin .f64 e = true
  e1 : rv .f64 e - (E : Rat) ≤ (k : Rat) * (1 / 10 ^ 14)
  e2 : (E : Rat) - rv .f64 e ≤ (k : Rat) * (1 / 10 ^ 14)
  E1 : -(k : Int) ≤ E
  E2 : E ≤ (k : Int)
  lo : m * (1 - (k : Rat) * (1 / 10 ^ 15)) ≤ rv .f64 y * (2 : Rat) ^ E
  hi : rv .f64 y * (2 : Rat) ^ E ≤ m * (1 + (k : Rat) * (1 / 10 ^ 15))
theorem k_cast {k : Nat} (h : k ≤ 30) : (0 : Rat) ≤ (k : Rat) ∧ (k : Rat) ≤ 30 ∧ ((k + 1 : Nat) : Rat) = (k : Rat) + 1 := by
  refine ⟨by exact_mod_cast Nat.zero_le k, ?_, by rw [Rat.natCast_add]; rfl⟩
  have : ((k : Nat) : Rat) ≤ ((30 : Nat) : Rat) := by exact_mod_cast h
  exact this
theorem c_log : isFin .f64 4609434218613702656 = true ∧ rv .f64 4609434218613702656 = 3 / 2 ∧ isFin .f64 4604930618986332160 = true ∧ rv .f64 4604930618986332160 = 3 / 4 := by decide +kernel
theorem li_half {m : Rat} {k y e : Nat} {E : Int} (m0 : 0 ≤ m) (hk : k < 30) (H : LI m k y e E) (y0 : 1 ≤ rv .f64 y) (y1 : rv .f64 y ≤ 2000) : LI m (k + 1) (fdiv .f64 y 4611686018427387904) (fadd .f64 e 4607182418800017408) (E + 1) ∧ rv .f64 y / 2 * (1 - 3 / 10 ^ 16) ≤ rv .f64 (fdiv .f64 y 4611686018427387904) ∧ rv .f64 (fdiv .f64 y 4611686018427387904) ≤ rv .f64 y / 2 * (1 + 3 / 10 ^ 16) := by
  obtain ⟨fy, fe, e1, e2, E1, E2, lo, hi⟩ := H
  obtain ⟨c1, c2, c3, c4⟩ := cst64
  obtain ⟨k0, k1, kc⟩ := k_cast (show k ≤ 30 by omega)
  have EE1 := Rat.intCast_le_intCast.2 E1
  have EE2 := Rat.intCast_le_intCast.2 E2
  rw [Rat.intCast_neg, Rat.intCast_natCast] at EE1
  rw [Rat.intCast_natCast] at EE2
  have d := div_rv .f64 fy c3 (by rw [c4]; decide +kernel) (rv .f64 y / 2) (rv .f64 y / 2) (by rw [c4]; grind) (by grind) Rat.le_refl (by grind)
  obtain ⟨d1, d2, d3, -, -⟩ := d
  have a := add_rv .f64 fe c1 32 (by rw [c2]; grind) (by rw [c2]; grind) (by decide +kernel)
  obtain ⟨a1, a2, a3, -, -⟩ := a
  rw [c2, eps64] at a2 a3
  rw [eps64] at d2 d3
  have u : rv .f64 (fdiv .f64 y 4611686018427387904) ≤ rv .f64 y / 2 * (1 + 3 / 10 ^ 16) := by grind
  have l : rv .f64 y / 2 * (1 - 3 / 10 ^ 16) ≤ rv .f64 (fdiv .f64 y 4611686018427387904) := by grind
  have p := pow_pos2 E
  have pe := pow_add1 E
  have ec : ((E + 1 : Int) : Rat) = (E : Rat) + 1 := by rw [Rat.intCast_add]; rfl
  refine ⟨⟨d1, a1, by rw [kc, ec]; grind, by rw [kc, ec]; grind, by omega, by omega, ?_, ?_⟩, l, u⟩
  · rw [pe, kc]
    have t := Rat.mul_le_mul_of_nonneg_right l (show 0 ≤ 2 * (2 : Rat) ^ E by grind)
    have t2 := Rat.mul_le_mul_of_nonneg_left (c := m) k1 m0
    have t3 := Rat.mul_le_mul_of_nonneg_left (c := m) k0 m0
    have e9 : rv .f64 y / 2 * (1 - 3 / 10 ^ 16) * (2 * (2 : Rat) ^ E) = rv .f64 y * (2 : Rat) ^ E * (1 - 3 / 10 ^ 16) := by grind
    have e8 : rv .f64 (fdiv .f64 y 4611686018427387904) * (2 * (2 : Rat) ^ E) = 2 * (rv .f64 (fdiv .f64 y 4611686018427387904) * (2 : Rat) ^ E) := by grind
    rw [e9] at t
    generalize rv .f64 y * (2 : Rat) ^ E = Y at *
    generalize rv .f64 (fdiv .f64 y 4611686018427387904) * (2 * (2 : Rat) ^ E) = Z at *
    grind
  · rw [pe, kc]
    have t := Rat.mul_le_mul_of_nonneg_right u (show 0 ≤ 2 * (2 : Rat) ^ E by grind)
    have t2 := Rat.mul_le_mul_of_nonneg_left (c := m) k1 m0
    have t3 := Rat.mul_le_mul_of_nonneg_left (c := m) k0 m0
    have e9 : rv .f64 y / 2 * (1 + 3 / 10 ^ 16) * (2 * (2 : Rat) ^ E) = rv .f64 y * (2 : Rat) ^ E * (1 + 3 / 10 ^ 16) := by grind
    rw [e9] at t
    generalize rv .f64 y * (2 : Rat) ^ E = Y at *
    generalize rv .f64 (fdiv .f64 y 4611686018427387904) * (2 * (2 : Rat) ^ E) = Z at *
    grind
theorem li_dbl {m : Rat} {k y e : Nat} {E : Int} (m0 : 0 ≤ m) (hk : k < 30) (H : LI m k y e E) (y0 : 1 / 10000 ≤ rv .f64 y) (y1 : rv .f64 y ≤ 1) : LI m (k + 1) (fmul .f64 y 4611686018427387904) (fsub .f64 e 4607182418800017408) (E - 1) ∧ rv .f64 y * 2 * (1 - 3 / 10 ^ 16) ≤ rv .f64 (fmul .f64 y 4611686018427387904) ∧ rv .f64 (fmul .f64 y 4611686018427387904) ≤ rv .f64 y * 2 * (1 + 3 / 10 ^ 16) := by
  obtain ⟨fy, fe, e1, e2, E1, E2, lo, hi⟩ := H
  obtain ⟨c1, c2, c3, c4⟩ := cst64
  obtain ⟨k0, k1, kc⟩ := k_cast (show k ≤ 30 by omega)
  have EE1 := Rat.intCast_le_intCast.2 E1
  have EE2 := Rat.intCast_le_intCast.2 E2
  rw [Rat.intCast_neg, Rat.intCast_natCast] at EE1
  rw [Rat.intCast_natCast] at EE2
  have d := mul_rv .f64 fy c3 (rv .f64 y * 2) (by rw [c4]; grind) (by rw [c4]; grind) (by grind)
  obtain ⟨d1, d2, d3, -, -⟩ := d
  have a := sub_rv .f64 fe c1 32 (by rw [c2]; grind) (by rw [c2]; grind) (by decide +kernel)
  obtain ⟨a1, a2, a3, -, -⟩ := a
  rw [c2, eps64] at a2 a3
  rw [c4, eps64] at d2 d3
  have u : rv .f64 (fmul .f64 y 4611686018427387904) ≤ rv .f64 y * 2 * (1 + 3 / 10 ^ 16) := by grind
  have l : rv .f64 y * 2 * (1 - 3 / 10 ^ 16) ≤ rv .f64 (fmul .f64 y 4611686018427387904) := by grind
  have p := pow_pos2 (E - 1)
  have pe := pow_add1 (E - 1)
  rw [show E - 1 + 1 = E by omega] at pe
  rw [pe] at lo hi
  have ec : ((E - 1 : Int) : Rat) = (E : Rat) - 1 := by rw [Rat.intCast_sub]; rfl
  refine ⟨⟨d1, a1, by rw [kc, ec]; grind, by rw [kc, ec]; grind, by omega, by omega, ?_, ?_⟩, l, u⟩
  · rw [kc]
    have t := Rat.mul_le_mul_of_nonneg_right l (Rat.le_of_lt p)
    have t2 := Rat.mul_le_mul_of_nonneg_left (c := m) k1 m0
    have t3 := Rat.mul_le_mul_of_nonneg_left (c := m) k0 m0
    have e9 : rv .f64 y * 2 * (1 - 3 / 10 ^ 16) * (2 : Rat) ^ (E - 1) = rv .f64 y * (2 * (2 : Rat) ^ (E - 1)) * (1 - 3 / 10 ^ 16) := by grind
    rw [e9] at t
    generalize rv .f64 y * (2 * (2 : Rat) ^ (E - 1)) = Y at *
    grind
  · rw [kc]
    have t := Rat.mul_le_mul_of_nonneg_right u (Rat.le_of_lt p)
    have t2 := Rat.mul_le_mul_of_nonneg_left (c := m) k1 m0
    have t3 := Rat.mul_le_mul_of_nonneg_left (c := m) k0 m0
    have e9 : rv .f64 y * 2 * (1 + 3 / 10 ^ 16) * (2 : Rat) ^ (E - 1) = rv .f64 y * (2 * (2 : Rat) ^ (E - 1)) * (1 + 3 / 10 ^ 16) := by grind
    rw [e9] at t
    generalize rv .f64 y * (2 * (2 : Rat) ^ (E - 1)) = Y at *
    grind
theorem l2_run {m : Rat} (m0 : 0 ≤ m) : ∀ (j k y e : Nat) (E : Int), LI m k y e E → k + j ≤ 20 → rv .f64 y ≤ 7 / 5 * (19 / 10) ^ j → rv .f64 y ≤ 1100 → 9 / 10000 ≤ rv .f64 y → ∃ y' e' k' E', inaturalLog_l2 y e = some (y', e') ∧ LI m k' y' e' E' ∧ k' ≤ k + j ∧ rv .f64 y' ≤ 3 / 2 ∧ 9 / 10000 ≤ rv .f64 y'
  | 0, k, y, e, E, H, hk, h1, h2, h3 => by
    obtain ⟨c1, c2, -⟩ := c_log
    rw [Rat.pow_zero] at h1
    have t : fge .f64 y 4609434218613702656 = false := by
      cases h : fge .f64 y 4609434218613702656 with
      | false => rfl
      | true => have := (fge_rv .f64 H.fy c1).1 h; rw [c2] at this; exfalso; grind
    exact ⟨y, e, k, E, runL_out (by simp only [inaturalLog_l2_t, Tr.sem, t, cond_false]), H, by omega, by grind, h3⟩
  | j + 1, k, y, e, E, H, hk, h1, h2, h3 => by
    obtain ⟨c1, c2, -⟩ := c_log
    cases h : fge .f64 y 4609434218613702656 with
    | false =>
      refine ⟨y, e, k, E, runL_out (by simp only [inaturalLog_l2_t, Tr.sem, h, cond_false]), H, by omega, ?_, h3⟩
      rcases Rat.le_total (a := rv .f64 y) (b := 3 / 2) with g | g
      · exact g
      · rw [(fge_rv .f64 H.fy c1).2 (by rw [c2]; exact g)] at h; cases h
    | true =>
      have g := (fge_rv .f64 H.fy c1).1 h
      rw [c2] at g
      obtain ⟨H', l, u⟩ := li_half m0 (by omega) H (by grind) (by grind)
      rw [Rat.pow_succ] at h1
      have pj : (0 : Rat) < (19 / 10) ^ j := Rat.pow_pos (by decide +kernel)
      obtain ⟨y', e', k', E', r1, r2, r3, r4, r5⟩ := l2_run m0 j (k + 1) _ _ _ H' (by omega) (by grind) (by grind) (by grind)
      exact ⟨y', e', k', E', (runL_in (s' := (fdiv .f64 y 4611686018427387904, fadd .f64 e 4607182418800017408)) (by simp only [inaturalLog_l2_t, Tr.sem, h, cond_true])).trans r1, r2, by omega, r4, r5⟩
theorem l4_run {m : Rat} (m0 : 0 ≤ m) : ∀ (j k y e : Nat) (E : Int), LI m k y e E → k + j ≤ 29 → 76 / 100 ≤ rv .f64 y * (19 / 10) ^ j → rv .f64 y ≤ 3 / 2 + 1 / 10 ^ 9 → 9 / 10000 ≤ rv .f64 y → ∃ y' e' k' E', inaturalLog_l4 y e = some (y', e') ∧ LI m k' y' e' E' ∧ k' ≤ k + j ∧ 3 / 4 ≤ rv .f64 y' ∧ rv .f64 y' ≤ 3 / 2 + 1 / 10 ^ 9
  | 0, k, y, e, E, H, hk, h1, h2, h3 => by
    obtain ⟨-, -, c1, c2⟩ := c_log
    rw [Rat.pow_zero] at h1
    have t : flt .f64 y 4604930618986332160 = false := by
      cases h : flt .f64 y 4604930618986332160 with
      | false => rfl
      | true => have := (flt_rv .f64 H.fy c1).1 h; rw [c2] at this; exfalso; grind
    exact ⟨y, e, k, E, runL_out (by simp only [inaturalLog_l4_t, Tr.sem, t, cond_false]), H, by omega, by grind, h2⟩
  | j + 1, k, y, e, E, H, hk, h1, h2, h3 => by
    obtain ⟨-, -, c1, c2⟩ := c_log
    cases h : flt .f64 y 4604930618986332160 with
    | false =>
      refine ⟨y, e, k, E, runL_out (by simp only [inaturalLog_l4_t, Tr.sem, h, cond_false]), H, by omega, ?_, h2⟩
      rcases Rat.le_total (a := 3 / 4) (b := rv .f64 y) with g | g
      · exact g
      · rcases Rat.le_iff_lt_or_eq.1 g with g | g
        · rw [(flt_rv .f64 H.fy c1).2 (by rw [c2]; exact g)] at h; cases h
        · grind
    | true =>
      have g := (flt_rv .f64 H.fy c1).1 h
      rw [c2] at g
      obtain ⟨H', l, u⟩ := li_dbl m0 (by omega) H (by grind) (by grind)
      rw [Rat.pow_succ] at h1
      have pj : (0 : Rat) < (19 / 10) ^ j := Rat.pow_pos (by decide +kernel)
      have t := Rat.mul_le_mul_of_nonneg_right l (Rat.le_of_lt pj)
      have t0 := Rat.mul_nonneg (show 0 ≤ rv .f64 y by grind) (Rat.le_of_lt pj)
      obtain ⟨y', e', k', E', r1, r2, r3, r4, r5⟩ := l4_run m0 j (k + 1) _ _ _ H' (by omega) (by grind) (by grind) (by grind)
      exact ⟨y', e', k', E', (runL_in (s' := (fmul .f64 y 4611686018427387904, fsub .f64 e 4607182418800017408)) (by simp only [inaturalLog_l4_t, Tr.sem, h, cond_true])).trans r1, r2, by omega, r4, r5⟩
theorem l9_run (e s u : Nat) : inaturalLog_l9 e s u 0 25 = some (e, s, qW u 13) := by
  unfold inaturalLog_l9
  refine runL_steps (f := fun t : Nat × Int => (inaturalLog_l9_t e s u t.1 t.2).sem) 13 0 (fun j => (qW u j, 25 - 2 * (j : Int))) (fun j _ hj => ?_) ?_
  · simp only [inaturalLog_l9_t, Tr.sem, decide_eq_true (show (25 - 2 * (j : Int)) ≥ 1 by omega), cond_true]
    rw [wrap_id (by omega) (by omega), show (25 - 2 * (j : Int)) - 2 = 25 - 2 * ((j + 1 : Nat) : Int) by omega]; rfl
  · simp only [inaturalLog_l9_t, Tr.sem]; rfl
theorem zero32 : isFin .f32 0 = true ∧ rv .f32 0 = 0 := by decide +kernel
/-- **THE PROGRAM'S LOGARITHM.** -/
theorem log_run {m : Nat} (fm : isFin .f32 m = true) (h1 : 1 / 1000 ≤ rv .f32 m) (h2 : rv .f32 m ≤ 1000) : ∃ w, iLogNumber m = some w ∧ isFin .f32 w = true ∧ ∃ (y : Rat) (E : Int), 3 / 4 ≤ y ∧ y ≤ 3 / 2 + 1 / 10 ^ 9 ∧ rv .f32 m * (1 - 1 / 10 ^ 12) ≤ y * (2 : Rat) ^ E ∧ y * (2 : Rat) ^ E ≤ rv .f32 m * (1 + 1 / 10 ^ 12) ∧ rv .f32 w - (fR y + (E : Rat) * lam) ≤ 2 / 1000000 ∧ fR y + (E : Rat) * lam - rv .f32 w ≤ 2 / 1000000 ∧ -(72 / 10) ≤ rv .f32 w ∧ rv .f32 w ≤ 72 / 10 := by
  obtain ⟨u1, u2⟩ := fup_rv fm
  obtain ⟨z1, z2⟩ := zero32
  obtain ⟨Z1, Z2⟩ := zero64
  have H0 : LI (rv .f32 m) 0 (fup m) 0 0 := by
    have k0 : ((0 : Nat) : Rat) = 0 := rfl
    have i0 : ((0 : Int) : Rat) = 0 := rfl
    have p0 : (2 : Rat) ^ (0 : Int) = 1 := Rat.zpow_zero _
    exact ⟨u1, Z1, by rw [Z2, k0, i0]; grind, by rw [Z2, k0, i0]; grind, by omega, by omega, by rw [u2, p0, k0]; grind, by rw [u2, p0, k0]; grind⟩
  have b1 : (1000 : Rat) ≤ 7 / 5 * (19 / 10) ^ 11 := by decide +kernel
  have b2 : (76 / 100 : Rat) ≤ 9 / 10000 * (19 / 10) ^ 11 := by decide +kernel
  obtain ⟨y1, e1, k1, E1, r1, r2, r3, r4, r5⟩ := l2_run (by grind) 11 0 (fup m) 0 0 H0 (by omega) (by rw [u2]; exact Rat.le_trans h2 b1) (by rw [u2]; grind) (by rw [u2]; grind)
  obtain ⟨y2, e2, k2, E2, s1, s2, s3, s4, s5⟩ := l4_run (m := rv .f32 m) (by grind) 11 k1 y1 e1 E1 r2 (by omega) (Rat.le_trans b2 (Rat.mul_le_mul_of_nonneg_right r5 (by decide +kernel))) (by grind) r5
  obtain ⟨kk0, kk1, -⟩ := k_cast (show k2 ≤ 30 by omega)
  have mm := mul_rng kk0 kk1 (show 0 ≤ rv .f32 m by grind) (Rat.le_refl) (by decide +kernel) (by decide +kernel)
  obtain ⟨w1, w2, w3⟩ := log_word (E := E2) s2.fy s2.fe s4 s5 (by have := s2.e1; grind) (by have := s2.e2; grind) (by have := s2.E1; omega) (by have := s2.E2; omega)
  -- bounds of the logarithm
  have lam' := lam_tab
  have lo := s2.lo
  have hi := s2.hi
  have up := log_mono (y := 1) (z := rv .f64 y2) (δ := 1 / 1000) (e := 10) (g := E2) (by decide +kernel) (by decide +kernel) s4 s5 (by decide +kernel) (by decide +kernel) (by
    have : (2 : Rat) ^ (10 : Int) = 1024 := by decide +kernel
    rw [this]; grind)
  have dn := log_mono (y := rv .f64 y2) (z := 1) (δ := 1 / 1000) (e := E2) (g := -10) s4 s5 (by decide +kernel) (by decide +kernel) (by decide +kernel) (by decide +kernel) (by
    have : (2 : Rat) ^ (-10 : Int) = 1 / 1024 := by decide +kernel
    rw [this]; grind)
  have c10 : ((10 : Int) : Rat) = 10 := by decide +kernel
  have c10' : ((-10 : Int) : Rat) = -10 := by decide +kernel
  rw [c10, f_one] at up
  rw [c10', f_one] at dn
  have hb : -(71 / 10) ≤ rv .f64 (logW y2 e2) ∧ rv .f64 (logW y2 e2) ≤ 71 / 10 := ⟨by grind, by grind⟩
  have d := fdown_rv w1 (71 / 10) hb.1 hb.2 (by decide +kernel)
  obtain ⟨d1, d2, d3, -, -⟩ := d
  rw [eps32] at d2 d3
  have fo := fover_fin w1 d1
  have hl : inaturalLog (fup m) = some (logW y2 e2) := by
    unfold inaturalLog inaturalLog_t
    simp only [r1, s1, osome, oget, Tr.sem, cond_true]
    have h9 := l9_run e2 (sW y2) (fmul .f64 (sW y2) (sW y2))
    unfold sW at h9
    simp only [h9, osome, oget, cond_true]
    rfl
  have hl2 : ilogarithm m = some (logW y2 e2) := by
    unfold ilogarithm ilogarithm_t
    simp only [hl, Tr.sem, osome, oget, cond_true]
  have t0 : feq .f32 m m = true := (feq_rv .f32 fm fm).2 rfl
  have t1 : flt .f32 m 0 = false := by
    cases h : flt .f32 m 0 with
    | false => rfl
    | true => have := (flt_rv .f32 fm z1).1 h; rw [z2] at this; exfalso; grind
  have t2 : feq .f32 m 0 = false := by
    cases h : feq .f32 m 0 with
    | false => rfl
    | true => have := (feq_rv .f32 fm z1).1 h; rw [z2] at this; exfalso; grind
  refine ⟨fdown (logW y2 e2), ?_, d1, rv .f64 y2, E2, s4, s5, by grind, by grind, by grind, by grind, by grind, by grind⟩
  unfold iLogNumber iLogNumber_t
  simp only [t0, t1, t2, fm, hl2, fo, Tr.sem, osome, oget, Bool.not_true, Bool.not_false, cond_true, cond_false]
/-! ### Exponentials -/
theorem l7_run (t : Nat) : iExpNumber_l7 t 4607182418800017408 12 = some (pW t 12) := by
  refine runL_steps (f := fun s : Nat × Int => (iExpNumber_l7_t t s.1 s.2).sem) 12 0 (fun j => (pW t j, 12 - (j : Int))) (fun j _ hj => ?_) ?_
  · simp only [iExpNumber_l7_t, Tr.sem, decide_eq_true (show (12 - (j : Int)) ≥ 1 by omega), cond_true]
    rw [wrap_id (by omega) (by omega), show (12 - (j : Int)) - 1 = 12 - ((j + 1 : Nat) : Int) by omega]; rfl
  · simp only [iExpNumber_l7_t, Tr.sem]; rfl
theorem l11_run (p : Nat) : iExpNumber_l11 p 0 = some (sqW p 8) := by
  refine runL_steps (f := fun s : Nat × Int => (iExpNumber_l11_t s.1 s.2).sem) 8 0 (fun j => (sqW p j, (j : Int))) (fun j _ hj => ?_) ?_
  · simp only [iExpNumber_l11_t, Tr.sem, decide_eq_true (show (j : Int) < 8 by omega), cond_true]
    rw [wrap_id (by omega) (by omega)]; rfl
  · simp only [iExpNumber_l11_t, Tr.sem]; rfl
theorem c200 : isFin .f32 1128792064 = true ∧ rv .f32 1128792064 = 200 ∧ isFin .f32 3276275712 = true ∧ rv .f32 3276275712 = -200 := by decide +kernel
/-- **THE PROGRAM'S EXPONENTIAL.** -/
theorem exp_run {x : Nat} (fx : isFin .f32 x = true) (x0 : -10 ≤ rv .f32 x) (x1 : rv .f32 x ≤ 10) : iExpNumber x = some (expW x) := by
  obtain ⟨c1, c2, c3, c4⟩ := c200
  have t1 : fgt .f32 x 1128792064 = false := by
    cases h : fgt .f32 x 1128792064 with
    | false => rfl
    | true => have := (fgt_rv .f32 fx c1).1 h; rw [c2] at this; exfalso; grind
  have t2 : flt .f32 x 3276275712 = false := by
    cases h : flt .f32 x 3276275712 with
    | false => rfl
    | true => have := (flt_rv .f32 fx c3).1 h; rw [c4] at this; exfalso; grind
  obtain ⟨-, fo, -⟩ := exp_ok fx x0 x1
  unfold wideE at fo
  unfold iExpNumber iExpNumber_t expW wideE
  simp only [t1, t2, l7_run, l11_run, fo, Tr.sem, osome, oget, Bool.not_false, cond_true, cond_false]
/-! ### Powers -/
noncomputable def lgW (m : Nat) : Nat := oget (iLogNumber m)
noncomputable def pwW (c m : Nat) : Nat := expW (fmul .f32 c (lgW m))
theorem lg_run {m : Nat} (fm : isFin .f32 m = true) (h1 : 1 / 1000 ≤ rv .f32 m) (h2 : rv .f32 m ≤ 1000) : iLogNumber m = some (lgW m) ∧ isFin .f32 (lgW m) = true ∧ ∃ (y : Rat) (E : Int), 3 / 4 ≤ y ∧ y ≤ 3 / 2 + 1 / 10 ^ 9 ∧ rv .f32 m * (1 - 1 / 10 ^ 12) ≤ y * (2 : Rat) ^ E ∧ y * (2 : Rat) ^ E ≤ rv .f32 m * (1 + 1 / 10 ^ 12) ∧ rv .f32 (lgW m) - (fR y + (E : Rat) * lam) ≤ 2 / 1000000 ∧ fR y + (E : Rat) * lam - rv .f32 (lgW m) ≤ 2 / 1000000 ∧ -(72 / 10) ≤ rv .f32 (lgW m) ∧ rv .f32 (lgW m) ≤ 72 / 10 := by
  obtain ⟨w, e, r⟩ := log_run fm h1 h2
  unfold lgW
  rw [e]
  exact ⟨rfl, r⟩
theorem pw_arg {c m : Nat} (fc : isFin .f32 c = true) (c0 : 0 ≤ rv .f32 c) (c1 : rv .f32 c ≤ 134 / 100) (fm : isFin .f32 m = true) (h1 : 1 / 1000 ≤ rv .f32 m) (h2 : rv .f32 m ≤ 1000) : isFin .f32 (fmul .f32 c (lgW m)) = true ∧ -10 ≤ rv .f32 (fmul .f32 c (lgW m)) ∧ rv .f32 (fmul .f32 c (lgW m)) ≤ 10 ∧ rv .f32 (fmul .f32 c (lgW m)) - rv .f32 c * rv .f32 (lgW m) ≤ 125 / 100000000 ∧ rv .f32 c * rv .f32 (lgW m) - rv .f32 (fmul .f32 c (lgW m)) ≤ 125 / 100000000 := by
  obtain ⟨-, fl, y, E, -, -, -, -, -, -, l1, l2⟩ := lg_run fm h1 h2
  have b := mulB (x := rv .f32 c) (y := rv .f32 (lgW m)) (m := 134 / 100) (n := 72 / 10) ⟨by grind, c1⟩ ⟨l1, l2⟩
  have p := mul_rv .f32 fc fl (97 / 10) (by grind) (by grind) (by decide +kernel)
  obtain ⟨p1, p2, p3, -, -⟩ := p
  rw [eps32] at p2 p3
  exact ⟨p1, by grind, by grind, by grind, by grind⟩
theorem pw_run {c m : Nat} (fc : isFin .f32 c = true) (c0 : 0 ≤ rv .f32 c) (c1 : rv .f32 c ≤ 134 / 100) (fm : isFin .f32 m = true) (h1 : 1 / 1000 ≤ rv .f32 m) (h2 : rv .f32 m ≤ 1000) : iExpNumber (fmul .f32 c (lgW m)) = some (pwW c m) ∧ isFin .f32 (pwW c m) = true ∧ 1 / 10 ^ 13 ≤ rv .f32 (pwW c m) ∧ rv .f32 (pwW c m) ≤ 10 ^ 10 := by
  obtain ⟨f, a1, a2, -⟩ := pw_arg fc c0 c1 fm h1 h2
  obtain ⟨e1, -, e2, e3, -⟩ := exp_ok f a1 a2
  exact ⟨exp_run f a1 a2, e1, e2, e3⟩
/-- Powers grow, nearly, and no faster than they should. -/
theorem pw_mono {c m n : Nat} {δ : Rat} (fc : isFin .f32 c = true) (c0 : 0 ≤ rv .f32 c) (c1 : rv .f32 c ≤ 134 / 100) (fm : isFin .f32 m = true) (h1 : 1 / 1000 ≤ rv .f32 m) (h2 : rv .f32 m ≤ 1000) (fn : isFin .f32 n = true) (g1 : 1 / 1000 ≤ rv .f32 n) (g2 : rv .f32 n ≤ 1000) (d0 : 0 ≤ δ) (d1 : δ ≤ 1 / 100000) (h : rv .f32 n ≤ rv .f32 m * (1 + δ)) :
    rv .f32 (pwW c n) ≤ rv .f32 (pwW c m) * (1 + 8 * δ + 3 / 100000) := by
  obtain ⟨-, fl, y, E, y1, y2, y3, y4, y5, y6, l1, l2⟩ := lg_run fm h1 h2
  obtain ⟨-, fl', z, G, z1, z2, z3, z4, z5, z6, k1, k2⟩ := lg_run fn g1 g2
  obtain ⟨f, a1, a2, a3, a4⟩ := pw_arg fc c0 c1 fm h1 h2
  obtain ⟨f', b1, b2, b3, b4⟩ := pw_arg fc c0 c1 fn g1 g2
  have md := mul_rng (show 0 ≤ rv .f32 m by grind) Rat.le_refl d0 d1 (by decide +kernel) (by decide +kernel)
  have L := log_mono (δ := δ + 3 / 10 ^ 12) y1 y2 z1 z2 (by grind) (by grind) (e := E) (g := G) (by
    have t := Rat.mul_le_mul_of_nonneg_right y3 (show 0 ≤ 1 + (δ + 3 / 10 ^ 12) by grind)
    refine Rat.le_trans ?_ t
    grind)
  have s : rv .f32 (lgW n) - rv .f32 (lgW m) ≤ 4 * δ + 42 / 10000000 := by grind
  have cs := Rat.mul_le_mul_of_nonneg_left s c0
  have cd := mul_rng c0 c1 (show 0 ≤ 4 * δ + 42 / 10000000 by grind) Rat.le_refl (by decide +kernel) (by decide +kernel)
  have e := exp_mono f a1 a2 f' b1 b2 (η := 54 / 10 * δ + 9 / 1000000) (by grind) (by grind) (by grind)
  obtain ⟨-, -, p1, -⟩ := pw_run fc c0 c1 fm h1 h2
  unfold pwW at p1 ⊢
  have t := Rat.mul_le_mul_of_nonneg_left (c := rv .f32 (expW (fmul .f32 c (lgW m)))) (show 1 + 13 / 10 * (54 / 10 * δ + 9 / 1000000) + 1 / 1000000 ≤ 1 + 8 * δ + 3 / 100000 by grind) (by grind)
  exact Rat.le_trans e t
theorem c23 : isFin .f32 1059760811 = true ∧ 666 / 1000 ≤ rv .f32 1059760811 ∧ rv .f32 1059760811 ≤ 667 / 1000 ∧ 6666666 / 10000000 ≤ rv .f32 1059760811 ∧ rv .f32 1059760811 ≤ 6666668 / 10000000 := by decide +kernel
theorem e_tab : (isFin .f32 3222525706 = true ∧ -231001 / 100000 ≤ rv .f32 3222525706) ∧ rv .f32 3222525706 ≤ -230999 / 100000 ∧ rv .f32 (expW 3222525706) ≤ 993 / 10000 ∧ (isFin .f32 3216083255 = true ∧ -138701 / 100000 ≤ rv .f32 3216083255) ∧ rv .f32 3216083255 ≤ -138699 / 100000 ∧ 2498 / 10000 ≤ rv .f32 (expW 3216083255) := by decide +kernel
theorem lam5 : 3465735 / 1000000 ≤ 5 * lam ∧ 3 * lam ≤ 2079442 / 1000000 := by decide +kernel
theorem pw_low {m : Nat} (fm : isFin .f32 m = true) (h1 : 1 / 1000 ≤ rv .f32 m) (h2 : rv .f32 m ≤ 1 / 32) : rv .f32 (pwW 1059760811 m) ≤ 994 / 10000 := by
  obtain ⟨c1, c2, c3, c4, c5⟩ := c23
  obtain ⟨-, fl, y, E, y1, y2, y3, y4, y5, y6, l1, l2⟩ := lg_run fm h1 (by grind)
  obtain ⟨f, a1, a2, a3, a4⟩ := pw_arg c1 (by grind) (by grind) fm h1 (by grind)
  obtain ⟨⟨e1, e2⟩, e3, e4, -⟩ := e_tab
  have L := log_mono (y := 1) (e := -5) (δ := 1 / 10 ^ 11) (by decide +kernel) (by decide +kernel) y1 y2 (by decide +kernel) (by decide +kernel) (g := E) (by
    have : (2 : Rat) ^ (-5 : Int) = 1 / 32 := by decide +kernel
    rw [this]; grind)
  rw [f_one, show ((-5 : Int) : Rat) = -5 from by decide +kernel] at L
  have l5 := lam5
  have b := Rat.mul_le_mul_of_nonneg_left (show rv .f32 (lgW m) ≤ -(346573 / 100000) by grind) (show 0 ≤ rv .f32 1059760811 by grind)
  have e := exp_mono e1 (by grind) (by grind) f a1 a2 (η := 0) (by decide +kernel) (by decide +kernel) (by grind)
  unfold pwW
  have := Rat.mul_le_mul_of_nonneg_right e4 (show (0 : Rat) ≤ 1 + 13 / 10 * 0 + 1 / 1000000 by decide +kernel)
  grind
theorem pw_high {m : Nat} (fm : isFin .f32 m = true) (h1 : 1 / 8 ≤ rv .f32 m) (h2 : rv .f32 m ≤ 1000) : 249 / 1000 ≤ rv .f32 (pwW 1059760811 m) := by
  obtain ⟨c1, c2, c3, c4, c5⟩ := c23
  obtain ⟨-, fl, y, E, y1, y2, y3, y4, y5, y6, l1, l2⟩ := lg_run fm (by grind) h2
  obtain ⟨f, a1, a2, a3, a4⟩ := pw_arg c1 (by grind) (by grind) fm (by grind) h2
  obtain ⟨-, -, -, ⟨e1, e2⟩, e3, e4⟩ := e_tab
  have L := log_mono (z := 1) (g := -3) (δ := 1 / 10 ^ 11) y1 y2 (by decide +kernel) (by decide +kernel) (by decide +kernel) (by decide +kernel) (e := E) (by
    have : (2 : Rat) ^ (-3 : Int) = 1 / 8 := by decide +kernel
    rw [this]; grind)
  rw [f_one, show ((-3 : Int) : Rat) = -3 from by decide +kernel] at L
  have l5 := lam5
  have b := Rat.mul_le_mul_of_nonneg_left (show -(207945 / 100000) ≤ rv .f32 (lgW m) by grind) (show 0 ≤ rv .f32 1059760811 by grind)
  have e := exp_mono f a1 a2 e1 (by grind) (by grind) (η := 0) (by decide +kernel) (by decide +kernel) (by grind)
  obtain ⟨-, -, p1, -⟩ := pw_run (c := 1059760811) c1 (by grind) (by grind) fm (by grind) h2
  unfold pwW at p1 ⊢
  grind
theorem P_areMasses (xs : List Nat) (hl : xs.length ≤ 9223372036854775807) : iareMasses xs = some (xs.all isMass) := by
  have h0 := run_idx (f := fun s => (lIndexFunc_iareMasses_1_l2_t xs xs.length s).sem) xs (fun x => !(isMass x)) hl (fun k hk x hx => by
    simp only [lIndexFunc_iareMasses_1_l2_t, Tr.sem, ltRange hk, inRange hk, Int.toNat_natCast, getD_at hx, cond_true, iareMasses_1, iareMasses_1_t, Tr.val]
    cases isMass x <;> rfl) (by simp only [lIndexFunc_iareMasses_1_l2_t, Tr.sem, not_lt_self, cond_false])
  have h1 : lIndexFunc_iareMasses_1 xs = some (idxI (fstIdx (fun x => !(isMass x)) 0 xs)) := idx_tree h0
  have h2 : lContainsFunc_iareMasses_1 xs = some (xs.any fun x => !(isMass x)) := has_tree h1
  have h3 : iareMasses xs = _ := not_tree h2
  rw [h3, not_any]
theorem P_areLengths (xs : List Nat) (hl : xs.length ≤ 9223372036854775807) : iareLengths xs = some (xs.all isLen) := by
  have h0 := run_all (f := fun s => (iareLengths_l2_t xs xs.length s).sem) xs 0 isLen (.inl ()) (.inr ()) hl (fun k hk x hx => by
    simp only [iareLengths_l2_t, Tr.sem, ltRange hk, inRange hk, Int.toNat_natCast, getD_at hx, cond_true]
    cases isLen x <;> rfl) (by simp only [iareLengths_l2_t, Tr.sem, not_lt_self, cond_false])
  have h1 : iareLengths_l2 xs xs.length 0 = some (bif xs.all isLen then .inr () else .inl ()) := h0
  unfold iareLengths iareLengths_t
  simp only [h1, Tr.sem, osome, oget, cond_true]
  cases xs.all isLen <;> rfl
theorem len_iff {c : Nat} : isLen c = true ↔ isFin .f32 c = true ∧ 0 < rv .f32 c := by
  obtain ⟨z1, z2⟩ := zero32
  unfold isLen
  rw [Bool.and_eq_true]
  constructor
  · intro ⟨h1, h2⟩; have := (fgt_rv .f32 h1 z1).1 h2; rw [z2] at this; exact ⟨h1, this⟩
  · intro ⟨h1, h2⟩; exact ⟨h1, (fgt_rv .f32 h1 z1).2 (by rw [z2]; exact h2)⟩
theorem mass_iff {c : Nat} : isMass c = true ↔ isFin .f32 c = true ∧ 0 ≤ rv .f32 c := by
  obtain ⟨z1, z2⟩ := zero32
  unfold isMass
  rw [Bool.and_eq_true]
  constructor
  · intro ⟨h1, h2⟩; have := (fge_rv .f32 h1 z1).1 h2; rw [z2] at this; exact ⟨h1, this⟩
  · intro ⟨h1, h2⟩; exact ⟨h1, (fge_rv .f32 h1 z1).2 (by rw [z2]; exact h2)⟩
/-- A section that the law draws. -/
structure Dr (w b s r : Nat) (W B σ ρ R : Rat) : Prop where
  sec : Sec w b W B σ
  ls : isLen s = true
  lr : isLen r = true
  fr : isFin .f32 (froot s) = true
  vr : rv .f32 (froot s) = ρ
  ρ1 : 31 / 1000 ≤ ρ
  ρ2 : ρ ≤ 1251 / 10000
  vR : rv .f32 r = R
  R1 : 1 / 64 ≤ R
  R2 : R ≤ 1 / 8
theorem ifin {c : Nat} (h : isFin .f32 c = true) : ifinite32 c = (c, true) := by
  unfold ifinite32 ifinite32_t
  simp only [h, Tr.val, Bool.not_true, cond_false]
section
variable {w b s r x q : Nat} {W B σ ρ R : Rat} (h : Dr w b s r W B σ ρ R)
include h
theorem valid_ok : iValidSection w b s r = some true := by
  have m : [w, b].all isMass = true := by
    have h1 := mass_iff.2 ⟨h.sec.fw, by rw [h.sec.vw]; have := h.sec.W1; grind⟩
    have h2 := mass_iff.2 ⟨h.sec.fb, by rw [h.sec.vb]; exact h.sec.Bn⟩
    simp only [List.all_cons, List.all_nil, h1, h2, Bool.and_self]
  have l : [s, r].all isLen = true := by simp only [List.all_cons, List.all_nil, h.ls, h.lr, Bool.and_self]
  have g : fgt .f32 w 0 = true := (fgt_rv .f32 h.sec.fw zero32.1).2 (by rw [zero32.2, h.sec.vw]; have := h.sec.W1; grind)
  unfold iValidSection iValidSection_t
  simp only [P_areMasses [w, b] (by simp), P_areLengths [s, r] (by simp), m, l, g, Tr.sem, osome, oget, cond_true]
theorem isFlow_ok (lx : isLen x = true) : iSection_isFlow w b s r [x] = some true := by
  unfold iSection_isFlow iSection_isFlow_t
  simp only [valid_ok h, P_areLengths [x] (by simp), List.all_cons, List.all_nil, lx, Bool.and_self, Tr.sem, osome, oget, cond_true]
/-- The middle depth, exactly. -/
theorem mid_ex (x1 : 1 / 1000 ≤ rv .f32 x) (x2 : rv .f32 x ≤ 1100) : ∃ Z, Z * (W + 2 * rv .f32 x * σ) = rv .f32 x * (W + B * rv .f32 x) :=
  ⟨rv .f32 x * (W + B * rv .f32 x) / (W + 2 * rv .f32 x * σ), Rat.div_mul_cancel (by have := (wet_bd h.sec x1 x2).1; grind)⟩
/-- The speed and its head, exactly. -/
theorem speed_ex (q : Nat) (x1 : 1 / 1000 ≤ rv .f32 x) (x2 : rv .f32 x ≤ 1100) : ∃ V D, V * (rv .f32 x * (W + B * rv .f32 x)) = rv .f32 q ∧ D * (2 * gg) = V * V := by
  have := (ar_bd h.sec x1 x2).2.2.1
  have g := c_tab.2.1
  exact ⟨_, _, Rat.div_mul_cancel (a := rv .f32 q) (by grind), Rat.div_mul_cancel (by grind)⟩
variable (fx : isFin .f32 x = true) (x1 : 1 / 1000 ≤ rv .f32 x) (x2 : rv .f32 x ≤ 1100)
include fx x1 x2
omit h x2 in
theorem len_x : isLen x = true := len_iff.2 ⟨fx, by grind⟩
theorem area_ok : iAreaAt w b s r x = some (areaW w b x, true) := by
  have a := (area_re h.sec fx rfl x1 x2).fin
  unfold areaW at a ⊢
  unfold iAreaAt iAreaAt_t
  simp only [isFlow_ok h (len_x fx x1), ifin a, Tr.sem, osome, oget, cond_true, Bool.not_true, cond_false]
theorem wet_ok : iWetAt w b s r x = some (wetW w b x, true) := by
  have a := (wet_re h.sec fx rfl x1 x2).fin
  unfold wetW sigW at a ⊢
  unfold iWetAt iWetAt_t
  simp only [isFlow_ok h (len_x fx x1), ifin a, Tr.sem, osome, oget, cond_true, Bool.not_true, cond_false]
theorem top_ok : iTopAt w b s r x = some (topW w b x, true) := by
  have a := (top_re h.sec fx rfl x1 x2).fin
  unfold topW at a ⊢
  unfold iTopAt iTopAt_t
  simp only [isFlow_ok h (len_x fx x1), ifin a, Tr.sem, osome, oget, cond_true, Bool.not_true, cond_false]
theorem middle_ok : iMiddleAt w b s r x = some (midW w b x, true) := by
  obtain ⟨Z, hz⟩ := mid_ex h x1 x2
  have a := (mid_re h.sec fx rfl x1 x2 hz).1.fin
  unfold midW at a ⊢
  unfold iMiddleAt iMiddleAt_t
  simp only [area_ok h fx x1 x2, wet_ok h fx x1 x2, ifin a, Tr.sem, osome, oget, cond_true, Bool.not_true, cond_false]
variable (fq : isFin .f32 q = true) (q1 : 1 / 4 ≤ rv .f32 q) (q2 : rv .f32 q ≤ 8)
include fq q1 q2
theorem speed_ok : iSpeedAt w b s r x q = some (speedW w b x q, true) := by
  obtain ⟨V, D, hv, hd⟩ := speed_ex h q x1 x2
  have a := (speed_re h.sec fx rfl x1 x2 fq rfl q1 q2 hv).1.fin
  have lq : isLen q = true := len_iff.2 ⟨fq, by grind⟩
  unfold speedW at a ⊢
  unfold iSpeedAt iSpeedAt_t
  simp only [area_ok h fx x1 x2, lq, ifin a, Tr.sem, osome, oget, cond_true, Bool.not_true, cond_false]
theorem head_ok : iHeadAt w b s r x q = some (headW w b x q, true) := by
  obtain ⟨V, D, hv, hd⟩ := speed_ex h q x1 x2
  have a := (head_re h.sec fx rfl x1 x2 fq rfl q1 q2 hv hd).1.fin
  unfold headW at a ⊢
  unfold iHeadAt iHeadAt_t
  simp only [speed_ok h fx x1 x2 fq q1 q2, ifin a, Tr.sem, osome, oget, cond_true, Bool.not_true, cond_false]
end
/-! ### Flows -/
noncomputable def flowW (w b s r x : Nat) : Nat := fdiv .f32 (fmul .f32 (fmul .f32 (areaW w b x) (pwW 1059760811 (midW w b x))) (froot s)) r
section
variable {w b s r x q : Nat} {W B σ ρ R : Rat} (h : Dr w b s r W B σ ρ R)
include h
theorem mid_rng (fx : isFin .f32 x = true) (x1 : 1 / 100 ≤ rv .f32 x) (x2 : rv .f32 x ≤ 1002) {Z : Rat} (hz : Z * (W + 2 * rv .f32 x * σ) = rv .f32 x * (W + B * rv .f32 x)) : isFin .f32 (midW w b x) = true ∧ 1 / 1000 ≤ rv .f32 (midW w b x) ∧ rv .f32 (midW w b x) ≤ 1000 ∧ 1 / 900 ≤ Z ∧ Z ≤ 900 ∧ Z * (1 - 2 / 1000000) ≤ rv .f32 (midW w b x) ∧ rv .f32 (midW w b x) ≤ Z * (1 + 2 / 1000000) := by
  obtain ⟨m, -, -⟩ := mid_re h.sec fx rfl (by grind) (by grind) hz
  have p := (wet_bd h.sec (X := rv .f32 x) (by grind) (by grind)).1
  have W1 := h.sec.W1
  have W2 := h.sec.W2
  have Bn := h.sec.Bn
  have s2 := h.sec.s2
  have s3 := h.sec.s3
  generalize rv .f32 x = X at *
  have BX := Rat.mul_nonneg Bn (show 0 ≤ X by grind)
  have XW := Rat.mul_le_mul_of_nonneg_left W1 (show 0 ≤ X by grind)
  have XW2 := Rat.mul_le_mul_of_nonneg_left W2 (show 0 ≤ X by grind)
  have Xs := Rat.mul_le_mul_of_nonneg_left s2 (show 0 ≤ X by grind)
  have Xs3 := Rat.mul_le_mul_of_nonneg_left s3 (show 0 ≤ X by grind)
  have XBX := Rat.mul_le_mul_of_nonneg_right x2 BX
  have XBX1 := Rat.mul_le_mul_of_nonneg_right x1 BX
  have WX := Rat.mul_le_mul_of_nonneg_left x1 (show 0 ≤ W by grind)
  have z1 : 1 / 900 ≤ Z := by
    refine cancel_le (c := W + 2 * X * σ) ?_ (by grind)
    rw [hz]; grind
  have z2 : Z ≤ 900 := by
    refine cancel_le (c := W + 2 * X * σ) ?_ (by grind)
    rw [hz]; grind
  have ml := m.lo
  have mh := m.hi
  exact ⟨m.fin, by grind, by grind, z1, z2, ml, mh⟩
/-- The flow at a depth. -/
theorem flow_ok (fx : isFin .f32 x = true) (x1 : 1 / 100 ≤ rv .f32 x) (x2 : rv .f32 x ≤ 1002) : iFlowAt w b s r x = some (flowW w b s r x, true) ∧ ∃ F, F * R = rv .f32 x * (W + B * rv .f32 x) * rv .f32 (pwW 1059760811 (midW w b x)) * ρ ∧ 0 < F ∧ Re (3 / 1000000) (flowW w b s r x) F := by
  obtain ⟨Z, hz⟩ := mid_ex (x := x) h (by grind) (by grind)
  obtain ⟨m1, m2, m3, -⟩ := mid_rng h fx x1 x2 hz
  obtain ⟨c1, c2, c3, -⟩ := c23
  obtain ⟨p1, p2, p3, p4⟩ := pw_run c1 (by grind) (by grind) m1 m2 m3
  obtain ⟨l1, l2, -⟩ := lg_run m1 m2 m3
  obtain ⟨a1, a2, a3, -⟩ := ar_bd h.sec (X := rv .f32 x) (by grind) (by grind)
  have ra := area_re h.sec fx rfl (by grind) (by grind)
  have rp := re_self p2
  have rρ := re_self h.fr
  rw [h.vr] at rρ
  have rr := re_self (len_iff.1 h.lr).1
  rw [h.vR] at rr
  have R1 := h.R1
  have R2 := h.R2
  have ρ1 := h.ρ1
  have ρ2 := h.ρ2
  have hF : rv .f32 x * (W + B * rv .f32 x) * rv .f32 (pwW 1059760811 (midW w b x)) * ρ / R * R = rv .f32 x * (W + B * rv .f32 x) * rv .f32 (pwW 1059760811 (midW w b x)) * ρ := Rat.div_mul_cancel (by grind)
  have key : ∃ F, F * R = rv .f32 x * (W + B * rv .f32 x) * rv .f32 (pwW 1059760811 (midW w b x)) * ρ ∧ 0 < F ∧ Re (3 / 1000000) (flowW w b s r x) F := by
    refine ⟨_, hF, ?_⟩
    unfold flowW
    generalize pwW 1059760811 (midW w b x) = G at *
    generalize rv .f32 x * (W + B * rv .f32 x) = A at *
    generalize A * rv .f32 G * ρ / R = F at *
    have k1 := mul_rng a3 a2 p3 p4 (by decide +kernel) (by decide +kernel)
    have k2 := mul_rng k1.1 k1.2 ρ1 ρ2 (by decide +kernel) (by decide +kernel)
    have e1 := re_mul (d := 9 / 10000000) ra rp (by decide +kernel) (by decide +kernel) (by decide +kernel) (by decide +kernel) (by decide +kernel) (by grind) (by grind) (by right; grind) (by grind)
    have e2 := re_mul (d := 12 / 10000000) e1 rρ (by decide +kernel) (by decide +kernel) (by decide +kernel) (by decide +kernel) (by decide +kernel) (by grind) (by grind) (by right; grind) (by grind)
    have f1 : 1 / 10 ^ 20 ≤ F := by
      refine cancel_le (c := R) ?_ (by grind)
      rw [hF]; grind
    have f2 : F ≤ 10 ^ 20 := by
      refine cancel_le (c := R) ?_ (by grind)
      rw [hF]; grind
    exact ⟨by grind, re_div e2 rr hF (by decide +kernel) (by decide +kernel) (by decide +kernel) (by decide +kernel) (by decide +kernel) (by grind) (by grind) (by right; grind) (by grind)⟩
  refine ⟨?_, key⟩
  obtain ⟨F, -, -, rf⟩ := key
  have ff := rf.fin
  unfold flowW at ff ⊢
  unfold iFlowAt iFlowAt_t
  simp only [area_ok h fx (by grind) (by grind), middle_ok h fx (by grind) (by grind), l1, p1, ifin ff, Tr.sem, osome, oget, cond_true, Bool.not_true, cond_false]
/-- Flows grow with depth, nearly, and no faster than they should. -/
theorem flow_mono {y : Nat} (fx : isFin .f32 x = true) (x1 : 1 / 100 ≤ rv .f32 x) (x2 : rv .f32 x ≤ 1002) (fy : isFin .f32 y = true) (y1 : 1 / 100 ≤ rv .f32 y) (y2 : rv .f32 y ≤ 1002) (hy : rv .f32 y ≤ rv .f32 x * (1 + 11 / 10000000)) : rv .f32 (flowW w b s r y) ≤ rv .f32 (flowW w b s r x) * (1 + 1 / 5000) := by
  obtain ⟨Z, hz⟩ := mid_ex (x := x) h (by grind) (by grind)
  obtain ⟨Y, hY⟩ := mid_ex (x := y) h (by grind) (by grind)
  obtain ⟨m1, m2, m3, m4, m5, m6, m7⟩ := mid_rng h fx x1 x2 hz
  obtain ⟨n1, n2, n3, n4, n5, n6, n7⟩ := mid_rng h fy y1 y2 hY
  obtain ⟨-, F, F1, F2, F3⟩ := flow_ok h fx x1 x2
  obtain ⟨-, E, E1, E2, E3⟩ := flow_ok h fy y1 y2
  obtain ⟨c1, c2, c3, -⟩ := c23
  have W1 := h.sec.W1
  have Bn := h.sec.Bn
  have σ0 : 0 ≤ σ := by have := h.sec.s1; grind
  have px := (wet_bd h.sec (X := rv .f32 x) (by grind) (by grind)).1
  have py := (wet_bd h.sec (X := rv .f32 y) (by grind) (by grind)).1
  have sc := ar_scale (W := W) (B := B) (by grind) Bn (x := rv .f32 y) (y := rv .f32 x) (r := 1 + 11 / 10000000) (by grind) (by grind) (by decide +kernel) (by grind)
  unfold ar at sc
  have ax := (ar_bd h.sec (X := rv .f32 x) (by grind) (by grind)).2.2.1
  -- the middle depths
  have zy : Y ≤ Z * (1 + 23 / 10000000) := by
    rcases Rat.le_total (a := rv .f32 x) (b := rv .f32 y) with g | g
    · refine cancel_le (c := W + 2 * rv .f32 y * σ) ?_ (by grind)
      rw [hY]
      have k := Rat.mul_le_mul_of_nonneg_right g σ0
      have k2 := Rat.mul_le_mul_of_nonneg_left (show W + 2 * rv .f32 x * σ ≤ W + 2 * rv .f32 y * σ by grind) (show 0 ≤ Z by grind)
      rw [hz] at k2
      grind
    · -- smaller depths have smaller middles
      refine cancel_le (c := (W + 2 * rv .f32 y * σ) * (W + 2 * rv .f32 x * σ)) ?_ (Rat.mul_pos (by grind) (by grind))
      have e1 : Y * ((W + 2 * rv .f32 y * σ) * (W + 2 * rv .f32 x * σ)) = rv .f32 y * (W + B * rv .f32 y) * (W + 2 * rv .f32 x * σ) := by rw [← hY]; grind
      have e2 : Z * (1 + 23 / 10000000) * ((W + 2 * rv .f32 y * σ) * (W + 2 * rv .f32 x * σ)) = rv .f32 x * (W + B * rv .f32 x) * (W + 2 * rv .f32 y * σ) * (1 + 23 / 10000000) := by rw [← hz]; grind
      rw [e1, e2]
      generalize rv .f32 x = X at *
      generalize rv .f32 y = U at *
      have d := show 0 ≤ X - U by grind
      have xu := Rat.mul_nonneg (show 0 ≤ X by grind) (show 0 ≤ U by grind)
      have t1 := Rat.mul_nonneg d (Rat.mul_nonneg (show 0 ≤ W by grind) (show 0 ≤ W by grind))
      have t2 := Rat.mul_nonneg d (Rat.mul_nonneg (Rat.mul_nonneg (show 0 ≤ W by grind) Bn) (show 0 ≤ X + U by grind))
      have t3 := Rat.mul_nonneg d (Rat.mul_nonneg (Rat.mul_nonneg Bn σ0) xu)
      have t4 := Rat.mul_nonneg (show 0 ≤ X * (W + B * X) by grind) (show 0 ≤ W + 2 * U * σ by grind)
      have e : X * (W + B * X) * (W + 2 * U * σ) - U * (W + B * U) * (W + 2 * X * σ) = (X - U) * (W * W) + (X - U) * (W * B * (X + U)) + 2 * ((X - U) * (B * σ * (X * U))) := by grind
      grind
  have pm := pw_mono (δ := 8 / 1000000) c1 (by grind) (by grind) m1 m2 m3 n1 n2 n3 (by decide +kernel) (by decide +kernel) (by
    have t := Rat.mul_le_mul_of_nonneg_right m6 (show (0 : Rat) ≤ 1 + 8 / 1000000 by decide +kernel)
    refine Rat.le_trans n7 (Rat.le_trans ?_ t)
    grind)
  obtain ⟨-, -, g1, -⟩ := pw_run c1 (by grind) (by grind) m1 m2 m3
  obtain ⟨-, -, g2, -⟩ := pw_run c1 (by grind) (by grind) n1 n2 n3
  have ρ1 := h.ρ1
  have R1 := h.R1
  have fe : E ≤ F * (1 + 1 / 10000) := by
    refine cancel_le (c := R) ?_ (by grind)
    have e : F * (1 + 1 / 10000) * R = F * R * (1 + 1 / 10000) := by grind
    rw [e, E1, F1]
    have ay := (ar_bd h.sec (X := rv .f32 y) (by grind) (by grind)).2.2.1
    generalize rv .f32 x * (W + B * rv .f32 x) = A at *
    generalize rv .f32 y * (W + B * rv .f32 y) = C at *
    generalize rv .f32 (pwW 1059760811 (midW w b x)) = G at *
    generalize rv .f32 (pwW 1059760811 (midW w b y)) = K at *
    have u := mul_rng (show 0 ≤ C by grind) sc (show 0 ≤ K by grind) pm (by decide +kernel) (by decide +kernel)
    have AG := Rat.mul_nonneg (show 0 ≤ A by grind) (show 0 ≤ G by grind)
    have u2 := Rat.mul_le_mul_of_nonneg_right (show C * K ≤ A * G * (1 + 1 / 10000) by grind) (show 0 ≤ ρ by grind)
    grind
  have El := E3.hi
  have Fl := F3.lo
  grind
/-- Twice as deep carries much more. -/
theorem flow_double {y : Nat} (fx : isFin .f32 x = true) (x2 : rv .f32 x ≤ 1002) (fy : isFin .f32 y = true) (y1 : 1 / 100 ≤ rv .f32 y) (hy : 1999 / 1000 * rv .f32 y ≤ rv .f32 x) : rv .f32 (flowW w b s r y) < rv .f32 (flowW w b s r x) := by
  obtain ⟨Z, hz⟩ := mid_ex (x := x) h (by grind) (by grind)
  obtain ⟨Y, hY⟩ := mid_ex (x := y) h (by grind) (by grind)
  obtain ⟨m1, m2, m3, m4, m5, m6, m7⟩ := mid_rng h fx (by grind) x2 hz
  obtain ⟨n1, n2, n3, n4, n5, n6, n7⟩ := mid_rng h fy y1 (by grind) hY
  obtain ⟨-, F, F1, F2, F3⟩ := flow_ok h fx (by grind) x2
  obtain ⟨-, E, E1, E2, E3⟩ := flow_ok h fy y1 (by grind)
  obtain ⟨c1, c2, c3, -⟩ := c23
  have W1 := h.sec.W1
  have Bn := h.sec.Bn
  have σ0 : 0 ≤ σ := by have := h.sec.s1; grind
  have px := (wet_bd h.sec (X := rv .f32 x) (by grind) (by grind)).1
  have py := (wet_bd h.sec (X := rv .f32 y) (by grind) (by grind)).1
  have gr := ar_grow (W := W) (B := B) (by grind) Bn (x := rv .f32 x) (y := rv .f32 y) (r := 1999 / 1000) (by grind) (by decide +kernel) hy
  unfold ar at gr
  have zy : Y ≤ Z := by
    refine cancel_le (c := (W + 2 * rv .f32 y * σ) * (W + 2 * rv .f32 x * σ)) ?_ (Rat.mul_pos (by grind) (by grind))
    have e1 : Y * ((W + 2 * rv .f32 y * σ) * (W + 2 * rv .f32 x * σ)) = rv .f32 y * (W + B * rv .f32 y) * (W + 2 * rv .f32 x * σ) := by rw [← hY]; grind
    have e2 : Z * ((W + 2 * rv .f32 y * σ) * (W + 2 * rv .f32 x * σ)) = rv .f32 x * (W + B * rv .f32 x) * (W + 2 * rv .f32 y * σ) := by rw [← hz]; grind
    rw [e1, e2]
    generalize rv .f32 x = X at *
    generalize rv .f32 y = U at *
    have d := show 0 ≤ X - U by grind
    have xu := Rat.mul_nonneg (show 0 ≤ X by grind) (show 0 ≤ U by grind)
    have t1 := Rat.mul_nonneg d (Rat.mul_nonneg (show 0 ≤ W by grind) (show 0 ≤ W by grind))
    have t2 := Rat.mul_nonneg d (Rat.mul_nonneg (Rat.mul_nonneg (show 0 ≤ W by grind) Bn) (show 0 ≤ X + U by grind))
    have t3 := Rat.mul_nonneg d (Rat.mul_nonneg (Rat.mul_nonneg Bn σ0) xu)
    have e : X * (W + B * X) * (W + 2 * U * σ) - U * (W + B * U) * (W + 2 * X * σ) = (X - U) * (W * W) + (X - U) * (W * B * (X + U)) + 2 * ((X - U) * (B * σ * (X * U))) := by grind
    grind
  have pm := pw_mono (δ := 8 / 1000000) c1 (by grind) (by grind) m1 m2 m3 n1 n2 n3 (by decide +kernel) (by decide +kernel) (by
    have t := Rat.mul_le_mul_of_nonneg_right m6 (show (0 : Rat) ≤ 1 + 8 / 1000000 by decide +kernel)
    refine Rat.le_trans n7 (Rat.le_trans ?_ t)
    grind)
  obtain ⟨-, -, g1, -⟩ := pw_run c1 (by grind) (by grind) m1 m2 m3
  obtain ⟨-, -, g2, -⟩ := pw_run c1 (by grind) (by grind) n1 n2 n3
  have ρ1 := h.ρ1
  have R1 := h.R1
  have fe : E * (19 / 10) ≤ F := by
    refine cancel_le (c := R) ?_ (by grind)
    have e : E * (19 / 10) * R = E * R * (19 / 10) := by grind
    rw [e, E1, F1]
    have ay := (ar_bd h.sec (X := rv .f32 y) (by grind) (by grind)).2.2.1
    generalize rv .f32 x * (W + B * rv .f32 x) = A at *
    generalize rv .f32 y * (W + B * rv .f32 y) = C at *
    generalize rv .f32 (pwW 1059760811 (midW w b x)) = G at *
    generalize rv .f32 (pwW 1059760811 (midW w b y)) = K at *
    have u := mul_rng (show 0 ≤ 1999 / 1000 * C by grind) gr (show 0 ≤ K by grind) pm (by decide +kernel) (by decide +kernel)
    have AG := Rat.mul_nonneg (show 0 ≤ A by grind) (show 0 ≤ G by grind)
    have u2 := Rat.mul_le_mul_of_nonneg_right (show C * K * (19 / 10) ≤ A * G by grind) (show 0 ≤ ρ by grind)
    grind
  have El := E3.hi
  have Fl := F3.lo
  grind
end
theorem c1000 : isFin .f32 1148846080 = true ∧ rv .f32 1148846080 = 1000 := by decide +kernel
theorem up40 {k : Nat} (h : k < 40) : decide (((k : Nat) : Int) < 40) = true ∧ IntKind.wrap .i64 ((k : Int) + 1) = ((k + 1 : Nat) : Int) := ⟨by simp only [decide_eq_true_eq]; omega, by rw [wrap_id (by omega) (by omega)]; omega⟩
section
variable {w b s r q : Nat} {W B σ ρ R : Rat} (h : Dr w b s r W B σ ρ R) (fq : isFin .f32 q = true) (q1 : 1 / 4 ≤ rv .f32 q) (q2 : rv .f32 q ≤ 8)
include h fq q1 q2
omit q2 in
theorem normal_low {c : Nat} (fc : isFin .f32 c = true) (c1 : 1 / 100 ≤ rv .f32 c) (c2 : rv .f32 c ≤ 3 / 100) : fgt .f32 (flowW w b s r c) q = false := by
  obtain ⟨Z, hz⟩ := mid_ex (x := c) h (by grind) (by grind)
  obtain ⟨m1, m2, m3, m4, m5, m6, m7⟩ := mid_rng h fc c1 (by grind) hz
  obtain ⟨-, F, F1, F2, F3⟩ := flow_ok h fc c1 (by grind)
  obtain ⟨a1, a2, a3, a4, a5⟩ := ar_bd h.sec (X := rv .f32 c) (by grind) (by grind)
  have W1 := h.sec.W1
  have W2 := h.sec.W2
  have Bn := h.sec.Bn
  have B2 := h.sec.B2
  have s3 := h.sec.s3
  have R1 := h.R1
  have ρ1 := h.ρ1
  have ρ2 := h.ρ2
  have bx := mul_rng Bn B2 c1 c2 (by decide +kernel) (by decide +kernel)
  have sx := Rat.mul_le_mul_of_nonneg_left s3 (show 0 ≤ rv .f32 c by grind)
  have px := (wet_bd h.sec (X := rv .f32 c) (by grind) (by grind)).1
  have zx : Z ≤ rv .f32 c := by
    refine cancel_le (c := W + 2 * rv .f32 c * σ) ?_ (by grind)
    rw [hz]
    exact Rat.mul_le_mul_of_nonneg_left (by grind) (by grind)
  have g := pw_low m1 m2 (by grind)
  obtain ⟨k1, k2, k3, -⟩ := c23
  obtain ⟨-, -, g0, -⟩ := pw_run k1 (by grind) (by grind) m1 m2 m3
  have A2 := (mul_rng c1 c2 (show 1 / 2 ≤ W + B * rv .f32 c by grind) (show W + B * rv .f32 c ≤ 606 / 100 by grind) (by decide +kernel) (by decide +kernel)).2
  generalize rv .f32 c * (W + B * rv .f32 c) = A at *
  generalize rv .f32 (pwW 1059760811 (midW w b c)) = G at *
  have t1 := mul_rng (show 0 ≤ A by grind) A2 (show 0 ≤ G by grind) g (by decide +kernel) (by decide +kernel)
  have t2 := mul_rng t1.1 t1.2 (show 0 ≤ ρ by grind) ρ2 (by decide +kernel) (by decide +kernel)
  have fr := Rat.mul_le_mul_of_nonneg_left R1 (show 0 ≤ F by grind)
  have F9 := F3.hi
  cases hh : fgt .f32 (flowW w b s r c) q with
  | false => rfl
  | true =>
    have := (fgt_rv .f32 F3.fin fq).1 hh
    exfalso; grind
omit q1 in
theorem normal_high {c : Nat} (fc : isFin .f32 c = true) (c1 : 450 ≤ rv .f32 c) (c2 : rv .f32 c ≤ 1002) : fgt .f32 (flowW w b s r c) q = true := by
  obtain ⟨Z, hz⟩ := mid_ex (x := c) h (by grind) (by grind)
  obtain ⟨m1, m2, m3, m4, m5, m6, m7⟩ := mid_rng h fc (by grind) (by grind) hz
  obtain ⟨-, F, F1, F2, F3⟩ := flow_ok h fc (by grind) (by grind)
  obtain ⟨a1, a2, a3, a4, a5⟩ := ar_bd h.sec (X := rv .f32 c) (by grind) (by grind)
  have W1 := h.sec.W1
  have W2 := h.sec.W2
  have Bn := h.sec.Bn
  have B2 := h.sec.B2
  have s2 := h.sec.s2
  have R2 := h.R2
  have ρ1 := h.ρ1
  have ρ2 := h.ρ2
  have px := (wet_bd h.sec (X := rv .f32 c) (by grind) (by grind)).1
  have sx := Rat.mul_le_mul_of_nonneg_left s2 (show 0 ≤ rv .f32 c by grind)
  have wx := Rat.mul_le_mul_of_nonneg_left W1 (show 0 ≤ rv .f32 c by grind)
  have bxx := Rat.mul_le_mul_of_nonneg_right c1 a4
  have zx : 2 / 10 ≤ Z := by
    refine cancel_le (c := W + 2 * rv .f32 c * σ) ?_ (by grind)
    rw [hz]; grind
  have g := pw_high m1 (by grind) m3
  generalize rv .f32 c * (W + B * rv .f32 c) = A at *
  generalize rv .f32 (pwW 1059760811 (midW w b c)) = G at *
  have t1 := mul_rng (show 225 ≤ A by grind) (Rat.le_refl) g (Rat.le_refl) (by decide +kernel) (by decide +kernel)
  have t2 := mul_rng t1.1 (Rat.le_refl) ρ1 ρ2 (by decide +kernel) (by decide +kernel)
  have fr := Rat.mul_le_mul_of_nonneg_left R2 (show 0 ≤ F by grind)
  have F9 := F3.lo
  exact (fgt_rv .f32 F3.fin fq).2 (by grind)
/-- **THE NORMAL DEPTH.** -/
theorem normal_ok : ∃ N, iNormalDepth w b s r q = some (N, true) ∧ isFin .f32 N = true ∧ 3 / 100 ≤ rv .f32 N ∧ rv .f32 N ≤ 451 ∧ rv .f32 q ≤ rv .f32 (flowW w b s r N) ∧ rv .f32 (flowW w b s r N) ≤ rv .f32 q * (1 + 1 / 5000) := by
  obtain ⟨z1, z2⟩ := zero32
  obtain ⟨k1, k2⟩ := c1000
  obtain ⟨lo, hi, e, M1, M2, p1, p2, b1, b2, b3, b4⟩ := bisect (f := fun t : Nat × Nat × Int => (ihalve_iNormalDepth_1_l2_t w b s r q t.1 t.2.1 t.2.2).sem) (fun c => fgt .f32 (flowW w b s r c) q) 0 1148846080 (3 / 100) 450 0 1000 (by decide +kernel) z1 k1 z2 k2 (by decide +kernel) (by decide +kernel) (by decide +kernel) (by decide +kernel) (by decide +kernel)
    (fun lo hi k hk M => by
      have m1 := M.t
      have m2 := M.hi
      obtain ⟨u1, u2⟩ := up40 hk
      have fo := (flow_ok h M.fin (by grind) (by grind)).1
      unfold mid at fo ⊢
      simp only [ihalve_iNormalDepth_1_l2_t, iNormalDepth_1, iNormalDepth_1_t, Tr.sem, u1, u2, fo, osome, oget, cond_true, cond_false, Bool.not_true]
      cases fgt .f32 (flowW w b s r (fmul .f32 1056964608 (fadd .f32 lo hi))) q <;> rfl)
    (fun lo hi => rfl)
    (fun c M c2 => normal_low h fq q1 M.fin (by have := M.t; grind) c2)
    (fun c M c2 => normal_high h fq q2 M.fin c2 (by have := M.hi; grind))
  have m1 := M1.t
  have m2 := M1.hi
  have m3 := M2.t
  have m4 := M2.hi
  obtain ⟨-, F, F1, F2, F3⟩ := flow_ok h M1.fin (by grind) (by grind)
  obtain ⟨-, E, E1, E2, E3⟩ := flow_ok h M2.fin (by grind) (by grind)
  have mo := flow_mono h M1.fin (by grind) (by grind) M2.fin (by grind) (by grind) (by grind)
  have g2 := (fgt_rv .f32 E3.fin fq).1 p2
  have g1 : rv .f32 (flowW w b s r lo) ≤ rv .f32 q := by
    rcases Rat.le_total (a := rv .f32 (flowW w b s r lo)) (b := rv .f32 q) with g | g
    · exact g
    · rcases Rat.le_iff_lt_or_eq.1 g with g | g
      · have := (fgt_rv .f32 F3.fin fq).2 g
        rw [this] at p1; cases p1
      · grind
  have lq : isLen q = true := len_iff.2 ⟨fq, by grind⟩
  have e' : ihalve_iNormalDepth_1_l2 0 1148846080 w b s r q 0 = some (.inr (lo, hi)) := e
  refine ⟨hi, ?_, M2.fin, b2, by grind, by grind, by grind⟩
  unfold iNormalDepth iNormalDepth_t ihalve_iNormalDepth_1 ihalve_iNormalDepth_1_t
  simp only [isFlow_ok h lq, e', Tr.sem, osome, oget, isL, unR, cond_true, cond_false, Bool.not_true]
theorem crit_low {c : Nat} (fc : isFin .f32 c = true) (c1 : 1 / 100 ≤ rv .f32 c) (c2 : rv .f32 c ≤ 4 / 100) : fgt .f32 (crL w b c) (crR w b c q) = false := by
  obtain ⟨l, u⟩ := cr_re h.sec fc rfl (by grind) (by grind) fq rfl q1 q2
  obtain ⟨-, g1, g2, -⟩ := c_tab
  obtain ⟨a1, a2, a3, a4, a5⟩ := ar_bd h.sec (X := rv .f32 c) (by grind) (by grind)
  have W1 := h.sec.W1
  have W2 := h.sec.W2
  have Bn := h.sec.Bn
  have B2 := h.sec.B2
  have bx := mul_rng Bn B2 c1 c2 (by decide +kernel) (by decide +kernel)
  have A2 := mul_rng c1 c2 (show 0 ≤ W + B * rv .f32 c by grind) (show W + B * rv .f32 c ≤ 116 / 100 * W by grind) (by decide +kernel) (by decide +kernel)
  have ll := l.hi
  have uu := u.lo
  have e2 : 2 * B * rv .f32 c = 2 * (B * rv .f32 c) := by grind
  have qq := mul_rng q1 q2 q1 q2 (by decide +kernel) (by decide +kernel)
  have tt := mul_rng qq.1 qq.2 (show W ≤ W + 2 * B * rv .f32 c by grind) (Rat.le_refl) (by decide +kernel) (by grind)
  generalize rv .f32 c * (W + B * rv .f32 c) = A at *
  have aa := mul_rng (show 0 ≤ A by grind) (show A ≤ 279 / 1000 by grind) (show 0 ≤ A by grind) (show A ≤ 279 / 1000 by grind) (by decide +kernel) (by decide +kernel)
  have aaa := mul_rng aa.1 aa.2 (show 0 ≤ A by grind) (show A ≤ 464 / 10000 * W by grind) (by decide +kernel) (by decide +kernel)
  have gaa := mul_rng (show 0 ≤ gg by grind) (show gg ≤ 982 / 100 by grind) (show 0 ≤ A * A * A by grind) aaa.2 (by decide +kernel) (by decide +kernel)
  cases hh : fgt .f32 (crL w b c) (crR w b c q) with
  | false => rfl
  | true =>
    have := (fgt_rv .f32 l.fin u.fin).1 hh
    exfalso; grind
theorem crit_high {c : Nat} (fc : isFin .f32 c = true) (c1 : 5 ≤ rv .f32 c) (c2 : rv .f32 c ≤ 1002) : fgt .f32 (crL w b c) (crR w b c q) = true := by
  obtain ⟨l, u⟩ := cr_re h.sec fc rfl (by grind) (by grind) fq rfl q1 q2
  obtain ⟨-, g1, g2, -⟩ := c_tab
  obtain ⟨a1, a2, a3, a4, a5⟩ := ar_bd h.sec (X := rv .f32 c) (by grind) (by grind)
  have W1 := h.sec.W1
  have W2 := h.sec.W2
  have Bn := h.sec.Bn
  have ll := l.lo
  have uu := u.hi
  have e2 : 2 * B * rv .f32 c = 2 * (B * rv .f32 c) := by grind
  have qq := mul_rng q1 q2 q1 q2 (by decide +kernel) (by decide +kernel)
  have cw := Rat.mul_le_mul_of_nonneg_right c1 (show 0 ≤ W + B * rv .f32 c by grind)
  have tt := mul_rng qq.1 qq.2 (show 0 ≤ W + 2 * B * rv .f32 c by grind) (Rat.le_refl) (by decide +kernel) (by decide +kernel)
  have t0 : 1 / 2 ≤ W + 2 * B * rv .f32 c := by grind
  have at' : 25 / 10 * (W + 2 * B * rv .f32 c) ≤ rv .f32 c * (W + B * rv .f32 c) := by grind
  generalize rv .f32 c * (W + B * rv .f32 c) = A at *
  generalize W + 2 * B * rv .f32 c = t at *
  have aa := mul_rng (show 25 / 10 ≤ A by grind) Rat.le_refl (show 25 / 10 ≤ A by grind) Rat.le_refl (by decide +kernel) (by decide +kernel)
  have aaa := mul_rng aa.1 Rat.le_refl at' Rat.le_refl (by decide +kernel) (by grind)
  have gaa := mul_rng (show 9 ≤ gg by grind) Rat.le_refl aaa.1 Rat.le_refl (by decide +kernel) (by grind)
  exact (fgt_rv .f32 l.fin u.fin).2 (by grind)
/-- **THE CRITICAL DEPTH.** -/
theorem crit_ok : ∃ C, iCriticalDepth w b s r q = some (C, true) ∧ isFin .f32 C = true ∧ 4 / 100 ≤ rv .f32 C ∧ rv .f32 C ≤ 501 / 100 ∧
    rv .f32 q * rv .f32 q * tp W B (rv .f32 C) * (1 - 1 / 40000) ≤ gg * (ar W B (rv .f32 C) * ar W B (rv .f32 C) * ar W B (rv .f32 C)) ∧ gg * (ar W B (rv .f32 C) * ar W B (rv .f32 C) * ar W B (rv .f32 C)) ≤ rv .f32 q * rv .f32 q * tp W B (rv .f32 C) * (1 + 1 / 40000) := by
  obtain ⟨z1, z2⟩ := zero32
  obtain ⟨k1, k2⟩ := c1000
  obtain ⟨lo, hi, e, M1, M2, p1, p2, b1, b2, b3, b4⟩ := bisect (f := fun t : Nat × Nat × Int => (ihalve_iCriticalDepth_1_l2_t w b s r q t.1 t.2.1 t.2.2).sem) (fun c => fgt .f32 (crL w b c) (crR w b c q)) 0 1148846080 (4 / 100) 5 0 1000 (by decide +kernel) z1 k1 z2 k2 (by decide +kernel) (by decide +kernel) (by decide +kernel) (by decide +kernel) (by decide +kernel)
    (fun lo hi k hk M => by
      have m1 := M.t
      have m2 := M.hi
      obtain ⟨u1, u2⟩ := up40 hk
      have fo := area_ok h M.fin (by grind) (by grind)
      have to := top_ok h M.fin (by grind) (by grind)
      unfold mid at fo to ⊢
      simp only [ihalve_iCriticalDepth_1_l2_t, iCriticalDepth_1, iCriticalDepth_1_t, Tr.sem, u1, u2, fo, to, osome, oget, cond_true, cond_false, Bool.not_true]
      unfold crL crR
      cases fgt .f32 (fmul .f32 1092416963 (fmul .f32 (fmul .f32 (areaW w b (fmul .f32 1056964608 (fadd .f32 lo hi))) (areaW w b (fmul .f32 1056964608 (fadd .f32 lo hi)))) (areaW w b (fmul .f32 1056964608 (fadd .f32 lo hi))))) (fmul .f32 (fmul .f32 q q) (topW w b (fmul .f32 1056964608 (fadd .f32 lo hi)))) <;> rfl)
    (fun lo hi => rfl)
    (fun c M c2 => crit_low h fq q1 q2 M.fin (by have := M.t; grind) c2)
    (fun c M c2 => crit_high h fq q1 q2 M.fin c2 (by have := M.hi; grind))
  have m1 := M1.t
  have m2 := M1.hi
  have m3 := M2.t
  have m4 := M2.hi
  obtain ⟨l1, u1⟩ := cr_re h.sec M1.fin rfl (by grind) (by grind) fq rfl q1 q2
  obtain ⟨l2, u2⟩ := cr_re h.sec M2.fin rfl (by grind) (by grind) fq rfl q1 q2
  have g2 := (fgt_rv .f32 l2.fin u2.fin).1 p2
  have g1 : rv .f32 (crL w b lo) ≤ rv .f32 (crR w b lo q) := by
    rcases Rat.le_total (a := rv .f32 (crL w b lo)) (b := rv .f32 (crR w b lo q)) with g | g
    · exact g
    · rcases Rat.le_iff_lt_or_eq.1 g with g | g
      · have := (fgt_rv .f32 l1.fin u1.fin).2 g
        rw [this] at p1; cases p1
      · grind
  have lq : isLen q = true := len_iff.2 ⟨fq, by grind⟩
  have e' : ihalve_iCriticalDepth_1_l2 0 1148846080 w b s r q 0 = some (.inr (lo, hi)) := e
  have W1 := h.sec.W1
  have Bn := h.sec.Bn
  obtain ⟨-, gg1, gg2, -⟩ := c_tab
  have A1 := ar_pos (W := W) (B := B) (by grind) Bn (x := rv .f32 lo) (by grind)
  have A2 := ar_pos (W := W) (B := B) (by grind) Bn (x := rv .f32 hi) (by grind)
  have T2 := tp_pos (W := W) (B := B) (by grind) Bn (x := rv .f32 hi) (by grind)
  have sc := ar_scale (W := W) (B := B) (by grind) Bn (x := rv .f32 hi) (y := rv .f32 lo) (r := 1 + 11 / 10000000) (by grind) (by grind) (by decide +kernel) (by grind)
  have bl := Rat.mul_le_mul_of_nonneg_left (show rv .f32 lo ≤ (1 + 11 / 10000000) * rv .f32 hi by grind) Bn
  have tl : tp W B (rv .f32 lo) ≤ (1 + 11 / 10000000) * tp W B (rv .f32 hi) := by unfold tp; grind
  have a1 := l1.lo
  have a2 := u1.hi
  have a3 := l2.hi
  have a4 := u2.lo
  change gg * (ar W B (rv .f32 lo) * ar W B (rv .f32 lo) * ar W B (rv .f32 lo)) * _ ≤ _ at a1
  change _ ≤ rv .f32 q * rv .f32 q * tp W B (rv .f32 lo) * _ at a2
  change _ ≤ gg * (ar W B (rv .f32 hi) * ar W B (rv .f32 hi) * ar W B (rv .f32 hi)) * _ at a3
  change rv .f32 q * rv .f32 q * tp W B (rv .f32 hi) * _ ≤ _ at a4
  refine ⟨hi, ?_, M2.fin, b2, by grind, ?_, ?_⟩
  · unfold iCriticalDepth iCriticalDepth_t ihalve_iCriticalDepth_1 ihalve_iCriticalDepth_1_t
    simp only [isFlow_ok h lq, e', Tr.sem, osome, oget, isL, unR, cond_true, cond_false, Bool.not_true]
  · have qq := Rat.mul_pos (show 0 < rv .f32 q by grind) (show 0 < rv .f32 q by grind)
    have qt := Rat.mul_pos qq T2
    have c3 := Rat.mul_pos (Rat.mul_pos A2 A2) A2
    have gc := Rat.mul_pos (show 0 < gg by grind) c3
    grind
  · have qq := Rat.mul_pos (show 0 < rv .f32 q by grind) (show 0 < rv .f32 q by grind)
    have qt := Rat.mul_le_mul_of_nonneg_left tl (Rat.le_of_lt qq)
    have qt2 := Rat.mul_pos qq T2
    generalize ar W B (rv .f32 lo) = a at *
    generalize ar W B (rv .f32 hi) = c at *
    have sc' : c ≤ (1 + 23 / 10000000) * a := by grind
    have cc := mul_rng (Rat.le_of_lt A2) sc' (Rat.le_of_lt A2) sc' (by decide +kernel) (by decide +kernel)
    have ccc := mul_rng (show 0 ≤ c * c by grind) cc.2 (Rat.le_of_lt A2) sc' (by decide +kernel) (by decide +kernel)
    have aaa := Rat.mul_pos (Rat.mul_pos A1 A1) A1
    have gcc := Rat.mul_le_mul_of_nonneg_left (show c * c * c ≤ a * a * a * (1 + 7 / 1000000) by grind) (show 0 ≤ gg by grind)
    have gaa := Rat.mul_pos (show 0 < gg by grind) aaa
    grind
end
theorem j_vals : jR 0 = 1 / 12 ∧ jR 1 = 1 / 11 ∧ jR 2 = 1 / 10 ∧ jR 3 = 1 / 9 ∧ jR 4 = 1 / 8 ∧ jR 5 = 1 / 7 ∧ jR 6 = 1 / 6 ∧ jR 7 = 1 / 5 ∧ jR 8 = 1 / 4 ∧ jR 9 = 1 / 3 ∧ jR 10 = 1 / 2 ∧ jR 11 = 1 / 1 := by decide +kernel
theorem p12 (t : Rat) : pR t 12 = 1 + t * (1 + t * (1 + t * (1 + t * (1 + t * (1 + t * (1 + t * (1 + t * (1 + t * (1 + t * (1 + t * (1 + t * 1 * (1 / 12)) * (1 / 11)) * (1 / 10)) * (1 / 9)) * (1 / 8)) * (1 / 7)) * (1 / 6)) * (1 / 5)) * (1 / 4)) * (1 / 3)) * (1 / 2)) * (1 / 1) := by
  obtain ⟨a0, a1, a2, a3, a4, a5, a6, a7, a8, a9, a10, a11⟩ := j_vals
  simp only [pR, a0, a1, a2, a3, a4, a5, a6, a7, a8, a9, a10, a11]
def remP (t : Rat) : Rat := (1 / 760320 + t * (629 / 3353011200 + t * (139 / 5588352000 + t * (2467 / 804722688000 + t * (47 / 134120448000 + t * (67 / 1810626048000 + t * (13 / 3621252096000 + t * (23 / 72425041920000 + t * (1 / 39504568320000 + t * (17 / 9560105533440000 + t * (1 / 9560105533440000 + t * (1 / 229442532802560000))))))))))))
theorem p_sq (t : Rat) : pR t 12 * pR t 12 = pR (2 * t) 12 + t ^ 13 * remP t := by
  rw [p12, p12]; unfold remP; grind
theorem hor {c t h : Rat} (c0 : 0 ≤ c) (c1 : c ≤ 1 / 2) (t0 : -(1 / 50) ≤ t) (t1 : t ≤ 1 / 50) (H : -1 ≤ h ∧ h ≤ 1) : -1 ≤ c + t * h ∧ c + t * h ≤ 1 := by
  have := mulB (x := t) (y := h) (m := 1 / 50) (n := 1) ⟨t0, t1⟩ ⟨by grind, H.2⟩
  exact ⟨by grind, by grind⟩
theorem pow_small {t : Rat} (t0 : -(1 / 50) ≤ t) (t1 : t ≤ 1 / 50) : ∀ n : Nat, -((1 / 50 : Rat) ^ n) ≤ t ^ n ∧ t ^ n ≤ (1 / 50 : Rat) ^ n
  | 0 => by rw [Rat.pow_zero, Rat.pow_zero]; exact ⟨by decide +kernel, Rat.le_refl⟩
  | n + 1 => by
    have i := pow_small t0 t1 n
    have m := mulB (x := t ^ n) (y := t) (m := (1 / 50 : Rat) ^ n) (n := 1 / 50) i ⟨t0, t1⟩
    rw [Rat.pow_succ, Rat.pow_succ]
    exact m
theorem rem_small {t : Rat} (t0 : -(1 / 50) ≤ t) (t1 : t ≤ 1 / 50) : -1 ≤ remP t ∧ remP t ≤ 1 := by
  unfold remP
  repeat (first | exact ⟨by decide +kernel, by decide +kernel⟩ | refine hor (by decide +kernel) (by decide +kernel) t0 t1 ?_)
theorem p_sq_near {t : Rat} (t0 : -(1 / 50) ≤ t) (t1 : t ≤ 1 / 50) : pR t 12 * pR t 12 - pR (2 * t) 12 ≤ 1 / 10 ^ 15 ∧ pR (2 * t) 12 - pR t 12 * pR t 12 ≤ 1 / 10 ^ 15 := by
  have e := p_sq t
  have r := rem_small t0 t1
  have p := pow_small t0 t1 13
  have m := mulB (x := t ^ 13) (y := remP t) (m := (1 / 50 : Rat) ^ 13) (n := 1) p ⟨by grind, r.2⟩
  have c : (1 / 50 : Rat) ^ 13 ≤ 1 / 10 ^ 15 := by decide +kernel
  generalize (1 / 50 : Rat) ^ 13 = K at *
  generalize t ^ 13 * remP t = M at *
  exact ⟨by grind, by grind⟩
theorem sqW_one (p : Nat) : ∀ n, sqW (sqW p 1) n = sqW p (n + 1)
  | 0 => rfl
  | n + 1 => by
    show fmul .f64 (sqW (sqW p 1) n) (sqW (sqW p 1) n) = fmul .f64 (sqW p (n + 1)) (sqW p (n + 1))
    rw [sqW_one p n]
theorem c43 : isFin .f32 1068149419 = true ∧ 0 ≤ rv .f32 1068149419 ∧ rv .f32 1068149419 ≤ 134 / 100 ∧ rv .f32 1068149419 = 2 * rv .f32 1059760811 := by decide +kernel
/-- **THE SQUARE OF THE TWO THIRDS IS THE FOUR THIRDS**, nearly. -/
theorem pw_sq {m : Nat} (fm : isFin .f32 m = true) (h1 : 1 / 1000 ≤ rv .f32 m) (h2 : rv .f32 m ≤ 1000) :
    rv .f32 (pwW 1068149419 m) ≤ rv .f32 (pwW 1059760811 m) * rv .f32 (pwW 1059760811 m) * (1 + 1 / 50000) ∧ rv .f32 (pwW 1059760811 m) * rv .f32 (pwW 1059760811 m) ≤ rv .f32 (pwW 1068149419 m) * (1 + 1 / 50000) := by
  obtain ⟨a1, a2, a3, a4, a5⟩ := c23
  obtain ⟨b1, b2, b3, b4⟩ := c43
  obtain ⟨-, fl, y, E, -, -, -, -, -, -, l1, l2⟩ := lg_run fm h1 h2
  obtain ⟨f, x0, x1, x2, x3⟩ := pw_arg a1 (by grind) (by grind) fm h1 h2
  obtain ⟨g, z0, z1, z2, z3⟩ := pw_arg b1 b2 b3 fm h1 h2
  have bnd := mulB (x := rv .f32 1059760811) (y := rv .f32 (lgW m)) (m := 667 / 1000) (n := 72 / 10) ⟨by grind, a3⟩ ⟨l1, l2⟩
  have e2 : rv .f32 1068149419 * rv .f32 (lgW m) = 2 * (rv .f32 1059760811 * rv .f32 (lgW m)) := by rw [b4]; grind
  rw [e2] at z2 z3
  obtain ⟨t1, t2, t3⟩ := exp_t f x0 x1
  obtain ⟨u1, u2, u3⟩ := exp_t g z0 z1
  obtain ⟨p1, p2, p3⟩ := exp_p f x0 x1
  obtain ⟨q1, q2, q3⟩ := exp_p g z0 z1
  obtain ⟨ef, -, ew, ew2, ew3, ew4⟩ := exp_ok f x0 x1
  obtain ⟨gf, -, gw, gw2, gw3, gw4⟩ := exp_ok g z0 z1
  unfold pwW
  unfold wideE at ew3 ew4 gw3 gw4
  generalize expW (fmul .f32 1059760811 (lgW m)) = X at *
  generalize expW (fmul .f32 1068149419 (lgW m)) = Y at *
  have pw := p_word t1 (by grind) (by grind) 12 (Nat.le_refl _)
  have qw := p_word u1 (by grind) (by grind) 12 (Nat.le_refl _)
  have near := p_sq_near (t := rv .f64 (fdiv .f64 (fup (fmul .f32 1059760811 (lgW m))) 4643211215818981376)) (by grind) (by grind)
  have pr := pR_rng (t := rv .f64 (fdiv .f64 (fup (fmul .f32 1059760811 (lgW m))) 4643211215818981376)) (by grind) (by grind) 12 (Nat.le_refl _)
  have qr := pR_rng (t := rv .f64 (fdiv .f64 (fup (fmul .f32 1068149419 (lgW m))) 4643211215818981376)) (by grind) (by grind) 12 (Nat.le_refl _)
  have lip : -(2 / 10 ^ 8) ≤ pR (rv .f64 (fdiv .f64 (fup (fmul .f32 1068149419 (lgW m))) 4643211215818981376)) 12 - pR (2 * rv .f64 (fdiv .f64 (fup (fmul .f32 1059760811 (lgW m))) 4643211215818981376)) 12 ∧ pR (rv .f64 (fdiv .f64 (fup (fmul .f32 1068149419 (lgW m))) 4643211215818981376)) 12 - pR (2 * rv .f64 (fdiv .f64 (fup (fmul .f32 1059760811 (lgW m))) 4643211215818981376)) 12 ≤ 2 / 10 ^ 8 := by
    rcases Rat.le_total (a := 2 * rv .f64 (fdiv .f64 (fup (fmul .f32 1059760811 (lgW m))) 4643211215818981376)) (b := rv .f64 (fdiv .f64 (fup (fmul .f32 1068149419 (lgW m))) 4643211215818981376)) with c | c
    · have l := pR_lip (by grind) c (by grind) 12 (Nat.le_refl _); exact ⟨by grind, by grind⟩
    · have l := pR_lip (by grind) c (by grind) 12 (Nat.le_refl _); exact ⟨by grind, by grind⟩
  generalize fdiv .f64 (fup (fmul .f32 1059760811 (lgW m))) 4643211215818981376 = t at *
  generalize fdiv .f64 (fup (fmul .f32 1068149419 (lgW m))) 4643211215818981376 = u at *
  generalize hp : pW t 12 = p at *
  generalize hq : pW u 12 = q at *
  generalize pR (rv .f64 t) 12 = P at *
  generalize pR (rv .f64 u) 12 = Q at *
  generalize pR (2 * rv .f64 t) 12 = P2 at *
  -- the square of p
  have d := mulB (x := rv .f64 p - P) (y := rv .f64 p + P) (m := 2 / 10 ^ 15) (n := 3) ⟨by grind, by grind⟩ ⟨by grind, by grind⟩
  have pp := mul_rng p2 p3 p2 p3 (by decide +kernel) (by decide +kernel)
  obtain ⟨s1, s2, s3, -, -⟩ := mul_rv .f64 p1 p1 2 (by grind) (by grind) (by decide +kernel)
  rw [eps64] at s2 s3
  have sq1 : sqW p 1 = fmul .f64 p p := rfl
  have sc : isFin .f64 (sqW p 1) = true := s1
  have r1 : rv .f64 (sqW p 1) - rv .f64 q ≤ 3 / 10 ^ 8 := by rw [sq1]; grind
  have r2 : rv .f64 q - rv .f64 (sqW p 1) ≤ 3 / 10 ^ 8 := by rw [sq1]; grind
  have sl : 94 / 100 ≤ rv .f64 (sqW p 1) := by rw [sq1]; grind
  have su : rv .f64 (sqW p 1) ≤ 106 / 100 := by rw [sq1]; grind
  have T1 := sq_two q1 q2 q3 sc sl su (a := 4 / 10 ^ 8) (by decide +kernel) (by decide +kernel) (by grind) 8 (Nat.le_refl _)
  have T2 := sq_two sc sl su q1 q2 q3 (a := 4 / 10 ^ 8) (by decide +kernel) (by decide +kernel) (by grind) 8 (Nat.le_refl _)
  have ae := aB_end (4 / 10 ^ 8) (by decide +kernel)
  rw [sqW_one] at T1 T2
  obtain ⟨w1, w2, w3⟩ := sq_rng p1 p2 p3 8 (Nat.le_refl _)
  obtain ⟨v1, v2, v3⟩ := sq_rng q1 q2 q3 8 (Nat.le_refl _)
  obtain ⟨n1, n2, n3⟩ := b_tab ⟨8, by omega⟩
  simp only at n1 n2 n3
  have big : (10 : Rat) ^ 9 * 10 ^ 9 ≤ 2 ^ 100 := by decide +kernel
  have ww := mul_rng (show 1 / 10 ^ 12 ≤ rv .f64 (sqW p 8) by grind) (show rv .f64 (sqW p 8) ≤ 10 ^ 9 by grind) (show 1 / 10 ^ 12 ≤ rv .f64 (sqW p 8) by grind) (show rv .f64 (sqW p 8) ≤ 10 ^ 9 by grind) (by decide +kernel) (by decide +kernel)
  obtain ⟨o1, o2, o3, -, -⟩ := mul_rv .f64 w1 w1 (rv .f64 (sqW p 8) * rv .f64 (sqW p 8)) (by grind) Rat.le_refl (by grind)
  rw [eps64] at o2 o3
  change _ ≤ rv .f64 (sqW p (8 + 1)) at o2
  change rv .f64 (sqW p (8 + 1)) ≤ _ at o3
  have XX := mul_rng ew3 ew4 ew3 ew4 (by grind) (by grind)
  generalize aB (4 / 10 ^ 8) 8 = α at *
  have α0 : α ≤ 12 / 1000000 := by grind
  have V1 := Rat.mul_le_mul_of_nonneg_left (c := rv .f64 (sqW q 8)) (show 1 + α ≤ 1 + 12 / 1000000 by grind) (by grind)
  have V2 := Rat.mul_le_mul_of_nonneg_left (c := rv .f64 (sqW p (8 + 1))) (show 1 + α ≤ 1 + 12 / 1000000 by grind) (by grind)
  have e3 : rv .f64 (sqW p 8) * (1 - 13 / 100000000) * (rv .f64 (sqW p 8) * (1 - 13 / 100000000)) = rv .f64 (sqW p 8) * rv .f64 (sqW p 8) * ((1 - 13 / 100000000) * (1 - 13 / 100000000)) := by grind
  have e4 : rv .f64 (sqW p 8) * (1 + 13 / 100000000) * (rv .f64 (sqW p 8) * (1 + 13 / 100000000)) = rv .f64 (sqW p 8) * rv .f64 (sqW p 8) * ((1 + 13 / 100000000) * (1 + 13 / 100000000)) := by grind
  rw [e3, e4] at XX
  generalize rv .f64 (sqW p 8) * rv .f64 (sqW p 8) = S at *
  exact ⟨by grind, by grind⟩
noncomputable def steepW (w b r x q : Nat) : Nat := fdiv .f32 (fmul .f32 (fmul .f32 r (speedW w b x q)) (fmul .f32 r (speedW w b x q))) (pwW 1068149419 (midW w b x))
/-- What is known of steepness at a depth. -/
structure Stp (w b r x q : Nat) (W B R V S : Rat) : Prop where
  v : V * ar W B (rv .f32 x) = rv .f32 q
  v0 : 0 < V
  s : S * rv .f32 (pwW 1068149419 (midW w b x)) = R * V * (R * V)
  s0 : 0 < S
  re : Re (4 / 1000000) (steepW w b r x q) S
section
variable {w b s r x y q : Nat} {W B σ ρ R : Rat} (h : Dr w b s r W B σ ρ R) (fx : isFin .f32 x = true) (x1 : 1 / 100 ≤ rv .f32 x) (x2 : rv .f32 x ≤ 1002)
include h fx x1 x2
theorem mid_fin : isFin .f32 (midW w b x) = true ∧ 1 / 1000 ≤ rv .f32 (midW w b x) ∧ rv .f32 (midW w b x) ≤ 1000 := by
  obtain ⟨Z, hz⟩ := mid_ex (x := x) h (by grind) (by grind)
  obtain ⟨m1, m2, m3, -⟩ := mid_rng h fx x1 x2 hz
  exact ⟨m1, m2, m3⟩
/-- Middle depths grow with depths. -/
theorem mid_mono (fy : isFin .f32 y = true) (y1 : 1 / 100 ≤ rv .f32 y) (hy : rv .f32 y ≤ rv .f32 x) : rv .f32 (midW w b y) ≤ rv .f32 (midW w b x) * (1 + 8 / 1000000) := by
  obtain ⟨Z, hz⟩ := mid_ex (x := x) h (by grind) (by grind)
  obtain ⟨Y, hY⟩ := mid_ex (x := y) h (by grind) (by grind)
  obtain ⟨m1, m2, m3, m4, m5, m6, m7⟩ := mid_rng h fx x1 x2 hz
  obtain ⟨n1, n2, n3, n4, n5, n6, n7⟩ := mid_rng h fy y1 (by grind) hY
  have W1 := h.sec.W1
  have Bn := h.sec.Bn
  have σ0 : 0 ≤ σ := by have := h.sec.s1; grind
  have px := (wet_bd h.sec (X := rv .f32 x) (by grind) (by grind)).1
  have py := (wet_bd h.sec (X := rv .f32 y) (by grind) (by grind)).1
  have zy : Y ≤ Z := by
    refine cancel_le (c := (W + 2 * rv .f32 y * σ) * (W + 2 * rv .f32 x * σ)) ?_ (Rat.mul_pos (by grind) (by grind))
    have e1 : Y * ((W + 2 * rv .f32 y * σ) * (W + 2 * rv .f32 x * σ)) = rv .f32 y * (W + B * rv .f32 y) * (W + 2 * rv .f32 x * σ) := by rw [← hY]; grind
    have e2 : Z * ((W + 2 * rv .f32 y * σ) * (W + 2 * rv .f32 x * σ)) = rv .f32 x * (W + B * rv .f32 x) * (W + 2 * rv .f32 y * σ) := by rw [← hz]; grind
    rw [e1, e2]
    generalize rv .f32 x = X at *
    generalize rv .f32 y = U at *
    have d := show 0 ≤ X - U by grind
    have xu := Rat.mul_nonneg (show 0 ≤ X by grind) (show 0 ≤ U by grind)
    have t1 := Rat.mul_nonneg d (Rat.mul_nonneg (show 0 ≤ W by grind) (show 0 ≤ W by grind))
    have t2 := Rat.mul_nonneg d (Rat.mul_nonneg (Rat.mul_nonneg (show 0 ≤ W by grind) Bn) (show 0 ≤ X + U by grind))
    have t3 := Rat.mul_nonneg d (Rat.mul_nonneg (Rat.mul_nonneg Bn σ0) xu)
    have e : X * (W + B * X) * (W + 2 * U * σ) - U * (W + B * U) * (W + 2 * X * σ) = (X - U) * (W * W) + (X - U) * (W * B * (X + U)) + 2 * ((X - U) * (B * σ * (X * U))) := by grind
    grind
  have t := Rat.mul_le_mul_of_nonneg_right m6 (show (0 : Rat) ≤ 1 + 8 / 1000000 by decide +kernel)
  refine Rat.le_trans n7 (Rat.le_trans ?_ t)
  grind
theorem g4_mono (fy : isFin .f32 y = true) (y1 : 1 / 100 ≤ rv .f32 y) (hy : rv .f32 y ≤ rv .f32 x) : rv .f32 (pwW 1068149419 (midW w b y)) ≤ rv .f32 (pwW 1068149419 (midW w b x)) * (1 + 1 / 10000) := by
  obtain ⟨c1, c2, c3, -⟩ := c43
  obtain ⟨m1, m2, m3⟩ := mid_fin h fx x1 x2
  obtain ⟨n1, n2, n3⟩ := mid_fin h fy y1 (by grind)
  have pm := pw_mono (δ := 8 / 1000000) c1 c2 c3 m1 m2 m3 n1 n2 n3 (by decide +kernel) (by decide +kernel) (mid_mono h fx x1 x2 fy y1 hy)
  obtain ⟨-, -, g, -⟩ := pw_run c1 c2 c3 m1 m2 m3
  have := Rat.mul_le_mul_of_nonneg_left (show (1 : Rat) + 8 * (8 / 1000000) + 3 / 100000 ≤ 1 + 1 / 10000 by decide +kernel) (show 0 ≤ rv .f32 (pwW 1068149419 (midW w b x)) by grind)
  exact Rat.le_trans pm this
variable (fq : isFin .f32 q = true) (q1 : 1 / 4 ≤ rv .f32 q) (q2 : rv .f32 q ≤ 8)
include fq q1 q2
theorem steep_ok : iSteepnessAt w b s r x q = some (steepW w b r x q, true) ∧ ∃ V S, Stp w b r x q W B R V S := by
  obtain ⟨V, D, hv, hd⟩ := speed_ex (x := x) h q (by grind) (by grind)
  obtain ⟨rs, vl, vu⟩ := speed_re h.sec fx rfl (by grind) (by grind) fq rfl q1 q2 hv
  obtain ⟨m1, m2, m3⟩ := mid_fin h fx x1 x2
  obtain ⟨c1, c2, c3, -⟩ := c43
  obtain ⟨p1, p2, p3, p4⟩ := pw_run c1 c2 c3 m1 m2 m3
  obtain ⟨l1, l2, -⟩ := lg_run m1 m2 m3
  have rp := re_self p2
  have rr := re_self (len_iff.1 h.lr).1
  rw [h.vR] at rr
  have R1 := h.R1
  have R2 := h.R2
  have hS := Rat.div_mul_cancel (a := R * V * (R * V)) (b := rv .f32 (pwW 1068149419 (midW w b x))) (by grind)
  have key : ∃ S, S * rv .f32 (pwW 1068149419 (midW w b x)) = R * V * (R * V) ∧ 0 < S ∧ Re (4 / 1000000) (steepW w b r x q) S := by
    refine ⟨_, hS, ?_⟩
    unfold steepW
    generalize pwW 1068149419 (midW w b x) = G at *
    generalize R * V * (R * V) / rv .f32 G = S at *
    have k1 := mul_rng R1 R2 vl vu (by decide +kernel) (by decide +kernel)
    have k2 := mul_rng k1.1 k1.2 k1.1 k1.2 (by decide +kernel) (by decide +kernel)
    have e1 := re_mul (d := 13 / 10000000) rr rs (by decide +kernel) (by decide +kernel) (by decide +kernel) (by decide +kernel) (by decide +kernel) (by grind) (by grind) (by right; grind) (by grind)
    have e2 := re_mul (d := 3 / 1000000) e1 e1 (by decide +kernel) (by decide +kernel) (by decide +kernel) (by decide +kernel) (by decide +kernel) (by grind) (by grind) (by right; grind) (by grind)
    have s1 : 1 / 10 ^ 29 ≤ S := by
      refine cancel_le (c := rv .f32 G) ?_ (by grind)
      rw [hS]; grind
    have s2 : S ≤ 10 ^ 25 := by
      refine cancel_le (c := rv .f32 G) ?_ (by grind)
      rw [hS]; grind
    exact ⟨by grind, re_div e2 rp hS (by decide +kernel) (by decide +kernel) (by decide +kernel) (by decide +kernel) (by decide +kernel) (by grind) (by grind) (by right; grind) (by grind)⟩
  obtain ⟨S, k1, k2, k3⟩ := key
  refine ⟨?_, V, S, ⟨hv, by grind, k1, k2, k3⟩⟩
  have ff := k3.fin
  unfold steepW at ff ⊢
  unfold iSteepnessAt iSteepnessAt_t
  simp only [speed_ok h fx (by grind) (by grind) fq q1 q2, middle_ok h fx (by grind) (by grind), l1, p1, ifin ff, Tr.sem, osome, oget, cond_true, Bool.not_true, cond_false]
omit fq q1 q2 in
/-- Deeper water is less steep, by the square of its depth at least. -/
theorem steep_ratio {V S U T κ : Rat} (a : Stp w b r x q W B R V S) (fy : isFin .f32 y = true) (y1 : 1 / 100 ≤ rv .f32 y) (c : Stp w b r y q W B R U T) (k1 : 1 ≤ κ) (hk : κ * rv .f32 y ≤ rv .f32 x) : S * (κ * κ) ≤ T * (1 + 1 / 10000) := by
  have W0 : 0 < W := by have := h.sec.W1; grind
  have Bn := h.sec.Bn
  have R1 := h.R1
  have ky := Rat.mul_le_mul_of_nonneg_right k1 (show 0 ≤ rv .f32 y by grind)
  have gm := g4_mono h fx x1 x2 fy y1 (by grind)
  have gr := ar_grow W0 Bn (x := rv .f32 x) (y := rv .f32 y) (r := κ) (by grind) k1 hk
  obtain ⟨c1, c2, c3, -⟩ := c43
  obtain ⟨m1, m2, m3⟩ := mid_fin h fx x1 x2
  obtain ⟨-, -, g0, -⟩ := pw_run c1 c2 c3 m1 m2 m3
  have Ay := ar_pos W0 Bn (x := rv .f32 y) (by grind)
  obtain ⟨av, av0, as, as0, -⟩ := a
  obtain ⟨cv, cv0, cs, cs0, -⟩ := c
  -- speeds
  have vu : κ * V ≤ U := by
    refine cancel_le (c := ar W B (rv .f32 y)) ?_ Ay
    rw [cv, ← av]
    have := Rat.mul_le_mul_of_nonneg_left gr (Rat.le_of_lt av0)
    grind
  have rv1 := Rat.mul_le_mul_of_nonneg_left vu (show 0 ≤ R by grind)
  have kv := Rat.mul_nonneg (show 0 ≤ κ by grind) (Rat.le_of_lt av0)
  have sq := mul_rng (Rat.mul_nonneg (show 0 ≤ R by grind) kv) rv1 (Rat.mul_nonneg (show 0 ≤ R by grind) kv) rv1 (by decide +kernel) (by decide +kernel)
  refine cancel_le (c := rv .f32 (pwW 1068149419 (midW w b x))) ?_ (by grind)
  have e1 : S * (κ * κ) * rv .f32 (pwW 1068149419 (midW w b x)) = R * (κ * V) * (R * (κ * V)) := by
    have : S * (κ * κ) * rv .f32 (pwW 1068149419 (midW w b x)) = S * rv .f32 (pwW 1068149419 (midW w b x)) * (κ * κ) := by grind
    rw [this, as]; grind
  rw [e1]
  have t := Rat.mul_le_mul_of_nonneg_left gm (Rat.le_of_lt cs0)
  rw [cs] at t
  grind
end
/-- More of a drawn section. -/
structure Dx (s : Nat) (W ρ : Rat) : Prop where
  fs : isFin .f32 s = true
  s1 : 9 / 10000 ≤ rv .f32 s
  s2 : rv .f32 s ≤ 1 / 64
  r1 : ρ * ρ ≤ rv .f32 s * (1 + 2 / 100000)
  r2 : rv .f32 s ≤ ρ * ρ * (1 + 2 / 100000)
  hW : ∃ n : Nat, W = (n : Rat) / 2
/-- The test's numbers. -/
theorem c16 : isFin .f32 1098907648 = true ∧ rv .f32 1098907648 = 16 := by decide +kernel
section
variable {w b s r x N q : Nat} {W B σ ρ R : Rat} (h : Dr w b s r W B σ ρ R) (e : Dx s W ρ) (fq : isFin .f32 q = true) (q1 : 1 / 4 ≤ rv .f32 q) (q2 : rv .f32 q ≤ 8)
include h e
/-- Water at its normal depth is as steep as its bed. -/
theorem steep_N {V S : Rat} (fN : isFin .f32 N = true) (n1 : 3 / 100 ≤ rv .f32 N) (n2 : rv .f32 N ≤ 1002) (n3 : rv .f32 q ≤ rv .f32 (flowW w b s r N)) (n4 : rv .f32 (flowW w b s r N) ≤ rv .f32 q * (1 + 1 / 5000)) (a : Stp w b r N q W B R V S) : rv .f32 s * (1 - 1 / 1000) ≤ S ∧ S ≤ rv .f32 s * (1 + 1 / 1000) := by
  obtain ⟨-, F, F1, F2, F3⟩ := flow_ok h fN (by grind) n2
  obtain ⟨m1, m2, m3⟩ := mid_fin h fN (by grind) n2
  obtain ⟨p1, p2⟩ := pw_sq m1 m2 m3
  obtain ⟨c1, c2, c3, -⟩ := c43
  obtain ⟨d1, d2, d3, -⟩ := c23
  obtain ⟨-, -, g0, -⟩ := pw_run c1 c2 c3 m1 m2 m3
  obtain ⟨-, -, k0, -⟩ := pw_run d1 (by grind) (by grind) m1 m2 m3
  have W0 : 0 < W := by have := h.sec.W1; grind
  have A0 := ar_pos W0 h.sec.Bn (x := rv .f32 N) (by grind)
  change F * R = ar W B (rv .f32 N) * rv .f32 (pwW 1059760811 (midW w b N)) * ρ at F1
  obtain ⟨av, av0, as, as0, -⟩ := a
  have R1 := h.R1
  have ρ1 := h.ρ1
  have ρ2 := h.ρ2
  have Fl := F3.lo
  have Fu := F3.hi
  obtain ⟨-, s1, s2, r1, r2, -⟩ := e
  generalize pwW 1059760811 (midW w b N) = G2 at *
  generalize pwW 1068149419 (midW w b N) = G4 at *
  have RA := Rat.mul_pos (show 0 < R by grind) A0
  have kρ := Rat.mul_pos (show 0 < rv .f32 G2 by grind) (show 0 < ρ by grind)
  -- the speed, against the flow
  have u : R * V ≤ rv .f32 G2 * ρ * (1 + 1 / 100000) := by
    refine cancel_le (c := ar W B (rv .f32 N)) ?_ A0
    have : R * V * ar W B (rv .f32 N) = R * rv .f32 q := by rw [← av]; grind
    rw [this]
    have t := Rat.mul_le_mul_of_nonneg_left (show rv .f32 q ≤ F * (1 + 1 / 100000) by grind) (show 0 ≤ R by grind)
    have e1 : R * (F * (1 + 1 / 100000)) = F * R * (1 + 1 / 100000) := by grind
    rw [e1, F1] at t
    grind
  have l : rv .f32 G2 * ρ * (1 - 3 / 10000) ≤ R * V := by
    refine cancel_le (c := ar W B (rv .f32 N)) ?_ A0
    have : R * V * ar W B (rv .f32 N) = R * rv .f32 q := by rw [← av]; grind
    rw [this]
    have t := Rat.mul_le_mul_of_nonneg_left (show F * (1 - 3 / 10000) ≤ rv .f32 q by grind) (show 0 ≤ R by grind)
    have e1 : R * (F * (1 - 3 / 10000)) = F * R * (1 - 3 / 10000) := by grind
    rw [e1, F1] at t
    grind
  have sq := mul_rng l u l u (by grind) (by grind)
  rw [← as] at sq
  have ρρ := Rat.mul_pos (show 0 < ρ by grind) (show 0 < ρ by grind)
  have e1 : rv .f32 G2 * ρ * (1 - 3 / 10000) * (rv .f32 G2 * ρ * (1 - 3 / 10000)) = rv .f32 G2 * rv .f32 G2 * (ρ * ρ) * ((1 - 3 / 10000) * (1 - 3 / 10000)) := by grind
  have e2 : rv .f32 G2 * ρ * (1 + 1 / 100000) * (rv .f32 G2 * ρ * (1 + 1 / 100000)) = rv .f32 G2 * rv .f32 G2 * (ρ * ρ) * ((1 + 1 / 100000) * (1 + 1 / 100000)) := by grind
  rw [e1, e2] at sq
  generalize rv .f32 G2 * rv .f32 G2 = K at *
  generalize ρ * ρ = P at *
  have t1 := Rat.mul_le_mul_of_nonneg_right p1 (Rat.le_of_lt ρρ)
  have t2 := Rat.mul_le_mul_of_nonneg_right p2 (Rat.le_of_lt ρρ)
  have G0 : 0 < rv .f32 G4 := by grind
  have GP := Rat.mul_pos G0 ρρ
  have lS : P * (1 - 9 / 10000) ≤ S := by
    refine cancel_le (c := rv .f32 G4) ?_ G0
    grind
  have uS : S ≤ P * (1 + 9 / 10000) := by
    refine cancel_le (c := rv .f32 G4) ?_ G0
    grind
  exact ⟨by grind, by grind⟩
/-- The test of a backstep, from a depth with head H and steepness T. -/
noncomputable def bkB (w b s r q L H T x : Nat) : Bool := fgt .f32 (fadd .f32 (headW w b x q) (fmul .f32 s L)) (fadd .f32 H (fmul .f32 L (fmul .f32 1056964608 (fadd .f32 T (steepW w b r x q)))))
omit h in
theorem bk_test {H T : Nat} {E S Hq Tq : Rat} (rh : Re (3 / 1000000) (headW w b x q) E) (rs : Re (4 / 1000000) (steepW w b r x q) S) (rH : Re (3 / 1000000) H Hq) (rT : Re (4 / 1000000) T Tq) (E1 : 1 / 1000 ≤ E) (E2 : E ≤ 10 ^ 9) (H1 : 1 / 1000 ≤ Hq) (H2 : Hq ≤ 10 ^ 9) (S0 : 0 ≤ S) (S2 : S ≤ 10 ^ 20) (T0 : 1 / 10 ^ 28 ≤ Tq) (T2 : Tq ≤ 10 ^ 20) :
    ((Hq + 8 * (Tq + S)) * (1 + 1 / 100000) < E + 16 * rv .f32 s → bkB w b s r q 1098907648 H T x = true) ∧ ((E + 16 * rv .f32 s) * (1 + 1 / 100000) ≤ Hq + 8 * (Tq + S) → bkB w b s r q 1098907648 H T x = false) := by
  obtain ⟨fs, s1, s2, -⟩ := e
  obtain ⟨l1, l2⟩ := c16
  obtain ⟨k1, k2⟩ := half32
  have r16 := re_self l1
  rw [l2] at r16
  have rhalf := re_self k1
  rw [k2] at rhalf
  have rS := re_self fs
  have m1 := re_mul (d := 2 / 10000000) rS r16 (by decide +kernel) (by decide +kernel) (by decide +kernel) (by decide +kernel) (by decide +kernel) (by grind) (by grind) (by right; grind) (by grind)
  have a1 := re_add (d := 32 / 10000000) rh (re_weak m1 (by grind) (show (2 : Rat) / 10000000 ≤ 3 / 1000000 by decide +kernel)) (by decide +kernel) (by decide +kernel) (by decide +kernel) (by grind) (by grind) (by grind) (by grind)
  have a2 := re_add (d := 42 / 10000000) rT rs (by decide +kernel) (by decide +kernel) (by decide +kernel) (by grind) S0 (by grind) (by grind)
  have m2 := re_mul (d := 44 / 10000000) rhalf a2 (by decide +kernel) (by decide +kernel) (by decide +kernel) (by decide +kernel) (by decide +kernel) (by grind) (by grind) (by right; grind) (by grind)
  have m3 := re_mul (d := 46 / 10000000) r16 m2 (by decide +kernel) (by decide +kernel) (by decide +kernel) (by decide +kernel) (by decide +kernel) (by grind) (by grind) (by right; grind) (by grind)
  have a3 := re_add (d := 48 / 10000000) (re_weak rH (by grind) (show (3 : Rat) / 1000000 ≤ 46 / 10000000 by decide +kernel)) m3 (by decide +kernel) (by decide +kernel) (by decide +kernel) (by grind) (by grind) (by grind) (by grind)
  unfold bkB
  have ul := a1.lo
  have uh := a1.hi
  have dl := a3.lo
  have dh := a3.hi
  have f1 := a1.fin
  have f2 := a3.fin
  generalize fadd .f32 (headW w b x q) (fmul .f32 s 1098907648) = U at *
  generalize fadd .f32 H (fmul .f32 1098907648 (fmul .f32 1056964608 (fadd .f32 T (steepW w b r x q)))) = D at *
  constructor
  · intro hh
    exact (fgt_rv .f32 f1 f2).2 (by grind)
  · intro hh
    cases c : fgt .f32 U D with
    | false => rfl
    | true => have := (fgt_rv .f32 f1 f2).1 c; exfalso; grind
end
end Go.Proofs.Ytpglfnkkmafhbaa
