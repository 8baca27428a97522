/- The power four thirds, over the grid. Steepness at one depth against that at another. Steepness beyond the normal depth. Heads over the critical depth. How shallow a critical depth may be; middle depths near it. Backwater: heads and steepness against each other. Backwater: the cases, as tables. Heads at depths, and the critical depth. Backwater: at the critical depth the test fails. The source of choices, told plainly: bytes, and numbers below a bound. Backwater: how wide a channel is whose critical depth is small. Backwater: middle depths; how deep the normal depth is; steepness next to the critical depth. Backwater: the test of a step, at small and at great depths. Backwater: the test of a step fails next to the critical depth, and holds at great depths. Backwater: a step from the normal depth. Weirs, gates and pipes of the law; backwater step by step. **BACKWATER**: the law. -/
import Derived.Test.YtpglfnkkmafhbaaIx
import Derived.Test.YtpglfnkkmafhbaaIy
import Derived.Test.YtpglfnkkmafhbaaIz
import Derived.Test.YtpglfnkkmafhbaaIa
import Derived.Test.YtpglfnkkmafhbaaPa
import Derived.Test.YtpglfnkkmafhbaaGq1d
import Derived.Test.YtpglfnkkmafhbaaIt
set_option linter.unusedVariables false
set_option linter.unusedSimpArgs false
set_option linter.constructorNameAsVariable false
namespace Go.Proofs.Ytpglfnkkmafhbaa
open Go.RowKit
set_option maxRecDepth 100000
theorem grid_tab : rv .f32 1020054733 ≤ 251 / 10000 ∧ rv .f32 1047521925 ≤ 235 / 1000 ∧ 234 / 1000 ≤ rv .f32 1047521925 ∧ rv .f32 1074746964 ≤ 224 / 100 ∧ 223 / 100 ≤ rv .f32 1074746964 ∧ 20 < rv .f32 1101523490 := by decide +kernel
theorem grid_nb {m : Rat} (h1 : 251 / 10000 ≤ m) (h2 : m ≤ 20) : ∃ a b, Nb m a b := by
  obtain ⟨t1, t2, t3, t4, t5, t6⟩ := grid_tab
  obtain ⟨p0, l0, e0, a0, b0⟩ := grid0_ends
  obtain ⟨p1, l1, e1, a1, b1⟩ := grid1_ends
  obtain ⟨p2, l2, e2, a2, b2⟩ := grid2_ends
  have k0 := grid0_ok
  have k1 := grid1_ok
  have k2 := grid2_ok
  rw [e0] at k0
  rw [e1] at k1
  rw [e2] at k2
  rcases Rat.le_total (a := rv .f32 1047521925) (b := m) with g | g
  · rcases Rat.le_total (a := rv .f32 1074746964) (b := m) with g' | g'
    · exact grid_find l2 p2 k2 (by rw [a2]; exact g') (by rw [b2]; grind)
    · rcases Rat.le_iff_lt_or_eq.1 g' with g'' | g''
      · exact grid_find l1 p1 k1 (by rw [a1]; exact g) (by rw [b1]; exact g'')
      · exact grid_find l2 p2 k2 (by rw [a2, g'']; exact Rat.le_refl) (by rw [b2]; grind)
  · rcases Rat.le_iff_lt_or_eq.1 g with g'' | g''
    · exact grid_find l0 p0 k0 (by rw [a0]; grind) (by rw [b0]; exact g'')
    · exact grid_find l1 p1 k1 (by rw [a1, g'']; exact Rat.le_refl) (by rw [b1]; grind)
theorem pt_pw {p : Nat × Nat} (h : ptB p = true) : isFin .f32 p.1 = true ∧ 1 / 50 ≤ rv .f32 p.1 ∧ rv .f32 p.1 ≤ 25 ∧ rv .f32 (pwW 1068149419 p.1) * rv .f32 (pwW 1068149419 p.1) * rv .f32 (pwW 1068149419 p.1) ≤ rv .f32 p.1 * rv .f32 p.1 * (rv .f32 p.1 * rv .f32 p.1) * (1 + 1 / 10000) ∧ rv .f32 p.1 * rv .f32 p.1 * (rv .f32 p.1 * rv .f32 p.1) ≤ rv .f32 (pwW 1068149419 p.1) * rv .f32 (pwW 1068149419 p.1) * rv .f32 (pwW 1068149419 p.1) * (1 + 1 / 10000) := by
  simp only [ptB, Bool.and_eq_true, decide_eq_true_eq] at h
  obtain ⟨⟨⟨⟨⟨⟨h1, h2⟩, h3⟩, h4⟩, h5⟩, h6⟩, h7⟩ := h
  have e : pwW 1068149419 p.1 = p.2 := by
    unfold powF at h1
    cases hl : lnF p.1 with
    | none => rw [hl] at h1; cases h1
    | some l =>
      rw [hl] at h1
      simp only [Option.bind_some] at h1
      have L := lnF_ok hl
      have hx : expW (fmul .f32 1068149419 l) = p.2 := by
        unfold exF at h1
        cases hc : !(fgt .f32 (fmul .f32 1068149419 l) 1128792064) && !(flt .f32 (fmul .f32 1068149419 l) 3276275712) && !(fover (wideE (fmul .f32 1068149419 l))) with
        | false => rw [hc] at h1; cases h1
        | true => rw [hc] at h1; simpa using h1
      unfold pwW lgW
      rw [L]; exact hx
  rw [e]
  exact ⟨h2, h4, h5, h6, h7⟩
theorem cube_mono {x y : Rat} (h0 : 0 ≤ x) (h : x ≤ y) : x * x * x ≤ y * y * y := by
  have m := mul_rng h0 h h0 h (by decide +kernel) (by decide +kernel)
  exact (mul_rng (Rat.mul_nonneg h0 h0) m.2 h0 h (by decide +kernel) (by decide +kernel)).2
theorem four_mono {x y : Rat} (h0 : 0 ≤ x) (h : x ≤ y) : x * x * (x * x) ≤ y * y * (y * y) := by
  have m := mul_rng h0 h h0 h (by decide +kernel) (by decide +kernel)
  exact (mul_rng (Rat.mul_nonneg h0 h0) m.2 (Rat.mul_nonneg h0 h0) m.2 (by decide +kernel) (by decide +kernel)).2
theorem cube_inv {x y : Rat} (h0 : 0 ≤ y) (h : x * x * x ≤ y * y * y) : x ≤ y := by
  rcases Rat.le_total (a := x) (b := y) with g | g
  · exact g
  · rcases Rat.le_iff_lt_or_eq.1 g with g | g
    · exfalso
      have x0 : 0 < x := by grind
      have m := mul_rng h0 (Rat.le_of_lt g) h0 (Rat.le_of_lt g) (by decide +kernel) (by decide +kernel)
      have t := Rat.mul_le_mul_of_nonneg_left (c := y * y) (Rat.le_of_lt g) (Rat.mul_nonneg h0 h0)
      have u := Rat.mul_lt_mul_of_pos_left g (Rat.mul_pos x0 x0)
      have v := Rat.mul_le_mul_of_nonneg_right m.2 h0
      grind
    · grind
/-- **THE FOUR THIRDS**, nearly: the cube of the power is the fourth power. -/
theorem g4_pow {m : Nat} (fm : isFin .f32 m = true) (h1 : 251 / 10000 ≤ rv .f32 m) (h2 : rv .f32 m ≤ 20) : 0 < rv .f32 (pwW 1068149419 m) ∧ rv .f32 (pwW 1068149419 m) * rv .f32 (pwW 1068149419 m) * rv .f32 (pwW 1068149419 m) ≤ rv .f32 m * rv .f32 m * (rv .f32 m * rv .f32 m) * (1085 / 1000) ∧ rv .f32 m * rv .f32 m * (rv .f32 m * rv .f32 m) ≤ rv .f32 (pwW 1068149419 m) * rv .f32 (pwW 1068149419 m) * rv .f32 (pwW 1068149419 m) * (1085 / 1000) := by
  obtain ⟨a, b, na, nb, lo, hi, ra⟩ := grid_nb h1 h2
  obtain ⟨a1, a2, a3, a4, a5⟩ := pt_pw na
  obtain ⟨b1, b2, b3, b4, b5⟩ := pt_pw nb
  obtain ⟨c1, c2, c3, -⟩ := c43
  obtain ⟨-, -, g0, -⟩ := pw_run c1 c2 c3 fm (by grind) (by grind)
  obtain ⟨-, -, ga, -⟩ := pw_run c1 c2 c3 a1 (by grind) (by grind)
  obtain ⟨-, -, gb, -⟩ := pw_run c1 c2 c3 b1 (by grind) (by grind)
  have p1 := pw_mono (δ := 0) c1 c2 c3 fm (by grind) (by grind) a1 (by grind) (by grind) (by decide +kernel) (by decide +kernel) (by grind)
  have p2 := pw_mono (δ := 0) c1 c2 c3 b1 (by grind) (by grind) fm (by grind) (by grind) (by decide +kernel) (by decide +kernel) (by grind)
  have q1 := cube_mono (show 0 ≤ rv .f32 (pwW 1068149419 a.1) by grind) p1
  have q2 := cube_mono (show 0 ≤ rv .f32 (pwW 1068149419 m) by grind) p2
  have f1 := four_mono (show 0 ≤ rv .f32 a.1 by grind) lo
  have f2 := four_mono (show 0 ≤ rv .f32 m by grind) hi
  have f3 := four_mono (show 0 ≤ rv .f32 b.1 by grind) ra
  generalize rv .f32 (pwW 1068149419 a.1) = GA at *
  generalize rv .f32 (pwW 1068149419 b.1) = GB at *
  generalize rv .f32 (pwW 1068149419 m) = G at *
  have e1 : G * (1 + 8 * 0 + 3 / 100000) * (G * (1 + 8 * 0 + 3 / 100000)) * (G * (1 + 8 * 0 + 3 / 100000)) = G * G * G * ((1 + 8 * 0 + 3 / 100000) * (1 + 8 * 0 + 3 / 100000) * (1 + 8 * 0 + 3 / 100000)) := by grind
  have e2 : GB * (1 + 8 * 0 + 3 / 100000) * (GB * (1 + 8 * 0 + 3 / 100000)) * (GB * (1 + 8 * 0 + 3 / 100000)) = GB * GB * GB * ((1 + 8 * 0 + 3 / 100000) * (1 + 8 * 0 + 3 / 100000) * (1 + 8 * 0 + 3 / 100000)) := by grind
  have e3 : rv .f32 a.1 * (10201 / 10000) * (rv .f32 a.1 * (10201 / 10000)) * (rv .f32 a.1 * (10201 / 10000) * (rv .f32 a.1 * (10201 / 10000))) = rv .f32 a.1 * rv .f32 a.1 * (rv .f32 a.1 * rv .f32 a.1) * ((10201 / 10000) * (10201 / 10000) * ((10201 / 10000) * (10201 / 10000))) := by grind
  rw [e1] at q1
  rw [e2] at q2
  rw [e3] at f3
  have A0 := Rat.mul_nonneg (Rat.mul_nonneg (show 0 ≤ rv .f32 a.1 by grind) (show 0 ≤ rv .f32 a.1 by grind)) (Rat.mul_nonneg (show 0 ≤ rv .f32 a.1 by grind) (show 0 ≤ rv .f32 a.1 by grind))
  have G30 := Rat.mul_nonneg (Rat.mul_nonneg (show 0 ≤ G by grind) (show 0 ≤ G by grind)) (show 0 ≤ G by grind)
  generalize rv .f32 a.1 * rv .f32 a.1 * (rv .f32 a.1 * rv .f32 a.1) = A4 at *
  generalize rv .f32 b.1 * rv .f32 b.1 * (rv .f32 b.1 * rv .f32 b.1) = B4 at *
  generalize rv .f32 m * rv .f32 m * (rv .f32 m * rv .f32 m) = M4 at *
  generalize GA * GA * GA = a33 at *
  generalize GB * GB * GB = b33 at *
  generalize G * G * G = g33 at *
  exact ⟨by grind, by grind, by grind⟩
/-- Sixteenth powers. -/
def p4 (x : Rat) : Rat := x * x * (x * x)
def p16 (x : Rat) : Rat := p4 x * p4 x * (p4 x * p4 x)
theorem cubes {a b : Rat} : a * b * (a * b) * (a * b) = a * a * a * (b * b * b) := by grind
/-- From speeds and powers to steepness. -/
theorem s_ratio {S T GN Gy mN my l t : Rat} (S0 : 0 < S) (T0 : 0 < T) (G0 : 0 < GN) (g0 : 0 < Gy) (l0 : 1 ≤ l) (M0 : 0 < mN) (m0 : 0 < my) (t0 : 0 ≤ t) (hv : S * GN ≤ l * l * (l * l) * (T * Gy)) (hm : my ≤ l * mN * (1 + 1 / 100000)) (g1 : Gy * Gy * Gy ≤ p4 my * (1085 / 1000)) (g2 : p4 mN ≤ GN * GN * GN * (1085 / 1000)) (ht : t * t * t * p16 l * (118 / 100) ≤ 1) : t * S ≤ T := by
  have c := cube_mono (Rat.le_of_lt (Rat.mul_pos S0 G0)) hv
  have f := four_mono (Rat.le_of_lt m0) hm
  have e1 : S * GN * (S * GN) * (S * GN) = S * S * S * (GN * GN * GN) := cubes
  have e2 : l * l * (l * l) * (T * Gy) * (l * l * (l * l) * (T * Gy)) * (l * l * (l * l) * (T * Gy)) = p4 l * p4 l * p4 l * (T * T * T) * (Gy * Gy * Gy) := by unfold p4; grind
  have e3 : l * mN * (1 + 1 / 100000) * (l * mN * (1 + 1 / 100000)) * (l * mN * (1 + 1 / 100000) * (l * mN * (1 + 1 / 100000))) = p4 l * p4 mN * ((1 + 1 / 100000) * (1 + 1 / 100000) * ((1 + 1 / 100000) * (1 + 1 / 100000))) := by unfold p4; grind
  rw [e1, e2] at c
  rw [e3] at f
  change p4 my ≤ _ at f
  have L0 : 0 < p4 l := by unfold p4; exact Rat.mul_pos (Rat.mul_pos (by grind) (by grind)) (Rat.mul_pos (by grind) (by grind))
  have T3 := Rat.mul_pos (Rat.mul_pos T0 T0) T0
  have GN3 := Rat.mul_pos (Rat.mul_pos G0 G0) G0
  have L12 := Rat.mul_pos (Rat.mul_pos L0 L0) L0
  -- the power at y
  have s1 : Gy * Gy * Gy ≤ p4 l * (GN * GN * GN) * (118 / 100) := by
    have a := Rat.mul_le_mul_of_nonneg_left g2 (Rat.le_of_lt L0)
    have pm : 0 ≤ p4 l * p4 mN := by
      have : 0 < p4 mN := by unfold p4; exact Rat.mul_pos (Rat.mul_pos M0 M0) (Rat.mul_pos M0 M0)
      exact Rat.le_of_lt (Rat.mul_pos L0 this)
    have lg := Rat.mul_pos L0 GN3
    grind
  have s2 := Rat.mul_le_mul_of_nonneg_left s1 (Rat.le_of_lt (Rat.mul_pos L12 T3))
  have s3 : S * S * S ≤ p16 l * (T * T * T) * (118 / 100) := by
    refine cancel_le (c := GN * GN * GN) ?_ GN3
    unfold p16
    grind
  refine cube_inv (Rat.le_of_lt T0) ?_
  rw [cubes]
  have t3 := Rat.mul_nonneg (Rat.mul_nonneg t0 t0) t0
  have u := Rat.mul_le_mul_of_nonneg_left s3 t3
  have v := Rat.mul_le_mul_of_nonneg_right ht (Rat.le_of_lt T3)
  grind
section
variable {w b s r N y q : Nat} {W B σ ρ R V S U T : Rat} (h : Dr w b s r W B σ ρ R)
include h
/-- Middle depths grow no faster than depths. -/
theorem mid_slow {l : Rat} (fN : isFin .f32 N = true) (n1 : 1 / 100 ≤ rv .f32 N) (fy : isFin .f32 y = true) (hy : rv .f32 N ≤ rv .f32 y) (y2 : rv .f32 y ≤ 1002) (l1 : 1 ≤ l) (hl : rv .f32 y ≤ l * rv .f32 N) : rv .f32 (midW w b y) ≤ l * rv .f32 (midW w b N) * (1 + 1 / 100000) := by
  obtain ⟨Z, hz⟩ := mid_ex (x := N) h (by grind) (by grind)
  obtain ⟨Y, hY⟩ := mid_ex (x := y) h (by grind) (by grind)
  obtain ⟨m1, m2, m3, m4, m5, m6, m7⟩ := mid_rng h fN n1 (by grind) hz
  obtain ⟨k1, k2, k3, k4, k5, k6, k7⟩ := mid_rng h fy (by grind) y2 hY
  have W1 := h.sec.W1
  have Bn := h.sec.Bn
  have s3 := h.sec.s3
  have px := (wet_bd h.sec (X := rv .f32 N) (by grind) (by grind)).1
  have py := (wet_bd h.sec (X := rv .f32 y) (by grind) (by grind)).1
  have zy : Y ≤ l * Z := by
    refine cancel_le (c := (W + 2 * rv .f32 y * σ) * (W + 2 * rv .f32 N * σ)) ?_ (Rat.mul_pos (by grind) (by grind))
    have e1 : Y * ((W + 2 * rv .f32 y * σ) * (W + 2 * rv .f32 N * σ)) = rv .f32 y * ((W + B * rv .f32 y) * (W + 2 * rv .f32 N * σ)) := by
      have : Y * ((W + 2 * rv .f32 y * σ) * (W + 2 * rv .f32 N * σ)) = Y * (W + 2 * rv .f32 y * σ) * (W + 2 * rv .f32 N * σ) := by grind
      rw [this, hY]; grind
    have e2 : l * Z * ((W + 2 * rv .f32 y * σ) * (W + 2 * rv .f32 N * σ)) = l * rv .f32 N * ((W + B * rv .f32 N) * (W + 2 * rv .f32 y * σ)) := by
      have : l * Z * ((W + 2 * rv .f32 y * σ) * (W + 2 * rv .f32 N * σ)) = l * (Z * (W + 2 * rv .f32 N * σ)) * (W + 2 * rv .f32 y * σ) := by grind
      rw [this, hz]; grind
    rw [e1, e2]
    generalize rv .f32 N = X at *
    generalize rv .f32 y = u at *
    have d := Rat.mul_nonneg (Rat.mul_nonneg (show 0 ≤ W by grind) (show 0 ≤ u - X by grind)) (show 0 ≤ 2 * σ - B by grind)
    have bu := Rat.mul_nonneg Bn (show 0 ≤ u by grind)
    have g : (W + B * u) * (W + 2 * X * σ) ≤ (W + B * X) * (W + 2 * u * σ) := by grind
    have p := Rat.mul_pos (show 0 < W + B * u by grind) (show 0 < W + 2 * X * σ by grind)
    exact (mul_rng (show 0 ≤ u by grind) hl (Rat.le_of_lt p) g (by decide +kernel) (by decide +kernel)).2
  have t := Rat.mul_le_mul_of_nonneg_left m6 (show 0 ≤ l by grind)
  have lz := Rat.mul_nonneg (show 0 ≤ l by grind) (show 0 ≤ Z by grind)
  grind
theorem s_below {l t : Rat} (fN : isFin .f32 N = true) (n1 : 1 / 100 ≤ rv .f32 N) (fy : isFin .f32 y = true) (hy : rv .f32 N ≤ rv .f32 y) (y2 : rv .f32 y ≤ 1002) (l1 : 1 ≤ l) (hl : rv .f32 y ≤ l * rv .f32 N) (a : Stp w b r N q W B R V S) (c : Stp w b r y q W B R U T)
    (g1 : 251 / 10000 ≤ rv .f32 (midW w b N)) (g2 : rv .f32 (midW w b N) ≤ 20) (g3 : 251 / 10000 ≤ rv .f32 (midW w b y)) (g4 : rv .f32 (midW w b y) ≤ 20) (t0 : 0 ≤ t) (ht : t * t * t * p16 l * (118 / 100) ≤ 1) : t * S ≤ T := by
  have W0 : 0 < W := by have := h.sec.W1; grind
  have Bn := h.sec.Bn
  have R1 := h.R1
  have AN := ar_pos W0 Bn (x := rv .f32 N) (by grind)
  have sc := ar_scale W0 Bn (x := rv .f32 y) (y := rv .f32 N) (r := l) (by grind) (by grind) l1 hl
  obtain ⟨mN, -, -⟩ := mid_fin h fN n1 (by grind)
  obtain ⟨my, -, -⟩ := mid_fin h fy (by grind) y2
  obtain ⟨p1, p2, p3⟩ := g4_pow mN g1 g2
  obtain ⟨k1, k2, k3⟩ := g4_pow my g3 g4
  obtain ⟨av, av0, as, as0, -⟩ := a
  obtain ⟨cv, cv0, cs, cs0, -⟩ := c
  have vu : V ≤ l * l * U := by
    refine cancel_le (c := ar W B (rv .f32 N)) ?_ AN
    rw [av, ← cv]
    have := Rat.mul_le_mul_of_nonneg_left sc (Rat.le_of_lt cv0)
    grind
  have rvu := Rat.mul_le_mul_of_nonneg_left vu (show 0 ≤ R by grind)
  have RV := Rat.mul_nonneg (show 0 ≤ R by grind) (Rat.le_of_lt av0)
  have sq := (mul_rng RV rvu RV rvu (by decide +kernel) (by decide +kernel)).2
  refine s_ratio as0 cs0 p1 k1 l1 (by grind) (by grind) t0 ?_ (mid_slow h fN n1 fy hy y2 l1 hl) k2 p3 ht
  rw [as, cs]
  grind
/-- Steeper, at a smaller depth. -/
theorem s_above {k κ t : Rat} (fN : isFin .f32 N = true) (n2 : rv .f32 N ≤ 1002) (fy : isFin .f32 y = true) (y1 : 1 / 100 ≤ rv .f32 y) (k1 : 1 ≤ k) (hk : k * rv .f32 y ≤ rv .f32 N) (a : Stp w b r N q W B R V S) (c : Stp w b r y q W B R U T)
    (κ0 : 0 ≤ κ) (hm : κ * rv .f32 (midW w b y) ≤ rv .f32 (midW w b N)) (g1 : 251 / 10000 ≤ rv .f32 (midW w b N)) (g2 : rv .f32 (midW w b N) ≤ 20) (g3 : 251 / 10000 ≤ rv .f32 (midW w b y)) (g4 : rv .f32 (midW w b y) ≤ 20) (t0 : 0 ≤ t) (ht : t * t * t * (118 / 100) ≤ k * k * (k * k) * (k * k) * p4 κ) : t * S ≤ T := by
  have W0 : 0 < W := by have := h.sec.W1; grind
  have Bn := h.sec.Bn
  have R1 := h.R1
  have ky := Rat.mul_le_mul_of_nonneg_right k1 (show 0 ≤ rv .f32 y by grind)
  have Ay := ar_pos W0 Bn (x := rv .f32 y) (by grind)
  have gr := ar_grow W0 Bn (x := rv .f32 N) (y := rv .f32 y) (r := k) (by grind) k1 hk
  obtain ⟨mN, -, -⟩ := mid_fin h fN (by grind) n2
  obtain ⟨my, -, -⟩ := mid_fin h fy y1 (by grind)
  obtain ⟨p1, p2, p3⟩ := g4_pow mN g1 g2
  obtain ⟨q1, q2, q3⟩ := g4_pow my g3 g4
  obtain ⟨av, av0, as, as0, -⟩ := a
  obtain ⟨cv, cv0, cs, cs0, -⟩ := c
  have vu : k * V ≤ U := by
    refine cancel_le (c := ar W B (rv .f32 y)) ?_ Ay
    rw [cv, ← av]
    have := Rat.mul_le_mul_of_nonneg_left gr (Rat.le_of_lt av0)
    grind
  have kv := Rat.mul_nonneg (show 0 ≤ k by grind) (Rat.le_of_lt av0)
  have rv1 := Rat.mul_le_mul_of_nonneg_left vu (show 0 ≤ R by grind)
  have rkv := Rat.mul_nonneg (show 0 ≤ R by grind) kv
  have sq := (mul_rng rkv rv1 rkv rv1 (by decide +kernel) (by decide +kernel)).2
  have hv : k * k * (S * rv .f32 (pwW 1068149419 (midW w b N))) ≤ T * rv .f32 (pwW 1068149419 (midW w b y)) := by rw [as, cs]; grind
  have f := four_mono (Rat.mul_nonneg κ0 (show 0 ≤ rv .f32 (midW w b y) by grind)) hm
  generalize rv .f32 (pwW 1068149419 (midW w b N)) = GN at *
  generalize rv .f32 (pwW 1068149419 (midW w b y)) = Gy at *
  generalize rv .f32 (midW w b N) = mn at *
  generalize rv .f32 (midW w b y) = mc at *
  have kk := Rat.mul_nonneg (show 0 ≤ k by grind) (show 0 ≤ k by grind)
  have c3 := cube_mono (Rat.mul_nonneg kk (Rat.le_of_lt (Rat.mul_pos as0 p1))) hv
  have e1 : k * k * (S * GN) * (k * k * (S * GN)) * (k * k * (S * GN)) = k * k * (k * k) * (k * k) * (S * S * S * (GN * GN * GN)) := by grind
  have e2 : T * Gy * (T * Gy) * (T * Gy) = T * T * T * (Gy * Gy * Gy) := cubes
  have e3 : κ * mc * (κ * mc) * (κ * mc * (κ * mc)) = p4 κ * p4 mc := by unfold p4; grind
  rw [e1, e2] at c3
  rw [e3] at f
  change _ ≤ p4 mn at f
  change _ ≤ p4 mc * (1085 / 1000) at q2
  change p4 mn ≤ _ at p3
  have S3 := Rat.mul_pos (Rat.mul_pos as0 as0) as0
  have T3 := Rat.mul_pos (Rat.mul_pos cs0 cs0) cs0
  have G3 := Rat.mul_pos (Rat.mul_pos q1 q1) q1
  have P0 : 0 ≤ p4 κ := by unfold p4; exact Rat.mul_nonneg (Rat.mul_nonneg κ0 κ0) (Rat.mul_nonneg κ0 κ0)
  -- the power at N, from below
  have b1 := Rat.mul_le_mul_of_nonneg_left q2 P0
  have GN3 := Rat.mul_pos (Rat.mul_pos p1 p1) p1
  have b2 : p4 κ * (Gy * Gy * Gy) ≤ GN * GN * GN * (118 / 100) := by
    generalize GN * GN * GN = gn at *
    generalize p4 mn = pn at *
    have e9 : p4 κ * (p4 mc * (1085 / 1000)) = p4 κ * p4 mc * (1085 / 1000) := by grind
    rw [e9] at b1
    generalize p4 κ * p4 mc = kc at *
    grind
  have K6 : 0 ≤ k * k * (k * k) * (k * k) := Rat.mul_nonneg (Rat.mul_nonneg kk kk) kk
  have b3 := Rat.mul_le_mul_of_nonneg_left b2 (Rat.mul_nonneg K6 (Rat.le_of_lt S3))
  have b4 : k * k * (k * k) * (k * k) * p4 κ * (S * S * S) ≤ T * T * T * (118 / 100) := by
    refine cancel_le (c := Gy * Gy * Gy) ?_ G3
    grind
  refine cube_inv (Rat.le_of_lt cs0) ?_
  rw [cubes]
  have u := Rat.mul_le_mul_of_nonneg_right ht (Rat.le_of_lt S3)
  grind
end
theorem rise_poly {W B c x : Rat} (W0 : 0 ≤ W) (B0 : 0 ≤ B) (c0 : 0 ≤ c) (h : c ≤ x) : (W + B * c) * (W + B * (x + c)) * (W * (x + c) + B * (x * x + c * c)) ≤ (x + c) * ((W + B * x) * (W + B * x)) * (W + 2 * B * c) := by
  have d := Rat.mul_nonneg c0 (show 0 ≤ x - c by grind)
  have x0 : 0 ≤ x := by grind
  have WW := Rat.mul_nonneg W0 W0
  have BB := Rat.mul_nonneg B0 B0
  have t1 := Rat.mul_nonneg d (Rat.mul_nonneg WW B0)
  have t2 := Rat.mul_nonneg d (Rat.mul_nonneg (Rat.mul_nonneg W0 BB) (show 0 ≤ 2 * x + 3 * c by grind))
  have xc := Rat.mul_nonneg (show 0 ≤ x + c by grind) (show 0 ≤ x + c by grind)
  have t3 := Rat.mul_nonneg d (Rat.mul_nonneg (Rat.mul_nonneg BB B0) xc)
  have e : (x + c) * ((W + B * x) * (W + B * x)) * (W + 2 * B * c) - (W + B * c) * (W + B * (x + c)) * (W * (x + c) + B * (x * x + c * c)) = c * (x - c) * (W * W * B) + c * (x - c) * (W * (B * B) * (2 * x + 3 * c)) + c * (x - c) * (B * B * B * ((x + c) * (x + c))) := by grind
  grind
/-- **HEADS RISE** over the critical depth, as fast as in a channel with upright sides at least. -/
theorem head_rise {W B c x Dc Dx : Rat} (W0 : 0 < W) (B0 : 0 ≤ B) (c0 : 0 < c) (h : c ≤ x) (hC : Cr W B c Dc) (D0 : 0 ≤ Dc) (ex : Dx * (ar W B x * ar W B x) = Dc * (ar W B c * ar W B c)) : (x - c) * (x - c) * (2 * x + c) - 3 / 100000 * (c * (x - c) * (x + c)) ≤ 2 * (x * x) * (x + Dx - c - Dc) := by
  have x0 : 0 < x := by grind
  have bp := ar_pos W0 B0 x0
  have T0 := tp_pos W0 B0 c0
  have p := rise_poly (Rat.le_of_lt W0) B0 (Rat.le_of_lt c0) h
  have lo := hC.lo
  -- twice the loss of speed's head
  have key : 2 * (x * x) * (Dc - Dx) ≤ c * ((x - c) * (x + c)) * (1 + 3 / 100000) := by
    refine cancel_le (c := ar W B x * ar W B x * tp W B c) ?_ (Rat.mul_pos (Rat.mul_pos bp bp) T0)
    have e1 : 2 * (x * x) * (Dc - Dx) * (ar W B x * ar W B x * tp W B c) = x * x * ((ar W B x - ar W B c) * (ar W B x + ar W B c)) * (2 * Dc * tp W B c) := by
      have : 2 * (x * x) * (Dc - Dx) * (ar W B x * ar W B x * tp W B c) = 2 * (x * x) * tp W B c * (Dc * (ar W B x * ar W B x) - Dx * (ar W B x * ar W B x)) := by grind
      rw [this, ex]; grind
    rw [e1]
    have bx := Rat.mul_nonneg B0 (Rat.le_of_lt x0)
    have bc := Rat.mul_nonneg B0 (Rat.le_of_lt c0)
    have gr := ar_grow W0 B0 (x := x) (y := c) (r := 1) (Rat.le_of_lt c0) (by decide +kernel) (by grind)
    have ap := ar_pos W0 B0 c0
    have n1 := Rat.mul_nonneg (Rat.mul_nonneg (Rat.le_of_lt x0) (Rat.le_of_lt x0)) (Rat.mul_nonneg (show 0 ≤ ar W B x - ar W B c by grind) (show 0 ≤ ar W B x + ar W B c by grind))
    have s1 := Rat.mul_le_mul_of_nonneg_left (show 2 * Dc * tp W B c ≤ ar W B c * (1 + 3 / 100000) by grind) n1
    refine Rat.le_trans s1 ?_
    have q := Rat.mul_le_mul_of_nonneg_left p (Rat.mul_nonneg (Rat.mul_nonneg (Rat.mul_nonneg (Rat.le_of_lt c0) (show 0 ≤ x - c by grind)) (Rat.mul_nonneg (Rat.le_of_lt x0) (Rat.le_of_lt x0))) (show (0 : Rat) ≤ 1 + 3 / 100000 by decide +kernel))
    unfold ar tp
    have e2 : x * x * ((x * (W + B * x) - c * (W + B * c)) * (x * (W + B * x) + c * (W + B * c))) * (c * (W + B * c) * (1 + 3 / 100000)) = c * (x - c) * (x * x) * (1 + 3 / 100000) * ((W + B * c) * (W + B * (x + c)) * (W * (x + c) + B * (x * x + c * c))) := by grind
    have e3 : c * ((x - c) * (x + c)) * (1 + 3 / 100000) * (x * (W + B * x) * (x * (W + B * x)) * (W + 2 * B * c)) = c * (x - c) * (x * x) * (1 + 3 / 100000) * ((x + c) * ((W + B * x) * (W + B * x)) * (W + 2 * B * c)) := by grind
    rw [e2, e3]
    exact q
  grind
theorem crit_055 {W B C Q : Rat} (W1 : 1 / 2 ≤ W) (W2 : W ≤ 6) (B0 : 0 ≤ B) (B2 : B ≤ 2) (c0 : 0 < C) (q1 : 1 / 4 ≤ Q) (h : Q * Q * tp W B C * (1 - 1 / 40000) ≤ gg * (ar W B C * ar W B C * ar W B C)) : 55 / 1000 ≤ C := by
  rcases Rat.le_total (a := 55 / 1000) (b := C) with g | g
  · exact g
  · rcases Rat.le_iff_lt_or_eq.1 g with g | g
    · exfalso
      have g2 := c_tab.2.2.1
      have g1 := c_tab.2.1
      have bc := mul_rng B0 B2 (Rat.le_of_lt c0) (Rat.le_of_lt g) (by decide +kernel) (by decide +kernel)
      have A0 := ar_pos (W := W) (B := B) (by grind) B0 c0
      have A1 : ar W B C ≤ 55 / 1000 * (W + 11 / 100) := by
        unfold ar
        exact (mul_rng (Rat.le_of_lt c0) (Rat.le_of_lt g) (show 0 ≤ W + B * C by grind) (show W + B * C ≤ W + 11 / 100 by grind) (by decide +kernel) (by decide +kernel)).2
      have T1 : W ≤ tp W B C := by unfold tp; grind
      have qq := mul_rng q1 (Rat.le_refl (a := Q)) q1 Rat.le_refl (by decide +kernel) (by decide +kernel)
      have qt := mul_rng qq.1 Rat.le_refl T1 Rat.le_refl (by decide +kernel) (by grind)
      have a3 := cube_mono (Rat.le_of_lt A0) A1
      have ga := mul_rng (show 0 ≤ gg by grind) (show gg ≤ 981002 / 100000 by grind) (Rat.le_of_lt (Rat.mul_pos (Rat.mul_pos A0 A0) A0)) a3 (by decide +kernel) (by decide +kernel)
      have sq := Rat.mul_nonneg (show 0 ≤ W - 1 / 2 by grind) (show 0 ≤ 6 - W by grind)
      have cu := Rat.mul_nonneg (show 0 ≤ W by grind) sq
      grind
    · grind
/-- Middle depths between the critical and the normal depth. -/
theorem mid_between {w b s r x N : Nat} {W B σ ρ R k κ : Rat} (h : Dr w b s r W B σ ρ R) (fx : isFin .f32 x = true) (x1 : 1 / 100 ≤ rv .f32 x) (fN : isFin .f32 N = true) (n2 : rv .f32 N ≤ 1002) (k1 : 1 ≤ k) (hk : k * rv .f32 x ≤ rv .f32 N) (κ0 : 0 ≤ κ) (hκ : κ * (W + 2 * (k * rv .f32 x) * σ) ≤ k * (W + 2 * rv .f32 x * σ)) : κ * (1 - 1 / 100000) * rv .f32 (midW w b x) ≤ rv .f32 (midW w b N) := by
  have kx := Rat.mul_le_mul_of_nonneg_right k1 (show 0 ≤ rv .f32 x by grind)
  obtain ⟨Z, hz⟩ := mid_ex (x := N) h (by grind) (by grind)
  obtain ⟨Y, hY⟩ := mid_ex (x := x) h (by grind) (by grind)
  obtain ⟨m1, m2, m3, m4, m5, m6, m7⟩ := mid_rng h fN (by grind) n2 hz
  obtain ⟨n1, n2', n3, n4, n5, n6, n7⟩ := mid_rng h fx x1 (by grind) hY
  have W1 := h.sec.W1
  have Bn := h.sec.Bn
  have σ0 : 0 ≤ σ := by have := h.sec.s1; grind
  have pN := (wet_bd h.sec (X := rv .f32 N) (by grind) (by grind)).1
  have px := (wet_bd h.sec (X := rv .f32 x) (by grind) (by grind)).1
  have zy : κ * Y ≤ Z := by
    generalize rv .f32 N = n at *
    generalize rv .f32 x = X at *
    have kσ := Rat.mul_nonneg (show 0 ≤ k * X by grind) σ0
    have P0 : 0 < W + 2 * (k * X) * σ := by grind
    -- the middle at N, against that at x
    have g1 : k * X * (W + 2 * n * σ) ≤ n * (W + 2 * (k * X) * σ) := by
      have := Rat.mul_nonneg (show 0 ≤ W by grind) (show 0 ≤ n - k * X by grind)
      grind
    have bn := Rat.mul_le_mul_of_nonneg_left (show X ≤ n by grind) Bn
    have bX := Rat.mul_nonneg Bn (show 0 ≤ X by grind)
    have g2 := (mul_rng (Rat.mul_nonneg (show 0 ≤ k * X by grind) (show 0 ≤ W + 2 * n * σ by grind)) g1 (show 0 ≤ W + B * X by grind) (show W + B * X ≤ W + B * n by grind) (by decide +kernel) (by decide +kernel)).2
    have g3 : k * (X * (W + B * X)) ≤ Z * (W + 2 * (k * X) * σ) := by
      refine cancel_le (c := W + 2 * n * σ) ?_ (by grind)
      have e1 : Z * (W + 2 * (k * X) * σ) * (W + 2 * n * σ) = n * (W + B * n) * (W + 2 * (k * X) * σ) := by rw [← hz]; grind
      rw [e1]
      grind
    refine cancel_le (c := W + 2 * (k * X) * σ) ?_ P0
    have y0 : 0 ≤ Y := by grind
    have t := Rat.mul_le_mul_of_nonneg_left hκ y0
    have e2 : Y * (k * (W + 2 * X * σ)) = k * (X * (W + B * X)) := by rw [← hY]; grind
    rw [e2] at t
    grind
  have κY := Rat.mul_nonneg κ0 (show 0 ≤ Y by grind)
  have t := Rat.mul_le_mul_of_nonneg_left n7 (Rat.mul_nonneg κ0 (show (0 : Rat) ≤ 1 - 1 / 100000 by decide +kernel))
  grind
/-- A rise of e1 critical depths, from k1 critical depths on. -/
theorem rise_at {c y k1 e1 : Rat} (c0 : 0 < c) (h1 : 1 ≤ k1) (he : e1 ≤ k1 - 1) (hk : 2 * (k1 * k1) * e1 ≤ (k1 - 1) * (k1 - 1) * (2 * k1 + 1)) (hy : k1 * c ≤ y) : 2 * (y * y) * (e1 * c) ≤ (y - c) * (y - c) * (2 * y + c) := by
  obtain ⟨ξ, rfl⟩ : ∃ ξ, y = ξ * c := ⟨y / c, by rw [Rat.div_mul_cancel (by grind)]⟩
  have g : k1 ≤ ξ := cancel_le hy c0
  have d := show 0 ≤ ξ - k1 by grind
  have q := Rat.mul_nonneg (show 0 ≤ ξ - 1 by grind) (show 0 ≤ ξ by grind)
  have m := Rat.mul_nonneg d (show 0 ≤ 2 * (ξ * ξ) - ξ - k1 by grind)
  have m2 := Rat.mul_nonneg (Rat.mul_nonneg d (show 0 ≤ ξ + k1 by grind)) (show 0 ≤ k1 - 1 - e1 by grind)
  have f : 2 * (ξ * ξ) * e1 ≤ (ξ - 1) * (ξ - 1) * (2 * ξ + 1) := by grind
  have c3 := Rat.mul_nonneg (Rat.mul_nonneg (Rat.le_of_lt c0) (Rat.le_of_lt c0)) (Rat.le_of_lt c0)
  have := Rat.mul_le_mul_of_nonneg_left f c3
  grind
/-- The head over the critical depth has risen. -/
theorem head_over {W B c y Dc Dy k1 e1 : Rat} (W0 : 0 < W) (B0 : 0 ≤ B) (c0 : 0 < c) (hC : Cr W B c Dc) (D0 : 0 ≤ Dc) (ey : Dy * (ar W B y * ar W B y) = Dc * (ar W B c * ar W B c)) (h1 : 1 ≤ k1) (e0 : 0 ≤ e1) (he : e1 ≤ k1 - 1) (hk : 2 * (k1 * k1) * e1 ≤ (k1 - 1) * (k1 - 1) * (2 * k1 + 1)) (hy : k1 * c ≤ y) : (e1 - 2 / 100000) * c ≤ y + Dy - c - Dc := by
  have kc := Rat.mul_le_mul_of_nonneg_right h1 (Rat.le_of_lt c0)
  have cy : c ≤ y := by grind
  have r := head_rise W0 B0 c0 cy hC D0 ey
  have a := rise_at c0 h1 he hk hy
  have y0 : 0 < y := by grind
  have yy := Rat.mul_pos y0 y0
  refine cancel_le (c := 2 * (y * y)) ?_ (by grind)
  have t := Rat.mul_nonneg (Rat.le_of_lt c0) (Rat.mul_nonneg (show 0 ≤ y - c by grind) (show 0 ≤ y - c by grind))
  have t2 := Rat.mul_nonneg (Rat.le_of_lt c0) (Rat.mul_nonneg (Rat.le_of_lt c0) (Rat.le_of_lt c0))
  have t3 := Rat.mul_nonneg (Rat.le_of_lt c0) (Rat.le_of_lt yy)
  grind
/-- A row: from l1 to l2 normal depths; the share t of steepness left; the rise e1 of the head. -/
structure Row (p cm l1 l2 t e1 : Rat) : Prop where
  a : 1 ≤ l1
  b : l1 ≤ l2
  t0 : 0 ≤ t
  t1 : t * t * t * p16 l2 * (118 / 100) ≤ 1
  e0 : 1 / 1000 ≤ e1
  e2 : e1 ≤ 11999 / 10000 * l1 - 1
  e3 : 2 * (11999 / 10000 * l1 * (11999 / 10000 * l1)) * e1 ≤ (11999 / 10000 * l1 - 1) * (11999 / 10000 * l1 - 1) * (2 * (11999 / 10000 * l1) + 1)
  c : (2 - 999 / 1000 * (p + t)) / 8 + 1 / 100000 ≤ (e1 - 3 / 10000) * cm
def rowB4 (p cm l1 l2 t e1 : Rat) : Bool :=
  decide (1 ≤ l1) && decide (l1 ≤ l2) && decide (0 ≤ t) && decide (t * t * t * p16 l2 * (118 / 100) ≤ 1) && decide (1 / 1000 ≤ e1) && decide (e1 ≤ 11999 / 10000 * l1 - 1) && decide (2 * (11999 / 10000 * l1 * (11999 / 10000 * l1)) * e1 ≤ (11999 / 10000 * l1 - 1) * (11999 / 10000 * l1 - 1) * (2 * (11999 / 10000 * l1) + 1)) && decide ((2 - 999 / 1000 * (p + t)) / 8 + 1 / 100000 ≤ (e1 - 3 / 10000) * cm)
theorem row_of {p cm l1 l2 t e1 : Rat} (h : rowB4 p cm l1 l2 t e1 = true) : Row p cm l1 l2 t e1 := by
  simp only [rowB4, Bool.and_eq_true, decide_eq_true_eq] at h
  obtain ⟨⟨⟨⟨⟨⟨⟨a, b⟩, c⟩, d⟩, e⟩, f⟩, g⟩, k⟩ := h
  exact ⟨a, b, c, d, e, f, g, k⟩
/-- Rows that follow one another, from a on to 7/4. -/
def u4 (n : Nat) : Rat := (n : Rat) / 10000
def coverB (p cm : Rat) : Nat → List (Nat × Nat × Nat × Nat) → Bool
  | a, [] => decide (a = 17500)
  | a, r :: l => decide (r.1 = a) && rowB4 p cm (u4 r.1) (u4 r.2.1) (u4 r.2.2.1) (u4 r.2.2.2) && coverB p cm r.2.1 l
theorem u4_end : u4 17500 = 7 / 4 := by decide +kernel
theorem cover_find {p cm x : Rat} : ∀ (l : List (Nat × Nat × Nat × Nat)) (a : Nat), coverB p cm a l = true → u4 a ≤ x → x < 7 / 4 → ∃ l1 l2 t e1, Row p cm l1 l2 t e1 ∧ l1 ≤ x ∧ x ≤ l2
  | [], a, h, h1, h2 => by
    simp only [coverB, decide_eq_true_eq] at h
    exfalso; rw [h, u4_end] at h1; grind
  | r :: l, a, h, h1, h2 => by
    simp only [coverB, Bool.and_eq_true, decide_eq_true_eq] at h
    obtain ⟨⟨e, k⟩, c⟩ := h
    rcases Rat.le_total (a := u4 r.2.1) (b := x) with g | g
    · exact cover_find l r.2.1 c g h2
    · exact ⟨_, _, _, _, row_of k, by rw [e]; exact h1, g⟩
def r1 : List (Nat × Nat × Nat × Nat) := [(10000, 11000, 5691, 470), (11000, 11100, 5422, 1067), (11100, 11200, 5169, 1136), (11200, 11300, 4930, 1206), (11300, 11400, 4703, 1277), (11400, 11500, 4489, 1350), (11500, 11600, 4287, 1423), (11600, 11700, 4095, 1498), (11700, 11800, 3913, 1574), (11800, 11900, 3741, 1651), (11900, 12000, 3577, 1730), (12000, 12100, 3422, 1809), (12100, 12200, 3275, 1889), (12200, 12300, 3136, 1971), (12300, 12400, 3003, 2053), (12400, 12500, 2877, 2136), (12500, 12600, 2757, 2220), (12600, 12700, 2643, 2305), (12700, 12800, 2535, 2390), (12800, 12900, 2432, 2477), (12900, 13000, 2334, 2564), (13000, 13100, 2240, 2652), (13100, 13200, 2151, 2741), (13200, 13300, 2066, 2830), (13300, 13400, 1985, 2920), (13400, 13500, 1908, 3011), (13500, 13600, 1834, 3103), (13600, 13700, 1764, 3195), (13700, 13800, 1697, 3287), (13800, 13900, 1633, 3381), (13900, 14000, 1571, 3475), (14000, 14100, 1513, 3569), (14100, 14200, 1457, 3664), (14200, 14300, 1403, 3759), (14300, 14400, 1352, 3855), (14400, 14500, 1303, 3952), (14500, 14600, 1256, 4049), (14600, 14700, 1211, 4146), (14700, 14800, 1168, 4244), (14800, 14900, 1127, 4342), (14900, 15000, 1087, 4441), (15000, 15100, 1049, 4540), (15100, 15200, 1013, 4640), (15200, 15300, 978, 4740), (15300, 15400, 945, 4841), (15400, 15500, 912, 4941), (15500, 15600, 882, 5042), (15600, 15700, 852, 5144), (15700, 15800, 824, 5246), (15800, 15900, 796, 5348), (15900, 16000, 770, 5451), (16000, 16100, 745, 5553), (16100, 16200, 721, 5657), (16200, 16300, 697, 5760), (16300, 16400, 675, 5864), (16400, 16500, 653, 5968), (16500, 16600, 633, 6072), (16600, 16700, 613, 6177), (16700, 16800, 593, 6282), (16800, 16900, 575, 6387), (16900, 17000, 557, 6493), (17000, 17100, 540, 6598), (17100, 17200, 523, 6704), (17200, 17300, 507, 6811), (17300, 17400, 492, 6917), (17400, 17500, 477, 7024)]
theorem r1_ok : coverB (2879 / 2000) (33 / 200) 10000 r1 = true := by decide +kernel
def r2 : List (Nat × Nat × Nat × Nat) := [(10000, 11000, 5691, 470), (11000, 11100, 5422, 1067), (11100, 11200, 5169, 1136), (11200, 11300, 4930, 1206), (11300, 11400, 4703, 1277), (11400, 11500, 4489, 1350), (11500, 11600, 4287, 1423), (11600, 11700, 4095, 1498), (11700, 11800, 3913, 1574), (11800, 11900, 3741, 1651), (11900, 12000, 3577, 1730), (12000, 12100, 3422, 1809), (12100, 12200, 3275, 1889), (12200, 12300, 3136, 1971), (12300, 12400, 3003, 2053), (12400, 12500, 2877, 2136), (12500, 12600, 2757, 2220), (12600, 12700, 2643, 2305), (12700, 12800, 2535, 2390), (12800, 12900, 2432, 2477), (12900, 13000, 2334, 2564), (13000, 13100, 2240, 2652), (13100, 13200, 2151, 2741), (13200, 13300, 2066, 2830), (13300, 13400, 1985, 2920), (13400, 13500, 1908, 3011), (13500, 13600, 1834, 3103), (13600, 13700, 1764, 3195), (13700, 13800, 1697, 3287), (13800, 13900, 1633, 3381), (13900, 14000, 1571, 3475), (14000, 14100, 1513, 3569), (14100, 14200, 1457, 3664), (14200, 14300, 1403, 3759), (14300, 14400, 1352, 3855), (14400, 14500, 1303, 3952), (14500, 14600, 1256, 4049), (14600, 14700, 1211, 4146), (14700, 14800, 1168, 4244), (14800, 14900, 1127, 4342), (14900, 15000, 1087, 4441), (15000, 15100, 1049, 4540), (15100, 15200, 1013, 4640), (15200, 15300, 978, 4740), (15300, 15400, 945, 4841), (15400, 15500, 912, 4941), (15500, 15600, 882, 5042), (15600, 15700, 852, 5144), (15700, 15800, 824, 5246), (15800, 15900, 796, 5348), (15900, 16000, 770, 5451), (16000, 16100, 745, 5553), (16100, 16200, 721, 5657), (16200, 16300, 697, 5760), (16300, 16400, 675, 5864), (16400, 16500, 653, 5968), (16500, 16600, 633, 6072), (16600, 16700, 613, 6177), (16700, 16800, 593, 6282), (16800, 16900, 575, 6387), (16900, 17000, 557, 6493), (17000, 17100, 540, 6598), (17100, 17200, 523, 6704), (17200, 17300, 507, 6811), (17300, 17400, 492, 6917), (17400, 17500, 477, 7024)]
theorem r2_ok : coverB (39 / 25) (11 / 100) 10000 r2 = true := by decide +kernel
def r3 : List (Nat × Nat × Nat × Nat) := [(10000, 11000, 5691, 470), (11000, 11100, 5422, 1067), (11100, 11200, 5169, 1136), (11200, 11300, 4930, 1206), (11300, 11400, 4703, 1277), (11400, 11500, 4489, 1350), (11500, 11600, 4287, 1423), (11600, 11700, 4095, 1498), (11700, 11800, 3913, 1574), (11800, 11900, 3741, 1651), (11900, 12000, 3577, 1730), (12000, 12100, 3422, 1809), (12100, 12200, 3275, 1889), (12200, 12300, 3136, 1971), (12300, 12400, 3003, 2053), (12400, 12500, 2877, 2136), (12500, 12600, 2757, 2220), (12600, 12700, 2643, 2305), (12700, 12800, 2535, 2390), (12800, 12900, 2432, 2477), (12900, 13000, 2334, 2564), (13000, 13100, 2240, 2652), (13100, 13200, 2151, 2741), (13200, 13300, 2066, 2830), (13300, 13400, 1985, 2920), (13400, 13500, 1908, 3011), (13500, 13600, 1834, 3103), (13600, 13700, 1764, 3195), (13700, 13800, 1697, 3287), (13800, 13900, 1633, 3381), (13900, 14000, 1571, 3475), (14000, 14100, 1513, 3569), (14100, 14200, 1457, 3664), (14200, 14300, 1403, 3759), (14300, 14400, 1352, 3855), (14400, 14500, 1303, 3952), (14500, 14600, 1256, 4049), (14600, 14700, 1211, 4146), (14700, 14800, 1168, 4244), (14800, 14900, 1127, 4342), (14900, 15000, 1087, 4441), (15000, 15100, 1049, 4540), (15100, 15200, 1013, 4640), (15200, 15300, 978, 4740), (15300, 15400, 945, 4841), (15400, 15500, 912, 4941), (15500, 15600, 882, 5042), (15600, 15700, 852, 5144), (15700, 15800, 824, 5246), (15800, 15900, 796, 5348), (15900, 16000, 770, 5451), (16000, 16100, 745, 5553), (16100, 16200, 721, 5657), (16200, 16300, 697, 5760), (16300, 16400, 675, 5864), (16400, 16500, 653, 5968), (16500, 16600, 633, 6072), (16600, 16700, 613, 6177), (16700, 16800, 593, 6282), (16800, 16900, 575, 6387), (16900, 17000, 557, 6493), (17000, 17100, 540, 6598), (17100, 17200, 523, 6704), (17200, 17300, 507, 6811), (17300, 17400, 492, 6917), (17400, 17500, 477, 7024)]
theorem r3_ok : coverB (33 / 20) (3 / 40) 10000 r3 = true := by decide +kernel
def r4 : List (Nat × Nat × Nat × Nat) := [(10000, 11000, 5691, 470), (11000, 11100, 5422, 1067), (11100, 11200, 5169, 1136), (11200, 11300, 4930, 1206), (11300, 11400, 4703, 1277), (11400, 11500, 4489, 1350), (11500, 11600, 4287, 1423), (11600, 11700, 4095, 1498), (11700, 11800, 3913, 1574), (11800, 11900, 3741, 1651), (11900, 12000, 3577, 1730), (12000, 12100, 3422, 1809), (12100, 12200, 3275, 1889), (12200, 12300, 3136, 1971), (12300, 12400, 3003, 2053), (12400, 12500, 2877, 2136), (12500, 12600, 2757, 2220), (12600, 12700, 2643, 2305), (12700, 12800, 2535, 2390), (12800, 12900, 2432, 2477), (12900, 13000, 2334, 2564), (13000, 13100, 2240, 2652), (13100, 13200, 2151, 2741), (13200, 13300, 2066, 2830), (13300, 13400, 1985, 2920), (13400, 13500, 1908, 3011), (13500, 13600, 1834, 3103), (13600, 13700, 1764, 3195), (13700, 13800, 1697, 3287), (13800, 13900, 1633, 3381), (13900, 14000, 1571, 3475), (14000, 14100, 1513, 3569), (14100, 14200, 1457, 3664), (14200, 14300, 1403, 3759), (14300, 14400, 1352, 3855), (14400, 14500, 1303, 3952), (14500, 14600, 1256, 4049), (14600, 14700, 1211, 4146), (14700, 14800, 1168, 4244), (14800, 14900, 1127, 4342), (14900, 15000, 1087, 4441), (15000, 15100, 1049, 4540), (15100, 15200, 1013, 4640), (15200, 15300, 978, 4740), (15300, 15400, 945, 4841), (15400, 15500, 912, 4941), (15500, 15600, 882, 5042), (15600, 15700, 852, 5144), (15700, 15800, 824, 5246), (15800, 15900, 796, 5348), (15900, 16000, 770, 5451), (16000, 16100, 745, 5553), (16100, 16200, 721, 5657), (16200, 16300, 697, 5760), (16300, 16400, 675, 5864), (16400, 16500, 653, 5968), (16500, 16600, 633, 6072), (16600, 16700, 613, 6177), (16700, 16800, 593, 6282), (16800, 16900, 575, 6387), (16900, 17000, 557, 6493), (17000, 17100, 540, 6598), (17100, 17200, 523, 6704), (17200, 17300, 507, 6811), (17300, 17400, 492, 6917), (17400, 17500, 477, 7024)]
theorem r4_ok : coverB (1701 / 1000) (11 / 200) 10000 r4 = true := by decide +kernel
theorem r1_last : rowB4 (2879 / 2000) (33 / 200) (7 / 4) (7 / 4) 0 (7131 / 10000) = true := by decide +kernel
theorem r2_last : rowB4 (39 / 25) (11 / 100) (7 / 4) (7 / 4) 0 (7131 / 10000) = true := by decide +kernel
theorem r3_last : rowB4 (33 / 20) (3 / 40) (7 / 4) (7 / 4) 0 (7131 / 10000) = true := by decide +kernel
theorem r4_last : rowB4 (1701 / 1000) (11 / 200) (7 / 4) (7 / 4) 0 (7131 / 10000) = true := by decide +kernel
/-- What is known of a depth. -/
structure At (w b x q : Nat) (W B Q D : Rat) : Prop where
  hv : ∃ V, V * ar W B (rv .f32 x) = Q ∧ D * (2 * gg) = V * V
  d0 : 0 ≤ D
  d9 : D ≤ 20000000
  hd : Re (3 / 1000000) (headW w b x q) (rv .f32 x + D)
theorem at_eq {w b x y q : Nat} {W B Q D E : Rat} (W0 : 0 < W) (B0 : 0 ≤ B) (h1 : At w b x q W B Q D) (h2 : At w b y q W B Q E) : D * (ar W B (rv .f32 x) * ar W B (rv .f32 x)) = E * (ar W B (rv .f32 y) * ar W B (rv .f32 y)) := by
  obtain ⟨V, v1, v2⟩ := h1.hv
  obtain ⟨U, u1, u2⟩ := h2.hv
  have g := c_tab.2.1
  exact dd_of (by grind) v1 u1 v2 u2
section
variable {w b s r q : Nat} {W B σ ρ R : Rat} (h : Dr w b s r W B σ ρ R) (fq : isFin .f32 q = true) (q1 : 1 / 4 ≤ rv .f32 q) (q2 : rv .f32 q ≤ 8)
include h fq q1 q2
theorem at_ok {x : Nat} (fx : isFin .f32 x = true) (x1 : 1 / 1000 ≤ rv .f32 x) (x2 : rv .f32 x ≤ 1100) : ∃ D, At w b x q W B (rv .f32 q) D := by
  obtain ⟨V, D, hv, hd⟩ := speed_ex h q x1 x2
  obtain ⟨r1, r2, r3⟩ := head_re h.sec fx rfl x1 x2 fq rfl q1 q2 hv hd
  exact ⟨D, ⟨V, hv, hd⟩, r2, r3, r1⟩
end
/-- What is known of the critical depth. -/
structure Cw (w b s r q C : Nat) (W B Dc : Rat) : Prop where
  ok : iCriticalDepth w b s r q = some (C, true)
  fin : isFin .f32 C = true
  c1 : 55 / 1000 ≤ rv .f32 C
  c2 : rv .f32 C ≤ 501 / 100
  at' : At w b C q W B (rv .f32 q) Dc
  cr : Cr W B (rv .f32 C) Dc
section
variable {w b s r q : Nat} {W B σ ρ R : Rat} (h : Dr w b s r W B σ ρ R) (fq : isFin .f32 q = true) (q1 : 1 / 4 ≤ rv .f32 q) (q2 : rv .f32 q ≤ 8)
include h fq q1 q2
theorem cw_ok : ∃ C Dc, Cw w b s r q C W B Dc := by
  obtain ⟨C, e, f, c1, c2, k1, k2⟩ := crit_ok h fq q1 q2
  obtain ⟨D, a⟩ := at_ok h fq q1 q2 f (by grind) (by grind)
  obtain ⟨V, v1, v2⟩ := a.hv
  have g := c_tab.2.1
  have W1 := h.sec.W1
  exact ⟨C, D, e, f, crit_055 W1 h.sec.W2 h.sec.Bn h.sec.B2 (by grind) q1 k1, c2, a, cr_of (by grind) h.sec.Bn (by grind) (by grind) v1 v2 rfl k1 k2⟩
end
theorem low_arith {Ex Ec c s Ey T Sx SN p t e1 cm : Rat} (c0 : cm ≤ c) (m0 : 55 / 1000 ≤ cm) (s0 : 0 ≤ s) (s1 : s ≤ 1 / 64) (hx : Ex ≤ Ec + 17 / 100000 * c) (hc : Ec ≤ 2 * c) (hN : s * (999 / 1000) ≤ SN) (p0 : 0 ≤ p) (t0 : 0 ≤ t) (hp : p * SN ≤ Sx) (ht : t * SN ≤ T) (hy : Ec + (e1 - 2 / 100000) * c ≤ Ey) (e0 : 1 / 1000 ≤ e1) (row : (2 - 999 / 1000 * (p + t)) / 8 + 1 / 100000 ≤ (e1 - 3 / 10000) * cm) : (Ex + 16 * s) * (1 + 1 / 100000) ≤ Ey + 8 * (T + Sx) := by
  have a := Rat.mul_le_mul_of_nonneg_left hN (show 0 ≤ p + t by grind)
  have ec := Rat.mul_le_mul_of_nonneg_left c0 (show 0 ≤ e1 - 3 / 10000 by grind)
  have k : 8 * (s * (2 - 999 / 1000 * (p + t))) + 1 / 100000 ≤ (e1 - 3 / 10000) * c := by
    rcases Rat.le_total (a := 0) (b := 2 - 999 / 1000 * (p + t)) with g | g
    · have := Rat.mul_le_mul_of_nonneg_right s1 g
      grind
    · have := Rat.mul_nonneg s0 (show 0 ≤ -(2 - 999 / 1000 * (p + t)) by grind)
      have := Rat.mul_le_mul_of_nonneg_right (show (7 : Rat) / 10000 ≤ e1 - 3 / 10000 by grind) (show 0 ≤ c by grind)
      grind
  grind
/-- Bytes. -/
def bytesL (c : List Int) : Prop := c.length ≤ 1048576 ∧ ∀ x ∈ c, 0 ≤ x ∧ x ≤ 255
theorem byte_at {c : List Int} (h : bytesL c) {i : Nat} (hi : i < c.length) : 0 ≤ c.getD i 0 ∧ c.getD i 0 ≤ 255 := by
  rw [List.getD_eq_getElem?_getD, List.getElem?_eq_getElem hi]; exact h.2 _ (List.getElem_mem hi)
theorem bytes_of {c : List Int} (hl : c.length ≤ 1048576) (h : ∀ x : Int, List.Mem x c → (Lit.int .u8 x).wf = true) : bytesL c := ⟨hl, fun x hx => by
  have := h x hx
  simp only [Lit.wf, Bool.and_eq_true, decide_eq_true_eq] at this
  have e1 : IntKind.u8.min = 0 := rfl
  have e2 : IntKind.u8.max = 255 := rfl
  omega⟩
theorem iand_byte (a : Int) : 0 ≤ IntKind.wrap .i64 (iand .u64 a 255) ∧ IntKind.wrap .i64 (iand .u64 a 255) ≤ 255 := by
  unfold iand
  have h : (BitVec.ofInt IntKind.u64.bits a &&& BitVec.ofInt IntKind.u64.bits 255).toNat ≤ 255 := by
    rw [BitVec.toNat_and]
    exact Nat.le_trans Nat.and_le_right (by decide)
  generalize (BitVec.ofInt IntKind.u64.bits a &&& BitVec.ofInt IntKind.u64.bits 255).toNat = n at h
  rw [IntKind.wrap_u64, wrap_id (by omega) (by omega)]
  omega
theorem D_next {c : List Int} (hc : bytesL c) (k : Nat) (hk : k ≤ 2097152) (s : Int) : ∃ b s', sl00Src_next c k s = some (b, c, ((k + 1 : Nat) : Int), s') ∧ 0 ≤ b ∧ b ≤ 255 := by
  have hw : IntKind.wrap .i64 ((k : Int) + 1) = ((k + 1 : Nat) : Int) := by rw [wrap_id (by omega) (by omega)]; omega
  unfold sl00Src_next sl00Src_next_t
  simp only [hw, Tr.sem, show decide ((0 : Int) ≤ 40) = true from rfl, cond_true]
  by_cases h1 : k < c.length
  · obtain ⟨b0, b1⟩ := byte_at hc h1
    have hb : IntKind.wrap .i64 (c.getD k 0) = c.getD k 0 := wrap_id (by omega) (by omega)
    have h2 : decide (((k + 1 : Nat) : Int) ≤ (c.length : Int)) = true := by simp only [decide_eq_true_eq]; omega
    simp only [ltRange h1, zeroLe, Bool.and_self, cond_true, Int.toNat_natCast, h2]
    rw [hb]
    exact ⟨_, _, rfl, b0, b1⟩
  · have h0 : decide ((k : Int) < (c.length : Int)) = false := by simp only [decide_eq_false_iff_not]; omega
    have h2 : decide (((k + 1 : Nat) : Int) ≤ (c.length : Int)) = false := by simp only [decide_eq_false_iff_not]; omega
    simp only [h0, cond_false, h2]
    exact ⟨_, _, rfl, (iand_byte _).1, (iand_byte _).2⟩
/-- A number below n. -/
theorem D_pick {c : List Int} (hc : bytesL c) (n : Int) (hn : 1 ≤ n) (hn2 : n ≤ 1000000) (k : Nat) (hk : k ≤ 2097000) (s : Int) : ∃ (b : Int) (k' : Nat) (s' : Int), sl00Src_pick n c k s = some (b, c, (k' : Int), s') ∧ 0 ≤ b ∧ b < n ∧ k' ≤ k + 2 := by
  unfold sl00Src_pick sl00Src_pick_t
  by_cases h1 : n ≤ 1
  · simp only [decide_eq_true h1, Tr.sem, cond_true]
    exact ⟨0, k, s, rfl, by omega, by omega, by omega⟩
  · obtain ⟨b, s1, e1, b0, b1⟩ := D_next hc k (by omega) s
    have hne : decide (n ≠ (0 : Int)) = true := by simp only [decide_eq_true_eq]; omega
    simp only [decide_eq_false h1, Tr.sem, cond_false, e1, osome, oget, cond_true, hne]
    by_cases h2 : n > 200
    · obtain ⟨d, s2, e2, d0, d1⟩ := D_next hc (k + 1) (by omega) s1
      have hw : IntKind.wrap .i64 (b * 256) = b * 256 := wrap_id (by omega) (by omega)
      have hw2 : IntKind.wrap .i64 (b * 256 + d) = b * 256 + d := wrap_id (by omega) (by omega)
      simp only [decide_eq_true h2, e2, osome, oget, cond_true, hw, hw2]
      exact ⟨_, k + 2, s2, rfl, Int.tmod_nonneg _ (by omega), Int.tmod_lt_of_pos _ (by omega), by omega⟩
    · simp only [decide_eq_false h2, cond_false]
      exact ⟨_, k + 1, s1, rfl, Int.tmod_nonneg _ (by omega), Int.tmod_lt_of_pos _ (by omega), by omega⟩
theorem D_from (c : List Int) : sl00From c = (c, 0, 0) := rfl
/-- A critical depth of c2 at most: the flow would be beyond its waves at c2. -/
theorem crit_gt {W B C c2 Q : Rat} (W0 : 0 < W) (B0 : 0 ≤ B) (c0 : 0 < C) (h : C ≤ c2) (hc : Q * Q * tp W B C * (1 - 1 / 40000) ≤ gg * (ar W B C * ar W B C * ar W B C)) (g0 : 0 < gg) (q0 : 0 ≤ Q) : Q * Q * tp W B c2 * (1 - 1 / 40000) ≤ gg * (ar W B c2 * ar W B c2 * ar W B c2) := by
  have e0 : 0 < c2 := by grind
  obtain ⟨t, rfl⟩ : ∃ t, C = t * c2 := ⟨C / c2, by rw [Rat.div_mul_cancel (by grind)]⟩
  have t0 : 0 < t := by
    rcases Rat.le_total (a := t) (b := 0) with g | g
    · have := Rat.mul_nonneg (show 0 ≤ -t by grind) (Rat.le_of_lt e0); exfalso; grind
    · rcases Rat.le_iff_lt_or_eq.1 g with g | g
      · exact g
      · exfalso; rw [← g] at c0; grind
  have t1 : t ≤ 1 := cancel_le (c := c2) (by grind) e0
  have A0 := ar_pos W0 B0 e0
  have A1 := ar_pos W0 B0 c0
  have bc := Rat.mul_nonneg B0 (Rat.le_of_lt e0)
  have ha : ar W B (t * c2) ≤ t * ar W B c2 := by
    have a := Rat.mul_nonneg (Rat.mul_nonneg (Rat.mul_nonneg (Rat.le_of_lt t0) (show 0 ≤ 1 - t by grind)) bc) (Rat.le_of_lt e0)
    unfold ar
    grind
  have ht : t * tp W B c2 ≤ tp W B (t * c2) := by
    have a := Rat.mul_nonneg (show 0 ≤ 1 - t by grind) (Rat.le_of_lt W0)
    unfold tp
    grind
  generalize ar W B (t * c2) = a at *
  generalize tp W B (t * c2) = u at *
  generalize ar W B c2 = A at *
  generalize tp W B c2 = T at *
  have c3 := cube_mono (Rat.le_of_lt A1) ha
  have A3 := Rat.mul_pos (Rat.mul_pos A0 A0) A0
  have tt : t * A * (t * A) * (t * A) ≤ t * (A * A * A) := by
    have := Rat.mul_nonneg (Rat.mul_nonneg (Rat.mul_nonneg (Rat.le_of_lt t0) (show 0 ≤ 1 - t by grind)) (show 0 ≤ 1 + t by grind)) (Rat.le_of_lt A3)
    grind
  have g3 := Rat.mul_le_mul_of_nonneg_left (Rat.le_trans c3 tt) (Rat.le_of_lt g0)
  have q2 := Rat.mul_le_mul_of_nonneg_left ht (Rat.mul_nonneg q0 q0)
  refine cancel_le (c := t) ?_ t0
  grind
section
variable {W B C Q : Rat} (hW : ∃ n : Nat, W = (n : Rat) / 2) (W1 : 1 / 2 ≤ W) (B0 : 0 ≤ B) (B2 : B ≤ 2) (c0 : 0 < C) (q1 : 1 / 4 ≤ Q) (hc : Q * Q * tp W B C * (1 - 1 / 40000) ≤ gg * (ar W B C * ar W B C * ar W B C))
include W1 B0 B2 c0 q1 hc
theorem wide_le {c2 : Rat} (h : C ≤ c2) : (W + 2 * (B * c2)) * (39999 / 640000) ≤ 981002 / 100000 * (c2 * c2 * c2) * ((W + B * c2) * (W + B * c2) * (W + B * c2)) ∧ 0 ≤ B * c2 ∧ B * c2 ≤ 2 * c2 := by
  have g1 := c_tab.2.1
  have g2 := c_tab.2.2.1
  have k := crit_gt (by grind) B0 c0 h hc (by grind) (by grind)
  have e0 : 0 < c2 := by grind
  have bc := Rat.mul_nonneg B0 (Rat.le_of_lt e0)
  have bc2 := Rat.mul_le_mul_of_nonneg_right B2 (Rat.le_of_lt e0)
  refine ⟨?_, bc, bc2⟩
  have qq := mul_rng q1 (Rat.le_refl (a := Q)) q1 Rat.le_refl (by decide +kernel) (by decide +kernel)
  have T0 : 0 ≤ W + 2 * (B * c2) := by grind
  have qt := Rat.mul_le_mul_of_nonneg_right qq.1 T0
  have P := Rat.mul_nonneg (Rat.mul_nonneg (show 0 ≤ c2 * (W + B * c2) from Rat.mul_nonneg (Rat.le_of_lt e0) (by grind)) (show 0 ≤ c2 * (W + B * c2) from Rat.mul_nonneg (Rat.le_of_lt e0) (by grind))) (show 0 ≤ c2 * (W + B * c2) from Rat.mul_nonneg (Rat.le_of_lt e0) (by grind))
  have gp := Rat.mul_le_mul_of_nonneg_right (show gg ≤ 981002 / 100000 by grind) P
  unfold ar tp at k
  have e1 : Q * Q * (W + 2 * B * c2) * (1 - 1 / 40000) = Q * Q * (W + 2 * (B * c2)) * (39999 / 40000) := by grind
  rw [e1] at k
  generalize B * c2 = u at *
  grind
include hW
theorem wide2 (h : C ≤ 165 / 1000) : 3 / 2 ≤ W := by
  obtain ⟨a, b, c⟩ := wide_le W1 B0 B2 c0 q1 hc h
  obtain ⟨n, rfl⟩ := hW
  generalize B * (165 / 1000) = u at *
  by_cases hn : n < 3
  · exfalso
    have : n = 0 ∨ n = 1 ∨ n = 2 := by omega
    rcases this with rfl | rfl | rfl
    · have : ((0 : Nat) : Rat) = 0 := rfl
      grind
    · have e : ((1 : Nat) : Rat) = 1 := rfl
      rw [e] at a
      have := Rat.mul_nonneg (Rat.mul_nonneg b (show 0 ≤ 33 / 100 - u by grind)) (show 0 ≤ 3 / 2 + 33 / 100 + u by grind)
      grind
    · have e : ((2 : Nat) : Rat) = 2 := rfl
      rw [e] at a
      have := Rat.mul_nonneg (Rat.mul_nonneg b (show 0 ≤ 33 / 100 - u by grind)) (show 0 ≤ 3 + 33 / 100 + u by grind)
      grind
  · have : (3 : Rat) ≤ (n : Rat) := by exact_mod_cast (show 3 ≤ n by omega)
    grind
theorem wide3 (h : C ≤ 11 / 100) : 5 / 2 ≤ W := by
  have w := wide2 hW W1 B0 B2 c0 q1 hc (by grind)
  obtain ⟨a, b, c⟩ := wide_le W1 B0 B2 c0 q1 hc h
  obtain ⟨n, rfl⟩ := hW
  generalize B * (11 / 100) = u at *
  by_cases hn : n < 5
  · exfalso
    have : n = 0 ∨ n = 1 ∨ n = 2 ∨ n = 3 ∨ n = 4 := by omega
    rcases this with rfl | rfl | rfl | rfl | rfl
    · have : ((0 : Nat) : Rat) = 0 := rfl
      grind
    · have e : ((1 : Nat) : Rat) = 1 := rfl
      grind
    · have e : ((2 : Nat) : Rat) = 2 := rfl
      grind
    · have e : ((3 : Nat) : Rat) = 3 := rfl
      rw [e] at a
      have := Rat.mul_nonneg (Rat.mul_nonneg b (show 0 ≤ 22 / 100 - u by grind)) (show 0 ≤ 9 / 2 + 22 / 100 + u by grind)
      grind
    · have e : ((4 : Nat) : Rat) = 4 := rfl
      rw [e] at a
      have := Rat.mul_nonneg (Rat.mul_nonneg b (show 0 ≤ 22 / 100 - u by grind)) (show 0 ≤ 6 + 22 / 100 + u by grind)
      grind
  · have : (5 : Rat) ≤ (n : Rat) := by exact_mod_cast (show 5 ≤ n by omega)
    grind
theorem wide4 (h : C ≤ 75 / 1000) : 4 ≤ W := by
  have w := wide3 hW W1 B0 B2 c0 q1 hc (by grind)
  obtain ⟨a, b, c⟩ := wide_le W1 B0 B2 c0 q1 hc h
  obtain ⟨n, rfl⟩ := hW
  generalize B * (75 / 1000) = u at *
  by_cases hn : n < 8
  · exfalso
    have h4 : 4 < n := by
      rcases Nat.lt_or_ge 4 n with g | g
      · exact g
      · have : (n : Rat) ≤ 4 := by exact_mod_cast g
        exfalso; grind
    have : n = 5 ∨ n = 6 ∨ n = 7 := by omega
    rcases this with rfl | rfl | rfl
    · have e : ((5 : Nat) : Rat) = 5 := rfl
      rw [e] at a
      have := Rat.mul_nonneg (Rat.mul_nonneg b (show 0 ≤ 15 / 100 - u by grind)) (show 0 ≤ 15 / 2 + 15 / 100 + u by grind)
      grind
    · have e : ((6 : Nat) : Rat) = 6 := rfl
      rw [e] at a
      have := Rat.mul_nonneg (Rat.mul_nonneg b (show 0 ≤ 15 / 100 - u by grind)) (show 0 ≤ 9 + 15 / 100 + u by grind)
      grind
    · have e : ((7 : Nat) : Rat) = 7 := rfl
      rw [e] at a
      have := Rat.mul_nonneg (Rat.mul_nonneg b (show 0 ≤ 15 / 100 - u by grind)) (show 0 ≤ 21 / 2 + 15 / 100 + u by grind)
      grind
  · have : (8 : Rat) ≤ (n : Rat) := by exact_mod_cast (show 8 ≤ n by omega)
    grind
end
/-! ### Rows for all depths -/
/-- For each depth beyond the normal one there is a row. -/
def Cov (p cm : Rat) : Prop := ∀ l, 1 ≤ l → ∃ l1 l2 t e1, Row p cm l1 l2 t e1 ∧ l1 ≤ l ∧ ((l ≤ l2 ∧ l ≤ 7 / 4) ∨ t = 0)
theorem u4_one : u4 10000 = 1 := by decide +kernel
theorem cov_of {p cm e : Rat} {r : List (Nat × Nat × Nat × Nat)} (h : coverB p cm 10000 r = true) (k : rowB4 p cm (7 / 4) (7 / 4) 0 e = true) : Cov p cm := by
  intro l hl
  rcases Rat.le_total (a := 7 / 4) (b := l) with g | g
  · exact ⟨7 / 4, 7 / 4, 0, e, row_of k, g, .inr rfl⟩
  · rcases Rat.le_iff_lt_or_eq.1 g with g | g
    · obtain ⟨l1, l2, t, e1, a, b, c⟩ := cover_find r 10000 h (by rw [u4_one]; exact hl) g
      exact ⟨l1, l2, t, e1, a, b, .inl ⟨c, by grind⟩⟩
    · exact ⟨7 / 4, 7 / 4, 0, e, row_of k, by grind, .inr rfl⟩
theorem cov1 : Cov (2879 / 2000) (33 / 200) := cov_of r1_ok r1_last
theorem cov2 : Cov (39 / 25) (11 / 100) := cov_of r2_ok r2_last
theorem cov3 : Cov (33 / 20) (3 / 40) := cov_of r3_ok r3_last
theorem cov4 : Cov (1701 / 1000) (11 / 200) := cov_of r4_ok r4_last
section
variable {w b s r x N C q : Nat} {W B σ ρ R Dc : Rat} (h : Dr w b s r W B σ ρ R)
include h
theorem mid_lo (fx : isFin .f32 x = true) (x1 : 549 / 10000 ≤ rv .f32 x) (x2 : rv .f32 x ≤ 1002) : 251 / 10000 ≤ rv .f32 (midW w b x) := by
  obtain ⟨Z, hz⟩ := mid_ex (x := x) h (by grind) (by grind)
  obtain ⟨m1, m2, m3, m4, m5, m6, m7⟩ := mid_rng h fx (by grind) x2 hz
  have W1 := h.sec.W1
  have Bn := h.sec.Bn
  have B2 := h.sec.B2
  have s2 := h.sec.s2
  have px := (wet_bd h.sec (X := rv .f32 x) (by grind) (by grind)).1
  generalize rv .f32 x = X at *
  have z : 3 / 100 ≤ Z := by
    refine cancel_le (c := W + 2 * X * σ) ?_ (by grind)
    rw [hz]
    have a := Rat.mul_le_mul_of_nonneg_left s2 (show 0 ≤ X by grind)
    have d := Rat.mul_nonneg (show 0 ≤ W - 1 / 2 by grind) (show 0 ≤ X - 3 / 100 by grind)
    have sq := Rat.mul_nonneg Bn (Rat.mul_nonneg (show 0 ≤ X - 3 / 100 by grind) (show 0 ≤ X - 3 / 100 by grind))
    grind
  grind
theorem mid_up (fx : isFin .f32 x = true) (x1 : 549 / 10000 ≤ rv .f32 x) (x2 : rv .f32 x ≤ 1002) (hb : B = 0 ∨ rv .f32 x ≤ 30) : rv .f32 (midW w b x) ≤ 20 := by
  obtain ⟨Z, hz⟩ := mid_ex (x := x) h (by grind) (by grind)
  obtain ⟨m1, m2, m3, m4, m5, m6, m7⟩ := mid_rng h fx (by grind) x2 hz
  have W1 := h.sec.W1
  have W2 := h.sec.W2
  have Bn := h.sec.Bn
  have s1 := h.sec.s1
  have s3 := h.sec.s3
  have px := (wet_bd h.sec (X := rv .f32 x) (by grind) (by grind)).1
  generalize rv .f32 x = X at *
  have xs := Rat.mul_le_mul_of_nonneg_left s1 (show 0 ≤ X by grind)
  have z : Z ≤ 199 / 10 := by
    refine cancel_le (c := W + 2 * X * σ) ?_ (by grind)
    rw [hz]
    rcases hb with hb | hb
    · subst hb
      have a := Rat.mul_le_mul_of_nonneg_left W2 (show 0 ≤ X by grind)
      grind
    · have a := Rat.mul_nonneg (show 0 ≤ X by grind) (show 0 ≤ σ - 1 / 10 - B by grind)
      have bx := Rat.mul_nonneg (show 0 ≤ X by grind) a
      rcases Rat.le_total (a := X) (b := 199 / 10) with g | g
      · have d := Rat.mul_nonneg (show 0 ≤ W by grind) (show 0 ≤ 199 / 10 - X by grind)
        have e := Rat.mul_nonneg (show 0 ≤ X * σ by grind) (show 0 ≤ 398 / 10 - X by grind)
        have f := Rat.mul_nonneg (show 0 ≤ X by grind) (show 0 ≤ X by grind)
        grind
      · have d := mul_rng (show 0 ≤ W by grind) W2 (show 0 ≤ X - 199 / 10 by grind) (show X - 199 / 10 ≤ 101 / 10 by grind) (by decide +kernel) (by decide +kernel)
        have e := mul_rng (show 18 ≤ X * σ by grind) Rat.le_refl (show 98 / 10 ≤ 398 / 10 - X by grind) Rat.le_refl (by decide +kernel) (by decide +kernel)
        have f := Rat.mul_nonneg (show 0 ≤ X by grind) (show 0 ≤ X by grind)
        grind
  grind
/-- Where the sides slope, the normal depth is small. -/
theorem n_deep (fN : isFin .f32 N = true) (n1 : 3 / 100 ≤ rv .f32 N) (n2 : rv .f32 N ≤ 1002) (q2 : rv .f32 q ≤ 8) (n4 : rv .f32 (flowW w b s r N) ≤ rv .f32 q * (1 + 1 / 5000)) : B = 0 ∨ rv .f32 N ≤ 17 := by
  rcases h.sec.B0 with B0 | B0
  · exact .inl B0
  · right
    rcases Rat.le_total (a := rv .f32 N) (b := 17) with g | g
    · exact g
    · exfalso
      obtain ⟨-, F, F1, F2, F3⟩ := flow_ok h fN (by grind) n2
      obtain ⟨Z, hz⟩ := mid_ex (x := N) h (by grind) (by grind)
      obtain ⟨m1, m2, m3, m4, m5, m6, m7⟩ := mid_rng h fN (by grind) n2 hz
      have W1 := h.sec.W1
      have Bn := h.sec.Bn
      have B2 := h.sec.B2
      have s2 := h.sec.s2
      have ρ1 := h.ρ1
      have R2 := h.R2
      have px := (wet_bd h.sec (X := rv .f32 N) (by grind) (by grind)).1
      have a := Rat.mul_le_mul_of_nonneg_left s2 (show 0 ≤ rv .f32 N by grind)
      have z : 2 / 10 ≤ Z := by
        refine cancel_le (c := W + 2 * rv .f32 N * σ) ?_ (by grind)
        rw [hz]
        have d := Rat.mul_nonneg (show 0 ≤ W by grind) (show 0 ≤ rv .f32 N - 17 by grind)
        have e := Rat.mul_le_mul_of_nonneg_right B0 (show 0 ≤ rv .f32 N by grind)
        have f := Rat.mul_nonneg (Rat.mul_nonneg (show 0 ≤ rv .f32 N by grind) (show 0 ≤ rv .f32 N - 17 by grind)) Bn
        grind
      have G := pw_high m1 (by grind) m3
      have bn := mul_rng B0 B2 g n2 (by decide +kernel) (by decide +kernel)
      have A := mul_rng g Rat.le_refl (show 9 ≤ W + B * rv .f32 N by grind) Rat.le_refl (by decide +kernel) (by decide +kernel)
      generalize rv .f32 N * (W + B * rv .f32 N) = AA at *
      generalize rv .f32 (pwW 1059760811 (midW w b N)) = GG at *
      have t1 := mul_rng A.1 Rat.le_refl G Rat.le_refl (by decide +kernel) (by decide +kernel)
      have t2 := mul_rng t1.1 Rat.le_refl ρ1 Rat.le_refl (by decide +kernel) (by decide +kernel)
      have fr := Rat.mul_le_mul_of_nonneg_left R2 (show 0 ≤ F by grind)
      have Fl := F3.lo
      grind
end
/-! ### Next to the critical depth -/
section
variable {w b s r x N C q : Nat} {W B σ ρ R Dc V S U T : Rat} (h : Dr w b s r W B σ ρ R) (e : Dx s W ρ) (hσ : σ ≤ 224 / 100) (fq : isFin .f32 q = true) (q1 : 1 / 4 ≤ rv .f32 q) (q2 : rv .f32 q ≤ 8)
  (k : Cw w b s r q C W B Dc) (fN : isFin .f32 N = true) (n1 : 119999 / 100000 * rv .f32 C ≤ rv .f32 N) (n2 : rv .f32 N ≤ 1002) (nb : B = 0 ∨ rv .f32 N ≤ 17)
  (fx : isFin .f32 x = true) (x1 : 9999 / 10000 * rv .f32 C ≤ rv .f32 x) (x2 : rv .f32 x ≤ 100002 / 100000 * rv .f32 C) (a : Stp w b r N q W B R V S) (c : Stp w b r x q W B R U T)
include h e hσ fq q1 q2 k fN n1 n2 nb fx x1 x2 a c
omit e hσ fq q1 q2 in
theorem near_case {κ p : Rat} (κ0 : 1 ≤ κ) (hκ : κ * (W + 2 * (11999 / 10000 * rv .f32 x) * σ) ≤ 11999 / 10000 * (W + 2 * rv .f32 x * σ)) (p0 : 0 ≤ p) (hp : p * p * p * (118 / 100) ≤ 11999 / 10000 * (11999 / 10000) * (11999 / 10000 * (11999 / 10000)) * (11999 / 10000 * (11999 / 10000)) * p4 (κ * (1 - 1 / 100000))) : p * S ≤ T := by
  have c1 := k.c1
  have c2 := k.c2
  have kx : 11999 / 10000 * rv .f32 x ≤ rv .f32 N := by grind
  have mb := mid_between h fx (by grind) fN n2 (show (1 : Rat) ≤ 11999 / 10000 by decide +kernel) kx (by grind) hκ
  exact s_above h fN n2 fx (by grind) (by decide +kernel) kx a c (by grind) mb (mid_lo h fN (by grind) n2) (mid_up h fN (by grind) n2 (by rcases nb with g | g; exact .inl g; right; grind)) (mid_lo h fx (by grind) (by grind)) (mid_up h fx (by grind) (by grind) (by right; grind)) p0 hp
omit fq q2 in
theorem near_steep : ∃ p cm, cm ≤ rv .f32 C ∧ 55 / 1000 ≤ cm ∧ 2879 / 2000 ≤ p ∧ p * S ≤ T ∧ Cov p cm := by
  have nc := @near_case _ _ _ _ _ _ _ _ _ _ _ _ _ _ _ _ _ _ h k fN n1 n2 nb fx x1 x2 a c
  obtain ⟨-, kf, c1, c2, ka, kc⟩ := k
  obtain ⟨Vc, v1, v2⟩ := ka.hv
  have W1 := h.sec.W1
  have Bn := h.sec.Bn
  have B2 := h.sec.B2
  have g0 := c_tab.2.1
  have hc : rv .f32 q * rv .f32 q * tp W B (rv .f32 C) * (1 - 1 / 40000) ≤ gg * (ar W B (rv .f32 C) * ar W B (rv .f32 C) * ar W B (rv .f32 C)) := by
    have A0 := ar_pos (W := W) (B := B) (by grind) Bn (x := rv .f32 C) (by grind)
    have l := Rat.mul_le_mul_of_nonneg_left kc.lo (show 0 ≤ gg * (ar W B (rv .f32 C) * ar W B (rv .f32 C)) from Rat.mul_nonneg (by grind) (Rat.le_of_lt (Rat.mul_pos A0 A0)))
    rw [← v1]
    have e1 : Vc * ar W B (rv .f32 C) * (Vc * ar W B (rv .f32 C)) = Dc * (2 * gg) * (ar W B (rv .f32 C) * ar W B (rv .f32 C)) := by rw [v2]; grind
    rw [e1]
    grind
  have s1 := h.sec.s1
  rcases Rat.le_total (a := rv .f32 C) (b := 165 / 1000) with g | g
  · have xs := mul_rng (show 0 ≤ rv .f32 x by grind) x2 (show 0 ≤ σ by grind) hσ (by decide +kernel) (by decide +kernel)
    rcases Rat.le_total (a := rv .f32 C) (b := 11 / 100) with g2 | g2
    · rcases Rat.le_total (a := rv .f32 C) (b := 75 / 1000) with g3 | g3
      · have w := wide4 e.hW W1 Bn B2 (by grind) q1 hc g3
        exact ⟨1701 / 1000, 11 / 200, by grind, by decide +kernel, by decide +kernel, nc (κ := 11815 / 10000) (by decide +kernel) (by grind) (by decide +kernel) (by decide +kernel), cov4⟩
      · have w := wide3 e.hW W1 Bn B2 (by grind) q1 hc g2
        exact ⟨33 / 20, 3 / 40, by grind, by decide +kernel, by decide +kernel, nc (κ := 1157 / 1000) (by decide +kernel) (by grind) (by decide +kernel) (by decide +kernel), cov3⟩
    · have w := wide2 e.hW W1 Bn B2 (by grind) q1 hc g
      exact ⟨39 / 25, 11 / 100, by grind, by decide +kernel, by decide +kernel, nc (κ := 112 / 100) (by decide +kernel) (by grind) (by decide +kernel) (by decide +kernel), cov2⟩
  · refine ⟨2879 / 2000, 33 / 200, by grind, by decide +kernel, by decide +kernel, ?_, cov1⟩
    have := steep_ratio h fN (by grind) n2 a fx (by grind) c (show (1 : Rat) ≤ 11999 / 10000 by decide +kernel) (by grind)
    have s0 := a.s0
    grind
end
/-- All that is known where the normal depth is beyond the critical one. -/
structure Nd (w b s r q N C : Nat) (W B σ ρ R Dc V S : Rat) : Prop where
  dr : Dr w b s r W B σ ρ R
  dx : Dx s W ρ
  hσ : σ ≤ 224 / 100
  fq : isFin .f32 q = true
  q1 : 1 / 4 ≤ rv .f32 q
  q2 : rv .f32 q ≤ 8
  cw : Cw w b s r q C W B Dc
  fN : isFin .f32 N = true
  n1 : 119999 / 100000 * rv .f32 C ≤ rv .f32 N
  n2 : rv .f32 N ≤ 452
  nb : B = 0 ∨ rv .f32 N ≤ 17
  st : Stp w b r N q W B R V S
  s1 : rv .f32 s * (1 - 1 / 1000) ≤ S
  s2 : S ≤ rv .f32 s * (1 + 1 / 1000)
theorem stp_bd {w b s r x q : Nat} {W B σ ρ R V S : Rat} (h : Dr w b s r W B σ ρ R) (fq : isFin .f32 q = true) (q1 : 1 / 4 ≤ rv .f32 q) (q2 : rv .f32 q ≤ 8) (fx : isFin .f32 x = true) (x1 : 549 / 10000 ≤ rv .f32 x) (x2 : rv .f32 x ≤ 1002) (a : Stp w b r x q W B R V S) : 1 / 10 ^ 28 ≤ S ∧ S ≤ 10 ^ 20 := by
  obtain ⟨m1, m2, m3⟩ := mid_fin h fx (by grind) x2
  obtain ⟨c1, c2, c3, -⟩ := c43
  obtain ⟨p1, p2, p3, p4⟩ := pw_run c1 c2 c3 m1 m2 m3
  have W1 := h.sec.W1
  have W2 := h.sec.W2
  have Bn := h.sec.Bn
  have B2 := h.sec.B2
  have R1 := h.R1
  have R2 := h.R2
  obtain ⟨av, av0, as, as0, -⟩ := a
  unfold ar at av
  have bx := mul_rng Bn B2 x1 x2 (by decide +kernel) (by decide +kernel)
  have A := mul_rng x1 x2 (show 1 / 2 ≤ W + B * rv .f32 x by grind) (show W + B * rv .f32 x ≤ 2010 by grind) (by decide +kernel) (by decide +kernel)
  generalize rv .f32 x * (W + B * rv .f32 x) = AA at *
  generalize rv .f32 (pwW 1068149419 (midW w b x)) = G at *
  have v1 : 1 / 8100000 ≤ V := by
    refine cancel_le (c := AA) ?_ (by grind)
    grind
  have v2 : V ≤ 300 := by
    refine cancel_le (c := AA) ?_ (by grind)
    grind
  have rv' := mul_rng R1 R2 v1 v2 (by decide +kernel) (by decide +kernel)
  have sq := mul_rng rv'.1 rv'.2 rv'.1 rv'.2 (by decide +kernel) (by decide +kernel)
  rw [← as] at sq
  constructor
  · refine cancel_le (c := G) ?_ (by grind)
    grind
  · refine cancel_le (c := G) ?_ (by grind)
    have := Rat.mul_le_mul_of_nonneg_left p3 (show (0 : Rat) ≤ 10 ^ 20 by decide +kernel)
    grind
/-- At the critical depth, water is not too steep. -/
theorem stp_crit {w b s r q C : Nat} {W B σ ρ R Dc V S : Rat} (h : Dr w b s r W B σ ρ R) (k : Cw w b s r q C W B Dc) (a : Stp w b r C q W B R V S) : S ≤ 20 := by
  obtain ⟨-, kf, c1, c2, ka, kc⟩ := k
  obtain ⟨m1, -, -⟩ := mid_fin h kf (by grind) (by grind)
  have lo := mid_lo h kf (by grind) (by grind)
  have hi := mid_up h kf (by grind) (by grind) (by right; grind)
  obtain ⟨p1, p2, p3⟩ := g4_pow m1 lo hi
  have W1 := h.sec.W1
  have Bn := h.sec.Bn
  have s2 := h.sec.s2
  have R1 := h.R1
  have R2 := h.R2
  have g2 := c_tab.2.2.1
  have g1 := c_tab.2.1
  obtain ⟨Vc, v1, v2⟩ := ka.hv
  obtain ⟨av, av0, as, as0, -⟩ := a
  have A0 := ar_pos (W := W) (B := B) (by grind) Bn (x := rv .f32 C) (by grind)
  have e : V = Vc := by
    have l1 : V * ar W B (rv .f32 C) ≤ Vc * ar W B (rv .f32 C) := by rw [av, v1]; exact Rat.le_refl
    have l2 : Vc * ar W B (rv .f32 C) ≤ V * ar W B (rv .f32 C) := by rw [av, v1]; exact Rat.le_refl
    exact Rat.le_antisymm (cancel_le l1 A0) (cancel_le l2 A0)
  subst e
  have cb := (cr_bd (by grind) Bn (by grind) kc).1
  have vv : V * V ≤ 9812 / 1000 * rv .f32 C := by
    rw [← v2]
    have D0 := ka.d0
    have := Rat.mul_le_mul_of_nonneg_left g2 D0
    grind
  have rr := mul_rng R1 R2 R1 R2 (by decide +kernel) (by decide +kernel)
  have sg : S * rv .f32 (pwW 1068149419 (midW w b C)) ≤ 1 / 64 * (9812 / 1000 * rv .f32 C) := by
    rw [as]
    have e1 : R * V * (R * V) = R * R * (V * V) := by grind
    rw [e1]
    exact (mul_rng (show 0 ≤ R * R by grind) (by grind) (Rat.le_of_lt (Rat.mul_pos av0 av0)) vv (by decide +kernel) (by decide +kernel)).2
  obtain ⟨Z, hz⟩ := mid_ex (x := C) h (by grind) (by grind)
  obtain ⟨-, -, -, m4, m5, m6, m7⟩ := mid_rng h kf (by grind) (by grind) hz
  have px := (wet_bd h.sec (X := rv .f32 C) (by grind) (by grind)).1
  generalize rv .f32 (pwW 1068149419 (midW w b C)) = G at *
  generalize rv .f32 (midW w b C) = m at *
  generalize rv .f32 C = X at *
  refine cancel_le (c := G) ?_ p1
  refine Rat.le_trans sg ?_
  have xs := Rat.mul_le_mul_of_nonneg_left s2 (show 0 ≤ X by grind)
  rcases Rat.le_total (a := X) (b := 1 / 5) with g | g
  · -- shallow
    have g0 : 1 / 100 ≤ G := by
      rcases Rat.le_total (a := 1 / 100) (b := G) with t | t
      · exact t
      · have c := cube_mono (Rat.le_of_lt p1) t
        have f := four_mono (show (0 : Rat) ≤ 251 / 10000 by decide +kernel) lo
        exfalso
        have z : 39 / 1000 ≤ Z := by
          refine cancel_le (c := W + 2 * X * σ) ?_ (by grind)
          rw [hz]
          have d := Rat.mul_nonneg (show 0 ≤ W - 1 / 2 by grind) (show 0 ≤ X - 39 / 1000 by grind)
          have sq := Rat.mul_nonneg Bn (Rat.mul_nonneg (show 0 ≤ X - 39 / 1000 by grind) (show 0 ≤ X - 39 / 1000 by grind))
          have B2 := h.sec.B2
          grind
        have f2 := four_mono (show (0 : Rat) ≤ 3899 / 100000 by decide +kernel) (show 3899 / 100000 ≤ m by grind)
        grind
    grind
  · have z : 10 / 100 ≤ Z := by
      refine cancel_le (c := W + 2 * X * σ) ?_ (by grind)
      rw [hz]
      have d := Rat.mul_nonneg (show 0 ≤ W - 1 / 2 by grind) (show 0 ≤ X - 1 / 10 by grind)
      have sq := Rat.mul_nonneg (Rat.mul_nonneg Bn (show 0 ≤ X by grind)) (show 0 ≤ X - 1 / 5 by grind)
      grind
    have f := four_mono (show (0 : Rat) ≤ 999 / 10000 by decide +kernel) (show 999 / 10000 ≤ m by grind)
    have g0 : 45 / 1000 ≤ G := by
      rcases Rat.le_total (a := 45 / 1000) (b := G) with t | t
      · exact t
      · have c := cube_mono (Rat.le_of_lt p1) t
        exfalso
        grind
    grind
theorem crit_near {W B c x Dc Dx : Rat} (W0 : 0 < W) (B0 : 0 ≤ B) (c0 : 0 < c) (hC : Cr W B c Dc) (D0 : 0 ≤ Dx) (x1 : 99995 / 100000 * c ≤ x) (x2 : x ≤ 100002 / 100000 * c) (ex : Dx * (ar W B x * ar W B x) = Dc * (ar W B c * ar W B c)) : x + Dx ≤ c + Dc + 17 / 100000 * c ∧ c + Dc ≤ 2 * c := by
  have b := (cr_bd W0 B0 c0 hC).1
  have x0 : 0 < x := by grind
  have sh := ar_shrink W0 B0 (x := x) (y := c) (r := 99995 / 100000) (by grind) (by grind) (by decide +kernel) (by decide +kernel) x1
  have d := dd_le (ar_pos W0 B0 x0) (ar_pos W0 B0 c0) D0 ex (show (0 : Rat) ≤ 99995 / 100000 * (99995 / 100000) by decide +kernel) sh
  exact ⟨by grind, by grind⟩
theorem low_arith2 {Ex Ec c s Ey T Sx SN p : Rat} (c2 : c ≤ 501 / 100) (c0 : 0 ≤ c) (s0 : 9 / 10000 ≤ s) (hx : Ex ≤ Ec + 17 / 100000 * c) (hc : Ec ≤ 2 * c) (hN : s * (999 / 1000) ≤ SN) (p0 : 2879 / 2000 ≤ p) (hp : p * SN ≤ Sx) (ht : SN ≤ T * (1 + 1 / 10000)) (hy : Ec + -(2 / 100000) * c ≤ Ey) : (Ex + 16 * s) * (1 + 1 / 100000) ≤ Ey + 8 * (T + Sx) := by
  have a := Rat.mul_le_mul_of_nonneg_right p0 (show 0 ≤ SN by grind)
  grind
section
variable {w b s r x y N C q : Nat} {W B σ ρ R Dc V S : Rat} (n : Nd w b s r q N C W B σ ρ R Dc V S)
include n
theorem at_stp (fx : isFin .f32 x = true) (x1 : 549 / 10000 ≤ rv .f32 x) (x2 : rv .f32 x ≤ 1002) : ∃ D U T, At w b x q W B (rv .f32 q) D ∧ D * (ar W B (rv .f32 x) * ar W B (rv .f32 x)) = Dc * (ar W B (rv .f32 C) * ar W B (rv .f32 C)) ∧ Stp w b r x q W B R U T ∧ 1 / 10 ^ 28 ≤ T ∧ T ≤ 10 ^ 20 := by
  obtain ⟨D, a⟩ := at_ok n.dr n.fq n.q1 n.q2 fx (by grind) (by grind)
  obtain ⟨-, U, T, c⟩ := steep_ok n.dr fx (by grind) x2 n.fq n.q1 n.q2
  obtain ⟨t1, t2⟩ := stp_bd n.dr n.fq n.q1 n.q2 fx x1 x2 c
  have W1 := n.dr.sec.W1
  exact ⟨D, U, T, a, at_eq (by grind) n.dr.sec.Bn a n.cw.at', c, t1, t2⟩
theorem bk_low (fx : isFin .f32 x = true) (x1 : 99995 / 100000 * rv .f32 C ≤ rv .f32 x) (x2 : rv .f32 x ≤ 100002 / 100000 * rv .f32 C) (fy : isFin .f32 y = true) (y1 : rv .f32 C ≤ rv .f32 y) (y2 : rv .f32 y ≤ 1000) : bkB w b s r q 1098907648 (headW w b y q) (steepW w b r y q) x = false := by
  have c1 := n.cw.c1
  have c2 := n.cw.c2
  have W1 := n.dr.sec.W1
  have Bn := n.dr.sec.Bn
  have n1 := n.n1
  have n2 := n.n2
  obtain ⟨Dx, U, T, ax, ex, sx, tx1, tx2⟩ := at_stp n fx (by grind) (by grind)
  obtain ⟨Dy, U', T', ay, ey, sy, ty1, ty2⟩ := at_stp n fy (by grind) (by grind)
  have dx0 := ax.d0
  have dx9 := ax.d9
  have dy0 := ay.d0
  have dy9 := ay.d9
  refine (bk_test n.dx ax.hd sx.re ay.hd sy.re (by grind) (by grind) (by grind) (by grind) (by grind) tx2 ty1 ty2).2 ?_
  obtain ⟨k1, k2⟩ := crit_near (by grind) Bn (by grind) n.cw.cr dx0 x1 x2 ex
  obtain ⟨p, cm, hcm, hcm2, p0, hp, hcov⟩ := near_steep n.dr n.dx n.hσ n.q1 n.cw n.fN n1 (by grind) n.nb fx (by grind) x2 n.st sx
  have s1 := n.dx.s1
  have s2 := n.dx.s2
  have hN := n.s1
  have S0 := n.st.s0
  rcases Rat.le_total (a := rv .f32 N) (b := rv .f32 y) with g | g
  · -- beyond the normal depth
    have hl : rv .f32 y / rv .f32 N * rv .f32 N = rv .f32 y := Rat.div_mul_cancel (by grind)
    generalize rv .f32 y / rv .f32 N = l at hl
    have N0 : 0 < rv .f32 N := by grind
    have l1 : 1 ≤ l := cancel_le (c := rv .f32 N) (by grind) N0
    obtain ⟨a1, a2, t, e1, row, b1, b2⟩ := hcov l l1
    have aN := Rat.mul_le_mul_of_nonneg_right b1 (Rat.le_of_lt N0)
    have ra := row.a
    have ac := Rat.mul_le_mul_of_nonneg_left (show 11999 / 10000 * rv .f32 C ≤ rv .f32 N by grind) (show 0 ≤ a1 by grind)
    have re0 := row.e0
    have ho := head_over (by grind) Bn (by grind) n.cw.cr n.cw.at'.d0 ey (k1 := 11999 / 10000 * a1) (by grind) (by grind) row.e2 row.e3 (by grind)
    have ht : t * S ≤ T' := by
      rcases b2 with ⟨b2, b3⟩ | b2
      · have l2N := Rat.mul_le_mul_of_nonneg_right b2 (Rat.le_of_lt N0)
        have l3N := Rat.mul_le_mul_of_nonneg_right b3 (Rat.le_of_lt N0)
        have rb := row.b
        exact s_below n.dr n.fN (by grind) fy g (by grind) (by grind) (by grind) n.st sy (mid_lo n.dr n.fN (by grind) (by grind)) (mid_up n.dr n.fN (by grind) (by grind) (by rcases n.nb with z | z; exact .inl z; right; grind)) (mid_lo n.dr fy (by grind) (by grind)) (mid_up n.dr fy (by grind) (by grind) (by rcases n.nb with z | z; exact .inl z; right; grind)) row.t0 row.t1
      · subst b2
        grind
    exact low_arith (c := rv .f32 C) (s := rv .f32 s) (SN := S) (p := p) (t := t) (e1 := e1) (cm := cm) hcm hcm2 (by grind) s2 k1 k2 (by grind) (by grind) row.t0 hp ht (by grind) re0 row.c
  · -- between the critical and the normal depth
    have sr := steep_ratio n.dr n.fN (by grind) (by grind) n.st fy (by grind) sy (show (1 : Rat) ≤ 1 by decide +kernel) (by grind)
    have ho := head_over (by grind) Bn (by grind) n.cw.cr n.cw.at'.d0 ey (k1 := 1) (e1 := 0) (by decide +kernel) (by decide +kernel) (by decide +kernel) (by decide +kernel) (by grind)
    exact low_arith2 (c := rv .f32 C) (SN := S) (p := p) c2 (by grind) s1 k1 k2 (by grind) p0 hp (by grind) (by grind)
theorem bk_high (fx : isFin .f32 x = true) (x2 : rv .f32 x ≤ 1002) (fy : isFin .f32 y = true) (y1 : rv .f32 C ≤ rv .f32 y) (y2 : rv .f32 y ≤ 1000) (hx : (rv .f32 N ≤ rv .f32 y ∧ rv .f32 y + 3 ≤ rv .f32 x) ∨ (rv .f32 y ≤ rv .f32 N ∧ rv .f32 N + 325 ≤ rv .f32 x)) : bkB w b s r q 1098907648 (headW w b y q) (steepW w b r y q) x = true := by
  have c1 := n.cw.c1
  have c2 := n.cw.c2
  have W1 := n.dr.sec.W1
  have Bn := n.dr.sec.Bn
  have n1 := n.n1
  have n2 := n.n2
  have xy : rv .f32 y ≤ rv .f32 x := by grind
  obtain ⟨Dx, U, T, ax, ex, sx, tx1, tx2⟩ := at_stp n fx (by grind) (by grind)
  obtain ⟨Dy, U', T', ay, ey, sy, ty1, ty2⟩ := at_stp n fy (by grind) (by grind)
  have dx0 := ax.d0
  have dx9 := ax.d9
  have dy0 := ay.d0
  have dy9 := ay.d9
  refine (bk_test n.dx ax.hd sx.re ay.hd sy.re (by grind) (by grind) (by grind) (by grind) (by grind) tx2 ty1 ty2).1 ?_
  have cb := (cr_bd (by grind) Bn (by grind) n.cw.cr).1
  have gr := ar_grow (W := W) (B := B) (by grind) Bn (y := rv .f32 C) (x := rv .f32 y) (r := 1) (by grind) (by decide +kernel) (by grind)
  have d := dd_le (ar_pos (W := W) (B := B) (by grind) Bn (show 0 < rv .f32 y by grind)) (ar_pos (W := W) (B := B) (by grind) Bn (show 0 < rv .f32 C by grind)) dy0 ey (show (0 : Rat) ≤ 1 by decide +kernel) gr
  have sr := steep_ratio n.dr fx (by grind) x2 sx fy (by grind) sy (show (1 : Rat) ≤ 1 by decide +kernel) (by grind)
  have s1 := n.dx.s1
  have s2 := n.dx.s2
  have hN := n.s2
  rcases hx with ⟨g1, g2⟩ | ⟨g1, g2⟩
  · have sn := steep_ratio n.dr fy (by grind) (by grind) sy n.fN (by grind) n.st (show (1 : Rat) ≤ 1 by decide +kernel) (by grind)
    grind
  · obtain ⟨Dz, U2, T2, -, -, sz, -, -⟩ := at_stp n n.cw.fin (by grind) (by grind)
    have sc := stp_crit n.dr n.cw sz
    have sn := steep_ratio n.dr fy (by grind) (by grind) sy n.cw.fin (by grind) sz (show (1 : Rat) ≤ 1 by decide +kernel) (by grind)
    grind
end
/-- Beyond the critical depth water is slower than its waves. -/
theorem slow_up {W B c x Dc Dx : Rat} (W0 : 0 < W) (B0 : 0 ≤ B) (c0 : 0 < c) (h : c ≤ x) (lo : 2 * Dc * tp W B c * (1 - 1 / 40000) ≤ ar W B c) (D0 : 0 ≤ Dc) (ex : Dx * (ar W B x * ar W B x) = Dc * (ar W B c * ar W B c)) : 2 * Dx * tp W B x * (1 - 1 / 40000) ≤ ar W B x := by
  have x0 : 0 < x := by grind
  have A0 := ar_pos W0 B0 x0
  have a0 := ar_pos W0 B0 c0
  have ht : tp W B x * c ≤ tp W B c * x := by
    have := Rat.mul_nonneg (Rat.le_of_lt W0) (show 0 ≤ x - c by grind)
    unfold tp; grind
  have ha : ar W B c * x ≤ ar W B x * c := by
    have := Rat.mul_nonneg (Rat.mul_nonneg (Rat.mul_nonneg B0 (show 0 ≤ x - c by grind)) (Rat.le_of_lt x0)) (Rat.le_of_lt c0)
    unfold ar; grind
  have gr := ar_grow W0 B0 (x := x) (y := c) (r := 1) (Rat.le_of_lt c0) (by decide +kernel) (by grind)
  generalize ar W B x = A at *
  generalize ar W B c = a at *
  generalize tp W B x = T at *
  generalize tp W B c = t at *
  refine cancel_le (c := A * A * c) ?_ (Rat.mul_pos (Rat.mul_pos A0 A0) c0)
  have e1 : 2 * Dx * T * (1 - 1 / 40000) * (A * A * c) = Dx * (A * A) * (2 * (T * c) * (1 - 1 / 40000)) := by grind
  rw [e1, ex]
  have s1 := Rat.mul_le_mul_of_nonneg_left ht (Rat.mul_nonneg D0 (Rat.le_of_lt (Rat.mul_pos a0 a0)))
  have s2 := Rat.mul_le_mul_of_nonneg_left lo (Rat.mul_nonneg (Rat.le_of_lt (Rat.mul_pos a0 a0)) (Rat.le_of_lt x0))
  have aa := mul_rng (Rat.le_of_lt a0) (show a ≤ A by grind) (Rat.le_of_lt a0) (show a ≤ A by grind) (by decide +kernel) (by decide +kernel)
  have s3 := mul_rng (Rat.le_of_lt (Rat.mul_pos a0 a0)) aa.2 (Rat.le_of_lt (Rat.mul_pos a0 x0)) ha (by decide +kernel) (by decide +kernel)
  grind
/-- Heads rise, from any depth where water is slower than its waves. -/
theorem rise_from {W B c x Dc Dx : Rat} (W0 : 0 < W) (B0 : 0 ≤ B) (c0 : 0 < c) (h : c ≤ x) (lo : 2 * Dc * tp W B c * (1 - 1 / 40000) ≤ ar W B c) (D0 : 0 ≤ Dc) (ex : Dx * (ar W B x * ar W B x) = Dc * (ar W B c * ar W B c)) : (x - c) * (x - c) * (2 * x + c) - 3 / 100000 * (c * (x - c) * (x + c)) ≤ 2 * (x * x) * (x + Dx - c - Dc) := by
  have x0 : 0 < x := by grind
  have bp := ar_pos W0 B0 x0
  have T0 := tp_pos W0 B0 c0
  have p := rise_poly (Rat.le_of_lt W0) B0 (Rat.le_of_lt c0) h
  have key : 2 * (x * x) * (Dc - Dx) ≤ c * ((x - c) * (x + c)) * (1 + 3 / 100000) := by
    refine cancel_le (c := ar W B x * ar W B x * tp W B c) ?_ (Rat.mul_pos (Rat.mul_pos bp bp) T0)
    have e1 : 2 * (x * x) * (Dc - Dx) * (ar W B x * ar W B x * tp W B c) = x * x * ((ar W B x - ar W B c) * (ar W B x + ar W B c)) * (2 * Dc * tp W B c) := by
      have : 2 * (x * x) * (Dc - Dx) * (ar W B x * ar W B x * tp W B c) = 2 * (x * x) * tp W B c * (Dc * (ar W B x * ar W B x) - Dx * (ar W B x * ar W B x)) := by grind
      rw [this, ex]; grind
    rw [e1]
    have bx := Rat.mul_nonneg B0 (Rat.le_of_lt x0)
    have bc := Rat.mul_nonneg B0 (Rat.le_of_lt c0)
    have gr := ar_grow W0 B0 (x := x) (y := c) (r := 1) (Rat.le_of_lt c0) (by decide +kernel) (by grind)
    have ap := ar_pos W0 B0 c0
    have n1 := Rat.mul_nonneg (Rat.mul_nonneg (Rat.le_of_lt x0) (Rat.le_of_lt x0)) (Rat.mul_nonneg (show 0 ≤ ar W B x - ar W B c by grind) (show 0 ≤ ar W B x + ar W B c by grind))
    have s1 := Rat.mul_le_mul_of_nonneg_left (show 2 * Dc * tp W B c ≤ ar W B c * (1 + 3 / 100000) by grind) n1
    refine Rat.le_trans s1 ?_
    have q := Rat.mul_le_mul_of_nonneg_left p (Rat.mul_nonneg (Rat.mul_nonneg (Rat.mul_nonneg (Rat.le_of_lt c0) (show 0 ≤ x - c by grind)) (Rat.mul_nonneg (Rat.le_of_lt x0) (Rat.le_of_lt x0))) (show (0 : Rat) ≤ 1 + 3 / 100000 by decide +kernel))
    unfold ar tp
    have e2 : x * x * ((x * (W + B * x) - c * (W + B * c)) * (x * (W + B * x) + c * (W + B * c))) * (c * (W + B * c) * (1 + 3 / 100000)) = c * (x - c) * (x * x) * (1 + 3 / 100000) * ((W + B * c) * (W + B * (x + c)) * (W * (x + c) + B * (x * x + c * c))) := by grind
    have e3 : c * ((x - c) * (x + c)) * (1 + 3 / 100000) * (x * (W + B * x) * (x * (W + B * x)) * (W + 2 * B * c)) = c * (x - c) * (x * x) * (1 + 3 / 100000) * ((x + c) * ((W + B * x) * (W + B * x)) * (W + 2 * B * c)) := by grind
    rw [e2, e3]
    exact q
  grind
theorem far_down {d N e : Rat} (d1 : 4 / 100 * (1 + N) ≤ d) (d2 : d ≤ N) (N0 : 0 < N) (H : d * d * (2 * N + (N - d)) - 3 / 100000 * ((N - d) * d * (N + (N - d))) ≤ 2 * (N * N) * e) : 1 / 1000 * (1 + N) ≤ e := by
  have NN := Rat.mul_pos N0 N0
  refine cancel_le (c := 2 * (N * N)) ?_ (by grind)
  have d0 : 0 ≤ d := by grind
  have f1 := Rat.mul_nonneg (Rat.mul_nonneg d0 d0) (show 0 ≤ N - d by grind)
  have f2 := Rat.mul_nonneg (Rat.mul_nonneg d0 d0) (show 0 ≤ 2 * N + (N - d) by grind)
  have f3 := mul_rng d1 Rat.le_refl (show 4 / 100 + 399 / 10000 * N ≤ d - 3 / 100000 * N by grind) Rat.le_refl (by grind) (by grind)
  have f4 := Rat.mul_le_mul_of_nonneg_left f3.1 (Rat.le_of_lt N0)
  have f5 := Rat.mul_nonneg (Rat.le_of_lt NN) (Rat.le_of_lt N0)
  grind
theorem far_up {d N e : Rat} (d1 : 4 / 100 * (1 + N) ≤ d) (N0 : 0 < N) (H : d * d * (2 * (N + d) + N) - 3 / 100000 * (N * d * ((N + d) + N)) ≤ 2 * ((N + d) * (N + d)) * e) : 1 / 1000 * (1 + N) ≤ e := by
  have x0 : 0 < N + d := by grind
  have xx := Rat.mul_pos x0 x0
  refine cancel_le (c := 2 * ((N + d) * (N + d))) ?_ (by grind)
  have d0 : 0 ≤ d := by grind
  have k1 : d * (2 * (N + d) * (d - 3 / 100000 * N)) ≤ 2 * ((N + d) * (N + d)) * e := by
    have f1 := Rat.mul_nonneg (Rat.mul_nonneg d0 d0) (Rat.le_of_lt N0)
    grind
  have k2 := mul_rng (show (N + d) / 26 ≤ d by grind) Rat.le_refl (show 4 / 100 + 399 / 10000 * N ≤ d - 3 / 100000 * N by grind) Rat.le_refl (by grind) (by grind)
  have k3 := Rat.mul_le_mul_of_nonneg_left k2.1 (Rat.le_of_lt x0)
  have k4 := Rat.mul_nonneg (Rat.le_of_lt xx) (Rat.le_of_lt N0)
  grind
section
variable {w b s r x y N C q : Nat} {W B σ ρ R Dc V S : Rat} (n : Nd w b s r q N C W B σ ρ R Dc V S)
include n
/-- Speed's head is at most half the critical depth. -/
theorem d_le {D : Rat} (x1 : rv .f32 C ≤ rv .f32 x) (d0 : 0 ≤ D) (ex : D * (ar W B (rv .f32 x) * ar W B (rv .f32 x)) = Dc * (ar W B (rv .f32 C) * ar W B (rv .f32 C))) : D ≤ 252 / 100 := by
  have c1 := n.cw.c1
  have c2 := n.cw.c2
  have W1 := n.dr.sec.W1
  have Bn := n.dr.sec.Bn
  have cb := (cr_bd (by grind) Bn (by grind) n.cw.cr).1
  have gr := ar_grow (W := W) (B := B) (by grind) Bn (y := rv .f32 C) (x := rv .f32 x) (r := 1) (by grind) (by decide +kernel) (by grind)
  have d := dd_le (ar_pos (W := W) (B := B) (by grind) Bn (show 0 < rv .f32 x by grind)) (ar_pos (W := W) (B := B) (by grind) Bn (show 0 < rv .f32 C by grind)) d0 ex (show (0 : Rat) ≤ 1 by decide +kernel) gr
  grind
theorem bkN_low (fx : isFin .f32 x = true) (x1 : 99995 / 100000 * rv .f32 C ≤ rv .f32 x) (x2 : rv .f32 x + 4 / 100 * (1 + rv .f32 N) ≤ rv .f32 N) : bkB w b s r q 1098907648 (headW w b N q) (steepW w b r N q) x = false := by
  have c1 := n.cw.c1
  have c2 := n.cw.c2
  have W1 := n.dr.sec.W1
  have Bn := n.dr.sec.Bn
  have n1 := n.n1
  have n2 := n.n2
  obtain ⟨Dx, U, T, ax, ex, sx, tx1, tx2⟩ := at_stp n fx (by grind) (by grind)
  obtain ⟨Dy, -, -, ay, ey, -, -, -⟩ := at_stp n n.fN (by grind) (by grind)
  obtain ⟨ty1, ty2⟩ := stp_bd n.dr n.fq n.q1 n.q2 n.fN (by grind) (by grind) n.st
  have dx0 := ax.d0
  have dx9 := ax.d9
  have dy0 := ay.d0
  have dy9 := ay.d9
  refine (bk_test n.dx ax.hd sx.re ay.hd n.st.re (by grind) (by grind) (by grind) (by grind) (by grind) tx2 ty1 ty2).2 ?_
  have s1 := n.dx.s1
  have s2 := n.dx.s2
  have hN := n.s1
  rcases Rat.le_total (a := rv .f32 C) (b := rv .f32 x) with g | g
  · have dl := d_le n g dx0 ex
    have lo := slow_up (by grind) Bn (by grind) g n.cw.cr.lo n.cw.at'.d0 ex
    have e2 : Dy * (ar W B (rv .f32 N) * ar W B (rv .f32 N)) = Dx * (ar W B (rv .f32 x) * ar W B (rv .f32 x)) := by rw [ey, ex]
    have ri := rise_from (by grind) Bn (show 0 < rv .f32 x by grind) (show rv .f32 x ≤ rv .f32 N by grind) lo dx0 e2
    have fd := far_down (d := rv .f32 N - rv .f32 x) (N := rv .f32 N) (e := rv .f32 N + Dy - rv .f32 x - Dx) (by grind) (by grind) (by grind) (by
      have e1 : rv .f32 N - (rv .f32 N - rv .f32 x) = rv .f32 x := by grind
      rw [e1]; exact ri)
    have sr := steep_ratio n.dr n.fN (by grind) (by grind) n.st fx (by grind) sx (show (1 : Rat) ≤ 104 / 100 by decide +kernel) (by grind)
    grind
  · obtain ⟨k1, k2⟩ := crit_near (by grind) Bn (by grind) n.cw.cr dx0 x1 (by grind) ex
    obtain ⟨p, cm, hcm, hcm2, p0, hp, hcov⟩ := near_steep n.dr n.dx n.hσ n.q1 n.cw n.fN n1 (by grind) n.nb fx (by grind) (by grind) n.st sx
    have ho := head_over (by grind) Bn (by grind) n.cw.cr n.cw.at'.d0 ey (k1 := 11999 / 10000) (e1 := 47 / 1000) (by decide +kernel) (by decide +kernel) (by decide +kernel) (by decide +kernel) (by grind)
    have S0 := n.st.s0
    have pS := Rat.mul_le_mul_of_nonneg_right p0 (Rat.le_of_lt S0)
    grind
theorem bkN_high (fx : isFin .f32 x = true) (x2 : rv .f32 x ≤ 1002) (x1 : rv .f32 N + 4 / 100 * (1 + rv .f32 N) ≤ rv .f32 x) : bkB w b s r q 1098907648 (headW w b N q) (steepW w b r N q) x = true := by
  have c1 := n.cw.c1
  have c2 := n.cw.c2
  have W1 := n.dr.sec.W1
  have Bn := n.dr.sec.Bn
  have n1 := n.n1
  have n2 := n.n2
  obtain ⟨Dx, U, T, ax, ex, sx, tx1, tx2⟩ := at_stp n fx (by grind) (by grind)
  obtain ⟨Dy, -, -, ay, ey, -, -, -⟩ := at_stp n n.fN (by grind) (by grind)
  obtain ⟨ty1, ty2⟩ := stp_bd n.dr n.fq n.q1 n.q2 n.fN (by grind) (by grind) n.st
  have dx0 := ax.d0
  have dx9 := ax.d9
  have dy0 := ay.d0
  have dy9 := ay.d9
  refine (bk_test n.dx ax.hd sx.re ay.hd n.st.re (by grind) (by grind) (by grind) (by grind) (by grind) tx2 ty1 ty2).1 ?_
  have s1 := n.dx.s1
  have s2 := n.dx.s2
  have hN := n.s2
  have g : rv .f32 C ≤ rv .f32 N := by grind
  have dl := d_le n g dy0 ey
  have lo := slow_up (by grind) Bn (by grind) g n.cw.cr.lo n.cw.at'.d0 ey
  have e2 : Dx * (ar W B (rv .f32 x) * ar W B (rv .f32 x)) = Dy * (ar W B (rv .f32 N) * ar W B (rv .f32 N)) := by rw [ey, ex]
  have ri := rise_from (by grind) Bn (show 0 < rv .f32 N by grind) (show rv .f32 N ≤ rv .f32 x by grind) lo dy0 e2
  have fd := far_up (d := rv .f32 x - rv .f32 N) (N := rv .f32 N) (e := rv .f32 x + Dx - rv .f32 N - Dy) (by grind) (by grind) (by
    have e1 : rv .f32 N + (rv .f32 x - rv .f32 N) = rv .f32 x := by grind
    rw [e1]; exact ri)
  have sr := steep_ratio n.dr fx (by grind) (by grind) sx n.fN (by grind) n.st (show (1 : Rat) ≤ 104 / 100 by decide +kernel) (by grind)
  grind
/-! ### Steps -/
theorem back_run {θ Θ : Rat} (fy : isFin .f32 y = true) (y1 : rv .f32 C < rv .f32 y) (y2 : rv .f32 y ≤ 1000) (t1 : 100002 / 100000 * rv .f32 C ≤ θ) (t2 : θ ≤ Θ) (t3 : Θ ≤ 1000)
    (lo : ∀ x, isFin .f32 x = true → 99995 / 100000 * rv .f32 C ≤ rv .f32 x → rv .f32 x ≤ θ → bkB w b s r q 1098907648 (headW w b y q) (steepW w b r y q) x = false)
    (hi : ∀ x, isFin .f32 x = true → Θ ≤ rv .f32 x → rv .f32 x ≤ 1001 → bkB w b s r q 1098907648 (headW w b y q) (steepW w b r y q) x = true) :
    ∃ u, iBackStep w b s r y q 1098907648 = some (u, true) ∧ isFin .f32 u = true ∧ θ ≤ rv .f32 u ∧ rv .f32 u ≤ Θ * (1 + 2 / 1000000) := by
  have c1 := n.cw.c1
  have c2 := n.cw.c2
  obtain ⟨k1, k2⟩ := c1000
  obtain ⟨u, v, e, M1, M2, p1, p2, b1, b2, b3, b4⟩ := bisect (f := fun t : Nat × Nat × Int => (ihalve_iBackStep_1_l2_t w b s r q 1098907648 (headW w b y q) (steepW w b r y q) t.1 t.2.1 t.2.2).sem) (fun c => bkB w b s r q 1098907648 (headW w b y q) (steepW w b r y q) c) C 1148846080 θ Θ (rv .f32 C) 1000 (by grind) n.cw.fin k1 rfl k2 (by grind) (by grind) t3 (by decide +kernel) t2
    (fun lo hi k hk M => by
      have m1 := M.t
      have m2 := M.hi
      obtain ⟨u1, u2⟩ := up40 hk
      have fo := head_ok n.dr M.fin (by grind) (by grind) n.fq n.q1 n.q2
      have so := (steep_ok n.dr M.fin (by grind) (by grind) n.fq n.q1 n.q2).1
      unfold mid at fo so ⊢
      simp only [ihalve_iBackStep_1_l2_t, iBackStep_1, iBackStep_1_t, Tr.sem, u1, u2, fo, so, osome, oget, cond_true, cond_false, Bool.not_true]
      unfold bkB
      cases fgt .f32 (fadd .f32 (headW w b (fmul .f32 1056964608 (fadd .f32 lo hi)) q) (fmul .f32 s 1098907648)) (fadd .f32 (headW w b y q) (fmul .f32 1098907648 (fmul .f32 1056964608 (fadd .f32 (steepW w b r y q) (steepW w b r (fmul .f32 1056964608 (fadd .f32 lo hi)) q))))) <;> rfl)
    (fun lo hi => rfl)
    (fun c M c2 => lo c M.fin (by have := M.lo; grind) c2)
    (fun c M c2 => hi c M.fin c2 (by have := M.hi; grind))
  have ll : isLen 1098907648 = true := len_iff.2 ⟨c16.1, by rw [c16.2]; decide +kernel⟩
  have gt : fgt .f32 y C = true := (fgt_rv .f32 fy n.cw.fin).2 y1
  have e' : ihalve_iBackStep_1_l2 C 1148846080 w b s r q 1098907648 (headW w b y q) (steepW w b r y q) 0 = some (.inr (u, v)) := e
  have ho := head_ok n.dr fy (by grind) (by grind) n.fq n.q1 n.q2
  have so := (steep_ok n.dr fy (by grind) (by grind) n.fq n.q1 n.q2).1
  refine ⟨v, ?_, M2.fin, b2, by grind⟩
  unfold iBackStep iBackStep_t ihalve_iBackStep_1 ihalve_iBackStep_1_t
  simp only [n.cw.ok, ho, so, ll, gt, e', Tr.sem, osome, oget, isL, unR, cond_true, cond_false, Bool.not_true]
/-- A step of backwater. -/
theorem step_ok (fy : isFin .f32 y = true) (y1 : rv .f32 C < rv .f32 y) (y2 : rv .f32 y ≤ 990) : ∃ u, iBackStep w b s r y q 1098907648 = some (u, true) ∧ isFin .f32 u = true ∧ rv .f32 C < rv .f32 u ∧ (rv .f32 u ≤ rv .f32 y + 301 / 100 ∨ rv .f32 u ≤ 779) := by
  have c1 := n.cw.c1
  have c2 := n.cw.c2
  have n1 := n.n1
  have n2 := n.n2
  rcases Rat.le_total (a := rv .f32 N) (b := rv .f32 y) with g | g
  · obtain ⟨u, u1, u2, u3, u4⟩ := back_run n (θ := 100002 / 100000 * rv .f32 C) (Θ := rv .f32 y + 3) fy y1 (by grind) Rat.le_refl (by grind) (by grind)
      (fun x fx x1 x2 => bk_low n fx x1 x2 fy (by grind) (by grind)) (fun x fx x1 x2 => bk_high n fx (by grind) fy (by grind) (by grind) (.inl ⟨g, x1⟩))
    exact ⟨u, u1, u2, by grind, .inl (by grind)⟩
  · obtain ⟨u, u1, u2, u3, u4⟩ := back_run n (θ := 100002 / 100000 * rv .f32 C) (Θ := rv .f32 N + 325) fy y1 (by grind) Rat.le_refl (by grind) (by grind)
      (fun x fx x1 x2 => bk_low n fx x1 x2 fy (by grind) (by grind)) (fun x fx x1 x2 => bk_high n fx (by grind) fy (by grind) (by grind) (.inr ⟨g, x1⟩))
    exact ⟨u, u1, u2, by grind, .inr (by grind)⟩
/-- A step from the normal depth stays there, nearly. -/
theorem step_N : ∃ u, iBackStep w b s r N q 1098907648 = some (u, true) ∧ isFin .f32 u = true ∧ 0 ≤ rv .f32 u ∧ rv .f32 u - rv .f32 N ≤ 41 / 1000 * (1 + rv .f32 N) ∧ rv .f32 N - rv .f32 u ≤ 41 / 1000 * (1 + rv .f32 N) := by
  have c1 := n.cw.c1
  have c2 := n.cw.c2
  have n1 := n.n1
  have n2 := n.n2
  rcases Rat.le_total (a := 100002 / 100000 * rv .f32 C) (b := rv .f32 N - 4 / 100 * (1 + rv .f32 N)) with g | g
  · obtain ⟨u, u1, u2, u3, u4⟩ := back_run n (θ := rv .f32 N - 4 / 100 * (1 + rv .f32 N)) (Θ := rv .f32 N + 4 / 100 * (1 + rv .f32 N)) n.fN (by grind) (by grind) g (by grind) (by grind)
      (fun x fx x1 x2 => bkN_low n fx x1 (by grind)) (fun x fx x1 x2 => bkN_high n fx (by grind) x1)
    exact ⟨u, u1, u2, by grind, by grind, by grind⟩
  · obtain ⟨u, u1, u2, u3, u4⟩ := back_run n (θ := 100002 / 100000 * rv .f32 C) (Θ := rv .f32 N + 4 / 100 * (1 + rv .f32 N)) n.fN (by grind) (by grind) Rat.le_refl (by grind) (by grind)
      (fun x fx x1 x2 => bk_low n fx x1 x2 n.fN (by grind) (by grind)) (fun x fx x1 x2 => bkN_high n fx (by grind) x1)
    exact ⟨u, u1, u2, by grind, by grind, by grind⟩
end
/-! ### Draws -/
theorem fin_of {n : Nat} {v : Int} (h0 : 0 ≤ v) (h1 : v < n) : ∃ i : Fin n, ((i.val : Nat) : Int) = v := ⟨⟨v.toNat, by omega⟩, by simp; omega⟩
theorem A8_at {c : List Int} (hc : bytesL c) (k : Nat) (n : Int) (hn : 2 ≤ n) (hn2 : n ≤ 1000000) : ∃ v, wr8At c k n = some v ∧ 0 ≤ v ∧ v < n := by
  unfold wr8At wr8At_t
  have hne : decide (n ≠ (0 : Int)) = true := by simp only [decide_eq_true_eq]; omega
  simp only [decide_eq_false (show ¬ n ≤ 1 by omega), Tr.sem, cond_false, hne, cond_true]
  by_cases h1 : k < c.length
  · obtain ⟨b0, b1⟩ := byte_at hc h1
    have hb : IntKind.wrap .i64 (c.getD k 0) = c.getD k 0 := wrap_id (by omega) (by omega)
    simp only [decide_eq_false (show ¬ ((k : Int) ≥ (c.length : Int)) by omega), cond_false, ltRange h1, zeroLe, Bool.and_self, cond_true, Int.toNat_natCast, hb]
    exact ⟨_, rfl, Int.tmod_nonneg _ b0, Int.tmod_lt_of_pos _ (by omega)⟩
  · simp only [decide_eq_true (show ((k : Int) ≥ (c.length : Int)) by omega), cond_true]
    exact ⟨0, rfl, by omega, by omega⟩
theorem long8 {c m : List Int} (h : wr8Long c m = false) : c.length ≤ 48 ∧ m.length ≤ 48 := by
  unfold wr8Long wr8Long_t at h
  by_cases h1 : ((c.length : Nat) : Int) > 48
  · simp [Tr.val, h1] at h
  · simp [Tr.val, h1] at h; omega
/-! ### The law's tail -/
theorem tail_ok {x1 : List Int} (hm : bytesL x1) {v : Int} (h0 : 0 ≤ v) (h1 : v < 8) : (wFnBacked_o21 x1 v).sem = some true ∧ (wFnBacked_o46 x1 v).sem = some true := by
  obtain ⟨v12, a1, a2, a3⟩ := A8_at hm 2 16 (by omega) (by omega)
  obtain ⟨v21, b1, b2, b3⟩ := A8_at hm 3 8 (by omega) (by omega)
  obtain ⟨v22, c1, c2, c3⟩ := A8_at hm 4 17 (by omega) (by omega)
  have a1' : wr8At x1 2 16 = some v12 := a1
  have b1' : wr8At x1 3 8 = some v21 := b1
  have c1' : wr8At x1 4 17 = some v22 := c1
  obtain ⟨i, fi⟩ := fin_of (n := 8) h0 h1
  obtain ⟨j, fj⟩ := fin_of (n := 16) a2 a3
  obtain ⟨k, fk⟩ := fin_of (n := 8) b2 b3
  obtain ⟨m, fm⟩ := fin_of (n := 17) c2 c3
  have tw := tab_weir i j
  have tp' := tab_pipe k m
  rw [fi, fj] at tw
  rw [fk, fm] at tp'
  have hz : fdiv .f32 (FloatKind.nearest .f32 (IntKind.wrap .i64 (1 + v))) 1073741824 = szW v := by rw [wrap_id (by omega) (by omega)]; rfl
  have hl : fdiv .f32 (FloatKind.nearest .f32 (IntKind.wrap .i64 (1 + v12))) 1082130432 = lvW v12 := by rw [wrap_id (by omega) (by omega)]; rfl
  have hp : fdiv .f32 (FloatKind.nearest .f32 (IntKind.wrap .i64 (1 + v21))) 1082130432 = lvW v21 := by rw [wrap_id (by omega) (by omega)]; rfl
  have hd : fdiv .f32 (FloatKind.nearest .f32 v22) 1082130432 = dpW0 v22 := rfl
  generalize szW v = z at *
  generalize lvW v12 = l at *
  generalize lvW v21 = p at *
  generalize dpW0 v22 = d at *
  simp only [weirB, Bool.and_eq_true, Bool.not_eq_true'] at tw
  obtain ⟨⟨⟨⟨⟨⟨⟨⟨⟨⟨⟨⟨⟨⟨w1, w2⟩, w3⟩, w4⟩, w5⟩, w6⟩, w7⟩, w8⟩, w9⟩, w10⟩, w11⟩, w12⟩, w13⟩, w14⟩, w15⟩ := tw
  obtain ⟨rl, hrl⟩ := Option.isSome_iff_exists.1 w4
  have hlev := level_eq hrl
  have hb : backF z l = rl := by unfold backF; rw [hrl]
  rw [hb] at w5 w13
  simp only [pipeB, Bool.and_eq_true] at tp'
  obtain ⟨⟨⟨⟨⟨⟨p1, p2⟩, p3⟩, p4⟩, p5⟩, p6⟩, p7⟩ := tp'
  obtain ⟨r1, hr1⟩ := Option.isSome_iff_exists.1 p2
  obtain ⟨r2, hr2⟩ := Option.isSome_iff_exists.1 p3
  have hl1 := pipeL_eq hr1
  have hl2 := pipeL_eq hr2
  have hf : lossF d p = r1 := by unfold lossF; rw [hr1]
  have hg : lossG d p = r2 := by unfold lossG; rw [hr2]
  rw [hf] at p4 p6 p7
  rw [hg] at p5 p7
  cases hc : fgt .f32 l 1065353216 with
  | false =>
    constructor
    · simp only [wFnBacked_o21, wFnBacked_o20, wFnBacked_o19, wFnBacked_o18, wFnBacked_o17, wFnBacked_o16, wFnBacked_o15, wFnBacked_o14, wFnBacked_o13, wFnBacked_o12, Tr.sem, a1', b1', hz, hl, weir_eq, gate_eq, culv_eq, hlev, w1, w2, w3, w5, w6, w7, w8, w9, w10, w11, w12, w13, w15, hc, osome, oget, cond_true, cond_false, Bool.not_true, Bool.not_false]
      simp only [wFnBacked_o11, wFnBacked_o10, wFnBacked_o9, wFnBacked_o8, wFnBacked_o7, wFnBacked_o6, wFnBacked_o5, wFnBacked_o4, wFnBacked_o3, wFnBacked_o2, Tr.sem, c1', hp, hd, pipeF_eq, hl1, hl2, p1, p4, p5, p6, p7, osome, oget, cond_true, cond_false, Bool.not_true, Bool.not_false]
    · simp only [wFnBacked_o46, wFnBacked_o45, wFnBacked_o44, wFnBacked_o43, wFnBacked_o42, wFnBacked_o41, wFnBacked_o40, wFnBacked_o39, wFnBacked_o38, wFnBacked_o37, Tr.sem, a1', b1', hz, hl, weir_eq, gate_eq, culv_eq, hlev, w1, w2, w3, w5, w6, w7, w8, w9, w10, w11, w12, w13, w15, hc, osome, oget, cond_true, cond_false, Bool.not_true, Bool.not_false]
      simp only [wFnBacked_o36, wFnBacked_o35, wFnBacked_o34, wFnBacked_o33, wFnBacked_o32, wFnBacked_o31, wFnBacked_o30, wFnBacked_o29, wFnBacked_o28, wFnBacked_o27, Tr.sem, c1', hp, hd, pipeF_eq, hl1, hl2, p1, p4, p5, p6, p7, osome, oget, cond_true, cond_false, Bool.not_true, Bool.not_false]
  | true =>
    rw [hc] at w14
    simp only [Bool.not_true, Bool.false_or, Bool.not_eq_true'] at w14
    constructor
    · simp only [wFnBacked_o21, wFnBacked_o20, wFnBacked_o19, wFnBacked_o18, wFnBacked_o17, wFnBacked_o16, wFnBacked_o15, wFnBacked_o14, wFnBacked_o13, wFnBacked_o12, Tr.sem, a1', b1', hz, hl, weir_eq, gate_eq, culv_eq, hlev, w1, w2, w3, w5, w6, w7, w8, w9, w10, w11, w12, w13, w14, w15, hc, osome, oget, cond_true, cond_false, Bool.not_true, Bool.not_false]
      simp only [wFnBacked_o11, wFnBacked_o10, wFnBacked_o9, wFnBacked_o8, wFnBacked_o7, wFnBacked_o6, wFnBacked_o5, wFnBacked_o4, wFnBacked_o3, wFnBacked_o2, Tr.sem, c1', hp, hd, pipeF_eq, hl1, hl2, p1, p4, p5, p6, p7, osome, oget, cond_true, cond_false, Bool.not_true, Bool.not_false]
    · simp only [wFnBacked_o46, wFnBacked_o45, wFnBacked_o44, wFnBacked_o43, wFnBacked_o42, wFnBacked_o41, wFnBacked_o40, wFnBacked_o39, wFnBacked_o38, wFnBacked_o37, Tr.sem, a1', b1', hz, hl, weir_eq, gate_eq, culv_eq, hlev, w1, w2, w3, w5, w6, w7, w8, w9, w10, w11, w12, w13, w14, w15, hc, osome, oget, cond_true, cond_false, Bool.not_true, Bool.not_false]
      simp only [wFnBacked_o36, wFnBacked_o35, wFnBacked_o34, wFnBacked_o33, wFnBacked_o32, wFnBacked_o31, wFnBacked_o30, wFnBacked_o29, wFnBacked_o28, wFnBacked_o27, Tr.sem, c1', hp, hd, pipeF_eq, hl1, hl2, p1, p4, p5, p6, p7, osome, oget, cond_true, cond_false, Bool.not_true, Bool.not_false]
/-! ### Backwater -/
theorem l5_in {w b s r q y u L : Nat} {m k k' : Int} {l : List Nat} (hk : decide (k < m) = true) (hw : IntKind.wrap .i64 (k + 1) = k') (hb : iBackStep w b s r y q L = some (u, true)) (hl : decide ((List.length l + List.length [u]) * 4 ≤ 140737488355328) = true) : iBackWater_l5 y q L m k w b s r l = iBackWater_l5 u q L m k' w b s r (l ++ [u]) :=
  runL_in (s' := (u, k', l ++ [u])) (by simp only [iBackWater_l5_t, hb, hk, hw, hl, Tr.sem, osome, oget, cond_true, cond_false, Bool.not_true])
theorem l5_out {w b s r q y L : Nat} {m k : Int} {l : List Nat} (hk : decide (k < m) = false) : iBackWater_l5 y q L m k w b s r l = some (.inr l) :=
  runL_out (by simp only [iBackWater_l5_t, hk, Tr.sem, cond_false])
theorem flow3 {w b s r y q L : Nat} {W B σ ρ R : Rat} (h : Dr w b s r W B σ ρ R) (ly : isLen y = true) (lq : isLen q = true) (ll : isLen L = true) : iSection_isFlow w b s r [y, q, L] = some true := by
  unfold iSection_isFlow iSection_isFlow_t
  simp only [valid_ok h, P_areLengths [y, q, L] (by simp), List.all_cons, List.all_nil, ly, lq, ll, Bool.and_self, Tr.sem, osome, oget, cond_true]
section
variable {w b s r q y L : Nat} {W B σ ρ R : Rat} (h : Dr w b s r W B σ ρ R) (ly : isLen y = true) (lq : isLen q = true) (ll : isLen L = true)
include h ly lq ll
theorem water2 {a1 a2 : Nat} (b1 : iBackStep w b s r y q L = some (a1, true)) (b2 : iBackStep w b s r a1 q L = some (a2, true)) : iBackWater w b s r y q L 2 = some (.inr [a1, a2]) := by
  have e : iBackWater_l5 y q L 2 0 w b s r [] = some (.inr [a1, a2]) :=
    (l5_in (k' := 1) rfl rfl b1 rfl).trans ((l5_in (k' := 2) rfl rfl b2 rfl).trans (l5_out rfl))
  have i : iwithin 2 0 64 = true := rfl
  unfold iBackWater iBackWater_t
  simp only [flow3 h ly lq ll, i, e, Tr.sem, osome, oget, isL, unR, cond_true, cond_false, Bool.not_true]
theorem water4 {a1 a2 a3 a4 : Nat} (b1 : iBackStep w b s r y q L = some (a1, true)) (b2 : iBackStep w b s r a1 q L = some (a2, true)) (b3 : iBackStep w b s r a2 q L = some (a3, true)) (b4 : iBackStep w b s r a3 q L = some (a4, true)) : iBackWater w b s r y q L 4 = some (.inr [a1, a2, a3, a4]) := by
  have e : iBackWater_l5 y q L 4 0 w b s r [] = some (.inr [a1, a2, a3, a4]) :=
    (l5_in (k' := 1) rfl rfl b1 rfl).trans ((l5_in (k' := 2) rfl rfl b2 rfl).trans ((l5_in (k' := 3) rfl rfl b3 rfl).trans ((l5_in (k' := 4) rfl rfl b4 rfl).trans (l5_out rfl))))
  have i : iwithin 4 0 64 = true := rfl
  unfold iBackWater iBackWater_t
  simp only [flow3 h ly lq ll, i, e, Tr.sem, osome, oget, isL, unR, cond_true, cond_false, Bool.not_true]
end
/-- What equals itself. -/
theorem feq_me {x : Nat} (h : isFin .f32 x = true) : feq .f32 x x = true := (feq_rv .f32 h h).2 rfl
section
variable {w b s r x y N C q : Nat} {W B σ ρ R Dc V S : Rat} (n : Nd w b s r q N C W B σ ρ R Dc V S)
include n
theorem water_ok (fy : isFin .f32 y = true) (y1 : rv .f32 C < rv .f32 y) (y2 : rv .f32 y ≤ 780) : ∃ a1 a2 a3 a4, iBackWater w b s r y q 1098907648 4 = some (.inr [a1, a2, a3, a4]) ∧ iBackWater w b s r y q 1098907648 2 = some (.inr [a1, a2]) ∧ iBackWater w b s r a2 q 1098907648 2 = some (.inr [a3, a4]) ∧ feq .f32 a1 a1 = true ∧ feq .f32 a2 a2 = true ∧ feq .f32 a3 a3 = true ∧ feq .f32 a4 a4 = true := by
  have c1 := n.cw.c1
  obtain ⟨a1, b1, f1, g1, h1⟩ := step_ok n fy y1 (by grind)
  obtain ⟨a2, b2, f2, g2, h2⟩ := step_ok n f1 g1 (by grind)
  obtain ⟨a3, b3, f3, g3, h3⟩ := step_ok n f2 g2 (by grind)
  obtain ⟨a4, b4, f4, g4, h4⟩ := step_ok n f3 g3 (by grind)
  have ll : isLen 1098907648 = true := len_iff.2 ⟨c16.1, by rw [c16.2]; decide +kernel⟩
  have lq : isLen q = true := len_iff.2 ⟨n.fq, by have := n.q1; grind⟩
  have ly : isLen y = true := len_iff.2 ⟨fy, by grind⟩
  have l2 : isLen a2 = true := len_iff.2 ⟨f2, by grind⟩
  exact ⟨a1, a2, a3, a4, water4 n.dr ly lq ll b1 b2 b3 b4, water2 n.dr ly lq ll b1 b2, water2 n.dr l2 lq ll b3 b4, feq_me f1, feq_me f2, feq_me f3, feq_me f4⟩
end
/-! ### Draws -/
def dwW (i : Int) : Nat := fdiv .f32 (FloatKind.nearest .f32 (1 + i)) 1073741824
def dwB (i : Int) : Nat := fdiv .f32 (FloatKind.nearest .f32 i) 1073741824
def dwS (i : Int) : Nat := fdiv .f32 (FloatKind.nearest .f32 (1 + i)) 1149239296
def dwR (i : Int) : Nat := fdiv .f32 (FloatKind.nearest .f32 (1 + i)) 1115684864
def dwQ (i : Int) : Nat := fdiv .f32 (FloatKind.nearest .f32 (1 + i)) 1082130432
theorem tabW : ∀ i : Fin 12, isFin .f32 (dwW i.val) = true ∧ 1 / 2 ≤ rv .f32 (dwW i.val) ∧ rv .f32 (dwW i.val) ≤ 6 ∧ rv .f32 (dwW i.val) = ((i.val + 1 : Nat) : Rat) / 2 := by decide +kernel
theorem tabB : ∀ i : Fin 5, isFin .f32 (dwB i.val) = true ∧ (rv .f32 (dwB i.val) = 0 ∨ 1 / 2 ≤ rv .f32 (dwB i.val)) ∧ rv .f32 (dwB i.val) ≤ 2 ∧ isFin .f32 (sigW (dwB i.val)) = true ∧ 999 / 1000 ≤ rv .f32 (sigW (dwB i.val)) ∧ rv .f32 (sigW (dwB i.val)) ≤ 1 + rv .f32 (dwB i.val) + 1 / 1000 ∧ rv .f32 (dwB i.val) + 1 / 10 ≤ rv .f32 (sigW (dwB i.val)) ∧ rv .f32 (sigW (dwB i.val)) ≤ 224 / 100 := by decide +kernel
theorem tabS : ∀ i : Fin 16, isLen (dwS i.val) = true ∧ isFin .f32 (froot (dwS i.val)) = true ∧ 31 / 1000 ≤ rv .f32 (froot (dwS i.val)) ∧ rv .f32 (froot (dwS i.val)) ≤ 1251 / 10000 ∧ isFin .f32 (dwS i.val) = true ∧ 9 / 10000 ≤ rv .f32 (dwS i.val) ∧ rv .f32 (dwS i.val) ≤ 1 / 64 ∧ rv .f32 (froot (dwS i.val)) * rv .f32 (froot (dwS i.val)) ≤ rv .f32 (dwS i.val) * (1 + 2 / 100000) ∧ rv .f32 (dwS i.val) ≤ rv .f32 (froot (dwS i.val)) * rv .f32 (froot (dwS i.val)) * (1 + 2 / 100000) := by decide +kernel
theorem tabR : ∀ i : Fin 8, isLen (dwR i.val) = true ∧ 1 / 64 ≤ rv .f32 (dwR i.val) ∧ rv .f32 (dwR i.val) ≤ 1 / 8 := by decide +kernel
theorem tabQ : ∀ i : Fin 32, isFin .f32 (dwQ i.val) = true ∧ 1 / 4 ≤ rv .f32 (dwQ i.val) ∧ rv .f32 (dwQ i.val) ≤ 8 := by decide +kernel
theorem draw_ok {c : List Int} (hc : bytesL c) : ∃ w b s r W B σ ρ R, sR8Section c = some (w, b, s, r) ∧ Dr w b s r W B σ ρ R ∧ Dx s W ρ ∧ σ ≤ 224 / 100 := by
  obtain ⟨v1, k1, s1, e1, a1, a2, a3⟩ := D_pick hc 12 (by omega) (by omega) 0 (by omega) 0
  obtain ⟨v2, k2, s2, e2, b1, b2, b3⟩ := D_pick hc 5 (by omega) (by omega) k1 (by omega) s1
  obtain ⟨v3, k3, s3, e3, c1, c2, c3⟩ := D_pick hc 16 (by omega) (by omega) k2 (by omega) s2
  obtain ⟨v4, k4, s4, e4, d1, d2, d3⟩ := D_pick hc 8 (by omega) (by omega) k3 (by omega) s3
  have e1' : sl00Src_pick 12 c 0 0 = some (v1, c, (k1 : Int), s1) := e1
  obtain ⟨i1, f1⟩ := fin_of (n := 12) a1 a2
  obtain ⟨i2, f2⟩ := fin_of (n := 5) b1 b2
  obtain ⟨i3, f3⟩ := fin_of (n := 16) c1 c2
  obtain ⟨i4, f4⟩ := fin_of (n := 8) d1 d2
  have t1 := tabW i1
  have t2 := tabB i2
  have t3 := tabS i3
  have t4 := tabR i4
  rw [f1] at t1
  rw [f2] at t2
  rw [f3] at t3
  rw [f4] at t4
  have w1 : IntKind.wrap .i64 (1 + v1) = 1 + v1 := wrap_id (by omega) (by omega)
  have w3 : IntKind.wrap .i64 (1 + v3) = 1 + v3 := wrap_id (by omega) (by omega)
  have w4 : IntKind.wrap .i64 (1 + v4) = 1 + v4 := wrap_id (by omega) (by omega)
  obtain ⟨tw1, tw2, tw3, tw4⟩ := t1
  obtain ⟨tb1, tb2, tb3, tb4, tb5, tb6, tb7, tb8⟩ := t2
  obtain ⟨ts1, ts2, ts3, ts4, ts5, ts6, ts7, ts8, ts9⟩ := t3
  refine ⟨dwW v1, dwB v2, dwS v3, dwR v4, _, _, _, _, _, ?_, ⟨⟨tw1, tb1, rfl, rfl, tw2, tw3, tb2, tb3, tb4, rfl, tb5, tb6, tb7⟩, ts1, t4.1, ts2, rfl, ts3, ts4, rfl, t4.2.1, t4.2.2⟩, ⟨ts5, ts6, ts7, ts8, ts9, ⟨_, tw4⟩⟩, tb8⟩
  have hd : sl04DrawOk c 0 0 = some (dwW v1, dwB v2, dwS v3, dwR v4, c, (k4 : Int), s4) := by
    unfold sl04DrawOk sl04DrawOk_t
    simp only [e1', sl04DrawOk_o4, e2, sl04DrawOk_o3, e3, sl04DrawOk_o2, e4, sl04DrawOk_o1, w1, w3, w4, Tr.sem, osome, oget, cond_true, dwW, dwB, dwS, dwR]
  unfold sR8Section sR8Section_t
  simp only [D_from, hd, Tr.sem, osome, oget, cond_true]
/-! ### Gaps -/
theorem fmax_rv {a b : Nat} (ha : isFin .f64 a = true) (hb : isFin .f64 b = true) : isFin .f64 (fmax .f64 a b) = true ∧ rv .f64 a ≤ rv .f64 (fmax .f64 a b) ∧ ∀ m : Rat, rv .f64 a ≤ m → rv .f64 b ≤ m → rv .f64 (fmax .f64 a b) ≤ m := by
  have ho := order_int .f64 ha hb
  unfold fmax
  rw [ho]
  rcases h : compare (sgv .f64 a) (sgv .f64 b) with _ | _ | _
  · have h1 := cmp_lt.1 h
    have h2 := (rv_le_iff .f64 a b).2 (by omega)
    exact ⟨hb, h2, fun m _ h => h⟩
  · have h1 := cmp_eq.1 h
    have h2 := (rv_le_iff .f64 a b).2 (by omega)
    unfold fmaxO
    simp only
    cases (FloatKind.f64.decode a).neg with
    | true => exact ⟨hb, h2, fun m _ h => h⟩
    | false => exact ⟨ha, Rat.le_refl, fun m h _ => h⟩
  · exact ⟨ha, Rat.le_refl, fun m h _ => h⟩
theorem gap8 {a b : Nat} (ha : isFin .f64 a = true) (hb : isFin .f64 b = true) (E e : Rat) (l1 : -E ≤ rv .f64 a - rv .f64 b) (u1 : rv .f64 a - rv .f64 b ≤ E) (hE : E ≤ 2 ^ 100) (h1 : rv .f64 a - rv .f64 b ≤ e) (h2 : rv .f64 b - rv .f64 a ≤ e) :
    isFin .f64 (wr8Gap a b) = true ∧ rv .f64 (wr8Gap a b) ≤ e + (E * (1 / 4000000000000000) + 1 / 10 ^ 40) := by
  obtain ⟨s1, s2, s3, -, -⟩ := sub_rv .f64 ha hb E l1 u1 hE
  obtain ⟨t1, t2, t3, -, -⟩ := sub_rv .f64 hb ha E (by grind) (by grind) hE
  rw [eps64] at s3 t3
  obtain ⟨m1, m2, m3⟩ := fmax_rv s1 t1
  unfold wr8Gap wr8Gap_t
  simp only [Tr.val]
  exact ⟨m1, m3 _ (by grind) (by grind)⟩
theorem tol {c x : Nat} {t : Rat} (fc : isFin .f64 c = true) (c0 : 0 ≤ rv .f64 c) (c1 : rv .f64 c ≤ 1) (fx : isFin .f64 x = true) (x0 : 0 ≤ rv .f64 x) (x1 : rv .f64 x ≤ 10 ^ 13) (ht : t ≤ rv .f64 c) (t0 : 0 ≤ t) : isFin .f64 (fmul .f64 c (fadd .f64 4607182418800017408 x)) = true ∧ t * (1 + rv .f64 x) * (999 / 1000) - 1 / 10 ^ 30 ≤ rv .f64 (fmul .f64 c (fadd .f64 4607182418800017408 x)) := by
  obtain ⟨o1, o2, -⟩ := cst64
  have big : (10 : Rat) ^ 14 ≤ 2 ^ 100 := by decide +kernel
  obtain ⟨s1, s2, s3, -, -⟩ := add_rv .f64 o1 fx (1 + rv .f64 x) (by rw [o2]; grind) (by rw [o2]; exact Rat.le_refl) (by grind)
  rw [o2, eps64] at s2 s3
  have m := mul_rng ht c1 (show (1 + rv .f64 x) * (9999 / 10000) ≤ rv .f64 (fadd .f64 4607182418800017408 x) by grind) (show rv .f64 (fadd .f64 4607182418800017408 x) ≤ 2 * 10 ^ 13 by grind) t0 (by grind)
  have m0 := Rat.mul_nonneg c0 (show 0 ≤ rv .f64 (fadd .f64 4607182418800017408 x) by grind)
  have tx := Rat.mul_nonneg t0 (show 0 ≤ 1 + rv .f64 x by grind)
  obtain ⟨p1, p2, -, -, -⟩ := mul_rv .f64 fc s1 (rv .f64 c * rv .f64 (fadd .f64 4607182418800017408 x)) (by grind) Rat.le_refl (by grind)
  rw [eps64] at p2
  exact ⟨p1, by grind⟩
theorem fgt64_no {a c : Nat} (fa : isFin .f64 a = true) (fc : isFin .f64 c = true) (h : rv .f64 a ≤ rv .f64 c) : fgt .f64 a c = false := by
  cases hh : fgt .f64 a c with
  | false => rfl
  | true => have := (fgt_rv .f64 fa fc).1 hh; exfalso; grind
theorem consts : isFin .f64 4608083138725491507 = true ∧ 119999999 / 100000000 ≤ rv .f64 4608083138725491507 ∧ rv .f64 4608083138725491507 ≤ 2 ∧ isFin .f64 4587366580439587226 = true ∧ 499 / 10000 ≤ rv .f64 4587366580439587226 ∧ rv .f64 4587366580439587226 ≤ 1 ∧ isFin .f64 4547007122018943789 = true ∧ 9 / 100000 ≤ rv .f64 4547007122018943789 ∧ rv .f64 4547007122018943789 ≤ 1 / 1000 ∧ isFin .f32 1069547520 = true ∧ rv .f32 1069547520 = 3 / 2 := by decide +kernel
section
variable {w b s r x y N C q : Nat} {W B σ ρ R Dc V S : Rat} (n : Nd w b s r q N C W B σ ρ R Dc V S)
include n
theorem steep_pass : fgt .f64 (wr8Gap (fup (steepW w b r N q)) (fup s)) (fadd .f64 (fmul .f64 4587366580439587226 (fup s)) 4547007122018943789) = false := by
  obtain ⟨-, -, -, k4, k5, k6, k7, k8, k9, -⟩ := consts
  have re := n.st.re
  have l := re.lo
  have u := re.hi
  have s1 := n.s1
  have s2 := n.s2
  have d1 := n.dx.s1
  have d2 := n.dx.s2
  obtain ⟨u1, u2⟩ := fup_rv re.fin
  obtain ⟨u3, u4⟩ := fup_rv n.dx.fs
  obtain ⟨g1, g2⟩ := gap8 u1 u3 1 (11 / 10000 * rv .f32 s) (by rw [u2, u4]; grind) (by rw [u2, u4]; grind) (by decide +kernel) (by rw [u2, u4]; grind) (by rw [u2, u4]; grind)
  have m := mul_rng k5 k6 (show 9 / 10000 ≤ rv .f64 (fup s) by rw [u4]; exact d1) (show rv .f64 (fup s) ≤ 1 / 64 by rw [u4]; exact d2) (by decide +kernel) (by decide +kernel)
  obtain ⟨m1, m2, m3, -, -⟩ := mul_rv .f64 k4 u3 1 (by grind) (by grind) (by decide +kernel)
  rw [eps64] at m2 m3
  have ms := Rat.mul_le_mul_of_nonneg_right k5 (show 0 ≤ rv .f64 (fup s) by rw [u4]; grind)
  obtain ⟨a1, a2, a3, -, -⟩ := add_rv .f64 m1 k7 2 (by grind) (by grind) (by decide +kernel)
  rw [eps64] at a2 a3
  rw [u4] at ms
  exact fgt64_no g1 a1 (by grind)
theorem up_pass {u : Nat} (fu : isFin .f32 u = true) (u0 : 0 ≤ rv .f32 u) (h1 : rv .f32 u - rv .f32 N ≤ 41 / 1000 * (1 + rv .f32 N)) (h2 : rv .f32 N - rv .f32 u ≤ 41 / 1000 * (1 + rv .f32 N)) : fgt .f64 (wr8Gap (fup u) (fup N)) (fmul .f64 4587366580439587226 (fadd .f64 4607182418800017408 (fup N))) = false := by
  obtain ⟨-, -, -, k4, k5, k6, -⟩ := consts
  have c1 := n.cw.c1
  have n1 := n.n1
  have n2 := n.n2
  obtain ⟨u1, u2⟩ := fup_rv fu
  obtain ⟨u3, u4⟩ := fup_rv n.fN
  obtain ⟨g1, g2⟩ := gap8 u1 u3 1000 (41 / 1000 * (1 + rv .f32 N)) (by rw [u2, u4]; grind) (by rw [u2, u4]; grind) (by decide +kernel) (by rw [u2, u4]; grind) (by rw [u2, u4]; grind)
  obtain ⟨t1, t2⟩ := tol (t := 499 / 10000) k4 (by grind) k6 u3 (by rw [u4]; grind) (by rw [u4]; grind) k5 (by decide +kernel)
  rw [u4] at t2
  exact fgt64_no g1 t1 (by grind)
theorem half_more : isFin .f32 (fmul .f32 N 1069547520) = true ∧ rv .f32 C < rv .f32 (fmul .f32 N 1069547520) ∧ rv .f32 (fmul .f32 N 1069547520) ≤ 780 := by
  obtain ⟨-, -, -, -, -, -, -, -, -, k10, k11⟩ := consts
  have c1 := n.cw.c1
  have n1 := n.n1
  have n2 := n.n2
  obtain ⟨m1, m2, m3, -, -⟩ := mul_rv .f32 n.fN k10 1000 (by rw [k11]; grind) (by rw [k11]; grind) (by decide +kernel)
  rw [k11, eps32] at m2 m3
  exact ⟨m1, by grind, by grind⟩
end
/-- Four numbers and twice two of them. -/
theorem same4 {x1 : List Int} {a1 a2 a3 a4 : Nat} {v : Int} (f1 : feq .f32 a1 a1 = true) (f2 : feq .f32 a2 a2 = true) (f3 : feq .f32 a3 a3 = true) (f4 : feq .f32 a4 a4 = true) (hv : wr8At x1 1 8 = some v) (ht : (wFnBacked_o21 x1 v).sem = some true) : (wFnBacked_o22 x1 (.inr [a1, a2, a3, a4]) (.inr [a1, a2]) (.inr [a3, a4])).sem = some true := by
  simp [wFnBacked_o22, Tr.sem, isL, unR, f1, f2, f3, f4, hv, ht, osome, oget]
/-- **BACKWATER.** -/
theorem pureFnBacked (x0 x1 : List Int) (h0 : List.length x0 ≤ 9223372036854775807 ∧ ∀ x : Int, List.Mem x x0 → (Lit.int .u8 x).wf = true) (h1 : List.length x1 ≤ 9223372036854775807 ∧ ∀ x : Int, List.Mem x x1 → (Lit.int .u8 x).wf = true) : wFnBacked x0 x1 = some true := by
  unfold wFnBacked
  simp only [wFnBacked_t, Tr.sem]
  cases hL : wr8Long x0 x1 with
  | true => rfl
  | false =>
  obtain ⟨la, lb⟩ := long8 hL
  have hc := bytes_of (by omega) h0.2
  have hm := bytes_of (by omega) h1.2
  obtain ⟨w, b, s, r, W, B, σ, ρ, R, e0, h, dx, hσ⟩ := draw_ok hc
  obtain ⟨v2, a1, a2, a3⟩ := A8_at hm 0 32 (by omega) (by omega)
  obtain ⟨v11, b1, b2, b3⟩ := A8_at hm 1 8 (by omega) (by omega)
  have a1' : wr8At x1 0 32 = some v2 := a1
  have b1' : wr8At x1 1 8 = some v11 := b1
  obtain ⟨t21, t46⟩ := tail_ok hm b2 b3
  obtain ⟨i2, f2⟩ := fin_of (n := 32) a2 a3
  obtain ⟨q, hq, fq, q1, q2⟩ : ∃ q, fdiv .f32 (FloatKind.nearest .f32 (IntKind.wrap .i64 (1 + v2))) 1082130432 = q ∧ isFin .f32 q = true ∧ 1 / 4 ≤ rv .f32 q ∧ rv .f32 q ≤ 8 := by
    have t := tabQ i2
    rw [f2] at t
    exact ⟨dwQ v2, by rw [wrap_id (by omega) (by omega)]; rfl, t.1, t.2.1, t.2.2⟩
  obtain ⟨N, n1, n2, n3, n4, n5, n6⟩ := normal_ok h fq q1 q2
  obtain ⟨C, Dc, k⟩ := cw_ok h fq q1 q2
  have kok := k.ok
  have kf := k.fin
  simp only [e0, cond_false, osome, oget, cond_true, wFnBacked_o50, wFnBacked_o49, wFnBacked_o48, wFnBacked_o47, Tr.sem, a1', hq, n1, kok, Bool.not_true, b1']
  cases hg : fgt .f64 (fup N) (fmul .f64 4608083138725491507 (fup C)) with
  | false =>
    simp only [cond_false]
    exact t46
  | true =>
    obtain ⟨k1, k2, k3, -⟩ := consts
    have c1 := k.c1
    have c2 := k.c2
    have hn : 119999 / 100000 * rv .f32 C ≤ rv .f32 N := by
      obtain ⟨u1, u2⟩ := fup_rv n2
      obtain ⟨u3, u4⟩ := fup_rv kf
      have m := mul_rng k2 k3 (show 0 ≤ rv .f64 (fup C) by rw [u4]; grind) (show rv .f64 (fup C) ≤ 6 by rw [u4]; grind) (by decide +kernel) (by decide +kernel)
      have mc := Rat.mul_le_mul_of_nonneg_right k2 (show 0 ≤ rv .f64 (fup C) by rw [u4]; grind)
      obtain ⟨m1, m2, m3, -, -⟩ := mul_rv .f64 k1 u3 12 (by grind) (by grind) (by decide +kernel)
      rw [eps64] at m2
      have g := (fgt_rv .f64 u1 m1).1 hg
      rw [u2] at g
      rw [u4] at mc m2
      grind
    obtain ⟨st, V, S, sp⟩ := steep_ok h n2 (by grind) (by grind) fq q1 q2
    obtain ⟨s1, s2⟩ := steep_N h dx n2 n3 (by grind) n5 n6 sp
    have nd : Nd w b s r q N C W B σ ρ R Dc V S := ⟨h, dx, hσ, fq, q1, q2, k, n2, hn, by grind, n_deep h n2 n3 (by grind) q2 n6, sp, s1, s2⟩
    have tp1 := steep_pass nd
    obtain ⟨u, us, fu, u0, u1, u2⟩ := step_N nd
    have tp2 := up_pass nd fu u0 u1 u2
    obtain ⟨y1, y2, y3⟩ := half_more nd
    obtain ⟨p1, p2, p3, p4, w1, w2, w3, z1, z2, z3, z4⟩ := water_ok nd y1 y2 y3
    have hs := same4 z1 z2 z3 z4 b1' t21
    have l4 : ((((List.length (unR (.inr [p1, p2, p3, p4] : Unit ⊕ List Nat)) : Nat) : Int) : Int) != 4) = false := rfl
    have l2 : ((((List.length (unR (.inr [p1, p2] : Unit ⊕ List Nat)) : Nat) : Int) : Int) != 2) = false := rfl
    have li : (decide (0 ≤ (1 : Int)) && decide ((1 : Int) < ((List.length (unR (.inr [p1, p2] : Unit ⊕ List Nat)) : Nat) : Int))) = true := rfl
    have lg : List.getD (unR (.inr [p1, p2] : Unit ⊕ List Nat)) (Int.toNat 1) 0 = p2 := rfl
    have i4 : isL (.inr [p1, p2, p3, p4] : Unit ⊕ List Nat) = false := rfl
    have i2' : isL (.inr [p1, p2] : Unit ⊕ List Nat) = false := rfl
    simp only [cond_true, st, us, tp1, tp2, hq, w1, wFnBacked_o26, wFnBacked_o25, Tr.sem, osome, oget, Bool.not_true, cond_false]
    simp only [wFnBacked_o24, i4, w2, wFnBacked_o23, i2', l4, l2, li, lg, w3, hq, Tr.sem, osome, oget, cond_true, cond_false]
    exact hs
end Go.Proofs.Ytpglfnkkmafhbaa
