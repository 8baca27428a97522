/- Lakes of halves: a step, by halving. -/
import Derived.Test.YtpglfnkkmafhbaaBl
set_option linter.unusedVariables false
set_option linter.unusedSectionVars false
set_option linter.unusedSimpArgs false
set_option linter.constructorNameAsVariable false
namespace Go.Proofs.Ytpglfnkkmafhbaa
open Go.RowKit
open Ieee
set_option maxRecDepth 100000
theorem mul_floor (k : FloatKind) {a b r : Nat} (ha : isFin k a = true) (hb : isFin k b = true) (hr : r < k.format.infRung) (a0 : 0 ≤ rv k a) (b0 : 0 ≤ rv k b) (c0 : 0 ≤ rv k (fmul k a b)) (h : rv k r ≤ rv k a * rv k b) : rv k r ≤ rv k (fmul k a b) := by
  obtain ⟨pf, pe, p0⟩ := posw k hr
  have ea := mag_rv k a0
  have eb := mag_rv k b0
  have hi := iu_mul k
  have key : vl k r * 2 ^ uk k ≤ vl k (mg k a) * vl k (mg k b) := by
    rw [ea, eb, pe] at h
    have q : (0 : Rat) ≤ 2 ^ uk k := Rat.le_of_lt (Rat.pow_pos (by decide +kernel))
    have h1 := Rat.mul_le_mul_of_nonneg_right h q
    have e1 : (vl k (mg k a) : Rat) * iu k * ((vl k (mg k b) : Rat) * iu k) * 2 ^ uk k = ((vl k (mg k a) * vl k (mg k b) : Nat) : Rat) * iu k * (2 ^ uk k * iu k) := by rw [Rat.natCast_mul]; grind
    have e2 : (vl k r : Rat) * iu k * 2 ^ uk k = ((vl k r * 2 ^ uk k : Nat) : Rat) * iu k := by
      rw [Rat.natCast_mul, Rat.natCast_pow]
      have : (((2 : Nat)) : Rat) = 2 := rfl
      rw [this]; grind
    rw [e1, e2, hi, Rat.mul_one] at h1
    exact nat_of_rat h1
  have hge := mul_ge k ((fin_iff k a).1 ha) ((fin_iff k b).1 hb) (Nat.le_of_lt hr) key
  rw [mag_rv k c0, pe]
  exact Rat.mul_le_mul_of_nonneg_right (by exact_mod_cast vl_le k hge) (Rat.le_of_lt (iu_pos k))
theorem c_half : isFin .f32 1056964608 = true ∧ rv .f32 1056964608 = 1 / 2 := by decide +kernel
/-- The middle of two stores. -/
theorem mid_store {a b P R : Nat} (fa : isFin .f32 a = true) (fb : isFin .f32 b = true) (hP : P ≤ 40) (hR : R ≤ 40) (a0 : (P : Rat) / 2 ≤ rv .f32 a) (b0 : (P : Rat) / 2 ≤ rv .f32 b) (a1 : rv .f32 a ≤ (R : Rat) / 2) (b1 : rv .f32 b ≤ (R : Rat) / 2) :
    isFin .f32 (fmul .f32 1056964608 (fadd .f32 a b)) = true ∧ (P : Rat) / 2 ≤ rv .f32 (fmul .f32 1056964608 (fadd .f32 a b)) ∧ rv .f32 (fmul .f32 1056964608 (fadd .f32 a b)) ≤ (R : Rat) / 2 ∧
    (rv .f32 a + rv .f32 b) / 2 - 1 / 100000 ≤ rv .f32 (fmul .f32 1056964608 (fadd .f32 a b)) ∧ rv .f32 (fmul .f32 1056964608 (fadd .f32 a b)) ≤ (rv .f32 a + rv .f32 b) / 2 + 1 / 100000 := by
  obtain ⟨w1, w2⟩ := hw_ok (show P ≤ 300 by omega)
  obtain ⟨v1, v2⟩ := hw_ok (show R ≤ 300 by omega)
  obtain ⟨w3, w4⟩ := hw_ok (show P + P ≤ 300 by omega)
  obtain ⟨v3, v4⟩ := hw_ok (show R + R ≤ 300 by omega)
  have p0 : (0 : Rat) ≤ (P : Rat) := by exact_mod_cast Nat.zero_le _
  have r9 : (R : Rat) ≤ 40 := by
    have g : ((R : Nat) : Rat) ≤ ((40 : Nat) : Rat) := by exact_mod_cast hR
    exact g
  have eP : ((P + P : Nat) : Rat) = (P : Rat) + P := Rat.natCast_add _ _
  have eR : ((R + R : Nat) : Rat) = (R : Rat) + R := Rat.natCast_add _ _
  obtain ⟨s1, s2, s3⟩ := add_cap .f32 fa fb v3 (by grind) (by rw [v4, eR]; grind)
  have s4 := add_floor .f32 fa fb w3 s1 s2 (by rw [w4, eP]; grind)
  have sn := add_rv .f32 fa fb 40 (by grind) (by grind) (by decide +kernel)
  have sn1 := sn.lo
  have sn2 := sn.hi
  rw [e32] at sn1 sn2
  rw [v4, eR] at s3
  rw [w4, eP] at s4
  obtain ⟨ch, cr⟩ := c_half
  obtain ⟨m1, m2, m3⟩ := mul_cap .f32 ch s1 v1 (by rw [cr]; grind) s2 (by rw [cr, v2]; grind)
  have m4 := mul_floor .f32 ch s1 w1 (by rw [cr]; grind) s2 m2 (by rw [cr, w2]; grind)
  have mn := mul_rv .f32 ch s1 20 (by rw [cr]; grind) (by rw [cr]; grind) (by decide +kernel)
  have mn1 := mn.lo
  have mn2 := mn.hi
  rw [cr, e32] at mn1 mn2
  rw [v2] at m3
  rw [w2] at m4
  exact ⟨m1, m4, m3, by grind, by grind⟩
theorem c_eighth : isFin .f32 (fmul .f32 1056964608 1048576000) = true ∧ rv .f32 (fmul .f32 1056964608 1048576000) = 1 / 8 := by decide +kernel
abbrev hT : Nat := fmul .f32 1056964608 1048576000
noncomputable def lvlW (m w : Nat) : Nat := fadd .f32 m (fmul .f32 hT w)
/-- A store and half of what flows out of it. -/
theorem lvl_ok {m w : Nat} (fm : isFin .f32 m = true) (fw : isFin .f32 w = true) (m0 : 0 ≤ rv .f32 m) (m9 : rv .f32 m ≤ 20) (w0 : 0 ≤ rv .f32 w) (w9 : rv .f32 w ≤ 8) : isFin .f32 (lvlW m w) = true ∧ rv .f32 m + rv .f32 w / 8 - 1 / 100000 ≤ rv .f32 (lvlW m w) ∧ rv .f32 (lvlW m w) ≤ rv .f32 m + rv .f32 w / 8 + 1 / 100000 := by
  obtain ⟨c1, c2⟩ := c_eighth
  have a := mul_rv .f32 c1 fw 1 (by rw [c2]; grind) (by rw [c2]; grind) (by decide +kernel)
  have a1 := a.lo
  have a2 := a.hi
  rw [c2, e32] at a1 a2
  have b := add_rv .f32 fm a.fin 22 (by grind) (by grind) (by decide +kernel)
  have b1 := b.lo
  have b2 := b.hi
  rw [e32] at b1 b2
  change _ ≤ rv .f32 (lvlW m w) at b1
  change rv .f32 (lvlW m w) ≤ _ at b2
  exact ⟨b.fin, by grind, by grind⟩
section
variable {xs ys : List Nat} {P Q : Nat → Nat} (h : LakeH xs ys P Q) (h2 : 2 ≤ xs.length) (h5 : xs.length ≤ 5)
include h h2 h5
theorem out_small {s w : Nat} (fs : isFin .f32 s = true) (o : OutH xs ys s w) : isFin .f32 w = true ∧ 0 ≤ rv .f32 w ∧ rv .f32 w ≤ 8 := by
  obtain ⟨a, b, c⟩ := out_range h h2 h5 fs o
  obtain ⟨_, d, _⟩ := y_range h h2 h5 (show 0 < xs.length by omega)
  obtain ⟨_, _, e⟩ := y_range h h2 h5 (show xs.length - 1 < xs.length by omega)
  exact ⟨a, Rat.le_trans d b, Rat.le_trans c e⟩
/-- **HALVING.** -/
theorem halve_ok {g : Nat} (fg : isFin .f32 g = true) : ∃ lo hi wl wh, ihalve_iStepLake_1 (xs.getD 0 0) (xs.getD (xs.length - 1) 0) hT xs ys g = some (lo, hi) ∧ isFin .f32 lo = true ∧ isFin .f32 hi = true ∧ xR xs 0 ≤ rv .f32 lo ∧ rv .f32 lo ≤ xR xs (xs.length - 1) ∧ rv .f32 hi - rv .f32 lo ≤ 5 / 100000 ∧ rv .f32 lo - rv .f32 hi ≤ 5 / 100000 ∧ OutH xs ys lo wl ∧ OutH xs ys hi wh ∧
    (rv .f32 lo = xR xs 0 ∨ rv .f32 (lvlW lo wl) ≤ rv .f32 g) ∧ (rv .f32 hi = xR xs (xs.length - 1) ∨ rv .f32 g < rv .f32 (lvlW hi wh)) := by
  obtain ⟨f0, x0⟩ := h.hx 0 (by omega)
  obtain ⟨f9, x9⟩ := h.hx (xs.length - 1) (by omega)
  have pm0 := h.pm 0 (by omega)
  have pm9 := h.pm (xs.length - 1) (by omega)
  have xm := x_mono h h2 h5 (show 0 ≤ xs.length - 1 by omega) (by omega)
  obtain ⟨_, x00, _⟩ := x_range h h2 h5 (show 0 < xs.length by omega)
  obtain ⟨_, _, x18⟩ := x_range h h2 h5 (show xs.length - 1 < xs.length by omega)
  obtain ⟨wl0, ol0, oh0⟩ := out_ok h h2 h5 f0
  obtain ⟨wh0, ol9, oh9⟩ := out_ok h h2 h5 f9
  obtain ⟨r, r1, lo, hi, wl, wh, e, I1, I2, I3, I4, I5, I6, I7, I8, I9, I10, I11, I12⟩ := runL_ex0 (f := fun t : Nat × Nat × Int => (ihalve_iStepLake_1_l2_t hT xs ys g t.1 t.2.1 t.2.2).sem) 40
    (fun k t => ∃ lo hi wl wh, t = (lo, hi, (k : Int)) ∧ isFin .f32 lo = true ∧ isFin .f32 hi = true ∧ xR xs 0 ≤ rv .f32 lo ∧ rv .f32 lo ≤ xR xs (xs.length - 1) ∧ xR xs 0 ≤ rv .f32 hi ∧ rv .f32 hi ≤ xR xs (xs.length - 1) ∧ rv .f32 hi - rv .f32 lo ≤ 18 * (1 / 2) ^ k + 4 / 100000 ∧ rv .f32 lo - rv .f32 hi ≤ 18 * (1 / 2) ^ k + 4 / 100000 ∧ OutH xs ys lo wl ∧ OutH xs ys hi wh ∧ (rv .f32 lo = xR xs 0 ∨ rv .f32 (lvlW lo wl) ≤ rv .f32 g) ∧ (rv .f32 hi = xR xs (xs.length - 1) ∨ rv .f32 g < rv .f32 (lvlW hi wh)))
    (fun r => ∃ lo hi wl wh, r = (lo, hi) ∧ isFin .f32 lo = true ∧ isFin .f32 hi = true ∧ xR xs 0 ≤ rv .f32 lo ∧ rv .f32 lo ≤ xR xs (xs.length - 1) ∧ xR xs 0 ≤ rv .f32 hi ∧ rv .f32 hi ≤ xR xs (xs.length - 1) ∧ rv .f32 hi - rv .f32 lo ≤ 5 / 100000 ∧ rv .f32 lo - rv .f32 hi ≤ 5 / 100000 ∧ OutH xs ys lo wl ∧ OutH xs ys hi wh ∧ (rv .f32 lo = xR xs 0 ∨ rv .f32 (lvlW lo wl) ≤ rv .f32 g) ∧ (rv .f32 hi = xR xs (xs.length - 1) ∨ rv .f32 g < rv .f32 (lvlW hi wh)))
    (xs.getD 0 0, xs.getD (xs.length - 1) 0, 0) ⟨_, _, wl0, wh0, rfl, f0, f9, Rat.le_refl, xm, xm, Rat.le_refl, by rw [Rat.pow_zero]; unfold xR at *; grind, by rw [Rat.pow_zero]; unfold xR at *; grind, oh0, oh9, .inl rfl, .inl rfl⟩
    (fun k t hk ⟨lo, hi, wl, wh, e, I1, I2, I3, I4, I5, I6, I7, I8, I9, I10, I11, I12⟩ => by
      subst e
      obtain ⟨m1, m2, m3, m4, m5⟩ := mid_store (P := P 0) (R := P (xs.length - 1)) I1 I2 (by omega) (by omega) (by rw [← x0]; exact I3) (by rw [← x0]; exact I5) (by rw [← x9]; exact I4) (by rw [← x9]; exact I6)
      rw [← x0] at m2
      rw [← x9] at m3
      obtain ⟨wm, om1, om2⟩ := out_ok h h2 h5 m1
      obtain ⟨s1, s2, s3⟩ := out_small h h2 h5 m1 om2
      change xR xs 0 ≤ _ at m2
      change _ ≤ xR xs (xs.length - 1) at m3
      obtain ⟨l1, l2, l3⟩ := lvl_ok m1 s1 (Rat.le_trans x00 m2) (Rat.le_trans m3 (by grind)) s2 s3
      have hp : (18 : Rat) * (1 / 2) ^ (k + 1) = 18 * (1 / 2) ^ k / 2 := by rw [Rat.pow_succ]; grind
      have hh : iStepLake_1 (fmul .f32 1056964608 (fadd .f32 lo hi)) hT xs ys g = some (fgt .f32 (lvlW (fmul .f32 1056964608 (fadd .f32 lo hi)) wm) g) := by
        unfold iStepLake_1 iStepLake_1_t
        simp only [om1, Tr.sem, osome, oget, cond_true]
        rfl
      have hg := fgt_rv .f32 l1 fg
      simp only [ihalve_iStepLake_1_l2_t, Tr.sem, decide_eq_true (show (k : Int) < 40 by omega), hh, osome, oget, cond_true]
      have hw : IntKind.wrap .i64 ((k : Int) + 1) = ((k + 1 : Nat) : Int) := by rw [wrap_id (by omega) (by omega)]; omega
      rw [hw]
      generalize (18 : Rat) * (1 / 2) ^ k = T at *
      cases hc : fgt .f32 (lvlW (fmul .f32 1056964608 (fadd .f32 lo hi)) wm) g with
      | true => exact ⟨_, rfl, lo, _, wl, wm, rfl, I1, m1, I3, I4, m2, m3, by rw [hp]; grind, by rw [hp]; grind, I9, om2, I11, .inr (hg.1 hc)⟩
      | false =>
        have : ¬ rv .f32 g < rv .f32 (lvlW (fmul .f32 1056964608 (fadd .f32 lo hi)) wm) := fun q => by rw [hg.2 q] at hc; cases hc
        exact ⟨_, rfl, _, hi, wm, wh, rfl, m1, I2, m2, m3, I5, I6, by rw [hp]; grind, by rw [hp]; grind, om2, I10, .inr (by grind), I12⟩)
    (fun t ⟨lo, hi, wl, wh, e, I1, I2, I3, I4, I5, I6, I7, I8, I9, I10, I11, I12⟩ => by
      subst e
      have hp : (18 : Rat) * (1 / 2) ^ 40 ≤ 1 / 100000 := by decide +kernel
      exact ⟨_, by simp only [ihalve_iStepLake_1_l2_t, Tr.sem, show decide (((40 : Nat) : Int) < 40) = false from rfl, cond_false], lo, hi, wl, wh, rfl, I1, I2, I3, I4, I5, I6, by grind, by grind, I9, I10, I11, I12⟩)
  subst e
  have r1' : ihalve_iStepLake_1_l2 (xs.getD 0 0) (xs.getD (xs.length - 1) 0) hT xs ys g 0 = some (lo, hi) := r1
  refine ⟨lo, hi, wl, wh, ?_, I1, I2, I3, I4, I7, I8, I9, I10, I11, I12⟩
  unfold ihalve_iStepLake_1 ihalve_iStepLake_1_t
  simp only [r1', Tr.sem, osome, oget, cond_true]
end
end Go.Proofs.Ytpglfnkkmafhbaa
