/- Lakes of halves: stores that are next to each other let out nearly the same. -/
import Derived.Test.YtpglfnkkmafhbaaBj
set_option linter.unusedVariables false
set_option linter.unusedSectionVars false
set_option linter.unusedSimpArgs false
set_option linter.constructorNameAsVariable false
namespace Go.Proofs.Ytpglfnkkmafhbaa
open Go.RowKit
set_option maxRecDepth 100000
section
variable {xs ys : List Nat} {P Q : Nat → Nat} (h : LakeH xs ys P Q) (h2 : 2 ≤ xs.length) (h5 : xs.length ≤ 5)
include h h2 h5
theorem x_gap {i : Nat} (hi : i + 1 < xs.length) : xR xs i + 1 / 2 ≤ xR xs (i + 1) := by
  have p := h.px i hi
  have e1 := (h.hx i (by omega)).2
  have e2 := (h.hx (i + 1) hi).2
  have c : (P i : Rat) + 1 ≤ (P (i + 1) : Rat) := by
    have c0 : ((P i + 1 : Nat) : Rat) ≤ (P (i + 1) : Rat) := by exact_mod_cast p
    rw [Rat.natCast_add] at c0; exact c0
  unfold xR
  rw [e1, e2]; grind
theorem y_gap {i : Nat} (hi : i + 1 < xs.length) : xR ys i ≤ xR ys (i + 1) ∧ xR ys (i + 1) ≤ xR ys i + 4 := by
  have q := h.qy i hi
  have e1 := (h.hy i (by omega)).2
  have e2 := (h.hy (i + 1) hi).2
  have c : (Q (i + 1) : Rat) ≤ (Q i : Rat) + 8 := by
    have c0 : (Q (i + 1) : Rat) ≤ ((Q i + 8 : Nat) : Rat) := by exact_mod_cast q.2
    rw [Rat.natCast_add] at c0; exact c0
  refine ⟨y_mono h h2 h5 (by omega) hi, ?_⟩
  unfold xR
  rw [e1, e2]; grind
/-- A segment rises at most eightfold, up to what rounding adds. -/
theorem mid_slope {f s : Nat} (hf : f + 1 < xs.length) (fs : isFin .f32 s = true) (s0 : xR xs f < rv .f32 s) (s1 : rv .f32 s ≤ xR xs (f + 1)) :
    rv .f32 (segW (xs.getD f 0) (xs.getD (f + 1) 0) (ys.getD f 0) (ys.getD (f + 1) 0) s) ≤ xR ys f + 8 * (rv .f32 s - xR xs f) + 1 / 1000 ∧ xR ys (f + 1) - 8 * (xR xs (f + 1) - rv .f32 s) - 1 / 1000 ≤ rv .f32 (segW (xs.getD f 0) (xs.getD (f + 1) 0) (ys.getD f 0) (ys.getD (f + 1) 0) s) := by
  obtain ⟨m1, m2, m3, m4, m5⟩ := mid_ok h h2 h5 hf fs s0 s1
  have g := x_gap h h2 h5 hf
  obtain ⟨y0, y4⟩ := y_gap h h2 h5 hf
  generalize rv .f32 (segW (xs.getD f 0) (xs.getD (f + 1) 0) (ys.getD f 0) (ys.getD (f + 1) 0) s) = w at *
  generalize xR xs f = a at *
  generalize xR xs (f + 1) = b at *
  generalize xR ys f = y at *
  generalize xR ys (f + 1) = y' at *
  generalize rv .f32 s = S at *
  have z1 : (S - a) / (b - a) * (b - a) = S - a := Rat.div_mul_cancel (by grind)
  generalize (S - a) / (b - a) = Z at *
  have hz0 : 0 ≤ Z := by
    rcases Rat.le_total (a := 0) (b := Z) with g' | g'
    · exact g'
    · have := Rat.mul_le_mul_of_nonneg_right g' (show 0 ≤ b - a by grind)
      exfalso; grind
  have hz1 : Z ≤ 1 := by
    rcases Rat.le_total (a := Z) (b := 1) with g' | g'
    · exact g'
    · have := Rat.mul_le_mul_of_nonneg_right g' (show 0 ≤ b - a by grind)
      have e : (Z - 1) * (b - a) = 0 := by grind
      rcases Rat.mul_eq_zero.1 e with q | q
      · grind
      · exfalso; grind
  have q1 : Z * (y' - y) ≤ Z * 4 := Rat.mul_le_mul_of_nonneg_left (by grind) hz0
  have q2 : Z * (1 / 2) ≤ Z * (b - a) := Rat.mul_le_mul_of_nonneg_left (by grind) hz0
  have q3 : (1 - Z) * (y' - y) ≤ (1 - Z) * 4 := Rat.mul_le_mul_of_nonneg_left (by grind) (by grind)
  have q4 : (1 - Z) * (1 / 2) ≤ (1 - Z) * (b - a) := Rat.mul_le_mul_of_nonneg_left (by grind) (by grind)
  exact ⟨by grind, by grind⟩
/-- **NEXT TO EACH OTHER.** -/
theorem out_near {s s' w w' : Nat} (fs : isFin .f32 s = true) (fs' : isFin .f32 s' = true) (o : OutH xs ys s w) (o' : OutH xs ys s' w') (hs : rv .f32 s' ≤ rv .f32 s + 1 / 10000) : rv .f32 w' ≤ rv .f32 w + 1 / 100 := by
  obtain ⟨r1, r2, r3⟩ := out_range h h2 h5 fs o
  obtain ⟨r1', r2', r3'⟩ := out_range h h2 h5 fs' o'
  cases o' with
  | lo t0 hw' => subst hw'; grind
  | hi t0 t1 hw' =>
    subst hw'
    cases o with
    | lo s0 hw =>
      have := x_mono h h2 h5 (show 0 + 1 ≤ xs.length - 1 by omega) (by omega)
      have := x_gap h h2 h5 (show 0 + 1 < xs.length by omega)
      exfalso; grind
    | hi s0 s1 hw => subst hw; grind
    | mid f hf s0 s1 hw =>
      subst hw
      obtain ⟨m1, m2⟩ := mid_slope h h2 h5 hf fs s0 s1
      rcases Nat.lt_or_ge (f + 1) (xs.length - 1) with g | g
      · have a1 := x_mono h h2 h5 (show f + 1 + 1 ≤ xs.length - 1 by omega) (by omega)
        have a2 := x_gap h h2 h5 (show f + 1 + 1 < xs.length by omega)
        exfalso; grind
      · have e : xs.length - 1 = f + 1 := by omega
        rw [e] at t1 ⊢
        change xR ys (f + 1) ≤ _
        grind
  | mid g hg t0 t1 hw' =>
    subst hw'
    obtain ⟨n1, n2⟩ := mid_slope h h2 h5 hg fs' t0 t1
    obtain ⟨k1, k2, k3, k4, k5⟩ := mid_ok h h2 h5 hg fs' t0 t1
    cases o with
    | lo s0 hw =>
      subst hw
      rcases Nat.eq_zero_or_pos g with hg0 | hg0
      · subst hg0
        change _ ≤ xR ys 0 + 1 / 100
        grind
      · have a1 := x_mono h h2 h5 (show 0 + 1 ≤ g by omega) (by omega)
        have a2 := x_gap h h2 h5 (show 0 + 1 < xs.length by omega)
        exfalso; grind
    | hi s0 s1 hw => subst hw; grind
    | mid f hf s0 s1 hw =>
      subst hw
      obtain ⟨m1, m2⟩ := mid_slope h h2 h5 hf fs s0 s1
      obtain ⟨j1, j2, j3, j4, j5⟩ := mid_ok h h2 h5 hf fs s0 s1
      rcases Nat.lt_or_ge g f with c | c
      · have := y_mono h h2 h5 (show g + 1 ≤ f by omega) (by omega)
        grind
      · rcases Nat.lt_or_ge f g with d | d
        · rcases Nat.lt_or_ge (f + 1) g with e | e
          · have a1 := x_mono h h2 h5 (show f + 1 + 1 ≤ g by omega) (by omega)
            have a2 := x_gap h h2 h5 (show f + 1 + 1 < xs.length by omega)
            exfalso; grind
          · have : g = f + 1 := by omega
            subst this
            grind
        · have : f = g := by omega
          subst this
          -- the same segment
          have gp := x_gap h h2 h5 hf
          obtain ⟨y0, y4⟩ := y_gap h h2 h5 hf
          generalize rv .f32 (segW (xs.getD f 0) (xs.getD (f + 1) 0) (ys.getD f 0) (ys.getD (f + 1) 0) s) = w at *
          generalize rv .f32 (segW (xs.getD f 0) (xs.getD (f + 1) 0) (ys.getD f 0) (ys.getD (f + 1) 0) s') = w' at *
          generalize xR xs f = a at *
          generalize xR xs (f + 1) = b at *
          generalize xR ys f = y at *
          generalize xR ys (f + 1) = y' at *
          generalize rv .f32 s = S at *
          generalize rv .f32 s' = S' at *
          have z1 : (S - a) / (b - a) * (b - a) = S - a := Rat.div_mul_cancel (by grind)
          have z2 : (S' - a) / (b - a) * (b - a) = S' - a := Rat.div_mul_cancel (by grind)
          generalize (S - a) / (b - a) = Z at *
          generalize (S' - a) / (b - a) = Z' at *
          have zz : Z' ≤ Z + 1 / 1000 := by
            rcases Rat.le_total (a := Z') (b := Z + 1 / 1000) with q | q
            · exact q
            · have := Rat.mul_le_mul_of_nonneg_right q (show 0 ≤ b - a by grind)
              exfalso; grind
          have q1 : Z' * (y' - y) ≤ (Z + 1 / 1000) * (y' - y) := Rat.mul_le_mul_of_nonneg_right zz (by grind)
          grind
end
end Go.Proofs.Ytpglfnkkmafhbaa
