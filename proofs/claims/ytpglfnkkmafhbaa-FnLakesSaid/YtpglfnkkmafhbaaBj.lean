/- Lakes of halves: more flows out where more is held. -/
import Derived.Test.YtpglfnkkmafhbaaBi
set_option linter.unusedVariables false
set_option linter.unusedSectionVars false
set_option linter.unusedSimpArgs false
set_option linter.constructorNameAsVariable false
namespace Go.Proofs.Ytpglfnkkmafhbaa
open Go.RowKit
set_option maxRecDepth 100000
section
variable {xs ys : List Nat} {P Q : Nat → Nat} (h : LakeH xs ys P Q) (h2 : 2 ≤ xs.length) (h5 : xs.length ≤ 5)
include h h2 h5
theorem y_mono {i j : Nat} (hij : i ≤ j) (hj : j < xs.length) : xR ys i ≤ xR ys j := by
  have m := mono_Q h.qy (j - i) i (by omega)
  rw [show i + (j - i) = j by omega] at m
  have e1 := (h.hy i (by omega)).2
  have e2 := (h.hy j hj).2
  have c : (Q i : Rat) ≤ (Q j : Rat) := by exact_mod_cast m
  unfold xR
  rw [e1, e2]; grind
theorem x_mono {i j : Nat} (hij : i ≤ j) (hj : j < xs.length) : xR xs i ≤ xR xs j := by
  have m := mono_P h.px (j - i) i (by omega)
  rw [show i + (j - i) = j by omega] at m
  have e1 := (h.hx i (by omega)).2
  have e2 := (h.hx j hj).2
  have c : (P i : Rat) ≤ (P j : Rat) := by exact_mod_cast (show P i ≤ P j by omega)
  unfold xR
  rw [e1, e2]; grind
theorem y_range {i : Nat} (hi : i < xs.length) : isFin .f32 (ys.getD i 0) = true ∧ 0 ≤ xR ys i ∧ xR ys i ≤ 8 := by
  obtain ⟨e0, e1⟩ := h.hy i hi
  have q := h.qm i hi
  have c : (Q i : Rat) ≤ 16 := by
    have g : ((Q i : Nat) : Rat) ≤ ((16 : Nat) : Rat) := by exact_mod_cast (show Q i ≤ 16 by omega)
    exact g
  have c0 : (0 : Rat) ≤ (Q i : Rat) := by exact_mod_cast Nat.zero_le _
  unfold xR
  rw [e1]
  exact ⟨e0, by grind, by grind⟩
theorem x_range {i : Nat} (hi : i < xs.length) : isFin .f32 (xs.getD i 0) = true ∧ 0 ≤ xR xs i ∧ xR xs i ≤ 18 := by
  obtain ⟨e0, e1⟩ := h.hx i hi
  have q := h.pm i hi
  have c : (P i : Rat) ≤ 36 := by
    have g : ((P i : Nat) : Rat) ≤ ((36 : Nat) : Rat) := by exact_mod_cast (show P i ≤ 36 by omega)
    exact g
  have c0 : (0 : Rat) ≤ (P i : Rat) := by exact_mod_cast Nat.zero_le _
  unfold xR
  rw [e1]
  exact ⟨e0, by grind, by grind⟩
theorem mid_ok {f s : Nat} (hf : f + 1 < xs.length) (fs : isFin .f32 s = true) (s0 : xR xs f < rv .f32 s) (s1 : rv .f32 s ≤ xR xs (f + 1)) :
    isFin .f32 (segW (xs.getD f 0) (xs.getD (f + 1) 0) (ys.getD f 0) (ys.getD (f + 1) 0) s) = true ∧ xR ys f ≤ rv .f32 (segW (xs.getD f 0) (xs.getD (f + 1) 0) (ys.getD f 0) (ys.getD (f + 1) 0) s) ∧ rv .f32 (segW (xs.getD f 0) (xs.getD (f + 1) 0) (ys.getD f 0) (ys.getD (f + 1) 0) s) ≤ xR ys (f + 1) ∧
    xR ys f + (rv .f32 s - xR xs f) / (xR xs (f + 1) - xR xs f) * (xR ys (f + 1) - xR ys f) - 1 / 1000 ≤ rv .f32 (segW (xs.getD f 0) (xs.getD (f + 1) 0) (ys.getD f 0) (ys.getD (f + 1) 0) s) ∧ rv .f32 (segW (xs.getD f 0) (xs.getD (f + 1) 0) (ys.getD f 0) (ys.getD (f + 1) 0) s) ≤ xR ys f + (rv .f32 s - xR xs f) / (xR xs (f + 1) - xR xs f) * (xR ys (f + 1) - xR ys f) + 1 / 1000 := by
  obtain ⟨a1, a2⟩ := h.hx f (by omega)
  obtain ⟨b1, b2⟩ := h.hx (f + 1) hf
  obtain ⟨c1, c2⟩ := h.hy f (by omega)
  obtain ⟨d1, d2⟩ := h.hy (f + 1) hf
  have p := h.px f hf
  have q := h.qy f hf
  have pm := h.pm (f + 1) hf
  have qm := h.qm (f + 1) hf
  exact seg_ok a1 b1 c1 d1 fs a2 b2 c2 d2 p (by omega) q.1 (by omega) q.2 (Rat.le_of_lt s0) s1
theorem out_range {s w : Nat} (fs : isFin .f32 s = true) (o : OutH xs ys s w) : isFin .f32 w = true ∧ xR ys 0 ≤ rv .f32 w ∧ rv .f32 w ≤ xR ys (xs.length - 1) := by
  have e := y_mono h h2 h5 (show 0 ≤ xs.length - 1 by omega) (by omega)
  cases o with
  | lo s0 hw => subst hw; exact ⟨(y_range h h2 h5 (by omega)).1, Rat.le_refl, e⟩
  | hi s0 s1 hw => subst hw; exact ⟨(y_range h h2 h5 (by omega)).1, e, Rat.le_refl⟩
  | mid f hf s0 s1 hw =>
    subst hw
    obtain ⟨m1, m2, m3, _⟩ := mid_ok h h2 h5 hf fs s0 s1
    exact ⟨m1, Rat.le_trans (y_mono h h2 h5 (Nat.zero_le f) (by omega)) m2, Rat.le_trans m3 (y_mono h h2 h5 (by omega) (by omega))⟩
theorem out_mono {s s' w w' : Nat} (fs : isFin .f32 s = true) (fs' : isFin .f32 s' = true) (o : OutH xs ys s w) (o' : OutH xs ys s' w') (hs : rv .f32 s + 9 / 10 ≤ rv .f32 s') : rv .f32 w ≤ rv .f32 w' := by
  obtain ⟨r1, r2, r3⟩ := out_range h h2 h5 fs o
  obtain ⟨r1', r2', r3'⟩ := out_range h h2 h5 fs' o'
  cases o with
  | lo s0 hw => subst hw; exact r2'
  | hi s0 s1 hw =>
    cases o' with
    | lo t0 hw' => exfalso; grind
    | hi t0 t1 hw' => subst hw hw'; exact Rat.le_refl
    | mid f hf t0 t1 hw' =>
      have := x_mono h h2 h5 (show f + 1 ≤ xs.length - 1 by omega) (by omega)
      exfalso; grind
  | mid f hf s0 s1 hw =>
    subst hw
    obtain ⟨m1, m2, m3, m4, m5⟩ := mid_ok h h2 h5 hf fs s0 s1
    cases o' with
    | lo t0 hw' =>
      have := x_mono h h2 h5 (show 0 ≤ f by omega) (by omega)
      exfalso; grind
    | hi t0 t1 hw' =>
      subst hw'
      exact Rat.le_trans m3 (y_mono h h2 h5 (by omega) (by omega))
    | mid g hg t0 t1 hw' =>
      subst hw'
      obtain ⟨n1, n2, n3, n4, n5⟩ := mid_ok h h2 h5 hg fs' t0 t1
      rcases Nat.lt_or_ge f g with hfg | hfg
      · exact Rat.le_trans m3 (Rat.le_trans (y_mono h h2 h5 (show f + 1 ≤ g by omega) (by omega)) n2)
      · rcases Nat.lt_or_ge g f with hgf | hgf
        · have := x_mono h h2 h5 (show g + 1 ≤ f by omega) (by omega)
          exfalso; grind
        · have : g = f := by omega
          subst this
          -- the same segment
          have hq := (h.qy g hf).1
          have e1 := (h.hy g (by omega)).2
          have e2 := (h.hy (g + 1) hf).2
          rcases Nat.eq_or_lt_of_le hq with hflat | hrise
          · have : xR ys (g + 1) = xR ys g := by unfold xR; rw [e1, e2, hflat]
            rw [this] at m3
            exact Rat.le_trans m3 n2
          · have hd : xR ys g + 1 / 2 ≤ xR ys (g + 1) := by
              have c : (Q g : Rat) + 1 ≤ (Q (g + 1) : Rat) := by
                have c0 : ((Q g + 1 : Nat) : Rat) ≤ (Q (g + 1) : Rat) := by exact_mod_cast hrise
                rw [Rat.natCast_add] at c0; exact c0
              unfold xR
              rw [e1, e2]; grind
            obtain ⟨_, xa0, _⟩ := x_range h h2 h5 (show g < xs.length by omega)
            obtain ⟨_, _, xb9⟩ := x_range h h2 h5 hf
            have hx : xR xs g < xR xs (g + 1) := by grind
            generalize xR xs g = a at *
            generalize xR xs (g + 1) = b at *
            generalize xR ys g = y at *
            generalize xR ys (g + 1) = y' at *
            generalize rv .f32 s = S at *
            generalize rv .f32 s' = S' at *
            have z1 : (S - a) / (b - a) * (b - a) = S - a := Rat.div_mul_cancel (by grind)
            have z2 : (S' - a) / (b - a) * (b - a) = S' - a := Rat.div_mul_cancel (by grind)
            generalize (S - a) / (b - a) = Z at *
            generalize (S' - a) / (b - a) = Z' at *
            have zz : Z + 1 / 40 ≤ Z' := by
              rcases Rat.le_total (a := Z + 1 / 40) (b := Z') with g | g
              · exact g
              · have := Rat.mul_le_mul_of_nonneg_right g (show 0 ≤ b - a by grind)
                exfalso; grind
            have q1 : (Z + 1 / 40) * (y' - y) ≤ Z' * (y' - y) := Rat.mul_le_mul_of_nonneg_right zz (by grind)
            grind
end
end Go.Proofs.Ytpglfnkkmafhbaa
