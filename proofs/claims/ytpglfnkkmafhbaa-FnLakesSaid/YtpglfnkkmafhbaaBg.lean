/- Lakes: a segment of what flows out. -/
import Derived.Test.YtpglfnkkmafhbaaMv
set_option linter.unusedVariables false
set_option linter.unusedSectionVars false
set_option linter.unusedSimpArgs false
set_option linter.constructorNameAsVariable false
namespace Go.Proofs.Ytpglfnkkmafhbaa
open Go.RowKit
open Ieee
set_option maxRecDepth 100000
theorem sub_floor (k : FloatKind) {a b r : Nat} (ha : isFin k a = true) (hb : isFin k b = true) (hr : r < k.format.infRung) (hc : isFin k (fsub k a b) = true) (h0 : 0 ≤ rv k (fsub k a b)) (h : rv k r ≤ rv k a - rv k b) : rv k r ≤ rv k (fsub k a b) := by
  obtain ⟨pf, pe, p0⟩ := posw k hr
  have hx : rv k a - rv k b = ((sgv k a - sgv k b : Int) : Rat) * iu k := by
    unfold rv; rw [Rat.intCast_sub]; grind
  rw [hx] at h
  have hX0 := (rat_sgn (k := k)).1 (Rat.le_trans p0 h)
  obtain ⟨s, m, i, ra, la, va⟩ := fin_mg k ((fin_iff k a).1 ha)
  obtain ⟨t, n, j, rb, lb, vb⟩ := fin_mg k ((fin_iff k b).1 hb)
  obtain ⟨z, T, e, e1, e2, e3, _, _⟩ := add_near3 k ra rb la lb va vb (fsub k a b) (!t) (by unfold fsub Format.sub; rw [ra, rb]; rfl)
  have hn : ∀ v : Nat, sv (!(sgn k b)) v = - sv (sgn k b) v := fun v => by cases sgn k b <;> simp [sv]
  rw [read_sgn' ra, read_sgn' rb, hn] at e3
  have hX : vl k r ≤ (sgv k a - sgv k b).natAbs := by
    rw [pe] at h
    generalize sgv k a - sgv k b = X at *
    refine nat_of_rat (k := k) ?_
    have e : ((X.natAbs : Nat) : Rat) = (X : Rat) := by
      have : ((X.natAbs : Nat) : Int) = X := Int.natAbs_of_nonneg hX0
      exact_mod_cast this
    rw [e]; exact h
  have hge : r ≤ mg k (fsub k a b) := by
    rw [e1]
    refine near_ge0 k e2 (Nat.le_of_lt hr) ?_
    rw [e3]; exact hX
  rw [mag_rv k h0, pe]
  exact Rat.mul_le_mul_of_nonneg_right (by exact_mod_cast vl_le k hge) (Rat.le_of_lt (iu_pos k))
/-- Halves. -/
def hw (n : Nat) : Nat := fdiv .f32 (FloatKind.nearest .f32 (n : Int)) 1073741824
theorem hw_ok0 : ∀ n : Fin 301, hw n.val < FloatKind.f32.format.infRung ∧ rv .f32 (hw n.val) = (n.val : Rat) / 2 := by decide +kernel
theorem hw_ok {n : Nat} (h : n ≤ 300) : hw n < FloatKind.f32.format.infRung ∧ rv .f32 (hw n) = (n : Rat) / 2 := hw_ok0 ⟨n, by omega⟩
theorem one_ok : (1065353216 : Nat) < FloatKind.f32.format.infRung ∧ rv .f32 1065353216 = 1 := by decide +kernel
theorem e32 : eps .f32 = 1 / 8000000 := rfl
/-- Sums and differences of halves are exact. -/
theorem half_add {a b m n : Nat} (fa : isFin .f32 a = true) (fb : isFin .f32 b = true) (ra : rv .f32 a = (m : Rat) / 2) (rb : rv .f32 b = (n : Rat) / 2) (h : m + n ≤ 100) : isFin .f32 (fadd .f32 a b) = true ∧ rv .f32 (fadd .f32 a b) = ((m + n : Nat) : Rat) / 2 := by
  obtain ⟨w1, w2⟩ := hw_ok (show m + n ≤ 300 by omega)
  have hm : (0 : Rat) ≤ (m : Rat) := by exact_mod_cast Nat.zero_le m
  have hn : (0 : Rat) ≤ (n : Rat) := by exact_mod_cast Nat.zero_le n
  have e : ((m + n : Nat) : Rat) = (m : Rat) + n := Rat.natCast_add _ _
  obtain ⟨c1, c2, c3⟩ := add_cap .f32 fa fb w1 (by rw [ra, rb]; grind) (by rw [ra, rb, w2, e]; grind)
  have c4 := add_floor .f32 fa fb w1 c1 c2 (by rw [ra, rb, w2, e]; grind)
  rw [w2] at c3 c4
  exact ⟨c1, Rat.le_antisymm c3 c4⟩
theorem half_sub {a b m n : Nat} (fa : isFin .f32 a = true) (fb : isFin .f32 b = true) (ra : rv .f32 a = (m : Rat) / 2) (rb : rv .f32 b = (n : Rat) / 2) (h : n ≤ m) (hm : m ≤ 100) : isFin .f32 (fsub .f32 a b) = true ∧ rv .f32 (fsub .f32 a b) = ((m - n : Nat) : Rat) / 2 := by
  obtain ⟨w1, w2⟩ := hw_ok (show m - n ≤ 300 by omega)
  have hk0 : (0 : Rat) ≤ ((m - n : Nat) : Rat) := by exact_mod_cast Nat.zero_le _
  have e : (m : Rat) = ((m - n : Nat) : Rat) + n := by rw [← Rat.natCast_add, Nat.sub_add_cancel h]
  obtain ⟨c1, c2, c3⟩ := sub_cap .f32 fa fb w1 (by rw [ra, rb, e]; grind) (by rw [ra, rb, w2, e]; grind)
  have c4 := sub_floor .f32 fa fb w1 c1 c2 (by rw [ra, rb, w2, e]; grind)
  rw [w2] at c3 c4
  exact ⟨c1, Rat.le_antisymm c3 c4⟩
/-- A segment: from (p, q) to (p', q'), in halves. -/
noncomputable def segW (xa xb ya yb s : Nat) : Nat := fadd .f32 ya (fmul .f32 (fdiv .f32 (fsub .f32 s xa) (fsub .f32 xb xa)) (fsub .f32 yb ya))
theorem seg_ok {xa xb ya yb s p p' q q' : Nat} (fxa : isFin .f32 xa = true) (fxb : isFin .f32 xb = true) (fya : isFin .f32 ya = true) (fyb : isFin .f32 yb = true) (fs : isFin .f32 s = true) (rxa : rv .f32 xa = (p : Rat) / 2) (rxb : rv .f32 xb = (p' : Rat) / 2) (rya : rv .f32 ya = (q : Rat) / 2) (ryb : rv .f32 yb = (q' : Rat) / 2) (hp : p < p') (hp9 : p' ≤ 100) (hq : q ≤ q') (hq9 : q' ≤ 100) (hq8 : q' ≤ q + 8) (s0 : rv .f32 xa ≤ rv .f32 s) (s1 : rv .f32 s ≤ rv .f32 xb) :
    isFin .f32 (segW xa xb ya yb s) = true ∧ rv .f32 ya ≤ rv .f32 (segW xa xb ya yb s) ∧ rv .f32 (segW xa xb ya yb s) ≤ rv .f32 yb ∧
    rv .f32 ya + (rv .f32 s - rv .f32 xa) / (rv .f32 xb - rv .f32 xa) * (rv .f32 yb - rv .f32 ya) - 1 / 1000 ≤ rv .f32 (segW xa xb ya yb s) ∧ rv .f32 (segW xa xb ya yb s) ≤ rv .f32 ya + (rv .f32 s - rv .f32 xa) / (rv .f32 xb - rv .f32 xa) * (rv .f32 yb - rv .f32 ya) + 1 / 1000 := by
  obtain ⟨dx1, dx2⟩ := half_sub fxb fxa rxb rxa (by omega) hp9
  obtain ⟨dy1, dy2⟩ := half_sub fyb fya ryb rya hq hq9
  obtain ⟨wx1, wx2⟩ := hw_ok (show p' - p ≤ 300 by omega)
  obtain ⟨wy1, wy2⟩ := hw_ok (show q' - q ≤ 300 by omega)
  obtain ⟨wq1, wq2⟩ := hw_ok (show q' ≤ 300 by omega)
  obtain ⟨wa1, wa2⟩ := hw_ok (show q ≤ 300 by omega)
  have ep : (p' : Rat) = ((p' - p : Nat) : Rat) + p := by rw [← Rat.natCast_add, Nat.sub_add_cancel (by omega)]
  have eq : (q' : Rat) = ((q' - q : Nat) : Rat) + q := by rw [← Rat.natCast_add, Nat.sub_add_cancel hq]
  have hd1 : (1 : Rat) ≤ ((p' - p : Nat) : Rat) := by exact_mod_cast (show 1 ≤ p' - p by omega)
  have hd9 : ((p' - p : Nat) : Rat) ≤ 100 := by
    have h : ((p' - p : Nat) : Rat) ≤ ((100 : Nat) : Rat) := by exact_mod_cast (show p' - p ≤ 100 by omega)
    exact h
  have hq0 : (0 : Rat) ≤ ((q' - q : Nat) : Rat) := by exact_mod_cast Nat.zero_le _
  have hqd9 : ((q' - q : Nat) : Rat) ≤ 8 := by
    have h : ((q' - q : Nat) : Rat) ≤ ((8 : Nat) : Rat) := by exact_mod_cast (show q' - q ≤ 8 by omega)
    exact h
  have hq00 : (0 : Rat) ≤ (q : Rat) := by exact_mod_cast Nat.zero_le _
  have hq99 : (q : Rat) ≤ 100 := by
    have h : ((q : Nat) : Rat) ≤ ((100 : Nat) : Rat) := by exact_mod_cast (show q ≤ 100 by omega)
    exact h
  rw [rxa] at s0
  rw [rxb, ep] at s1
  rw [rya, ryb, rxa, rxb, ep, eq]
  generalize ((p' - p : Nat) : Rat) = dp at *
  generalize ((q' - q : Nat) : Rat) = dq at *
  -- how far along
  obtain ⟨a1, a2, a3⟩ := sub_cap .f32 fs fxa wx1 (by rw [rxa]; grind) (by rw [rxa, wx2]; grind)
  have an := sub_rv .f32 fs fxa 60 (by rw [rxa]; grind) (by rw [rxa]; grind) (by decide +kernel)
  have an1 := an.lo
  have an2 := an.hi
  rw [rxa, e32] at an1 an2
  rw [wx2] at a3
  generalize hU : rv .f32 (fsub .f32 s xa) = U at *
  generalize rv .f32 s = S at *
  -- the share
  have bx : U / (dp / 2) * (dp / 2) = U := Rat.div_mul_cancel (by grind)
  have b0 : 0 ≤ U / (dp / 2) := by
    rcases Rat.le_total (a := 0) (b := U / (dp / 2)) with h | h
    · exact h
    · have := Rat.mul_le_mul_of_nonneg_right h (show (0 : Rat) ≤ dp / 2 by grind)
      have z : U = 0 := by grind
      rw [z, Rat.div_def, Rat.zero_mul]; exact Rat.le_refl
  obtain ⟨r1, r2, r3⟩ := div_cap .f32 a1 dx1 one_ok.1 (by rw [hU]; exact a2) (by rw [dx2]; grind) (by rw [hU, dx2, one_ok.2]; grind)
  rw [one_ok.2] at r3
  have b1 : U / (dp / 2) ≤ 1 := by
    rcases Rat.le_total (a := U / (dp / 2)) (b := 1) with h | h
    · exact h
    · have := Rat.mul_le_mul_of_nonneg_right h (show (0 : Rat) ≤ dp / 2 by grind)
      have e : (U / (dp / 2) - 1) * (dp / 2) = 0 := by grind
      rcases Rat.mul_eq_zero.1 e with g | g
      · grind
      · exfalso; grind
  have rn := div_rv .f32 a1 dx1 (by rw [dx2]; grind) (U / (dp / 2)) 2 (by rw [dx2, hU]; exact bx) (by grind) (by grind) (by decide +kernel)
  have rn1 := rn.lo
  have rn2 := rn.hi
  rw [e32] at rn1 rn2
  generalize hR : rv .f32 (fdiv .f32 (fsub .f32 s xa) (fsub .f32 xb xa)) = R at *
  -- the rise
  have hRd : R * (dq / 2) ≤ 1 * (dq / 2) := Rat.mul_le_mul_of_nonneg_right r3 (by grind)
  have hRd0 : 0 ≤ R * (dq / 2) := Rat.mul_nonneg r2 (by grind)
  obtain ⟨m1, m2, m3⟩ := mul_cap .f32 r1 dy1 wy1 (by rw [hR]; exact r2) (by rw [dy2]; grind) (by rw [hR, dy2, wy2]; grind)
  rw [wy2] at m3
  have mn := mul_rv .f32 r1 dy1 60 (by rw [hR, dy2]; grind) (by rw [hR, dy2]; grind) (by decide +kernel)
  have mn1 := mn.lo
  have mn2 := mn.hi
  rw [hR, dy2, e32] at mn1 mn2
  generalize hM : rv .f32 (fmul .f32 (fdiv .f32 (fsub .f32 s xa) (fsub .f32 xb xa)) (fsub .f32 yb ya)) = M at *
  -- the sum
  obtain ⟨c1, c2, c3⟩ := add_cap .f32 fya m1 wq1 (by rw [rya, hM]; grind) (by rw [rya, hM, wq2, eq]; grind)
  have c4 := add_floor .f32 fya m1 wa1 c1 c2 (by rw [rya, hM, wa2]; grind)
  have cn := add_rv .f32 fya m1 110 (by rw [rya, hM]; grind) (by rw [rya, hM]; grind) (by decide +kernel)
  have cn1 := cn.lo
  have cn2 := cn.hi
  rw [rya, hM, e32] at cn1 cn2
  rw [wq2, eq] at c3
  rw [wa2] at c4
  change isFin .f32 (segW xa xb ya yb s) = true at c1
  change rv .f32 (segW xa xb ya yb s) ≤ _ at c3
  change _ ≤ rv .f32 (segW xa xb ya yb s) at c4
  change _ ≤ rv .f32 (segW xa xb ya yb s) at cn1
  change rv .f32 (segW xa xb ya yb s) ≤ _ at cn2
  generalize rv .f32 (segW xa xb ya yb s) = W at *
  have fin : (S - (p : Rat) / 2) / ((dp + p) / 2 - (p : Rat) / 2) = (S - (p : Rat) / 2) / (dp / 2) := by congr 1; grind
  rw [fin, show (dq + (q : Rat)) / 2 - (q : Rat) / 2 = dq / 2 by grind]
  have bx2 : (S - (p : Rat) / 2) / (dp / 2) * (dp / 2) = S - (p : Rat) / 2 := Rat.div_mul_cancel (by grind)
  generalize (S - (p : Rat) / 2) / (dp / 2) = Z at *
  generalize U / (dp / 2) = Y at *
  -- shares that are next to each other
  have near1 : Z - 2 / 100000 ≤ Y := by
    rcases Rat.le_total (a := Z - 2 / 100000) (b := Y) with h | h
    · exact h
    · have := Rat.mul_le_mul_of_nonneg_right h (show (0 : Rat) ≤ dp / 2 by grind)
      exfalso; grind
  have near2 : Y ≤ Z + 2 / 100000 := by
    rcases Rat.le_total (a := Y) (b := Z + 2 / 100000) with h | h
    · exact h
    · have := Rat.mul_le_mul_of_nonneg_right h (show (0 : Rat) ≤ dp / 2 by grind)
      exfalso; grind
  have f1 : (Z - 3 / 100000) * (dq / 2) ≤ R * (dq / 2) := Rat.mul_le_mul_of_nonneg_right (by grind) (by grind)
  have f2 : R * (dq / 2) ≤ (Z + 3 / 100000) * (dq / 2) := Rat.mul_le_mul_of_nonneg_right (by grind) (by grind)
  refine ⟨c1, c4, c3, by grind, by grind⟩
end Go.Proofs.Ytpglfnkkmafhbaa
