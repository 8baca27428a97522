/- Lakes: the law. -/
import Derived.Test.YtpglfnkkmafhbaaBq
set_option linter.unusedVariables false
set_option linter.unusedSectionVars false
set_option linter.unusedSimpArgs false
set_option linter.constructorNameAsVariable false
namespace Go.Proofs.Ytpglfnkkmafhbaa
open Go.RowKit
set_option maxRecDepth 100000
theorem consts64 : (isFin .f64 4576918229304087675 = true ∧ 1 / 100 - 1 / 10 ^ 12 ≤ rv .f64 4576918229304087675 ∧ rv .f64 4576918229304087675 ≤ 1 / 100 + 1 / 10 ^ 12) ∧ (isFin .f64 4593671619917905920 = true ∧ rv .f64 4593671619917905920 = 1 / 8) := by decide +kernel
theorem c_one : isFin .f32 1065353216 = true ∧ rv .f32 1065353216 = 1 := by decide +kernel
theorem long_parts {c m : List Int} (h : wb10Long c m = false) : c.length ≤ 1048576 ∧ m.length ≤ 1048576 := by
  unfold wb10Long wb10Long_t at h
  by_cases h1 : ((c.length : Nat) : Int) > 1048576
  · simp [Tr.val, h1] at h
  · simp [Tr.val, h1] at h; omega
theorem not_lt {k : FloatKind} {a b : Nat} (fa : isFin k a = true) (fb : isFin k b = true) (h : rv k b ≤ rv k a) : flt k a b = false := by
  cases e : flt k a b with
  | false => rfl
  | true => have := (flt_rv k fa fb).1 e; exfalso; grind
theorem not_gt {k : FloatKind} {a b : Nat} (fa : isFin k a = true) (fb : isFin k b = true) (h : rv k a ≤ rv k b) : fgt k a b = false := by
  cases e : fgt k a b with
  | false => rfl
  | true => have := (fgt_rv k fa fb).1 e; exfalso; grind
/-- What is weighed: the change. -/
theorem change {S i n w u : Nat} (fS : isFin .f32 S = true) (fi : isFin .f32 i = true) (fn : isFin .f32 n = true) (fw : isFin .f32 w = true) (fu : isFin .f32 u = true) (S0 : 0 ≤ rv .f32 S) (S9 : rv .f32 S ≤ 18) (i0 : 0 ≤ rv .f32 i) (i2 : rv .f32 i ≤ 2) (n0 : 0 ≤ rv .f32 n) (n2 : rv .f32 n ≤ 2) (w0 : 0 ≤ rv .f32 w) (w8 : rv .f32 w ≤ 8) (u0 : 0 ≤ rv .f32 u) (u8 : rv .f32 u ≤ 8) :
    isFin .f64 (fadd .f64 (fup S) (fmul .f64 4593671619917905920 (fsub .f64 (fsub .f64 (fadd .f64 (fup i) (fup n)) (fup w)) (fup u)))) = true ∧
    rv .f32 S + (rv .f32 i + rv .f32 n - rv .f32 w - rv .f32 u) / 8 - 1 / 10 ^ 9 ≤ rv .f64 (fadd .f64 (fup S) (fmul .f64 4593671619917905920 (fsub .f64 (fsub .f64 (fadd .f64 (fup i) (fup n)) (fup w)) (fup u)))) ∧
    rv .f64 (fadd .f64 (fup S) (fmul .f64 4593671619917905920 (fsub .f64 (fsub .f64 (fadd .f64 (fup i) (fup n)) (fup w)) (fup u)))) ≤ rv .f32 S + (rv .f32 i + rv .f32 n - rv .f32 w - rv .f32 u) / 8 + 1 / 10 ^ 9 := by
  obtain ⟨_, k1, k2⟩ := consts64
  obtain ⟨gS, rS⟩ := fup_rv fS
  obtain ⟨gi, ri⟩ := fup_rv fi
  obtain ⟨gn, rn⟩ := fup_rv fn
  obtain ⟨gw, rw'⟩ := fup_rv fw
  obtain ⟨gu, ru⟩ := fup_rv fu
  have a := add_rv .f64 gi gn 5 (by rw [ri, rn]; grind) (by rw [ri, rn]; grind) (by decide +kernel)
  have a1 := a.lo
  have a2 := a.hi
  rw [ri, rn, eps64] at a1 a2
  generalize hA : rv .f64 (fadd .f64 (fup i) (fup n)) = A at a1 a2
  have b := sub_rv .f64 a.fin gw 20 (by rw [hA, rw']; grind) (by rw [hA, rw']; grind) (by decide +kernel)
  have b1 := b.lo
  have b2 := b.hi
  rw [hA, rw', eps64] at b1 b2
  generalize hB : rv .f64 (fsub .f64 (fadd .f64 (fup i) (fup n)) (fup w)) = B at b1 b2
  have c := sub_rv .f64 b.fin gu 30 (by rw [hB, ru]; grind) (by rw [hB, ru]; grind) (by decide +kernel)
  have c1 := c.lo
  have c2 := c.hi
  rw [hB, ru, eps64] at c1 c2
  generalize hC : rv .f64 (fsub .f64 (fsub .f64 (fadd .f64 (fup i) (fup n)) (fup w)) (fup u)) = C at c1 c2
  have d := mul_rv .f64 k1 c.fin 30 (by rw [k2, hC]; grind) (by rw [k2, hC]; grind) (by decide +kernel)
  have d1 := d.lo
  have d2 := d.hi
  rw [k2, hC, eps64] at d1 d2
  generalize hD : rv .f64 (fmul .f64 4593671619917905920 (fsub .f64 (fsub .f64 (fadd .f64 (fup i) (fup n)) (fup w)) (fup u))) = D at d1 d2
  have e := add_rv .f64 gS d.fin 60 (by rw [hD, rS]; grind) (by rw [hD, rS]; grind) (by decide +kernel)
  have e1 := e.lo
  have e2 := e.hi
  rw [hD, rS, eps64] at e1 e2
  exact ⟨e.fin, by grind, by grind⟩
/-- **LAKES.** -/
theorem pureFnLakes (x0 x1 : List Int) (h0 : List.length x0 ≤ 9223372036854775807 ∧ ∀ x : Int, List.Mem x x0 → (Lit.int .u8 x).wf = true) (h1 : List.length x1 ≤ 9223372036854775807 ∧ ∀ x : Int, List.Mem x x1 → (Lit.int .u8 x).wf = true) : wFnLakes x0 x1 = some true := by
  unfold wFnLakes
  simp only [wFnLakes_t, Tr.sem]
  cases hL : wb10Long x0 x1 with
  | true => rfl
  | false =>
  obtain ⟨la, lb⟩ := long_parts hL
  have hc := bytes_of la h0.2
  have hm := bytes_of lb h1.2
  obtain ⟨xs, ys, P, Q, dr, h, h2, h5⟩ := lake_drawn hc
  obtain ⟨v1, a1, a2, a3⟩ := A_at hm 0 (by omega) 9 (by omega) (by omega)
  obtain ⟨v2, b1, b2, b3⟩ := A_at hm 1 (by omega) 9 (by omega) (by omega)
  obtain ⟨v3, c1, c2, c3⟩ := A_at hm 2 (by omega) 9 (by omega) (by omega)
  obtain ⟨v4, d1, d2, d3⟩ := A_at hm 3 (by omega) 8 (by omega) (by omega)
  have a1' : wb10At x1 0 9 = some v1 := a1
  have b1' : wb10At x1 1 9 = some v2 := b1
  have c1' : wb10At x1 2 9 = some v3 := c1
  have d1' : wb10At x1 3 8 = some v4 := d1
  obtain ⟨f1, e1⟩ : ∃ f : Fin 9, (f.val : Int) = v1 := ⟨⟨v1.toNat, by omega⟩, by simp; omega⟩
  obtain ⟨f2, e2⟩ : ∃ f : Fin 9, (f.val : Int) = v2 := ⟨⟨v2.toNat, by omega⟩, by simp; omega⟩
  obtain ⟨f3, e3⟩ : ∃ f : Fin 9, (f.val : Int) = v3 := ⟨⟨v3.toNat, by omega⟩, by simp; omega⟩
  obtain ⟨n, hn⟩ : ∃ n : Nat, (n : Int) = 1 + v4 := ⟨(1 + v4).toNat, by omega⟩
  have w1 : IntKind.wrap .i64 (1 + v4) = (n : Int) := by rw [wrap_id (by omega) (by omega)]; omega
  obtain ⟨ins, q1, q2, q3⟩ := rain hm n (by omega)
  have so := store_ok h h2 h5 f1
  rw [e1] at so
  have ri := rain9 f2
  have rn := rain9 f3
  rw [e2] at ri
  rw [e3] at rn
  obtain ⟨S, hS⟩ : ∃ S, fadd .f32 (xs.getD 0 0) (fdiv .f32 (fmul .f32 (fsub .f32 (xs.getD (xs.length - 1) 0) (xs.getD 0 0)) (FloatKind.nearest .f32 v1)) 1090519040) = S := ⟨_, rfl⟩
  obtain ⟨I, hI⟩ : ∃ I, fdiv .f32 (FloatKind.nearest .f32 v2) 1082130432 = I := ⟨_, rfl⟩
  obtain ⟨N, hN⟩ : ∃ N, fdiv .f32 (FloatKind.nearest .f32 v3) 1082130432 = N := ⟨_, rfl⟩
  rw [hS] at so
  rw [hI] at ri
  rw [hN] at rn
  obtain ⟨fS, s0, s1⟩ := so
  obtain ⟨fI, i0⟩ := mass_iff.1 ri.1
  obtain ⟨fN, n0⟩ := mass_iff.1 rn.1
  obtain ⟨fx0, x00, x01⟩ := x_range h h2 h5 (show 0 < xs.length by omega)
  obtain ⟨fx9, x90, x91⟩ := x_range h h2 h5 (show xs.length - 1 < xs.length by omega)
  obtain ⟨fy0, _, _⟩ := y_range h h2 h5 (show 0 < xs.length by omega)
  obtain ⟨fy9, _, _⟩ := y_range h h2 h5 (show xs.length - 1 < xs.length by omega)
  have S1 := add_rv .f32 fS c_one.1 20 (by rw [c_one.2]; grind) (by rw [c_one.2]; grind) (by decide +kernel)
  have S1l := S1.lo
  rw [c_one.2, e32] at S1l
  obtain ⟨w, o1, o2, o3⟩ := lake_out_ok h h2 h5 fS
  obtain ⟨w', p1, p2, p3⟩ := lake_out_ok h h2 h5 S1.fin
  obtain ⟨lo, wl, wb, r, r1, r2, r3, r4, r5, r6⟩ := step_ok h h2 h5 fS s0 s1 ri.1 rn.1 ri.2 rn.2
  obtain ⟨u, u1, u2, u3⟩ := lake_out_ok h h2 h5 r1
  obtain ⟨fw, w0, w8⟩ := out_small h h2 h5 fS o3
  obtain ⟨fw', _, _⟩ := out_small h h2 h5 S1.fin p3
  obtain ⟨fu, u0, u8⟩ := out_small h h2 h5 r1 u3
  have t1 : flt .f32 w' w = false := not_lt fw' fw (out_mono h h2 h5 fS S1.fin o3 p3 (by grind))
  obtain ⟨_, y0, y9⟩ := out_range h h2 h5 fS o3
  have t2 : flt .f32 w (ys.getD 0 0) = false := not_lt fw fy0 y0
  have t3 : fgt .f32 w (ys.getD (xs.length - 1) 0) = false := not_gt fw fy9 y9
  have t4 : flt .f32 lo (xs.getD 0 0) = false := not_lt r1 fx0 r2
  have t5 : fgt .f32 lo (xs.getD (xs.length - 1) 0) = false := not_gt r1 fx9 r3
  have n1 := out_near h h2 h5 r1 r1 r4 u3 (by grind)
  have n2 := out_near h h2 h5 r1 r1 u3 r4 (by grind)
  have n3 := out_near h h2 h5 fS fS r5 o3 (by grind)
  have n4 := out_near h h2 h5 fS fS o3 r5 (by grind)
  obtain ⟨⟨k1, k2, k3⟩, _⟩ := consts64
  obtain ⟨gl, rl⟩ := fup_rv r1
  obtain ⟨g0, r0⟩ := fup_rv fx0
  obtain ⟨g9, r9⟩ := fup_rv fx9
  have A := add_rv .f64 g0 k1 30 (by unfold xR at *; rw [r0]; grind) (by unfold xR at *; rw [r0]; grind) (by decide +kernel)
  have B := sub_rv .f64 g9 k1 30 (by unfold xR at *; rw [r9]; grind) (by unfold xR at *; rw [r9]; grind) (by decide +kernel)
  have gap : fgt .f64 (fup lo) (fadd .f64 (fup (xs.getD 0 0)) 4576918229304087675) = true → flt .f64 (fup lo) (fsub .f64 (fup (xs.getD (xs.length - 1) 0)) 4576918229304087675) = true →
      fgt .f64 (wb10Gap (fup lo) (fadd .f64 (fup S) (fmul .f64 4593671619917905920 (fsub .f64 (fsub .f64 (fadd .f64 (fup I) (fup N)) (fup w)) (fup u))))) 4576918229304087675 = false := fun ga gb => by
    have ga' := (fgt_rv .f64 gl A.fin).1 ga
    have gb' := (flt_rv .f64 gl B.fin).1 gb
    have A1 := A.lo
    have B1 := B.hi
    rw [r0, eps64] at A1
    rw [r9, eps64] at B1
    rw [rl] at ga' gb'
    unfold xR at *
    obtain ⟨j1, j2⟩ := r6 (by grind) (by grind)
    obtain ⟨m1, m2, m3⟩ := change fS fI fN fw fu (by grind) (by grind) i0 ri.2 n0 rn.2 w0 w8 u0 u8
    obtain ⟨z1, z2⟩ := gap_rv gl m1 100 (by rw [rl]; grind) (by rw [rl]; grind) (by decide +kernel)
    have z3 := z2 (9 / 1000) (by rw [rl]; grind) (by rw [rl]; grind)
    rw [eps64] at z3
    exact not_gt z1 k1 (by grind)
  have hl := h.len
  have z1 : (decide ((0 : Int) ≤ 0) && decide ((0 : Int) < (xs.length : Int))) = true := by simp; omega
  have z2 : (decide ((0 : Int) ≤ 0) && decide ((0 : Int) < (ys.length : Int))) = true := by simp; omega
  have z5 : (decide ((0 : Int) ≤ 0) && decide ((0 : Int) < (ins.length : Int))) = true := by simp; omega
  have hw : IntKind.wrap .i64 ((xs.length : Int) - 1) = ((xs.length - 1 : Nat) : Int) := by rw [wrap_id (by omega) (by omega)]; omega
  have z3 : (decide ((0 : Int) ≤ ((xs.length - 1 : Nat) : Int)) && decide (((xs.length - 1 : Nat) : Int) < (xs.length : Int))) = true := inRange (by omega)
  have z4 : (decide ((0 : Int) ≤ ((xs.length - 1 : Nat) : Int)) && decide (((xs.length - 1 : Nat) : Int) < (ys.length : Int))) = true := inRange (by omega)
  have rt := route_ok h h2 h5 q3 fS s0 s1 (by omega) (by omega)
  have lp := l26_ok h h2 h5 q3 fS s0 s1 (by omega)
  have sg := sL_get xs ys ins S ins.length 0 (by omega)
  have s00 : sT xs ys ins S 0 = S := rfl
  have fe : feq .f32 S S = true := (feq_rv .f32 fS fS).2 rfl
  have val := lake_valid h h2 h5
  have sam := same_lake xs ys (by omega) (by omega)
  have zz : Int.toNat 0 = 0 := rfl
  cases hA : fgt .f64 (fup lo) (fadd .f64 (fup (xs.getD 0 0)) 4576918229304087675) with
  | false => simp only [wFnLakes_o10, wFnLakes_o11, wFnLakes_o12, wFnLakes_o13, wFnLakes_o14, wFnLakes_o15, wFnLakes_o16, wFnLakes_o17, wFnLakes_o18, wFnLakes_o19, wFnLakes_o20, wFnLakes_o21, wFnLakes_o22, wFnLakes_o23, wFnLakes_o24, wFnLakes_o25, wFnLakes_o26, wFnLakes_o27, wFnLakes_o28, wFnLakes_o29, wFnLakes_o30, wFnLakes_o31, Tr.sem, dr, a1', b1', c1', d1', w1, q1, z1, z2, z3, z4, z5, hw, zz, Int.toNat_natCast, hS, hI, hN, o1, p1, r, u1, val, sam, t1, t2, t3, t4, t5, hA, rt, sL_len, oL_len, sg, s00, fe, lp, osome, oget, isL, unR, unL, bne_self_eq_false, Bool.not_true, beq_self_eq_true, cond_true, cond_false]
  | true =>
  cases hB : flt .f64 (fup lo) (fsub .f64 (fup (xs.getD (xs.length - 1) 0)) 4576918229304087675) with
  | false => simp only [wFnLakes_o10, wFnLakes_o11, wFnLakes_o12, wFnLakes_o13, wFnLakes_o14, wFnLakes_o15, wFnLakes_o16, wFnLakes_o17, wFnLakes_o18, wFnLakes_o19, wFnLakes_o20, wFnLakes_o21, wFnLakes_o22, wFnLakes_o23, wFnLakes_o24, wFnLakes_o25, wFnLakes_o26, wFnLakes_o27, wFnLakes_o28, wFnLakes_o29, wFnLakes_o30, wFnLakes_o31, Tr.sem, dr, a1', b1', c1', d1', w1, q1, z1, z2, z3, z4, z5, hw, zz, Int.toNat_natCast, hS, hI, hN, o1, p1, r, u1, val, sam, t1, t2, t3, t4, t5, hA, hB, rt, sL_len, oL_len, sg, s00, fe, lp, osome, oget, isL, unR, unL, bne_self_eq_false, Bool.not_true, beq_self_eq_true, cond_true, cond_false]
  | true =>
    have gp := gap hA hB
    simp only [wFnLakes_o10, wFnLakes_o11, wFnLakes_o12, wFnLakes_o13, wFnLakes_o14, wFnLakes_o15, wFnLakes_o16, wFnLakes_o17, wFnLakes_o18, wFnLakes_o19, wFnLakes_o20, wFnLakes_o21, wFnLakes_o22, wFnLakes_o23, wFnLakes_o24, wFnLakes_o25, wFnLakes_o26, wFnLakes_o27, wFnLakes_o28, wFnLakes_o29, wFnLakes_o30, wFnLakes_o31, Tr.sem, dr, a1', b1', c1', d1', w1, q1, z1, z2, z3, z4, z5, hw, zz, Int.toNat_natCast, hS, hI, hN, o1, p1, r, u1, val, sam, t1, t2, t3, t4, t5, hA, hB, gp, rt, sL_len, oL_len, sg, s00, fe, lp, osome, oget, isL, unR, unL, bne_self_eq_false, Bool.not_true, beq_self_eq_true, cond_true, cond_false]
end Go.Proofs.Ytpglfnkkmafhbaa
