/- Behind a dam that breaks: the law. -/
import Derived.Test.YtpglfnkkmafhbaaBa
set_option linter.unusedVariables false
set_option linter.unusedSimpArgs false
set_option linter.constructorNameAsVariable false
namespace Go.Proofs.Ytpglfnkkmafhbaa
open Go.RowKit
set_option maxRecDepth 100000
def bytesL (c : List Int) : Prop := c.length ≤ 9223372036854775807 ∧ ∀ x ∈ c, 0 ≤ x ∧ x ≤ 255
theorem byte_at {c : List Int} (h : bytesL c) {i : Nat} (hi : i < c.length) : 0 ≤ c.getD i 0 ∧ c.getD i 0 ≤ 255 := by
  rw [List.getD_eq_getElem?_getD, List.getElem?_eq_getElem hi]; exact h.2 _ (List.getElem_mem hi)
theorem bytes_wf {l : List Int} (hs : l.length ≤ 9223372036854775807) (h : ∀ x : Int, List.Mem x l → (Lit.int .u8 x).wf = true) : bytesL l := ⟨hs, fun x hx => by
  have := h x hx
  simp only [Lit.wf, Bool.and_eq_true, decide_eq_true_eq] at this
  have e1 : IntKind.u8.min = 0 := rfl
  have e2 : IntKind.u8.max = 255 := rfl
  omega⟩
theorem A_at {c : List Int} (hc : bytesL c) (k : Nat) (hk : k ≤ 1048576) (n : Int) (hn : 2 ≤ n) (hn2 : n ≤ 1000000) : ∃ v, wb10At c k n = some v ∧ 0 ≤ v ∧ v < n := by
  unfold wb10At wb10At_t
  have hne : decide (n ≠ (0 : Int)) = true := by simp only [decide_eq_true_eq]; omega
  simp only [decide_eq_false (show ¬ n ≤ 1 by omega), Tr.sem, cond_false, hne, cond_true]
  by_cases h1 : k < c.length
  · obtain ⟨b0, b1⟩ := byte_at hc h1
    have hb : IntKind.wrap .i64 (c.getD k 0) = c.getD k 0 := wrap_id (by omega) (by omega)
    simp only [ltRange h1, zeroLe, Bool.and_self, cond_true, Int.toNat_natCast, hb]
    exact ⟨_, rfl, Int.tmod_nonneg _ b0, Int.tmod_lt_of_pos _ (by omega)⟩
  · have hw1 : IntKind.wrap .i64 ((k : Int) * 37) = (k : Int) * 37 := wrap_id (by omega) (by omega)
    have hw2 : IntKind.wrap .i64 ((k : Int) * 37 + 11) = (k : Int) * 37 + 11 := wrap_id (by omega) (by omega)
    simp only [decide_eq_false (show ¬ ((k : Int) < (c.length : Int)) by omega), cond_false, hw1, hw2]
    exact ⟨_, rfl, Int.tmod_nonneg _ (by omega), Int.tmod_lt_of_pos _ (by omega)⟩
theorem broken_eq (x0 x1 x2 : Nat) : ibroken x0 x1 x2 = (depB x0 (fneg .f32 (cW x0)) (fmul .f32 1073741824 (cW x0)) (fdiv .f32 x1 x2), spdB (cW x0) (fneg .f32 (cW x0)) (fmul .f32 1073741824 (cW x0)) (fdiv .f32 x1 x2)) := by
  unfold ibroken ibroken_t depB spdB cW
  cases fle .f32 (fdiv .f32 x1 x2) (fneg .f32 (froot (fmul .f32 1092416963 x0))) <;> cases fge .f32 (fdiv .f32 x1 x2) (fmul .f32 1073741824 (froot (fmul .f32 1092416963 x0))) <;> rfl
theorem lens_ok {x y : Nat} (hx : isLen x = true) (hy : isLen y = true) : iareLengths [x, y] = some true := by
  have h : iareLengths_l2 [x, y] 2 0 = some (.inr ()) := by
    unfold iareLengths_l2
    refine (runL_in (s' := 1) ?_).trans ((runL_in (s' := 2) ?_).trans (runL_out ?_))
    · simp only [iareLengths_l2_t, Tr.sem, show decide ((0 : Int) < 2) = true from rfl, show (decide ((0 : Int) ≤ 0) && decide ((0 : Int) < (([x, y].length : Nat) : Int))) = true from rfl, cond_true, show [x, y].getD (Int.toNat 0) 0 = x from rfl, hx, Bool.not_true, cond_false]; rfl
    · simp only [iareLengths_l2_t, Tr.sem, show decide ((1 : Int) < 2) = true from rfl, show (decide ((0 : Int) ≤ 1) && decide ((1 : Int) < (([x, y].length : Nat) : Int))) = true from rfl, cond_true, show [x, y].getD (Int.toNat 1) 0 = y from rfl, hy, Bool.not_true, cond_false]; rfl
    · simp only [iareLengths_l2_t, Tr.sem, show decide ((2 : Int) < 2) = false from rfl, cond_false]
  have h' : iareLengths_l2 [x, y] ((([x, y].length : Nat) : Int)) 0 = some (.inr ()) := h
  unfold iareLengths iareLengths_t
  simp only [h', Tr.sem, osome, oget, isL, cond_true, cond_false]
theorem depth_eq {x0 x1 x2 : Nat} (h0 : isLen x0 = true) (h2 : isLen x2 = true) (h1 : isFin .f32 x1 = true) (hf : isFin .f32 (depB x0 (fneg .f32 (cW x0)) (fmul .f32 1073741824 (cW x0)) (fdiv .f32 x1 x2)) = true) :
    iBreakDepth x0 x1 x2 = some (depB x0 (fneg .f32 (cW x0)) (fmul .f32 1073741824 (cW x0)) (fdiv .f32 x1 x2), true) := by
  unfold iBreakDepth iBreakDepth_t
  simp only [lens_ok h0 h2, h1, broken_eq, ifinite32, ifinite32_t, hf, Tr.sem, Tr.val, osome, oget, Bool.not_true, cond_true, cond_false]
theorem flow_eq {x0 x1 x2 : Nat} (h0 : isLen x0 = true) (h2 : isLen x2 = true) (h1 : isFin .f32 x1 = true) (hf : isFin .f32 (fmul .f32 (depB x0 (fneg .f32 (cW x0)) (fmul .f32 1073741824 (cW x0)) (fdiv .f32 x1 x2)) (spdB (cW x0) (fneg .f32 (cW x0)) (fmul .f32 1073741824 (cW x0)) (fdiv .f32 x1 x2))) = true) :
    iBreakFlow x0 x1 x2 = some (fmul .f32 (depB x0 (fneg .f32 (cW x0)) (fmul .f32 1073741824 (cW x0)) (fdiv .f32 x1 x2)) (spdB (cW x0) (fneg .f32 (cW x0)) (fmul .f32 1073741824 (cW x0)) (fdiv .f32 x1 x2)), true) := by
  unfold iBreakFlow iBreakFlow_t
  simp only [lens_ok h0 h2, h1, broken_eq, ifinite32, ifinite32_t, hf, Tr.sem, Tr.val, osome, oget, Bool.not_true, cond_true, cond_false]
/-- A place over a time. -/
theorem over_time {D2 c2 : Nat} {t C2 : Rat} (h : Deep D2 c2 t C2) {p : Nat} (fp : isFin .f32 p = true) (x : Rat) (hx : x * t = rv .f32 p) (l : -4000 ≤ x) (g : x ≤ 4000) :
    isFin .f32 (fdiv .f32 p D2) = true ∧ x - 1 / 1000 ≤ rv .f32 (fdiv .f32 p D2) ∧ rv .f32 (fdiv .f32 p D2) ≤ x + 1 / 1000 := by
  have d0 := h.d0
  have q := div_rv .f32 fp h.fD (by rw [h.rD]; grind) x 4000 (by rw [h.rD]; exact hx) l g (by decide +kernel)
  have ql := q.lo
  have qh := q.hi
  rw [eps32] at ql qh
  exact ⟨q.fin, by grind, by grind⟩
theorem gap_rv {a b : Nat} (ha : isFin .f64 a = true) (hb : isFin .f64 b = true) (E : Rat) (l1 : -E ≤ rv .f64 a - rv .f64 b) (u1 : rv .f64 a - rv .f64 b ≤ E) (hE : E ≤ 2 ^ 100) :
    isFin .f64 (wb10Gap a b) = true ∧ ∀ e : Rat, rv .f64 a - rv .f64 b ≤ e → rv .f64 b - rv .f64 a ≤ e → rv .f64 (wb10Gap a b) ≤ e + (E * eps .f64 + 1 / 10 ^ 40) := by
  unfold wb10Gap wb10Gap_t
  cases h : flt .f64 a b with
  | true =>
    have s := sub_rv .f64 hb ha E (by grind) (by grind) hE
    have sh := s.hi
    simp only [Tr.val, h, cond_true]
    exact ⟨s.fin, fun e h1 h2 => by grind⟩
  | false =>
    have s := sub_rv .f64 ha hb E l1 u1 hE
    have sh := s.hi
    simp only [Tr.val, h, cond_false]
    exact ⟨s.fin, fun e h1 h2 => by grind⟩
theorem consts64 : (isFin .f64 4607186922399644778 = true ∧ 1001 / 1000 - 1 / 10 ^ 12 ≤ rv .f64 4607186922399644778 ∧ rv .f64 4607186922399644778 ≤ 1001 / 1000 + 1 / 10 ^ 12) ∧ (isFin .f64 4562254508917369340 = true ∧ 1 / 1000 - 1 / 10 ^ 12 ≤ rv .f64 4562254508917369340 ∧ rv .f64 4562254508917369340 ≤ 1 / 1000 + 1 / 10 ^ 12) ∧
    (isFin .f64 4621256167635550208 = true ∧ rv .f64 4621256167635550208 = 9) ∧ (isFin .f64 4616189618054758400 = true ∧ rv .f64 4616189618054758400 = 4) ∧ (isFin .f64 4576918229304087675 = true ∧ 1 / 100 - 1 / 10 ^ 12 ≤ rv .f64 4576918229304087675 ∧ rv .f64 4576918229304087675 ≤ 1 / 100 + 1 / 10 ^ 12) := by decide +kernel
theorem consts32 : (isFin .f32 3129152111 = true ∧ rv .f32 3129152111 ≤ 0) ∧ (isFin .f32 1148846080 = true ∧ rv .f32 1148846080 = 1000) ∧ (isFin .f32 3296329728 = true ∧ rv .f32 3296329728 = -1000) := by decide +kernel
theorem place_of (p : Int) (h0 : 0 ≤ p) (h1 : p < 129) : isFin .f32 (pW p) = true ∧ isFin .f32 (fadd .f32 (pW p) 1056964608) = true ∧ rv .f32 (fadd .f32 (pW p) 1056964608) = rv .f32 (pW p) + 1 / 2 ∧ -16 ≤ rv .f32 (pW p) ∧ rv .f32 (pW p) ≤ 16 := by
  obtain ⟨k, hk⟩ : ∃ k : Fin 129, (k.val : Int) = p := ⟨⟨p.toNat, by omega⟩, by simp; omega⟩
  subst hk
  obtain ⟨a1, a2, a3, a4⟩ := pW_ok0 k
  have hk := fin_rat k
  have hk0 : (0 : Rat) ≤ ((k.val : Nat) : Rat) := by exact_mod_cast Nat.zero_le _
  have e : ((129 : Nat) : Rat) = 129 := rfl
  exact ⟨a1, a2, by rw [a3, a4], by rw [a3]; grind, by rw [a3]; grind⟩
/-- **BREAKS.** -/
theorem pureFnBreaks (x0 x1 : List Int) (h0 : List.length x0 ≤ 9223372036854775807 ∧ ∀ x : Int, List.Mem x x0 → (Lit.int .u8 x).wf = true) (h1 : List.length x1 ≤ 9223372036854775807 ∧ ∀ x : Int, List.Mem x x1 → (Lit.int .u8 x).wf = true) : wFnBreaks x0 x1 = some true := by
  unfold wFnBreaks
  simp only [wFnBreaks_t, Tr.sem]
  cases hL : wb10Long x0 x1 with
  | true => rfl
  | false =>
  have hc := bytes_wf h0.1 h0.2
  have hm := bytes_wf h1.1 h1.2
  obtain ⟨v1, a1, a2, a3⟩ := A_at hc 0 (by omega) 16 (by omega) (by omega)
  obtain ⟨v2, b1, b2, b3⟩ := A_at hc 1 (by omega) 16 (by omega) (by omega)
  obtain ⟨v3, c1, c2, c3⟩ := A_at hm 0 (by omega) 129 (by omega) (by omega)
  have a1' : wb10At x0 0 16 = some v1 := a1
  have b1' : wb10At x0 1 16 = some v2 := b1
  have c1' : wb10At x1 0 129 = some v3 := c1
  obtain ⟨dl, d, C, hD⟩ := deep_of v1 a2 a3
  obtain ⟨tl, t, C2, hT⟩ := deep_of v2 b2 b3
  obtain ⟨p1, p2, p3, p4, p5⟩ := place_of v3 c2 c3
  have t0 := hT.d0
  have t1 := hT.d1
  have d0 := hD.d0
  have d1 := hD.d1
  have cc0 := hD.c0
  have cc1 := hD.c1
  have quo : ∀ y : Rat, y / t * t = y := fun y => Rat.div_mul_cancel (by grind)
  have inv : ∀ y z : Rat, y ≤ z * t → y / t ≤ z := fun y z h => by
    have := quo y
    rcases Rat.le_total (a := y / t) (b := z) with q | q
    · exact q
    · have := Rat.mul_le_mul_of_nonneg_right q (show 0 ≤ t by grind)
      have e : z * t = y / t * t := by grind
      have : z = y / t := by
        have e2 : (y / t - z) * t = 0 := by grind
        rcases Rat.mul_eq_zero.1 e2 with g | g
        · grind
        · exfalso; grind
      rw [← this]; exact Rat.le_refl
  have invl : ∀ y z : Rat, z * t ≤ y → z ≤ y / t := fun y z h => by
    have e := quo y
    rcases Rat.le_total (a := z) (b := y / t) with q | q
    · exact q
    · have := Rat.mul_le_mul_of_nonneg_right q (show 0 ≤ t by grind)
      have : z = y / t := by
        have e2 : (y / t - z) * t = 0 := by grind
        rcases Rat.mul_eq_zero.1 e2 with g | g
        · grind
        · exfalso; grind
      rw [this]; exact Rat.le_refl
  -- the five places over the time
  obtain ⟨u1, u2, u3⟩ := over_time hT p1 (rv .f32 (pW v3) / t) (quo _) (invl _ _ (by grind)) (inv _ _ (by grind))
  obtain ⟨w1, w2, w3⟩ := over_time hT p2 ((rv .f32 (pW v3) + 1 / 2) / t) (by rw [quo, p3]) (invl _ _ (by grind)) (inv _ _ (by grind))
  obtain ⟨m1, m2, m3⟩ := over_time hT zero_rv.1 0 (by rw [zero_rv.2]; grind) (by grind) (by grind)
  obtain ⟨k1, k2, k3⟩ := over_time hT consts32.2.2.1 (-1000 / t) (by rw [quo, consts32.2.2.2]) (invl _ _ (by grind)) (inv _ _ (by grind))
  obtain ⟨j1, j2, j3⟩ := over_time hT consts32.2.1.1 (1000 / t) (by rw [quo, consts32.2.1.2]) (invl _ _ (by grind)) (inv _ _ (by grind))
  have step : rv .f32 (pW v3) / t + 1 / 8 ≤ (rv .f32 (pW v3) + 1 / 2) / t := invl _ _ (by have := quo (rv .f32 (pW v3)); grind)
  have hw0 : rv .f32 (pW v3) / t ≤ 64 := inv _ _ (by grind)
  have hw1 : -64 ≤ rv .f32 (pW v3) / t := invl _ _ (by grind)
  have hw2 : (rv .f32 (pW v3) + 1 / 2) / t ≤ 66 := inv _ _ (by grind)
  have hk0 : -1000 / t ≤ -250 := inv _ _ (by grind)
  have hj0 : 250 ≤ 1000 / t := invl _ _ (by grind)
  have hk9 : -4000 ≤ -1000 / t := invl _ _ (by grind)
  have hj9 : 1000 / t ≤ 4000 := inv _ _ (by grind)
  -- the answers
  obtain ⟨fa, pa, qa⟩ := dep_cases hD u1 (by grind) (by grind)
  obtain ⟨fb, pb, qb⟩ := dep_cases hD w1 (by grind) (by grind)
  obtain ⟨f0, p0, q0⟩ := dep_cases hD m1 (by grind) (by grind)
  obtain ⟨fw, pw, qw⟩ := dep_cases hD k1 (by grind) (by grind)
  obtain ⟨fd, pd, qd⟩ := dep_cases hD j1 (by grind) (by grind)
  obtain ⟨la1, la2⟩ := dep_le hD u1 (by grind) (by grind)
  have down := dep_down hD u1 (by grind) (by grind) w1 (by grind) (by grind) (by grind)
  obtain ⟨sa, ps, ls⟩ := spd_ok hD u1 (by grind) (by grind)
  obtain ⟨sd, pds, lds⟩ := spd_ok hD j1 (by grind) (by grind)
  have hwet : depB (dW v1) (fneg .f32 (cW (dW v1))) (fmul .f32 1073741824 (cW (dW v1))) (fdiv .f32 3296329728 (dW v2)) = dW v1 := by
    rcases qw with ⟨_, e⟩ | ⟨g, _⟩ | ⟨g, _, _, _⟩
    · exact e
    · exfalso; grind
    · exfalso; grind
  have hdry : depB (dW v1) (fneg .f32 (cW (dW v1))) (fmul .f32 1073741824 (cW (dW v1))) (fdiv .f32 1148846080 (dW v2)) = 0 := by
    rcases qd with ⟨g, _⟩ | ⟨_, e⟩ | ⟨_, g, _, _⟩
    · exfalso; grind
    · exact e
    · exfalso; grind
  have hdrs : spdB (cW (dW v1)) (fneg .f32 (cW (dW v1))) (fmul .f32 1073741824 (cW (dW v1))) (fdiv .f32 1148846080 (dW v2)) = 0 := by
    unfold spdB
    have e2 := fge_rv .f32 j1 hD.f2
    rw [hD.r2] at e2
    rw [e2.2 (by grind)]
    cases fle .f32 (fdiv .f32 1148846080 (dW v2)) (fneg .f32 (cW (dW v1))) <;> rfl
  have fl := mul_rv .f32 fa sa 1000 (by have := Rat.mul_nonneg pa ps; grind) (by
    have := Rat.mul_le_mul_of_nonneg_left ls pa
    grind) (by decide +kernel)
  have flp := fl.pos (Rat.mul_nonneg pa ps)
  have zz : fmul .f32 0 0 = 0 := by decide +kernel
  have E1 := depth_eq dl tl p1 fa
  have E2 := depth_eq dl tl p2 fb
  have E3 := flow_eq dl tl p1 fl.fin
  have E4 := depth_eq dl tl zero_rv.1 f0
  have E5 := depth_eq dl tl consts32.2.2.1 fw
  have E6 := depth_eq dl tl consts32.2.1.1 fd
  have E7 := flow_eq (x0 := dW v1) (x1 := 1148846080) (x2 := dW v2) dl tl consts32.2.1.1 (by rw [hdry, hdrs, zz]; exact zero_rv.1)
  rw [hwet] at E5
  rw [hdry] at E6
  rw [hdry, hdrs, zz] at E7
  -- the tests
  obtain ⟨⟨cf1, cl1, ch1⟩, ⟨cf2, cl2, ch2⟩, ⟨cf3, cr3⟩, ⟨cf4, cr4⟩, ⟨cf5, cl5, ch5⟩⟩ := consts64
  obtain ⟨ufa, ura⟩ := fup_rv fa
  obtain ⟨ufb, urb⟩ := fup_rv fb
  obtain ⟨ufD, urD⟩ := fup_rv hD.fD
  obtain ⟨uf0, ur0⟩ := fup_rv f0
  rw [hD.rD] at urD
  generalize hA : depB (dW v1) (fneg .f32 (cW (dW v1))) (fmul .f32 1073741824 (cW (dW v1))) (fdiv .f32 (pW v3) (dW v2)) = A at *
  generalize hB : depB (dW v1) (fneg .f32 (cW (dW v1))) (fmul .f32 1073741824 (cW (dW v1))) (fdiv .f32 (fadd .f32 (pW v3) 1056964608) (dW v2)) = B at *
  generalize hM : depB (dW v1) (fneg .f32 (cW (dW v1))) (fmul .f32 1073741824 (cW (dW v1))) (fdiv .f32 0 (dW v2)) = M at *
  have T1 : fge .f32 A 0 = true := (fge_rv .f32 fa zero_rv.1).2 (by rw [zero_rv.2]; exact pa)
  have T2 : fle .f64 (fup A) (fmul .f64 (fup (dW v1)) 4607186922399644778) = true := by
    have lo : d * (1001 / 1000 - 1 / 10 ^ 12) ≤ d * rv .f64 4607186922399644778 := Rat.mul_le_mul_of_nonneg_left cl1 (by grind)
    have hi : d * rv .f64 4607186922399644778 ≤ d * (1001 / 1000 + 1 / 10 ^ 12) := Rat.mul_le_mul_of_nonneg_left ch1 (by grind)
    have q := mul_rv .f64 ufD cf1 10 (by rw [urD]; grind) (by rw [urD]; grind) (by decide +kernel)
    have ql := q.lo
    rw [urD, eps64] at ql
    refine (fle_rv .f64 ufa q.fin).2 ?_
    rw [ura]
    grind
  have T3 : fle .f64 (fup B) (fadd .f64 (fup A) 4562254508917369340) = true := by
    have q := add_rv .f64 ufa cf2 10 (by rw [ura]; grind) (by rw [ura]; grind) (by decide +kernel)
    have ql := q.lo
    rw [ura, eps64] at ql
    refine (fle_rv .f64 ufb q.fin).2 ?_
    rw [urb]
    grind
  have T4 : fge .f32 (fmul .f32 A (spdB (cW (dW v1)) (fneg .f32 (cW (dW v1))) (fmul .f32 1073741824 (cW (dW v1))) (fdiv .f32 (pW v3) (dW v2)))) 3129152111 = true := by
    refine (fge_rv .f32 fl.fin consts32.1.1).2 ?_
    have := consts32.1.2
    exact Rat.le_trans this flp
  have T5 : flt .f64 (wb10Gap (fmul .f64 (fup M) 4621256167635550208) (fmul .f64 (fup (dW v1)) 4616189618054758400)) (fmul .f64 4576918229304087675 (fup (dW v1))) = true := by
    have hq1 := hD.q1
    have hq2 := hD.q2
    -- the middle
    have mid : 4 * (C * C) - 1 / 100 ≤ rv .f32 M * (8829 / 100) ∧ rv .f32 M * (8829 / 100) ≤ 4 * (C * C) + 1 / 100 := by
      have z : rv .f32 (fdiv .f32 0 (dW v2)) = 0 := by
        have q := div_rv .f32 zero_rv.1 hT.fD (by rw [hT.rD]; grind) 0 0 (by rw [zero_rv.2]; grind) (by grind) (by grind) (by decide +kernel)
        exact Rat.le_antisymm (q.neg Rat.le_refl) (q.pos Rat.le_refl)
      rcases q0 with ⟨g, _⟩ | ⟨g, _⟩ | ⟨_, _, g1, g2⟩
      · exfalso; grind
      · exfalso; grind
      · rw [z] at g1 g2
        exact ⟨by grind, by grind⟩
    have x1 := mul_rv .f64 uf0 cf3 100 (by rw [ur0, cr3]; grind) (by rw [ur0, cr3]; grind) (by decide +kernel)
    have x2 := mul_rv .f64 ufD cf4 100 (by rw [urD, cr4]; grind) (by rw [urD, cr4]; grind) (by decide +kernel)
    have lo5 : (1 / 100 - 1 / 10 ^ 12) * d ≤ rv .f64 4576918229304087675 * d := Rat.mul_le_mul_of_nonneg_right cl5 (by grind)
    have hi5 : rv .f64 4576918229304087675 * d ≤ (1 / 100 + 1 / 10 ^ 12) * d := Rat.mul_le_mul_of_nonneg_right ch5 (by grind)
    have x3 := mul_rv .f64 cf5 ufD 100 (by rw [urD]; grind) (by rw [urD]; grind) (by decide +kernel)
    have y1 := x1.lo
    have y2 := x1.hi
    have y3 := x2.lo
    have y4 := x2.hi
    have y5 := x3.lo
    rw [ur0, cr3, eps64] at y1 y2
    rw [urD, cr4, eps64] at y3 y4
    rw [urD, eps64] at y5
    obtain ⟨g1, g2⟩ := gap_rv x1.fin x2.fin 100 (by grind) (by grind) (by decide +kernel)
    have g3 := g2 (9 * d / 1000) (by grind) (by grind)
    rw [eps64] at g3
    refine (flt_rv .f64 g1 x3.fin).2 ?_
    grind
  have T6 : feq .f32 (dW v1) (dW v1) = true := (feq_rv .f32 hD.fD hD.fD).2 rfl
  have T7 : feq .f32 0 0 = true := by decide +kernel
  have r1 : FloatKind.nearest .f32 (IntKind.wrap .i64 (1 + v1)) = FloatKind.nearest .f32 (IntKind.wrap .i64 (1 + v1)) := rfl
  unfold dW pW at *
  simp only [wFnBreaks_o1, wFnBreaks_o2, wFnBreaks_o3, wFnBreaks_o4, wFnBreaks_o5, wFnBreaks_o6, wFnBreaks_o7, wFnBreaks_o8, wFnBreaks_o9, wFnBreaks_o10, Tr.sem, a1', b1', c1', E1, E2, E3, E4, E5, E6, E7, T1, T2, T3, T4, T5, T6, T7, osome, oget, cond_true, cond_false]
end Go.Proofs.Ytpglfnkkmafhbaa
