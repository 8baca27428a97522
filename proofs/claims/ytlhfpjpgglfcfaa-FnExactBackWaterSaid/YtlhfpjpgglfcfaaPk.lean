/- Steepness, steps against the flow: the program's and the reference's are the same. -/
import Derived.Test.YtlhfpjpgglfcfaaPj
set_option linter.unusedVariables false
set_option linter.unusedSimpArgs false
set_option linter.constructorNameAsVariable false
namespace Go.Proofs.Ytlhfpjpgglfcfaa
open Go.RowKit
set_option maxRecDepth 100000

/-! ### Logarithms from above, with their signs -/
theorem near_sgn (k : FloatKind) (s : Bool) (m : Nat) (e : Int) : sgn k (k.format.nearest s m e) = s := encode_sgn k (.number s m e) rfl
theorem nr_neg0 : ∀ j : Fin 150, sgn .f64 (FloatKind.nearest .f64 (-1 - (j.val : Int))) = true := by decide +kernel
theorem nr_pos0 : ∀ j : Fin 74, mg .f64 (FloatKind.nearest .f64 (j.val : Int)) ≤ 4634837335261839360 := by decide +kernel
theorem logW_up (c : Nat) (k : Int) (h1 : 4604930618986332160 ≤ c) (h2 : c < 4609434218613702656) (h3 : -150 ≤ k) (h4 : k ≤ 73) : sgn .f64 (logW c k) = true ∨ mg .f64 (logW c k) ≤ 4632620719820242944 := by
  have hs := sW_le c h1 h2
  have hu : mg .f64 (fmul .f64 (sW c) (sW c)) ≤ 4598175219545276416 := by
    refine mul_le .f64 (Nat.lt_of_le_of_lt hs (by decide +kernel)) (Nat.lt_of_le_of_lt hs (by decide +kernel)) ?_
    exact Nat.le_trans (Nat.mul_le_mul (vl_le .f64 hs) (vl_le .f64 hs)) (by decide +kernel)
  have hy := Yq_le _ hu 13 (Nat.le_refl _)
  have hsy : mg .f64 (fmul .f64 (sW c) (Yq (fmul .f64 (sW c) (sW c)) 13)) ≤ one := by
    refine mul_le .f64 (Nat.lt_of_le_of_lt hs (by decide +kernel)) (Nat.lt_of_le_of_lt hy two_inf) ?_
    exact Nat.le_trans (Nat.mul_le_mul (vl_le .f64 hs) (vl_le .f64 hy)) (by decide +kernel)
  have h2s : mg .f64 (fmul .f64 two (fmul .f64 (sW c) (Yq (fmul .f64 (sW c) (sW c)) 13))) ≤ two := by
    refine mul_le .f64 (by rw [mtwo]; exact two_inf) (Nat.lt_of_le_of_lt hsy one_inf) ?_
    rw [mtwo]
    exact Nat.le_trans (Nat.mul_le_mul_left _ (vl_le .f64 hsy)) (by decide +kernel)
  unfold logW
  generalize fmul .f64 two (fmul .f64 (sW c) (Yq (fmul .f64 (sW c) (sW c)) 13)) = A at h2s
  by_cases hk : 0 ≤ k
  · right
    have hn := nr_pos0 ⟨k.toNat, by omega⟩
    simp only at hn
    rw [show ((k.toNat : Nat) : Int) = k by omega] at hn
    have hkl : mg .f64 (fmul .f64 (nr k) 4604418534313441775) ≤ 4632321652657487872 := by
      refine mul_le .f64 (Nat.lt_of_le_of_lt hn (by decide +kernel)) (by decide +kernel) ?_
      exact Nat.le_trans (Nat.mul_le_mul_right _ (vl_le .f64 hn)) (by decide +kernel)
    refine add_le .f64 (Nat.lt_of_le_of_lt h2s two_inf) (Nat.lt_of_le_of_lt hkl (by decide +kernel)) ?_
    exact Nat.le_trans (Nat.add_le_add (vl_le .f64 h2s) (vl_le .f64 hkl)) (by decide +kernel)
  · have hn := nr_neg0 ⟨(-1 - k).toNat, by omega⟩
    simp only at hn
    rw [show -1 - (((-1 - k).toNat : Nat) : Int) = k by omega] at hn
    have hk1 := nr_le k h3 (by omega)
    have hkl : mg .f64 (fmul .f64 (nr k) 4604418534313441775) ≤ 4637018766331346944 := by
      refine mul_le .f64 (Nat.lt_of_le_of_lt hk1 (by decide +kernel)) (by decide +kernel) ?_
      exact Nat.le_trans (Nat.mul_le_mul_right _ (vl_le .f64 hk1)) (by decide +kernel)
    obtain ⟨s1, m1, i1, r1, l1, v1⟩ := fin_mg .f64 (c := nr k) (Nat.lt_of_le_of_lt hk1 (by decide +kernel))
    obtain ⟨m2, i2, r2, l2, v2⟩ := pos_read .f64 (c := 4604418534313441775) (by decide +kernel)
    have hs1 : s1 = true := (read_sgn r1).trans hn
    subst hs1
    have hB : sgn .f64 (fmul .f64 (nr k) 4604418534313441775) = true := by
      rw [mul_read .f64 r1 r2]; exact near_sgn .f64 _ _ _
    generalize fmul .f64 (nr k) 4604418534313441775 = Bk at hB hkl
    obtain ⟨s, m, i, ra, la, va⟩ := fin_mg .f64 (c := A) (Nat.lt_of_le_of_lt h2s two_inf)
    obtain ⟨t, n, j, rb, lb, vb⟩ := fin_mg .f64 (c := Bk) (Nat.lt_of_le_of_lt hkl (by decide +kernel))
    have ht : t = true := (read_sgn rb).trans hB
    subst ht
    obtain ⟨z, T, e, e1, e2, e3, e4, e5⟩ := add_near2 .f64 ra rb la lb va vb
    rw [e1]
    cases z with
    | true => left; exact near_sgn .f64 _ _ _
    | false =>
      right
      have h6 := e5 rfl
      refine near_le0 .f64 e2 ?_
      rw [e3]
      have h7 := vl_le .f64 h2s
      have h8 : vl .f64 two ≤ vl .f64 4632620719820242944 := by decide +kernel
      have h9 : sv s (vl .f64 (mg .f64 A)) ≤ vl .f64 (mg .f64 A) := by unfold sv; cases s <;> simp <;> omega
      have h10 : sv true (vl .f64 (mg .f64 Bk)) ≤ 0 := by unfold sv; simp
      omega
theorem p_up (j : Nat) : vl .f32 (p32 j) * 2 ^ 925 = vl .f64 (p64 j) := by
  rw [vl_p64, show 1074 + j = (149 + j) + 925 by omega, Nat.pow_add, ← vl_p32]
theorem P_logup (x : Nat) (hx : mg .f32 x ≤ p32 73) {m : Nat} {e : Int} (hr : FloatKind.f32.format.read x = .number false m e) (h0 : vl .f32 (mg .f32 x) ≠ 0) :
    ∃ l, sl01LogWide (fup x) = some l ∧ mg .f64 l ≤ 4637159503819702272 ∧ (sgn .f64 l = true ∨ mg .f64 l ≤ 4632620719820242944) := by
  have hxf : mg .f32 x < FloatKind.f32.format.infRung := Nat.lt_of_le_of_lt hx (by decide +kernel)
  have hp : mg .f64 (fup x) = fup x := by rw [fup_num hr]; exact near_pos _ _ _
  have h1 := fup_le (r := p64 73) hxf (by
    exact Nat.le_trans (Nat.mul_le_mul_right _ (vl_le .f32 hx)) (Nat.le_of_eq (p_up 73)))
  have h2 := fup_ge (r := 3936146074321813504) hxf (by rw [inf64]; omega) (le_mul1 (by decide +kernel) (Nat.pos_of_ne_zero h0))
  rw [hp] at h1 h2
  have h1' : fup x ≤ 4607182418800017408 + 73 * 4503599627370496 := h1
  have hn : isN .f64 (fup x) = false := by
    have hnx : isN .f32 x = false := by unfold isN; rw [hr]; rfl
    exact isN_up hnx
  generalize fup x = c at *
  have hi := inf64
  obtain ⟨c1, k1, e1, e2, e3, e4, e5, e6, e7, e8⟩ := red_down 73 c 0 (by omega) (by omega) (by omega) (by omega)
  have hc1 : 4503599627370496 ≤ c1 ∧ 4604930618986332160 ≤ c1 + 149 * 4503599627370496 := by
    by_cases hc : c < 4604930618986332160
    · rw [e4 hc]; omega
    · have := e5 (by omega); omega
  obtain ⟨c2, k2, g1, g2, g3, g4, g5, g6, g7⟩ := red_up 149 c1 k1 e3 hc1.1 hc1.2 (by omega) (by omega)
  have e1' : sl01LogWide_l8 c 0 = some (c1, k1) := e1
  have g1' : sl01LogWide_l11 c1 k1 = some (c2, k2) := g1
  refine ⟨logW c2 k2, ?_, logW_le c2 k2 g4 g3 (by omega) (by omega), logW_up c2 k2 g4 g3 (by omega) (by omega)⟩
  have q1 : feq .f64 c c = true := by rw [feq_self, hn]; rfl
  have q2 : flt .f64 c 0 = false := by rw [flt_pos .f64 (by omega) (by omega)]; exact decide_eq_false (by omega)
  have q3 : feq .f64 c 0 = false := feq_zero_pos .f64 (by omega) (by omega)
  have q4 : mIsInf c 1 = false := by
    unfold mIsInf mIsInf_t
    simp only [Tr.val, show ((1 : Int) == 0) = false from rfl, show decide ((1 : Int) < 0) = false from rfl, cond_false]
    rw [fgt_pos .f64 (by omega) (by omega)]
    exact decide_eq_false (by omega)
  unfold sl01LogWide sl01LogWide_t
  simp only [q1, q2, q3, q4, e1', g1', P_l18, Tr.sem, osome, oget, cond_true, cond_false, Bool.not_true]
  rfl
/-! ### Exponentials of numbers below zero -/
theorem near_one : ∀ j : Fin 12, one ≤ FloatKind.nearest .f64 (12 - ((j.val : Nat) : Int)) ∧ FloatKind.nearest .f64 (12 - ((j.val : Nat) : Int)) < 9218868437227405312 := by decide +kernel
theorem Pq_neg (t : Nat) (ht : mg .f64 t ≤ one) (hs : sgn .f64 t = true) : ∀ n, n ≤ 12 → Pq t n ≤ one
  | 0, _ => Nat.le_refl _
  | n + 1, h => by
    have hp := Pq_neg t ht hs n (by omega)
    have hpi : Pq t n < FloatKind.f64.format.infRung := Nat.lt_of_le_of_lt hp one_inf
    have hpm := pos_sgn .f64 hpi
    obtain ⟨s1, m1, i1, r1, l1, v1⟩ := fin_mg .f64 (c := t) (Nat.lt_of_le_of_lt ht one_inf)
    obtain ⟨m2, i2, r2, l2, v2⟩ := pos_read .f64 hpi
    have hs1 : s1 = true := (read_sgn r1).trans hs
    subst hs1
    have g1 : mg .f64 (fmul .f64 t (Pq t n)) ≤ one := by
      refine mul_le .f64 (Nat.lt_of_le_of_lt ht one_inf) (by rw [hpm]; exact hpi) ?_
      rw [unit64, hpm, ← vone]
      exact Nat.mul_le_mul (vl_le .f64 ht) (vl_le .f64 hp)
    have gs : sgn .f64 (fmul .f64 t (Pq t n)) = true := by rw [mul_read .f64 r1 r2]; exact near_sgn .f64 _ _ _
    obtain ⟨b1, b2⟩ := near_one ⟨n, by omega⟩
    simp only at b1 b2
    rw [← inf64] at b2
    have bm := pos_sgn .f64 b2
    have hv : vl .f64 one ≤ vl .f64 (FloatKind.nearest .f64 (12 - (n : Int))) := vl_le .f64 b1
    have hv0 : vl .f64 (FloatKind.nearest .f64 (12 - (n : Int))) ≠ 0 := fun h => by rw [h, vone] at hv; have := Nat.two_pow_pos 1074; omega
    obtain ⟨s3, m3, i3, r3, l3, v3⟩ := fin_mg .f64 (c := fmul .f64 t (Pq t n)) (Nat.lt_of_le_of_lt g1 one_inf)
    have hs3 : s3 = true := (read_sgn r3).trans gs
    subst hs3
    obtain ⟨m4, i4, r4, l4, v4⟩ := pos_read .f64 b2
    have d1 : mg .f64 (fdiv .f64 (fmul .f64 t (Pq t n)) (FloatKind.nearest .f64 (12 - (n : Int)))) ≤ one := by
      refine div_le .f64 (Nat.lt_of_le_of_lt g1 one_inf) (by rw [bm]; exact b2) (by rw [bm]; exact hv0) ?_
      rw [unit64, bm, ← vone]
      exact Nat.mul_le_mul (vl_le .f64 g1) hv
    have ds : sgn .f64 (fdiv .f64 (fmul .f64 t (Pq t n)) (FloatKind.nearest .f64 (12 - (n : Int)))) = true := by
      rw [div_read .f64 r3 r4 (vl_pos_mant v4 hv0)]; exact near_sgn .f64 _ _ _
    show fadd .f64 one (fdiv .f64 (fmul .f64 t (Pq t n)) (FloatKind.nearest .f64 (12 - (n : Int)))) ≤ one
    generalize fdiv .f64 (fmul .f64 t (Pq t n)) (FloatKind.nearest .f64 (12 - (n : Int))) = D at d1 ds
    obtain ⟨m5, i5, r5, l5, v5⟩ := pos_read .f64 one_inf
    obtain ⟨s6, m6, i6, r6, l6, v6⟩ := fin_mg .f64 (c := D) (Nat.lt_of_le_of_lt d1 one_inf)
    have hs6 : s6 = true := (read_sgn r6).trans ds
    subst hs6
    obtain ⟨z, T, e, e1, e2, e3, e4, e5⟩ := add_near2 .f64 r5 r6 l5 l6 (by rw [mone]; exact v5) v6
    have hd := vl_le .f64 d1
    rw [mone] at e3 e4 e5
    cases z with
    | true =>
      exfalso
      rcases e4 rfl with h | h
      · unfold sv at h
        simp only [Bool.false_eq_true, if_false, if_true] at h
        omega
      · cases h
    | false =>
      rw [e1, ← near_pos]
      refine near_le0 .f64 e2 ?_
      rw [e3]
      unfold sv
      simp only [Bool.false_eq_true, if_false, if_true]
      omega
theorem P_expneg (x : Nat) (hx : mg .f32 x ≤ 1124990976) (hs : sgn .f32 x = true) : ∃ w, sl01Exp x = some w ∧ iExpNumber x = some w := by
  have hf : mg .f32 x < FloatKind.f32.format.infRung := by rw [inf32]; omega
  have hu : mg .f64 (fup x) ≤ 4639200197400854528 := fup_le hf (Nat.le_trans (Nat.mul_le_mul_right _ (vl_le .f32 hx)) (by decide +kernel))
  have hn : isN .f32 x = false := by
    obtain ⟨s, m, e, hr, la, va⟩ := fin_mg .f32 hf
    unfold isN; rw [hr]; rfl
  have hus : sgn .f64 (fup x) = true := by rw [fup_sgn hn]; exact hs
  have ht : mg .f64 (fdiv .f64 (fup x) 4643211215818981376) ≤ one := by
    refine div_le .f64 (Nat.lt_of_le_of_lt hu (by decide +kernel)) (by decide +kernel) (by decide +kernel) ?_
    exact Nat.le_trans (Nat.mul_le_mul_right _ (vl_le .f64 hu)) (by decide +kernel)
  have hts : sgn .f64 (fdiv .f64 (fup x) 4643211215818981376) = true := by
    obtain ⟨s1, m1, i1, r1, l1, v1⟩ := fin_mg .f64 (c := fup x) (Nat.lt_of_le_of_lt hu (by decide +kernel))
    obtain ⟨m2, i2, r2, l2, v2⟩ := pos_read .f64 (c := 4643211215818981376) (by decide +kernel)
    have hs1 : s1 = true := (read_sgn r1).trans hus
    subst hs1
    rw [div_read .f64 r1 r2 (vl_pos_mant v2 (by decide +kernel))]; exact near_sgn .f64 _ _ _
  have hp := Pq_neg _ ht hts 12 (Nat.le_refl _)
  generalize hP : Pq (fdiv .f64 (fup x) 4643211215818981376) 12 = P at hp
  have h0 : mg .f64 P ≤ one := by rw [pos_sgn .f64 (Nat.lt_of_le_of_lt hp one_inf)]; exact hp
  have hS : ∀ n, mg .f64 (Sq P n) ≤ one := by
    intro n
    induction n with
    | zero => exact h0
    | succ n ih => exact sq_le (Sq P n) one one ih one_inf (by decide +kernel)
  refine P_exps x (by rw [feq_self, isN_up hn]; rfl) (not_above .f64 hu (by omega) (by rw [inf64]; omega)) (not_below .f64 hu (by decide +kernel) (by decide +kernel) (by decide +kernel)) (not_above .f32 hx (by omega) (by rw [inf32]; omega)) (not_below .f32 hx (by decide +kernel) (by decide +kernel) (by decide +kernel)) ?_
  rw [hP]
  exact fover_le (r := 2130706432) (Nat.lt_of_le_of_lt (hS 8) one_inf) (by rw [inf32]; omega) (Nat.le_trans (vl_le .f64 (hS 8)) (by decide +kernel))
theorem fdown_sgn {c : Nat} (h : mg .f64 c < FloatKind.f64.format.infRung) : sgn .f32 (fdown c) = sgn .f64 c := by
  obtain ⟨s, m, e, hd, l, v⟩ := fin_mg .f64 h
  rw [fdown_num hd, near_sgn, read_sgn hd]
theorem P_log_zero (x : Nat) (hx : mg .f32 x < FloatKind.f32.format.infRung) (hz : vl .f32 (mg .f32 x) = 0) (l : Nat) (h1 : sl01Log x = some l) (h2 : mg .f32 l ≤ 1121189888) : False := by
  obtain ⟨s, m, e, hr, la, va⟩ := fin_mg .f32 hx
  have hup := fup_zero x hx
  have hxf : mg .f64 (fup x) < FloatKind.f64.format.infRung := by rw [inf64]; omega
  obtain ⟨s', m', e', hr', la', va'⟩ := fin_mg .f64 hxf
  have hn : isN .f32 x = false := by unfold isN; rw [hr]; rfl
  obtain ⟨p1, p2⟩ := zero_order .f64 hr' la' va'
  have q1 : feq .f64 (fup x) (fup x) = true := by rw [feq_self, isN_up hn]; rfl
  have hz' := hup.1.2 hz
  have t3 : flt .f64 (fup x) 0 = false := by rw [p1, hz']; simp
  have t4 : feq .f64 (fup x) 0 = true := by rw [p2, hz']; rfl
  have c1 : mInf (-1) = 18442240474082181120 := rfl
  have c2 : fover 18442240474082181120 = false := by decide +kernel
  have c3 : fdown 18442240474082181120 = minf32 := by decide +kernel
  have w1 : sl01LogWide (fup x) = some 18442240474082181120 := by
    unfold sl01LogWide sl01LogWide_t
    simp only [q1, t3, t4, c1, Tr.sem, Bool.not_true, cond_false, cond_true]
  unfold sl01Log sl01Log_t sl01Narrow sl01Narrow_t at h1
  simp only [w1, c2, c3, Tr.sem, osome, oget, cond_true, Bool.not_false] at h1
  cases h1
  exact absurd h2 (by decide +kernel)
theorem P_log_neg (x : Nat) (hx : mg .f32 x < FloatKind.f32.format.infRung) {m : Nat} {e : Int} (hr : FloatKind.f32.format.read x = .number true m e) (hz : vl .f32 (mg .f32 x) ≠ 0) (l : Nat) (h1 : sl01Log x = some l) (h2 : mg .f32 l ≤ 1121189888) : False := by
  have hup := fup_zero x hx
  have hxf : mg .f64 (fup x) < FloatKind.f64.format.infRung := by rw [inf64]; omega
  obtain ⟨s', m', e', hr', la', va'⟩ := fin_mg .f64 hxf
  have hn : isN .f32 x = false := by unfold isN; rw [hr]; rfl
  have hs : s' = true := by
    rw [read_sgn hr', fup_sgn hn]; exact (read_sgn hr).symm
  subst hs
  obtain ⟨p1, p2⟩ := zero_order .f64 hr' la' va'
  have q1 : feq .f64 (fup x) (fup x) = true := by rw [feq_self, isN_up hn]; rfl
  have hz' : vl .f64 (mg .f64 (fup x)) ≠ 0 := fun h => hz (hup.1.1 h)
  have t3 : flt .f64 (fup x) 0 = true := by rw [p1, decide_eq_true hz']; rfl
  have c1 : mNaN = 9221120237041090561 := rfl
  have c2 : fover 9221120237041090561 = false := by decide +kernel
  have c3 : fdown 9221120237041090561 = nan32 := by decide +kernel
  have w1 : sl01LogWide (fup x) = some 9221120237041090561 := by
    unfold sl01LogWide sl01LogWide_t
    simp only [q1, t3, c1, Tr.sem, Bool.not_true, cond_false, cond_true]
  unfold sl01Log sl01Log_t sl01Narrow sl01Narrow_t at h1
  simp only [w1, c2, c3, Tr.sem, osome, oget, cond_true, Bool.not_false] at h1
  cases h1
  exact absurd h2 (by decide +kernel)
/-- The power with the exponent 4/3 of a number that is not too great. -/
theorem P_pow43 (x : Nat) (hx : mg .f32 x ≤ p32 73) : ∃ l w, sl01Log x = some l ∧ iLogNumber x = some l ∧ sl01Exp (fmul .f32 1068149419 l) = some w ∧ iExpNumber (fmul .f32 1068149419 l) = some w := by
  have hxf : mg .f32 x < FloatKind.f32.format.infRung := Nat.lt_of_le_of_lt hx (by decide +kernel)
  obtain ⟨l, l1, l2, l3⟩ := P_log x hxf
  have he : ∃ w, sl01Exp (fmul .f32 1068149419 l) = some w ∧ iExpNumber (fmul .f32 1068149419 l) = some w := by
    rcases l3 with h | h | h
    · have hup : sgn .f32 l = true ∨ mg .f32 l ≤ 1112801280 := by
        obtain ⟨s, m, e, hr, la, va⟩ := fin_mg .f32 hxf
        by_cases hz : vl .f32 (mg .f32 x) = 0
        · exfalso
          exact P_log_zero x hxf hz l l1 h
        · cases s with
          | true => exfalso; exact P_log_neg x hxf hr hz l l1 h
          | false =>
            obtain ⟨w, w1, w2, w3⟩ := P_logup x hx hr hz
            have hwf : mg .f64 w < FloatKind.f64.format.infRung := Nat.lt_of_le_of_lt w2 (by decide +kernel)
            have hv : vl .f64 (mg .f64 w) ≤ vl .f32 1121189888 * 2 ^ 925 := Nat.le_trans (vl_le .f64 w2) (by decide +kernel)
            have c2 : fover w = false := fover_le (r := 1121189888) hwf (by rw [inf32]; omega) hv
            have hl : l = fdown w := by
              unfold sl01Log sl01Log_t sl01Narrow sl01Narrow_t at l1
              simp only [w1, c2, Tr.sem, osome, oget, cond_true, Bool.not_false] at l1
              exact (Option.some.inj l1).symm
            rw [hl]
            rcases w3 with w3 | w3
            · left; rw [fdown_sgn hwf]; exact w3
            · right; exact fdown_le hwf (Nat.le_trans (vl_le .f64 w3) (by decide +kernel))
      have hlf : mg .f32 l < FloatKind.f32.format.infRung := Nat.lt_of_le_of_lt h (by decide +kernel)
      rcases hup with hsg | hm
      · refine P_expneg _ (mul_le .f32 (by decide +kernel) hlf ?_) ?_
        · exact Nat.le_trans (Nat.mul_le_mul_left _ (vl_le .f32 h)) (by decide +kernel)
        · obtain ⟨s1, m1, i1, r1, li1, v1⟩ := fin_mg .f32 hlf
          obtain ⟨m2, i2, r2, li2, v2⟩ := pos_read .f32 (c := 1068149419) (by decide +kernel)
          have hs1 : s1 = true := (read_sgn r1).trans hsg
          subst hs1
          rw [mul_read .f32 r2 r1]; exact near_sgn .f32 _ _ _
      · refine P_exp _ (mul_le .f32 (by decide +kernel) hlf ?_)
        exact Nat.le_trans (Nat.mul_le_mul_left _ (vl_le .f32 hm)) (by decide +kernel)
    · rw [h, show fmul .f32 1068149419 nan32 = nan32 by decide +kernel]; exact P_expnan
    · rw [h, show fmul .f32 1068149419 minf32 = minf32 by decide +kernel]; exact P_expinf
  obtain ⟨w, w1, w2⟩ := he
  exact ⟨l, w, l1, l2, w1, w2⟩
end Go.Proofs.Ytlhfpjpgglfcfaa
