/- Waves down a slope: the law. -/
import Derived.Test.YtpglfnkkmafhbaaBe
set_option linter.unusedVariables false
set_option linter.unusedSimpArgs false
set_option linter.constructorNameAsVariable false
namespace Go.Proofs.Ytpglfnkkmafhbaa
open Go.RowKit
set_option maxRecDepth 100000
theorem rain9 : ∀ b : Fin 9, isMass (fdiv .f32 (FloatKind.nearest .f32 (b.val : Int)) 1082130432) = true ∧ rv .f32 (fdiv .f32 (FloatKind.nearest .f32 (b.val : Int)) 1082130432) ≤ 2 := by decide +kernel
theorem rs_bound : ∀ {l : List Nat}, (∀ x ∈ l, rv .f32 x ≤ 2) → rs l ≤ 2 * (l.length : Rat)
  | [], _ => by
    have e : ((([] : List Nat).length : Nat) : Rat) = 0 := rfl
    rw [e]; simp only [rs]; grind
  | x :: l, h => by
    have h1 := h x List.mem_cons_self
    have h2 := rs_bound (l := l) fun y hy => h y (List.mem_cons_of_mem _ hy)
    have e : (((x :: l).length : Nat) : Rat) = (l.length : Rat) + 1 := by rw [List.length_cons, Rat.natCast_add]; rfl
    rw [e]; simp only [rs]; grind
/-- Rain is drawn. -/
theorem rain_loop {c : List Int} (hc : bytesL c) : ∀ (m : Nat) (k : Nat) (s : Int) (l : List Nat), k + 2 * m ≤ 100 → l.length + m ≤ 8 → (∀ x ∈ l, isMass x = true ∧ rv .f32 x ≤ 2) → ∃ r, sB10Rain_l3 (m : Int) c (k : Int) s l = some r ∧ r.length = l.length + m ∧ ∀ x ∈ r, isMass x = true ∧ rv .f32 x ≤ 2
  | 0, k, s, l, hk, hl, hx => ⟨l, runL_out (by simp only [sB10Rain_l3_t, Tr.sem, decide_eq_false (show ¬ (((0 : Nat) : Int) > 0) by omega), cond_false]), rfl, hx⟩
  | m + 1, k, s, l, hk, hl, hx => by
    obtain ⟨b, k', s', e1, b0, b1, hk'⟩ := D_pick hc 9 (by omega) (by omega) k (by omega) s
    obtain ⟨f, hf⟩ : ∃ f : Fin 9, (f.val : Int) = b := ⟨⟨b.toNat, by omega⟩, by simp; omega⟩
    have hr := rain9 f
    rw [hf] at hr
    obtain ⟨r, r1, r2, r3⟩ := rain_loop hc m k' s' (l ++ [fdiv .f32 (FloatKind.nearest .f32 b) 1082130432]) (by omega) (by simp; omega) (fun x hx' => by
      rcases List.mem_append.1 hx' with h | h
      · exact hx x h
      · rw [List.mem_singleton.1 h]; exact hr)
    have hw : IntKind.wrap .i64 (((m + 1 : Nat) : Int) - 1) = (m : Int) := by rw [wrap_id (by omega) (by omega)]; omega
    refine ⟨r, (runL_in (s' := ((m : Int), c, (k' : Int), s', l ++ [fdiv .f32 (FloatKind.nearest .f32 b) 1082130432])) ?_).trans r1, by rw [r2]; simp; omega, r3⟩
    simp only [sB10Rain_l3_t, Tr.sem, decide_eq_true (show (((m + 1 : Nat) : Int) > 0) by omega), e1, osome, oget, cond_true, fits (show l.length ≤ 1048576 by omega), hw]
theorem rain {c : List Int} (hc : bytesL c) (n : Nat) (hn : n ≤ 8) : ∃ r, sB10Rain c (n : Int) = some r ∧ r.length = n ∧ ∀ x ∈ r, isMass x = true ∧ rv .f32 x ≤ 2 := by
  obtain ⟨r, r1, r2, r3⟩ := rain_loop hc n 0 0 [] (by omega) (by simp; omega) (fun x hx => by simp at hx)
  have r1' : sB10Rain_l3 (n : Int) c 0 0 [] = some r := r1
  refine ⟨r, ?_, by simpa using r2, r3⟩
  unfold sB10Rain sB10Rain_t
  simp only [D_from, r1', Tr.sem, osome, oget, cond_true]
/-- Totals. -/
theorem total_ok {l : List Nat} (hl : l.length ≤ 8) (hm : ∀ x ∈ l, isMass x = true) (hs : rs l ≤ 200) : ∃ T, wb10Total l = some T ∧ isFin .f64 T = true ∧ rs l - 1 / 10 ^ 9 ≤ rv .f64 T ∧ rv .f64 T ≤ rs l + 1 / 10 ^ 9 := by
  have z : isFin .f64 0 = true ∧ rv .f64 0 = 0 := by decide +kernel
  have tk : ∀ k, k ≤ l.length → 0 ≤ rs (l.take k) ∧ rs (l.take k) ≤ rs l := fun k hk => by
    have h1 : rs l = rs (l.take k) + rs (l.drop k) := by rw [← rs_append, List.take_append_drop]
    have h2 := rs_nn (l := l.take k) fun x hx => hm x (List.mem_of_mem_take hx)
    have h3 := rs_nn (l := l.drop k) fun x hx => hm x (List.mem_of_mem_drop hx)
    exact ⟨h2, by grind⟩
  obtain ⟨T, r1, r2, r3, r4⟩ := runL_ex0 (f := fun s : Nat × Int => (wb10Total_l3_t l (l.length : Nat) s.1 s.2).sem) l.length
    (fun k s => ∃ t, s = (t, (k : Int)) ∧ isFin .f64 t = true ∧ rs (l.take k) - (k : Rat) / 10 ^ 11 ≤ rv .f64 t ∧ rv .f64 t ≤ rs (l.take k) + (k : Rat) / 10 ^ 11) (fun T => isFin .f64 T = true ∧ rs l - 1 / 10 ^ 9 ≤ rv .f64 T ∧ rv .f64 T ≤ rs l + 1 / 10 ^ 9) (0, 0) ⟨0, rfl, z.1, by
      have e : ((0 : Nat) : Rat) = 0 := rfl
      rw [z.2, e, List.take_zero]; simp only [rs]; grind, by
      have e : ((0 : Nat) : Rat) = 0 := rfl
      rw [z.2, e, List.take_zero]; simp only [rs]; grind⟩ (fun k s hk ⟨t, hs', f1, f2, f3⟩ => by
      subst hs'
      obtain ⟨g1, g2⟩ := fup_rv (mass_iff.1 (hm _ (getD_memN hk))).1
      obtain ⟨t1, t2⟩ := tk k (by omega)
      obtain ⟨t3, t4⟩ := tk (k + 1) (by omega)
      have et := rs_take hk
      have hk8 : (k : Rat) ≤ 8 := by
        have h : ((k : Nat) : Rat) ≤ ((8 : Nat) : Rat) := by exact_mod_cast (show k ≤ 8 by omega)
        exact h
      have hk0 : (0 : Rat) ≤ (k : Rat) := by exact_mod_cast Nat.zero_le k
      have hc : ((k + 1 : Nat) : Rat) = (k : Rat) + 1 := by rw [Rat.natCast_add]; rfl
      have a := add_rv .f64 f1 g1 210 (by rw [g2]; grind) (by rw [g2]; grind) (by decide +kernel)
      have a1 := a.lo
      have a2 := a.hi
      rw [g2, eps64] at a1 a2
      simp only [wb10Total_l3_t, Tr.sem, ltRange hk, zeroLe, Bool.and_self, cond_true, Int.toNat_natCast, up1 (show k ≤ 1048576 by omega)]
      refine ⟨_, rfl, _, rfl, a.fin, ?_, ?_⟩
      · rw [hc, et]; grind
      · rw [hc, et]; grind) (fun s ⟨t, hs', f1, f2, f3⟩ => by
      subst hs'
      rw [List.take_length] at f2 f3
      have hl8 : (l.length : Rat) ≤ 8 := by
        have h : ((l.length : Nat) : Rat) ≤ ((8 : Nat) : Rat) := by exact_mod_cast hl
        exact h
      exact ⟨_, by simp only [wb10Total_l3_t, Tr.sem, not_lt_self, cond_false], f1, by grind, by grind⟩)
  refine ⟨T, ?_, r2, r3, r4⟩
  have r1' : wb10Total_l3 l 0 (l.length : Nat) 0 = some T := r1
  unfold wb10Total wb10Total_t
  simp only [r1', Tr.sem, osome, oget, cond_true]
theorem same_list (l : List Nat) (hl : l.length ≤ 1048576) : wb10List l l = some true := by
  have h1 : wb10List_l4 l l (l.length : Nat) 0 = some (.inr ()) := by
    unfold wb10List_l4
    exact runL_steps (f := fun s : Int => (wb10List_l4_t l l (l.length : Nat) s).sem) l.length 0 (fun k => (k : Int)) (fun j _ hj => by
      simp only [wb10List_l4_t, Tr.sem, ltRange (show j < l.length by omega), zeroLe, Bool.and_self, cond_true, Int.toNat_natCast, sSameNumber, sSameNumber_t, Tr.val, natEq_self, Bool.not_true, cond_false, up1 (show j ≤ 1048576 by omega)]) (by
      rw [Nat.zero_add]; simp only [wb10List_l4_t, Tr.sem, not_lt_self, cond_false])
  unfold wb10List wb10List_t
  simp only [h1, Tr.sem, osome, oget, isL, bne_self_eq_false, cond_true, cond_false]
theorem too_fast : iStepWave [1176256512] 0 1056964608 1082130432 1056964608 = some (.inl 0) := by
  have hw : waveB [1176256512] sH dX sH = true := by decide +kernel
  have hf : fastW sH dX sH ([1176256512].getD 0 0) = true := by decide +kernel
  have a2 : iStepWave_l5 sH dX sH 0 [1176256512] 1 0 [] = some (.inl 0) := runL_out (R_ifastAt [1176256512] 0 sH dX sH [] 0 (by simp) hf)
  have a2' : iStepWave_l5 1056964608 1082130432 1056964608 0 [1176256512] ((([1176256512].length : Nat) : Int)) 0 [] = some (.inl 0) := a2
  have h0 : isMass 0 = true := by decide +kernel
  unfold iStepWave iStepWave_t
  simp only [R_isWave, hw, a2', h0, Tr.sem, osome, oget, isL, unL, Bool.not_true, cond_true, cond_false]
section
variable {xs ins : List Nat} (h1 : 1 ≤ xs.length) (h8 : xs.length ≤ 8) (hm : ∀ x ∈ xs, isMass x = true) (hx : rs xs ≤ 16) (hi1 : 1 ≤ ins.length) (hi8 : ins.length ≤ 8) (hi : ∀ x ∈ ins, isMass x = true ∧ rv .f32 x ≤ 2)
include h1 h8 hm hx hi1 hi8 hi
theorem s_run : sRunWave xs ins sH dX sH = some (.inr (AW xs ins ins.length, OW xs ins ins.length)) := by
  have key : sRunWave_l6 ins sH dX sH (ins.length : Nat) 0 ([] ++ xs) [] = some (.inr (AW xs ins ins.length, OW xs ins ins.length)) := by
    unfold sRunWave_l6
    exact runL_steps (f := fun t : Int × List Nat × List Nat => (sRunWave_l6_t ins sH dX sH (ins.length : Int) t.1 t.2.1 t.2.2).sem) ins.length 0 (fun k => ((k : Int), AW xs ins k, OW xs ins k)) (fun j _ hj => by
      have hj : j < ins.length := by omega
      obtain ⟨t1, t2⟩ := tick h1 h8 hm hx hi8 hi j hj
      have ho := OW_len xs ins j
      simp only [sRunWave_l6_t, Tr.sem, ltRange hj, zeroLe, Bool.and_self, cond_true, Int.toNat_natCast, (hi _ (getD_memN hj)).1, Bool.not_true, cond_false, t1, osome, oget, isL, unR, fits (show (OW xs ins j).length ≤ 1048576 by omega), up1 (show j ≤ 1048576 by omega)]
      rfl) (by rw [Nat.zero_add]; simp only [sRunWave_l6_t, Tr.sem, not_lt_self, cond_false])
  have hI : insB ins = true := by
    unfold insB win
    have : ins.all (isFin .f32) = true := List.all_eq_true.2 fun x h => (mass_iff.1 (hi x h).1).1
    rw [this]
    simp only [Bool.and_true, Bool.and_eq_true, decide_eq_true_eq]; omega
  have hf : decide ((List.length ([] : List Nat) + xs.length) * 4 ≤ 140737488355328) = true := by simp only [List.length_nil, decide_eq_true_eq]; omega
  unfold sRunWave sRunWave_t
  simp only [R_slope xs sH dX sH (by omega), waveB_of h1 h8 hm, R_sIns, hI, hf, key, Tr.sem, osome, oget, isL, unR, Bool.not_true, cond_true, cond_false]
theorem i_run : iRunWave xs ins sH dX sH = some (.inr (.inr (AW xs ins ins.length, OW xs ins ins.length))) := by
  have stp : ∀ j, j < ins.length → 1 ≤ j → iRunWave_l5_s (.inr (sH, dX, sH, ins, (ins.length : Int), (j : Int), AW xs ins j, OW xs ins j)) = some (.inl (.inr (sH, dX, sH, ins, (ins.length : Int), ((j + 1 : Nat) : Int), AW xs ins (j + 1), OW xs ins (j + 1)))) := fun j hj _ => by
    obtain ⟨t1, t2⟩ := tick h1 h8 hm hx hi8 hi j hj
    have ho := OW_len xs ins j
    show (iRunWave_l5_t1 sH dX sH ins (ins.length : Int) (j : Int) (AW xs ins j) (OW xs ins j)).sem = _
    simp only [iRunWave_l5_t1, Tr.sem, ltRange hj, zeroLe, Bool.and_self, cond_true, Int.toNat_natCast, cond_false, t2, osome, oget, isL, unR, fits (show (OW xs ins j).length ≤ 1048576 by omega), up1 (show j ≤ 1048576 by omega)]
    rfl
  have rest : runL iRunWave_l5_s (.inr (sH, dX, sH, ins, (ins.length : Int), ((1 : Nat) : Int), AW xs ins 1, OW xs ins 1)) = some (.inr (.inr (AW xs ins ins.length, OW xs ins ins.length))) := by
    have := runL_steps (f := iRunWave_l5_s) (r := .inr (.inr (AW xs ins ins.length, OW xs ins ins.length))) (ins.length - 1) 1 (fun k => .inr (sH, dX, sH, ins, (ins.length : Int), (k : Int), AW xs ins k, OW xs ins k)) (fun j hj1 hj => stp j (by omega) hj1) (by
      rw [show 1 + (ins.length - 1) = ins.length by omega]
      show (iRunWave_l5_t1 sH dX sH ins (ins.length : Int) (ins.length : Int) (AW xs ins ins.length) (OW xs ins ins.length)).sem = _
      simp only [iRunWave_l5_t1, Tr.sem, not_lt_self, cond_false])
    exact this
  have key : iRunWave_l5 (.inl (xs, sH, dX, sH, ins, (ins.length : Int), 0, [])) = some (.inr (.inr (AW xs ins ins.length, OW xs ins ins.length))) := by
    obtain ⟨t1, t2⟩ := tick h1 h8 hm hx hi8 hi 0 (by omega)
    have t2' : iStepWave xs (ins.getD 0 0) sH dX sH = _ := t2
    unfold iRunWave_l5
    refine (runL_in (s' := .inr (sH, dX, sH, ins, (ins.length : Int), ((1 : Nat) : Int), AW xs ins 1, OW xs ins 1)) ?_).trans rest
    show (iRunWave_l5_t0 xs sH dX sH ins (ins.length : Int) 0 []).sem = _
    have r0 := ltRange (show 0 < ins.length by omega)
    simp only [Int.natCast_zero] at r0
    simp only [iRunWave_l5_t0, Tr.sem, r0, show decide ((0 : Int) ≤ 0) = true from rfl, Bool.and_self, cond_true, show Int.toNat 0 = 0 from rfl, cond_false, t2', osome, oget, isL, unR, show decide ((([] : List Nat).length + List.length [oW xs ins 0]) * 4 ≤ 140737488355328) = true from fits (by simp) _]
    rfl
  have hI : insB ins = true := by
    unfold insB win
    have : ins.all (isFin .f32) = true := List.all_eq_true.2 fun x h => (mass_iff.1 (hi x h).1).1
    rw [this]
    simp only [Bool.and_true, Bool.and_eq_true, decide_eq_true_eq]; omega
  unfold iRunWave iRunWave_t
  simp only [R_isWave xs sH dX sH, waveB_of h1 h8 hm, R_iIns, hI, key, Tr.sem, osome, oget, isL, unR, unL, Bool.not_true, cond_true, cond_false]
/-- The ticks again, one by one. -/
theorem again : wFnSlopes_l15 (.inr (.inl ((ins.length : Int), 0, xs, ins, AW xs ins ins.length, OW xs ins ins.length))) = some (.inr (.inr (.inl (AW xs ins ins.length, AW xs ins ins.length)))) := by
  have g1 : IntKind.wrap .i64 ((xs.length : Int) - 1) = ((xs.length - 1 : Nat) : Int) := by rw [wrap_id (by omega) (by omega)]; omega
  have g2 : (decide (0 ≤ ((xs.length - 1 : Nat) : Int)) && decide (((xs.length - 1 : Nat) : Int) < (xs.length : Int))) = true := inRange (by omega)
  have facts : ∀ j, j < ins.length → iWaveFlow 1056964608 ((AW xs ins j).getD (xs.length - 1) 0) = (oW xs ins j, true) := fun j hj => by
    have hl := AW_len xs ins j
    obtain ⟨i1, i2, i3, _⟩ := ticks h1 h8 hm hx hi8 hi j (by omega)
    obtain ⟨_, j2, _⟩ := ticks h1 h8 hm hx hi8 hi (j + 1) (by omega)
    have ho : isMass (oW xs ins j) = true := j2 _ (by simp [OW])
    have hmm := i1 _ (getD_memN (show (AW xs ins j).length - 1 < (AW xs ins j).length by omega))
    have hfl : isFin .f32 (iwaveFlow 1056964608 ((AW xs ins j).getD ((AW xs ins j).length - 1) 0)) = true := (mass_iff.1 ho).1
    have hL : isLen 1056964608 = true := cst.2.2.2.2.2.1
    rw [← hl]
    unfold iWaveFlow iWaveFlow_t ifinite32 ifinite32_t
    simp only [Tr.val, hL, hmm, hfl, Bool.not_true, cond_false]
    rfl
  have stp : ∀ j, j < ins.length → 1 ≤ j → wFnSlopes_l15_s (.inr (.inr (.inr ((ins.length : Int), (j : Int), xs, ins, AW xs ins ins.length, OW xs ins ins.length, AW xs ins j)))) = some (.inl (.inr (.inr (.inr ((ins.length : Int), ((j + 1 : Nat) : Int), xs, ins, AW xs ins ins.length, OW xs ins ins.length, AW xs ins (j + 1)))))) := fun j hj _ => by
    obtain ⟨t1, t2⟩ := tick h1 h8 hm hx hi8 hi j hj
    have g3 := facts j hj
    have hlo := OW_len xs ins ins.length
    show (wFnSlopes_l15_t3 (ins.length : Int) (j : Int) xs ins (AW xs ins ins.length) (OW xs ins ins.length) (AW xs ins j)).sem = _
    simp only [wFnSlopes_l15_t3, Tr.sem, ltRange hj, ltRange (show j < (OW xs ins ins.length).length by omega), zeroLe, Bool.and_self, cond_true, Int.toNat_natCast, cond_false, t2, g1, ltRange (show xs.length - 1 < xs.length by omega), g2, g3, osome, oget, isL, unR, Bool.not_true, OW_get xs ins ins.length j hj, sSameNumber, sSameNumber_t, Tr.val, natEq_self, AW_len, bne_self_eq_false, up1 (show j ≤ 1048576 by omega)]
  have rest : runL wFnSlopes_l15_s (.inr (.inr (.inr ((ins.length : Int), ((1 : Nat) : Int), xs, ins, AW xs ins ins.length, OW xs ins ins.length, AW xs ins 1)))) = some (.inr (.inr (.inl (AW xs ins ins.length, AW xs ins ins.length)))) := by
    have := runL_steps (f := wFnSlopes_l15_s) (r := .inr (.inr (.inl (AW xs ins ins.length, AW xs ins ins.length)))) (ins.length - 1) 1 (fun k => .inr (.inr (.inr ((ins.length : Int), (k : Int), xs, ins, AW xs ins ins.length, OW xs ins ins.length, AW xs ins k)))) (fun j hj1 hj => stp j (by omega) hj1) (by
      rw [show 1 + (ins.length - 1) = ins.length by omega]
      show (wFnSlopes_l15_t3 (ins.length : Int) (ins.length : Int) xs ins (AW xs ins ins.length) (OW xs ins ins.length) (AW xs ins ins.length)).sem = _
      simp only [wFnSlopes_l15_t3, Tr.sem, not_lt_self, cond_false])
    exact this
  obtain ⟨t1, t2⟩ := tick h1 h8 hm hx hi8 hi 0 (by omega)
  have g3 := facts 0 (by omega)
  have t2' : iStepWave xs (ins.getD 0 0) 1056964608 1082130432 1056964608 = _ := t2
  simp only [AW] at g3
  have hlo := OW_len xs ins ins.length
  have r0 := ltRange (show 0 < ins.length by omega)
  have r1 := ltRange (show 0 < (OW xs ins ins.length).length by omega)
  simp only [Int.natCast_zero] at r0 r1
  unfold wFnSlopes_l15
  refine (runL_in (s' := .inr (.inr (.inr ((ins.length : Int), ((1 : Nat) : Int), xs, ins, AW xs ins ins.length, OW xs ins ins.length, AW xs ins 1)))) ?_).trans rest
  show (wFnSlopes_l15_t1 (ins.length : Int) 0 xs ins (AW xs ins ins.length) (OW xs ins ins.length)).sem = _
  simp only [wFnSlopes_l15_t1, Tr.sem, r0, r1, show decide ((0 : Int) ≤ 0) = true from rfl, Bool.and_self, cond_true, show Int.toNat 0 = 0 from rfl, Int.toNat_natCast, cond_false, t2', g1, g2, g3, osome, oget, isL, unR, Bool.not_true, OW_get xs ins ins.length 0 (by omega), sSameNumber, sSameNumber_t, Tr.val, natEq_self, AW_len, bne_self_eq_false]
  rfl
end
theorem half64 : (isFin .f64 4616189618054758400 = true ∧ rv .f64 4616189618054758400 = 4) ∧ (isFin .f64 4602678819172646912 = true ∧ rv .f64 4602678819172646912 = 1 / 2) ∧ (isFin .f64 4576918229304087675 = true ∧ 99 / 10000 ≤ rv .f64 4576918229304087675) := by decide +kernel
/-- What is weighed. -/
theorem weigh {A O : Nat} {a o : Rat} (fA : isFin .f64 A = true) (fO : isFin .f64 O = true) (a1 : a - 1 / 10 ^ 9 ≤ rv .f64 A) (a2 : rv .f64 A ≤ a + 1 / 10 ^ 9) (o1 : o - 1 / 10 ^ 9 ≤ rv .f64 O) (o2 : rv .f64 O ≤ o + 1 / 10 ^ 9) (a0 : 0 ≤ a) (a9 : a ≤ 60) (o0 : 0 ≤ o) (o9 : o ≤ 200) :
    isFin .f64 (fadd .f64 (fmul .f64 4616189618054758400 A) (fmul .f64 4602678819172646912 O)) = true ∧ 4 * a + o / 2 - 1 / 10 ^ 7 ≤ rv .f64 (fadd .f64 (fmul .f64 4616189618054758400 A) (fmul .f64 4602678819172646912 O)) ∧ rv .f64 (fadd .f64 (fmul .f64 4616189618054758400 A) (fmul .f64 4602678819172646912 O)) ≤ 4 * a + o / 2 + 1 / 10 ^ 7 := by
  obtain ⟨⟨c1, c2⟩, ⟨d1, d2⟩, _⟩ := half64
  have m := mul_rv .f64 c1 fA 300 (by rw [c2]; grind) (by rw [c2]; grind) (by decide +kernel)
  have n := mul_rv .f64 d1 fO 300 (by rw [d2]; grind) (by rw [d2]; grind) (by decide +kernel)
  have m1 := m.lo
  have m2 := m.hi
  have n1 := n.lo
  have n2 := n.hi
  rw [c2, eps64] at m1 m2
  rw [d2, eps64] at n1 n2
  have s := add_rv .f64 m.fin n.fin 600 (by grind) (by grind) (by decide +kernel)
  have s1 := s.lo
  have s2 := s.hi
  rw [eps64] at s1 s2
  exact ⟨s.fin, by grind, by grind⟩
theorem bytes_wf {l : List Int} (hs : l.length ≤ 1048576) (h : ∀ x : Int, List.Mem x l → (Lit.int .u8 x).wf = true) : bytesL l := bytes_of hs h
theorem long_parts {c m : List Int} (h : wb10Long c m = false) : c.length ≤ 1048576 ∧ m.length ≤ 1048576 := by
  unfold wb10Long wb10Long_t at h
  by_cases h1 : ((c.length : Nat) : Int) > 1048576
  · simp [Tr.val, h1] at h
  · simp [Tr.val, h1] at h; omega
/-- **SLOPES.** -/
theorem pureFnSlopes (x0 x1 : List Int) (h0 : List.length x0 ≤ 9223372036854775807 ∧ ∀ x : Int, List.Mem x x0 → (Lit.int .u8 x).wf = true) (h1 : List.length x1 ≤ 9223372036854775807 ∧ ∀ x : Int, List.Mem x x1 → (Lit.int .u8 x).wf = true) : wFnSlopes x0 x1 = some true := by
  unfold wFnSlopes
  simp only [wFnSlopes_t, Tr.sem]
  cases hL : wb10Long x0 x1 with
  | true => rfl
  | false =>
  obtain ⟨la, lb⟩ := long_parts hL
  have hc := bytes_wf la h0.2
  have hm := bytes_wf lb h1.2
  obtain ⟨v1, a1, a2, a3⟩ := A_at hc 0 (by omega) 8 (by omega) (by omega)
  obtain ⟨v2, b1, b2, b3⟩ := A_at hm 0 (by omega) 8 (by omega) (by omega)
  have a1' : wb10At x0 0 8 = some v1 := a1
  have b1' : wb10At x1 0 8 = some v2 := b1
  obtain ⟨n, hn⟩ : ∃ n : Nat, (n : Int) = 1 + v1 := ⟨(1 + v1).toNat, by omega⟩
  obtain ⟨m, hm'⟩ : ∃ m : Nat, (m : Int) = 1 + v2 := ⟨(1 + v2).toNat, by omega⟩
  have w1 : IntKind.wrap .i64 (1 + v1) = (n : Int) := by rw [wrap_id (by omega) (by omega)]; omega
  have w2 : IntKind.wrap .i64 (1 + v2) = (m : Int) := by rw [wrap_id (by omega) (by omega)]; omega
  obtain ⟨xs, r1, r2, r3⟩ := rain hc n (by omega)
  obtain ⟨ins, q1, q2, q3⟩ := rain hm m (by omega)
  have c8 : ∀ l : List Nat, l.length ≤ 8 → (l.length : Rat) ≤ 8 := fun l h => by
    have g : ((l.length : Nat) : Rat) ≤ ((8 : Nat) : Rat) := by exact_mod_cast h
    exact g
  have bx := rs_bound fun x hx => (r3 x hx).2
  have bi := rs_bound fun x hx => (q3 x hx).2
  have cx := c8 xs (by omega)
  have ci := c8 ins (by omega)
  have mx : ∀ x ∈ xs, isMass x = true := fun x hx => (r3 x hx).1
  have mi : ∀ x ∈ ins, isMass x = true := fun x hx => (q3 x hx).1
  have x16 : rs xs ≤ 16 := by grind
  have sr := s_run (xs := xs) (ins := ins) (by omega) (by omega) mx x16 (by omega) (by omega) q3
  have ir := i_run (xs := xs) (ins := ins) (by omega) (by omega) mx x16 (by omega) (by omega) q3
  have ag := again (xs := xs) (ins := ins) (by omega) (by omega) mx x16 (by omega) (by omega) q3
  obtain ⟨e1, e2, e3, e4, e5, e6⟩ := ticks (xs := xs) (ins := ins) (by omega) (by omega) mx x16 (by omega) q3 ins.length (Nat.le_refl _)
  rw [List.take_length] at e4 e5 e6
  have la' := AW_len xs ins ins.length
  have lo' := OW_len xs ins ins.length
  have p1 := rs_nn mx
  have p2 := rs_nn mi
  have p3 := rs_nn e1
  have p4 := rs_nn e2
  obtain ⟨T1, t1, t2, t3, t4⟩ := total_ok (l := xs) (by omega) mx (by grind)
  obtain ⟨T2, u1, u2, u3, u4⟩ := total_ok (l := ins) (by omega) mi (by grind)
  obtain ⟨T3, s1, s2, s3, s4⟩ := total_ok (l := AW xs ins ins.length) (by omega) e1 (by grind)
  obtain ⟨T4, y1, y2, y3, y4⟩ := total_ok (l := OW xs ins ins.length) (by omega) e2 (by grind)
  obtain ⟨g1, g2, g3⟩ := weigh t2 u2 t3 t4 u3 u4 p1 (by grind) p2 (by grind)
  obtain ⟨k1, k2, k3⟩ := weigh s2 y2 s3 s4 y3 y4 p3 (by grind) p4 (by grind)
  obtain ⟨gf, gv⟩ := gap_rv g1 k1 1000 (by grind) (by grind) (by decide +kernel)
  have gap : fgt .f64 (wb10Gap (fadd .f64 (fmul .f64 4616189618054758400 T1) (fmul .f64 4602678819172646912 T2)) (fadd .f64 (fmul .f64 4616189618054758400 T3) (fmul .f64 4602678819172646912 T4))) 4576918229304087675 = false := by
    have := gv (5 / 1000) (by grind) (by grind)
    rw [eps64] at this
    cases h : fgt .f64 (wb10Gap (fadd .f64 (fmul .f64 4616189618054758400 T1) (fmul .f64 4602678819172646912 T2)) (fadd .f64 (fmul .f64 4616189618054758400 T3) (fmul .f64 4602678819172646912 T4))) 4576918229304087675 with
    | false => rfl
    | true =>
      have hh := (fgt_rv .f64 gf half64.2.2.1).1 h
      have := half64.2.2.2
      exfalso; grind
  have sl := same_list (AW xs ins ins.length) (by omega)
  have tf := too_fast
  have lx : ((xs.length : Nat) : Int) = (n : Int) := by omega
  simp only [wFnSlopes_o1, wFnSlopes_o2, wFnSlopes_o3, wFnSlopes_o4, wFnSlopes_o5, wFnSlopes_o6, wFnSlopes_o7, wFnSlopes_o8, wFnSlopes_o9, wFnSlopes_o10, wFnSlopes_o11, wFnSlopes_o12, wFnSlopes_o13, wFnSlopes_o14, wFnSlopes_o15, wFnSlopes_o16, wFnSlopes_o17, wFnSlopes_o18, wFnSlopes_o19, wFnSlopes_o20, wFnSlopes_o21, wFnSlopes_o22, wFnSlopes_o23, wFnSlopes_o24, wFnSlopes_o25, wFnSlopes_o26, wFnSlopes_o27, wFnSlopes_o28, wFnSlopes_o29, wFnSlopes_o30, wFnSlopes_o31, wFnSlopes_o32, wFnSlopes_o33, wFnSlopes_o34, wFnSlopes_o35, wFnSlopes_o36, wFnSlopes_o37, wFnSlopes_o38, wFnSlopes_o39, wFnSlopes_o40, wFnSlopes_o41, wFnSlopes_o42, wFnSlopes_o43, wFnSlopes_o44, wFnSlopes_o45, wFnSlopes_o46, wFnSlopes_o47, wFnSlopes_o48, wFnSlopes_o49, wFnSlopes_o50, wFnSlopes_o51, wFnSlopes_o52, wFnSlopes_o53, wFnSlopes_o54, wFnSlopes_o55, wFnSlopes_o56, wFnSlopes_o57, wFnSlopes_o58, wFnSlopes_o59, wFnSlopes_o60, wFnSlopes_o61, wFnSlopes_o62, wFnSlopes_o63, Tr.sem, a1', b1', w1, w2, r1, q1, sr, ir, ag, t1, u1, s1, y1, gap, sl, tf, la', lo', osome, oget, isL, unR, unL, bne_self_eq_false, Bool.not_true, beq_self_eq_true, cond_true, cond_false]
end Go.Proofs.Ytpglfnkkmafhbaa
