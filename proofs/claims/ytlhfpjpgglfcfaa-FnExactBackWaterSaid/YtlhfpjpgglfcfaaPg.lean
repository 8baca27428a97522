/- Flows at depths, normal depths: the program's and the reference's are the same. -/
import Derived.Test.YtlhfpjpgglfcfaaPf
set_option linter.unusedVariables false
set_option linter.unusedSimpArgs false
set_option linter.constructorNameAsVariable false
namespace Go.Proofs.Ytlhfpjpgglfcfaa
open Go.RowKit
set_option maxRecDepth 100000

theorem q_fin_iff (k : FloatKind) (c : Nat) : isFin k c = decide (mg k c < k.format.infRung) := by
  have hb := binade_le k
  by_cases h : mg k c < k.format.infRung
  · obtain ⟨s, m, e, hr, _, _⟩ := fin_mg k h
    rw [decide_eq_true h]
    unfold isFin
    rw [hr]
  · rw [decide_eq_false h]
    unfold isFin
    have h2 : ∀ s m e, k.format.read c ≠ .number s m e := fun s m e hr => h (read_val hb hr).2.2
    cases hr : k.format.read c with
    | number s m e => exact absurd hr (h2 s m e)
    | infinity s => rfl
    | nan s t => rfl
noncomputable def midQ (a b c d x : Nat) : Nat := fdiv .f32 (sl04Area a b c d x) (sl04Wet a b c d x)
theorem P_mid1 (a b c d x : Nat) : (sl04Middle a b c d x).1 = (sl02Number (midQ a b c d x)).1 ∧ (sl04Middle a b c d x).2 = (isFin .f32 (midQ a b c d x) && isFin .f32 (sl04Area a b c d x) && isFin .f32 (sl04Wet a b c d x)) := by
  unfold sl04Middle sl04Middle_t midQ
  rw [num_1]
  cases isFin .f32 (fdiv .f32 (sl04Area a b c d x) (sl04Wet a b c d x)) <;> cases isFin .f32 (sl04Area a b c d x) <;> exact ⟨rfl, rfl⟩
theorem num_v (x : Nat) : sl02Number x = bif isFin .f32 x then (x, true) else (0, false) := by
  unfold sl02Number sl02Number_t
  cases h : isFin .f32 x <;> simp [Tr.val, h]
theorem P_areaS (a b c d x : Nat) : sAreaAt a b c d x = bif vS a b c d && isLen x && isFin .f32 (sl04Area a b c d x) then (sl04Area a b c d x, true) else (0, false) := by
  unfold sAreaAt sAreaAt_t
  simp only [P_can, Tr.val, num_v]
  cases vS a b c d <;> cases isLen x <;> cases isFin .f32 (sl04Area a b c d x) <;> rfl
theorem P_wetI (a b c d x : Nat) : iWetAt a b c d x = some (bif vS a b c d && isLen x && isFin .f32 (sl04Wet a b c d x) then (sl04Wet a b c d x, true) else (0, false)) := by
  have e : fadd .f32 a (fmul .f32 (fmul .f32 1073741824 x) (froot (fadd .f32 1065353216 (fmul .f32 b b)))) = sl04Wet a b c d x := rfl
  unfold iWetAt iWetAt_t
  simp only [P_flow a b c d [x] (by simp), Tr.sem, osome, oget, cond_true, List.all_cons, List.all_nil, Bool.and_true, num_same, e, num_v]
  cases vS a b c d <;> cases isLen x <;> cases isFin .f32 (sl04Wet a b c d x) <;> rfl
theorem P_midI (a b c d x : Nat) : iMiddleAt a b c d x = some (bif vS a b c d && isLen x && (isFin .f32 (midQ a b c d x) && isFin .f32 (sl04Area a b c d x) && isFin .f32 (sl04Wet a b c d x)) then (midQ a b c d x, true) else (0, false)) := by
  unfold iMiddleAt iMiddleAt_t
  simp only [P_area, P_areaS, P_wetI, Tr.sem, osome, oget, cond_true, num_same, num_v]
  cases vS a b c d <;> cases isLen x <;> cases ha : isFin .f32 (sl04Area a b c d x) <;> cases hw : isFin .f32 (sl04Wet a b c d x) <;> try rfl
  · cases isFin .f32 (midQ a b c d x) <;> rfl
  · cases isFin .f32 (midQ a b c d x) <;> rfl
  · cases isFin .f32 (midQ a b c d x) <;> rfl
  · show some _ = _
    simp only [Bool.and_self, cond_true, Bool.not_true, cond_false, Bool.true_and, Bool.and_true]
    rfl
theorem P_flowAt (a b c d x : Nat) : ∃ r, sFlowAt a b c d x = some r ∧ iFlowAt a b c d x = some r := by
  obtain ⟨m1, m2⟩ := P_mid1 a b c d x
  unfold sFlowAt sFlowAt_t iFlowAt iFlowAt_t
  simp only [P_can, P_area, P_areaS, P_midI, Tr.sem, osome, oget, cond_true]
  cases hv : vS a b c d && isLen x with
  | false => exact ⟨(0, false), rfl, rfl⟩
  | true =>
  have hF : sl04Flow a b c d x = (sl04Flow_t a b c d x).sem := rfl
  unfold sl04Flow_t at hF
  simp only [m1, m2, Tr.sem] at hF
  cases ha : isFin .f32 (sl04Area a b c d x) with
  | false =>
    rw [ha] at hF
    simp only [Bool.and_false, Bool.false_and, Bool.not_false, cond_true] at hF
    simp only [hF, Bool.and_false, Bool.false_and, Bool.not_false, Bool.not_true, cond_true, cond_false, osome, oget]
    exact ⟨(0, false), rfl, rfl⟩
  | true =>
  cases hq : (isFin .f32 (midQ a b c d x) && isFin .f32 (sl04Wet a b c d x)) with
  | false =>
    have hq' : (isFin .f32 (midQ a b c d x) && true && isFin .f32 (sl04Wet a b c d x)) = false := by rw [Bool.and_true]; exact hq
    rw [ha, hq'] at hF
    simp only [Bool.not_false, cond_true] at hF
    simp only [hF, hq', Bool.and_false, Bool.and_self, Bool.not_false, Bool.not_true, cond_true, cond_false, osome, oget]
    exact ⟨(0, false), rfl, rfl⟩
  | true =>
    have hq' : (isFin .f32 (midQ a b c d x) && true && isFin .f32 (sl04Wet a b c d x)) = true := by rw [Bool.and_true]; exact hq
    have hm : isFin .f32 (midQ a b c d x) = true := by revert hq; cases isFin .f32 (midQ a b c d x) <;> simp
    have hfin : mg .f32 (midQ a b c d x) < FloatKind.f32.format.infRung := by
      rw [q_fin_iff] at hm; exact of_decide_eq_true hm
    obtain ⟨l, w, l1, l2, w1, w2⟩ := P_pow23 (midQ a b c d x) hfin
    rw [ha, hq', num_2 hm] at hF
    simp only [Bool.not_true, cond_false, l1, w1, osome, oget, cond_true] at hF
    simp only [hF, hq', l2, w2, Bool.and_self, Bool.not_true, cond_true, cond_false, osome, oget, num_same]
    exact ⟨_, rfl, rfl⟩
theorem pureFnExactFlowAt (a b c d x : Nat) : wFnExactFlowAt a b c d x = some true := by
  obtain ⟨r, h1, h2⟩ := P_flowAt a b c d x
  unfold wFnExactFlowAt wFnExactFlowAt_t
  simp only [sec_to, h1, h2, Tr.sem, osome, oget, cond_true, natEq_self, beq_self_eq_true, Bool.not_true, cond_false]
noncomputable def flowR (a b c d x : Nat) : Nat × Bool := (sFlowAt a b c d x).getD (0, false)
theorem flow_s (a b c d x : Nat) : sFlowAt a b c d x = some (flowR a b c d x) ∧ iFlowAt a b c d x = some (flowR a b c d x) := by
  obtain ⟨r, h1, h2⟩ := P_flowAt a b c d x
  have : flowR a b c d x = r := by unfold flowR; rw [h1]; rfl
  rw [this]; exact ⟨h1, h2⟩
/-! ### Normal depths -/
noncomputable def normG (a b c d y x : Nat) : Bool × Bool := (fgt .f32 (flowR a b c d x).1 y, (flowR a b c d x).2)
theorem P_normI (lo hi a b c d y : Nat) : ihalve_iNormalDepth_1_l2 lo hi a b c d y 0 = some (pairO (hRun (normG a b c d y) (lo, hi))) :=
  halved (normG a b c d y) pairO (fun lo hi k hk => by
    simp only [ihalve_iNormalDepth_1_l2_t, iNormalDepth_1, iNormalDepth_1_t, hk, (flow_s _ _ _ _ _).2, Tr.sem, osome, oget, cond_true, mid, normG]
    cases (flowR a b c d (fmul .f32 1056964608 (fadd .f32 lo hi))).2 <;> cases fgt .f32 (flowR a b c d (fmul .f32 1056964608 (fadd .f32 lo hi))).1 y <;> rfl) (fun lo hi => rfl) lo hi
theorem P_normS (lo hi a b c d y : Nat) : sNormalDepth_l6 y lo hi 0 a b c d = some (highO (hRun (normG a b c d y) (lo, hi))) :=
  halved (normG a b c d y) highO (fun lo hi k hk => by
    simp only [sNormalDepth_l6_t, hk, (flow_s _ _ _ _ _).1, Tr.sem, osome, oget, cond_true, mid, normG]
    cases (flowR a b c d (fmul .f32 1056964608 (fadd .f32 lo hi))).2 <;> cases fgt .f32 (flowR a b c d (fmul .f32 1056964608 (fadd .f32 lo hi))).1 y <;> rfl) (fun lo hi => rfl) lo hi
noncomputable def normV (a b c d y : Nat) : Nat × Bool := bif vS a b c d && isLen y then (match hRun (normG a b c d y) (0, 1148846080) with
  | .inl _ => (0, false)
  | .inr t => (t.2, true)) else (0, false)
theorem P_iN (a b c d y : Nat) : iNormalDepth a b c d y = some (normV a b c d y) := by
  unfold iNormalDepth iNormalDepth_t normV
  simp only [P_flow a b c d [y] (by simp), List.all_cons, List.all_nil, Bool.and_true, ihalve_iNormalDepth_1, ihalve_iNormalDepth_1_t, P_normI, Tr.sem, osome, oget, cond_true]
  cases (vS a b c d && isLen y) <;> simp only [Bool.not_true, Bool.not_false, cond_true, cond_false]
  cases hRun (normG a b c d y) (0, 1148846080) <;> rfl
theorem P_sN (a b c d y : Nat) : sNormalDepth a b c d y = some (normV a b c d y) := by
  unfold sNormalDepth sNormalDepth_t normV
  simp only [P_is, P_normS, Tr.sem, osome, oget, cond_true]
  cases vS a b c d <;> cases isLen y <;> simp only [Bool.not_true, Bool.not_false, cond_true, cond_false, Bool.and_self, Bool.and_false, Bool.false_and]
  cases hRun (normG a b c d y) (0, 1148846080) <;> rfl
theorem pureFnExactNormalDepth (a b c d x : Nat) : wFnExactNormalDepth a b c d x = some true := by
  unfold wFnExactNormalDepth wFnExactNormalDepth_t
  simp only [sec_to, P_iN, P_sN, Tr.sem, osome, oget, cond_true, natEq_self, beq_self_eq_true, Bool.not_true, cond_false]
theorem P_mild (a b c d x : Nat) : ∃ r, sIsMild a b c d x = some r ∧ iIsMild a b c d x = some r := by
  unfold sIsMild sIsMild_t iIsMild iIsMild_t
  simp only [P_iN, P_sN, P_iC, P_sC, Tr.sem, osome, oget, cond_true]
  cases (normV a b c d x).2 <;> cases (critS a b c d x).2 <;> exact ⟨_, rfl, rfl⟩
theorem pureFnExactIsMild (a b c d x : Nat) : wFnExactIsMild a b c d x = some true := by
  obtain ⟨r, h1, h2⟩ := P_mild a b c d x
  unfold wFnExactIsMild wFnExactIsMild_t
  simp only [sec_to, h1, h2, Tr.sem, osome, oget, cond_true, natEq_self, beq_self_eq_true, Bool.not_true, cond_false]
end Go.Proofs.Ytlhfpjpgglfcfaa
