/- Steepness, steps against the flow: the program's and the reference's are the same. -/
import Derived.Test.YtlhfpjpgglfcfaaPk
set_option linter.unusedVariables false
set_option linter.unusedSimpArgs false
set_option linter.constructorNameAsVariable false
namespace Go.Proofs.Ytlhfpjpgglfcfaa
open Go.RowKit
set_option maxRecDepth 100000

theorem P_midS (a b c d x : Nat) : sMiddleAt a b c d x = bif vS a b c d && isLen x && (isFin .f32 (midQ a b c d x) && isFin .f32 (sl04Area a b c d x) && isFin .f32 (sl04Wet a b c d x)) then (midQ a b c d x, true) else (0, false) := by
  obtain ⟨m1, m2⟩ := P_mid1 a b c d x
  unfold sMiddleAt sMiddleAt_t
  simp only [P_can, m1, m2, Tr.val]
  cases vS a b c d && isLen x with
  | false => rfl
  | true =>
    cases hq : isFin .f32 (midQ a b c d x) with
    | false => simp
    | true =>
      rw [num_2 hq]
      cases isFin .f32 (sl04Area a b c d x) <;> cases isFin .f32 (sl04Wet a b c d x) <;> rfl
theorem P_midE (a b c d x : Nat) : iMiddleAt a b c d x = some (sMiddleAt a b c d x) := by rw [P_midI, P_midS]
theorem P_speedS (a b c d x y : Nat) : iSpeedAt a b c d x y = some (sSpeedAt a b c d x y) := by
  rw [P_speed]
  unfold sSpeedAt sSpeedAt_t
  simp only [P_both, Tr.val]
  cases vS a b c d && isLen x && isLen y with
  | false => rfl
  | true =>
    cases h : sl04Speed a b c d x y with
    | mk p q => cases q <;> rfl
theorem P_steep (a b c d x y : Nat) : ∃ r, sSteepnessAt a b c d x y = some r ∧ iSteepnessAt a b c d x y = some r := by
  unfold sSteepnessAt sSteepnessAt_t iSteepnessAt iSteepnessAt_t
  simp only [P_midE, P_speedS, Tr.sem, osome, oget, cond_true]
  cases h1 : (sSpeedAt a b c d x y).2 with
  | false => exact ⟨(0, false), rfl, rfl⟩
  | true =>
  cases h2 : (sMiddleAt a b c d x).2 with
  | false => exact ⟨(0, false), rfl, rfl⟩
  | true =>
    have hm := P_midS a b c d x
    cases hc : (vS a b c d && isLen x && (isFin .f32 (midQ a b c d x) && isFin .f32 (sl04Area a b c d x) && isFin .f32 (sl04Wet a b c d x))) with
    | false => rw [hc] at hm; rw [hm] at h2; cases h2
    | true =>
      rw [hc] at hm
      have hm1 : (sMiddleAt a b c d x).1 = midQ a b c d x := by rw [hm]; rfl
      rw [Bool.and_eq_true, Bool.and_eq_true] at hc
      rw [Bool.and_eq_true] at hc
      have hle : mg .f32 (midQ a b c d x) ≤ p32 73 := mid_le a b c d x (by rw [Bool.and_eq_true]; exact hc.1) (Bool.and_eq_true _ _ ▸ hc.2.1 |>.2) hc.2.2
      obtain ⟨l, w, l1, l2, w1, w2⟩ := P_pow43 (midQ a b c d x) hle
      rw [hm1]
      simp only [l1, l2, w1, w2, osome, oget, cond_true, cond_false, Bool.not_true, num_same]
      exact ⟨_, rfl, rfl⟩
theorem pureFnExactSteepnessAt (a b c d x y : Nat) : wFnExactSteepnessAt a b c d x y = some true := by
  obtain ⟨r, h1, h2⟩ := P_steep a b c d x y
  unfold wFnExactSteepnessAt wFnExactSteepnessAt_t
  simp only [sec_to, h1, h2, Tr.sem, osome, oget, cond_true, natEq_self, beq_self_eq_true, Bool.not_true, cond_false]
noncomputable def steepR (a b c d x y : Nat) : Nat × Bool := (sSteepnessAt a b c d x y).getD (0, false)
theorem steep_s (a b c d x y : Nat) : sSteepnessAt a b c d x y = some (steepR a b c d x y) ∧ iSteepnessAt a b c d x y = some (steepR a b c d x y) := by
  obtain ⟨r, h1, h2⟩ := P_steep a b c d x y
  have : steepR a b c d x y = r := by unfold steepR; rw [h1]; rfl
  rw [this]; exact ⟨h1, h2⟩
/-! ### Steps -/
noncomputable def stepG (a b c d y s h t x : Nat) : Bool × Bool := (fgt .f32 (fadd .f32 (sl04Of a b c d x y false).1 (fmul .f32 c s)) (fadd .f32 h (fmul .f32 s (fmul .f32 1056964608 (fadd .f32 t (steepR a b c d x y).1)))), (sl04Of a b c d x y false).2 && (steepR a b c d x y).2)
theorem P_step1 (a b c d y s h t x : Nat) : iBackStep_1 x a b c d y s h t = some (stepG a b c d y s h t x) := by
  unfold iBackStep_1 iBackStep_1_t stepG
  simp only [P_head, (steep_s _ _ _ _ _ _).2, Tr.sem, osome, oget, cond_true]
  cases (sl04Of a b c d x y false).2 <;> rfl
theorem P_stepI (lo hi a b c d y s h t : Nat) : ihalve_iBackStep_1_l2 lo hi a b c d y s h t 0 = some (pairO (hRun (stepG a b c d y s h t) (lo, hi))) :=
  halved (stepG a b c d y s h t) pairO (fun lo hi k hk => by
    simp only [ihalve_iBackStep_1_l2_t, hk, P_step1, Tr.sem, osome, oget, cond_true, mid]
    cases (stepG a b c d y s h t (fmul .f32 1056964608 (fadd .f32 lo hi))).2 <;> cases (stepG a b c d y s h t (fmul .f32 1056964608 (fadd .f32 lo hi))).1 <;> rfl) (fun lo hi => rfl) lo hi
theorem P_stepS (lo hi a b c d y s h t : Nat) : sBackStep_l9 y s h t lo hi 0 a b c d = some (highO (hRun (stepG a b c d y s h t) (lo, hi))) :=
  halved (stepG a b c d y s h t) highO (fun lo hi k hk => by
    simp only [sBackStep_l9_t, hk, P_sHead, (steep_s _ _ _ _ _ _).1, Tr.sem, osome, oget, cond_true, mid, stepG]
    cases (sl04Of a b c d (fmul .f32 1056964608 (fadd .f32 lo hi)) y false).2 <;> cases (steepR a b c d (fmul .f32 1056964608 (fadd .f32 lo hi)) y).2 <;> simp only [Bool.not_true, Bool.not_false, cond_true, cond_false, Bool.and_self, Bool.and_false, Bool.false_and] <;> first | rfl | skip
    cases fgt .f32 (fadd .f32 (sl04Of a b c d (fmul .f32 1056964608 (fadd .f32 lo hi)) y false).1 (fmul .f32 c s)) (fadd .f32 h (fmul .f32 s (fmul .f32 1056964608 (fadd .f32 t (steepR a b c d (fmul .f32 1056964608 (fadd .f32 lo hi)) y).1)))) <;> rfl) (fun lo hi => rfl) lo hi
theorem P_back (a b c d x y s : Nat) : ∃ r, sBackStep a b c d x y s = some r ∧ iBackStep a b c d x y s = some r := by
  unfold sBackStep sBackStep_t iBackStep iBackStep_t
  simp only [P_iC, P_sC, P_sHead, P_head, (steep_s _ _ _ _ _ _).1, (steep_s _ _ _ _ _ _).2, P_stepS, ihalve_iBackStep_1, ihalve_iBackStep_1_t, P_stepI, Tr.sem, osome, oget, cond_true]
  cases (critS a b c d y).2 with
  | false => exact ⟨(0, false), rfl, rfl⟩
  | true =>
  cases (sl04Of a b c d x y false).2 with
  | false => exact ⟨(0, false), rfl, rfl⟩
  | true =>
  cases (steepR a b c d x y).2 with
  | false => exact ⟨(0, false), rfl, rfl⟩
  | true =>
  cases isLen s with
  | false => exact ⟨(0, false), rfl, rfl⟩
  | true =>
  cases fgt .f32 x (critS a b c d y).1 with
  | false => exact ⟨(0, false), rfl, rfl⟩
  | true =>
    simp only [Bool.not_true, cond_false]
    cases hRun (stepG a b c d y s (sl04Of a b c d x y false).1 (steepR a b c d x y).1) ((critS a b c d y).1, 1148846080) with
    | inl u => exact ⟨(0, false), rfl, rfl⟩
    | inr t => exact ⟨(t.2, true), rfl, rfl⟩
theorem pureFnExactBackStep (a b c d x y s : Nat) : wFnExactBackStep a b c d x y s = some true := by
  obtain ⟨r, h1, h2⟩ := P_back a b c d x y s
  unfold wFnExactBackStep wFnExactBackStep_t
  simp only [sec_to, h1, h2, Tr.sem, osome, oget, cond_true, natEq_self, beq_self_eq_true, Bool.not_true, cond_false]
noncomputable def backR (a b c d x y s : Nat) : Nat × Bool := (sBackStep a b c d x y s).getD (0, false)
theorem back_s (a b c d x y s : Nat) : sBackStep a b c d x y s = some (backR a b c d x y s) ∧ iBackStep a b c d x y s = some (backR a b c d x y s) := by
  obtain ⟨r, h1, h2⟩ := P_back a b c d x y s
  have : backR a b c d x y s = r := by unfold backR; rw [h1]; rfl
  rw [this]; exact ⟨h1, h2⟩
/-! ### Back waters -/
def win (lo hi n : Int) : Bool := decide (lo ≤ n) && decide (n ≤ hi)
theorem R_within (n lo hi : Int) : iwithin n lo hi = win lo hi n := by
  unfold iwithin iwithin_t win
  cases h : decide (lo ≤ n) <;> simp_all [Tr.val]
theorem Q_in (n lo hi : Int) : sl00In n lo hi = win lo hi n := by
  unfold sl00In sl00In_t win
  cases h : decide (n ≥ lo) <;> simp_all [Tr.val]
theorem P_water (a b c d y s : Nat) (n : Nat) (hn : n ≤ 64) : ∀ (j : Nat) (x : Nat) (l : List Nat), j ≤ n → l.length = n - j →
    ∃ r : Unit ⊕ List Nat, runL (fun t : Nat × Int × List Nat => (sBackWater_l5_t y s (n : Int) a b c d t.1 t.2.1 t.2.2).sem) (x, ((n - j : Nat) : Int), l) = some r ∧ runL (fun t : Nat × Int × List Nat => (iBackWater_l5_t y s (n : Int) a b c d t.1 t.2.1 t.2.2).sem) (x, ((n - j : Nat) : Int), l) = some r ∧ ∀ q, r = .inr q → q.length ≤ 64
  | 0, x, l, hj, hl => by
    refine ⟨.inr l, runL_out ?_, runL_out ?_, fun q h => by cases h; omega⟩
    · simp only [sBackWater_l5_t, Tr.sem, Nat.sub_zero, not_lt_self, cond_false]
    · simp only [iBackWater_l5_t, Tr.sem, Nat.sub_zero, not_lt_self, cond_false]
  | j + 1, x, l, hj, hl => by
    have hlt : decide (((n - (j + 1) : Nat) : Int) < (n : Int)) = true := by simp; omega
    have hw : IntKind.wrap .i64 (((n - (j + 1) : Nat) : Int) + 1) = ((n - j : Nat) : Int) := by rw [wrap_id (by omega) (by omega)]; omega
    cases h : (backR a b c d x y s).2 with
    | false =>
      refine ⟨.inl (), runL_out ?_, runL_out ?_, fun q h => by cases h⟩
      · simp only [sBackWater_l5_t, Tr.sem, hlt, (back_s _ _ _ _ _ _ _).1, osome, oget, cond_true, h, Bool.not_false]
      · simp only [iBackWater_l5_t, Tr.sem, hlt, (back_s _ _ _ _ _ _ _).2, osome, oget, cond_true, h, Bool.not_false]
    | true =>
      obtain ⟨r, r1, r2, r3⟩ := P_water a b c d y s n hn j (backR a b c d x y s).1 (l ++ [(backR a b c d x y s).1]) (by omega) (by simp only [List.length_append, List.length_cons, List.length_nil]; omega)
      have hf : decide ((l.length + List.length [(backR a b c d x y s).1]) * 4 ≤ 140737488355328) = true := by simp only [List.length_cons, List.length_nil, decide_eq_true_eq]; omega
      refine ⟨r, (runL_in (s' := ((backR a b c d x y s).1, ((n - j : Nat) : Int), l ++ [(backR a b c d x y s).1])) ?_).trans r1, (runL_in (s' := ((backR a b c d x y s).1, ((n - j : Nat) : Int), l ++ [(backR a b c d x y s).1])) ?_).trans r2, r3⟩
      · simp only [sBackWater_l5_t, Tr.sem, hlt, (back_s _ _ _ _ _ _ _).1, osome, oget, cond_true, h, Bool.not_true, cond_false, hf, hw]
      · simp only [iBackWater_l5_t, Tr.sem, hlt, (back_s _ _ _ _ _ _ _).2, osome, oget, cond_true, h, Bool.not_true, cond_false, hf, hw]
theorem P_waters (a b c d x y s : Nat) (n : Int) : ∃ r, sBackWater a b c d x y s n = some r ∧ iBackWater a b c d x y s n = some r ∧ ∀ q, r = .inr q → q.length ≤ 64 := by
  unfold sBackWater sBackWater_t iBackWater iBackWater_t
  simp only [P_both, P_flow a b c d [x, y, s] (by simp), List.all_cons, List.all_nil, Bool.and_true, R_within, Q_in, Tr.sem, osome, oget, cond_true]
  cases vS a b c d with
  | false => exact ⟨.inl (), rfl, rfl, fun q h => by cases h⟩
  | true =>
  cases isLen x with
  | false => exact ⟨.inl (), rfl, rfl, fun q h => by cases h⟩
  | true =>
  cases isLen y with
  | false => exact ⟨.inl (), rfl, rfl, fun q h => by cases h⟩
  | true =>
  cases isLen s with
  | false => exact ⟨.inl (), rfl, rfl, fun q h => by cases h⟩
  | true =>
  cases hw : win 0 64 n with
  | false => exact ⟨.inl (), rfl, rfl, fun q h => by cases h⟩
  | true =>
    simp only [win, Bool.and_eq_true, decide_eq_true_eq] at hw
    obtain ⟨m, rfl⟩ : ∃ m : Nat, n = (m : Int) := ⟨n.toNat, by omega⟩
    obtain ⟨r, r1, r2, r3⟩ := P_water a b c d y s m (by omega) m x [] (Nat.le_refl _) (by simp)
    rw [Nat.sub_self] at r1 r2
    have r1' : sBackWater_l5 x y s (m : Int) 0 a b c d [] = some r := r1
    have r2' : iBackWater_l5 x y s (m : Int) 0 a b c d [] = some r := r2
    simp only [r1', r2', Bool.and_self, Bool.not_true, cond_false, osome, oget, cond_true]
    cases r with
    | inl u => exact ⟨.inl (), rfl, rfl, fun q h => by cases h⟩
    | inr q => exact ⟨.inr q, rfl, rfl, r3⟩
/-! ### What laws compare and mark -/
theorem R_eq (xs : List Nat) (h : xs.length ≤ 1048576) : weqFloat32S xs xs = some true := by
  unfold weqFloat32S weqFloat32S_t
  have h1 : weqFloat32S_l4 xs xs 0 = some () := by
    unfold weqFloat32S_l4
    have := run_all (f := fun s => (weqFloat32S_l4_t xs xs s).sem) xs 0 (fun _ => true) () () (by omega) (fun k hk x hx => by
      simp only [weqFloat32S_l4_t, Tr.sem, ltRange hk, zeroLe, Bool.and_self, cond_true, natEq_self]) (by simp only [weqFloat32S_l4_t, Tr.sem, not_lt_self, cond_false])
    rw [all_true] at this
    exact this
  simp only [Tr.sem, bne_self_eq_false, cond_false, h1, osome, cond_true]
/-- The words of numbers one after another. -/
def seqF : Int → Nat → List Nat
  | _, 0 => []
  | k, n + 1 => FloatKind.nearest .f32 k :: seqF (k + 1) n
theorem seqF_len : ∀ (n : Nat) (k : Int), (seqF k n).length = n
  | 0, _ => rfl
  | n + 1, k => by simp [seqF, seqF_len n]
theorem seqF_get : ∀ (n : Nat) (k : Int) (j : Nat), j < n → (seqF k n)[j]? = some (FloatKind.nearest .f32 (k + j))
  | 0, _, j, h => by omega
  | n + 1, k, 0, h => by simp [seqF]
  | n + 1, k, j + 1, h => by
    simp only [seqF, List.getElem?_cons_succ]
    rw [seqF_get n (k + 1) j (by omega)]
    congr 2; omega
theorem fold_markF (m : Int) : ∀ (xs ys : List Nat) (k : Nat) (pre : List Nat), pre.length = k → ys.length = xs.length → foldE (fun k (t : List Nat) (x : Nat) => (.inl (t.set k (FloatKind.nearest .f32 (m + k))) : List Nat ⊕ List Nat)) id k (pre ++ ys) xs = pre ++ seqF (m + k) xs.length
  | [], ys, k, pre, hp, hl => by
    have : ys = [] := List.length_eq_zero_iff.1 (by simpa using hl)
    subst this; rfl
  | x :: xs, [], k, pre, hp, hl => by simp at hl
  | x :: xs, y :: ys, k, pre, hp, hl => by
    simp only [foldE]
    have e : (pre ++ y :: ys).set k (FloatKind.nearest .f32 (m + k)) = (pre ++ [FloatKind.nearest .f32 (m + (k : Int))]) ++ ys := by
      rw [List.set_append_right _ _ (by omega), show k - pre.length = 0 from by omega, List.set_cons_zero, List.append_assoc]; rfl
    rw [e, fold_markF m xs ys (k + 1) (pre ++ [FloatKind.nearest .f32 (m + (k : Int))]) (by simp [hp]) (by simpa using hl), List.append_assoc, show m + ((k + 1 : Nat) : Int) = m + k + 1 from by omega]; rfl
theorem R_markG (m : Int) (xs : List Nat) (h : xs.length ≤ 1048576) (h0 : 0 ≤ m) (hm : m ≤ 16777216) : wmarkFloat32S m xs = some (m + (xs.length : Int), seqF m xs.length) := by
  unfold wmarkFloat32S wmarkFloat32S_t
  have h1 : wmarkFloat32S_l2 m 0 xs = some (m + (xs.length : Int), seqF m xs.length) := by
    unfold wmarkFloat32S_l2
    have := runL_for (f := fun s : Int × Int × List Nat => (wmarkFloat32S_l2_t s.1 s.2.1 s.2.2).sem) xs (fun k (t : List Nat) => (m + (k : Int), (k : Int), t)) (fun k t x => .inl (t.set k (FloatKind.nearest .f32 (m + (k : Int))))) (fun t => (m + (xs.length : Int), t)) (fun _ t => t.length = xs.length) xs rfl (fun k t x hi hk hx => by
      simp only [wmarkFloat32S_l2_t, Tr.sem, ltRange (show k < t.length by omega), zeroLe, Bool.and_self, cond_true, Int.toNat_natCast]
      rw [wrap_id (by omega) (by omega), wrap_id (by omega) (by omega)]
      simp only [Int.natCast_add, Int.add_assoc]; rfl) (fun k t x t' hi hk hx e => by cases e; simpa using hi) (fun t hi => by
      simp only [wmarkFloat32S_l2_t, Tr.sem]
      rw [hi, not_lt_self]; rfl)
    have e := fold_markF m xs xs 0 [] rfl rfl
    have key : ∀ (ys : List Nat) (k : Nat) (t : List Nat), foldE (fun k (t : List Nat) (x : Nat) => (.inl (t.set k (FloatKind.nearest .f32 (m + (k : Int)))) : List Nat ⊕ (Int × List Nat))) (fun t => (m + (xs.length : Int), t)) k t ys = (m + (xs.length : Int), foldE (fun k (t : List Nat) (x : Nat) => (.inl (t.set k (FloatKind.nearest .f32 (m + k))) : List Nat ⊕ List Nat)) id k t ys) := by
      intro ys
      induction ys with
      | nil => intro k t; rfl
      | cons y ys ih => intro k t; simp only [foldE]; exact ih _ _
    rw [key] at this
    simp only [List.nil_append] at e
    rw [e] at this
    simp only [Int.natCast_zero, Int.add_zero] at this
    exact this
  simp only [Tr.sem, h1, osome, oget, cond_true]
theorem R_mark (xs : List Nat) (h : xs.length ≤ 1048576) : wmarkFloat32S 1 xs = some (1 + (xs.length : Int), seqF 1 xs.length) := R_markG 1 xs h (by omega) (by omega)
theorem near_num (n : Int) : isN .f32 (FloatKind.nearest .f32 n) = false := isN_encode .f32 _ rfl
theorem R_heldG (m : Int) (n : Nat) (h : n ≤ 1048576) (h0 : 0 ≤ m) (hm : m ≤ 16777216) : wheldFloat32S (seqF m n) m = some (m + (n : Int)) := by
  unfold wheldFloat32S wheldFloat32S_t
  have h1 : wheldFloat32S_l2 (seqF m n) m 0 = some (.inr (m + (n : Int))) := by
    unfold wheldFloat32S_l2
    have := runL_for (f := fun s : Int × Int => (wheldFloat32S_l2_t (seqF m n) s.1 s.2).sem) (seqF m n) (fun k (_ : Unit) => (m + (k : Int), (k : Int))) (fun k t x => (.inl () : Unit ⊕ (Int ⊕ Int))) (fun t => .inr (m + (n : Int))) (fun _ _ => True) () trivial (fun k t x _ hk hx => by
      have hk' : k < n := by rw [seqF_len] at hk; exact hk
      have hx' := seqF_get n m k hk'
      rw [hx] at hx'
      cases hx'
      simp only [wheldFloat32S_l2_t, Tr.sem, ltRange hk, zeroLe, Bool.and_self, cond_true, Int.toNat_natCast, getD_at hx, feq_self, near_num, Bool.not_false, Bool.not_true, cond_false]
      rw [wrap_id (by omega) (by omega), wrap_id (by omega) (by omega)]
      simp only [Int.natCast_add, Int.add_assoc]; rfl) (fun _ _ _ _ _ _ _ _ => trivial) (fun _ _ => by
      simp only [wheldFloat32S_l2_t, Tr.sem, not_lt_self, cond_false, seqF_len])
    have key : ∀ (ys : List Nat) (k : Nat), foldE (fun k (t : Unit) (x : Nat) => (.inl () : Unit ⊕ (Int ⊕ Int))) (fun t => .inr (m + (n : Int))) k () ys = .inr (m + (n : Int)) := by
      intro ys
      induction ys with
      | nil => intro k; rfl
      | cons y ys ih => intro k; simp only [foldE]; exact ih _
    rw [key] at this
    simp only [Int.natCast_zero, Int.add_zero] at this
    exact this
  simp only [Tr.sem, h1, osome, oget, cond_true, isL, unR, cond_false]
theorem R_held (n : Nat) (h : n ≤ 1048576) : wheldFloat32S (seqF 1 n) 1 = some (1 + (n : Int)) := R_heldG 1 n h (by omega) (by omega)
theorem R_heldnil : wheldFloat32S [] 1 = some 1 := R_held 0 (by omega)
theorem R_eqnil : weqFloat32S [] [] = some true := R_eq [] (by simp)
theorem R_nilG (n : Int) : wmarkFloat32S_nil n = some n := by
  unfold wmarkFloat32S_nil wmarkFloat32S_nil_t
  have h : wmarkFloat32S_nil_l2 n 0 = some n := runL_out rfl
  simp only [h, Tr.sem, osome, oget, cond_true]
theorem pureFnExactBackWater (a b c d x y s : Nat) (n : Int) : wFnExactBackWater a b c d x y s n = some true := by
  obtain ⟨r, s1, s2, hq⟩ := P_waters a b c d x y s n
  unfold wFnExactBackWater wFnExactBackWater_t
  simp only [sec_to, s1, s2, Tr.sem, osome, oget, cond_true, Bool.not_true, cond_false, R_eqnil, R_nilG, R_heldnil, beq_self_eq_true, bne_self_eq_false]
  cases r with
  | inl u => simp [isL]
  | inr l =>
    have hl : l.length ≤ 1048576 := by have := hq l rfl; omega
    have hd : decide (1 + (l.length : Int) < 0) = false := by simp only [decide_eq_false_iff_not]; omega
    simp only [isL, unR, cond_false, R_eq l hl, R_mark l hl, R_held l.length hl, hd, Bool.not_true, cond_true, bne_self_eq_false]
end Go.Proofs.Ytlhfpjpgglfcfaa
