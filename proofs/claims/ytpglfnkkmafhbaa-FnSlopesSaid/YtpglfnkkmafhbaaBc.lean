/- Waves down a slope: one tick. -/
import Derived.Test.YtpglfnkkmafhbaaMu
import Derived.Test.YtpglfnkkmafhbaaPa
import Derived.Test.YtpglfnkkmafhbaaGi1d
set_option linter.unusedVariables false
set_option linter.unusedSimpArgs false
set_option linter.constructorNameAsVariable false
namespace Go.Proofs.Ytpglfnkkmafhbaa
open Go.RowKit
set_option maxRecDepth 100000
theorem P_areFinite (xs : List Nat) (hl : xs.length ≤ 9223372036854775807) : iareFinite xs = some (xs.all (isFin .f32)) := by
  have h0 := run_idx (f := fun s => (lIndexFunc_iareFinite_1_l2_t xs xs.length s).sem) xs (fun x => !(isFin .f32 x)) hl (fun k hk x hx => by
    simp only [lIndexFunc_iareFinite_1_l2_t, Tr.sem, ltRange hk, inRange hk, Int.toNat_natCast, getD_at hx, cond_true, iareFinite_1, iareFinite_1_t, Tr.val]
    cases isFin .f32 x <;> rfl) (by simp only [lIndexFunc_iareFinite_1_l2_t, Tr.sem, not_lt_self, cond_false])
  have h1 : lIndexFunc_iareFinite_1 xs = some (idxI (fstIdx (fun x => !(isFin .f32 x)) 0 xs)) := idx_tree h0
  have h2 : lContainsFunc_iareFinite_1 xs = some (xs.any fun x => !(isFin .f32 x)) := has_tree h1
  have h3 : iareFinite xs = _ := not_tree h2
  rw [h3, not_any]
theorem P_areMasses (xs : List Nat) (hl : xs.length ≤ 9223372036854775807) : iareMasses xs = some (xs.all isMass) := by
  have h0 := run_idx (f := fun s => (lIndexFunc_iareMasses_1_l2_t xs xs.length s).sem) xs (fun x => !(isMass x)) hl (fun k hk x hx => by
    simp only [lIndexFunc_iareMasses_1_l2_t, Tr.sem, ltRange hk, inRange hk, Int.toNat_natCast, getD_at hx, cond_true, iareMasses_1, iareMasses_1_t, Tr.val]
    cases isMass x <;> rfl) (by simp only [lIndexFunc_iareMasses_1_l2_t, Tr.sem, not_lt_self, cond_false])
  have h1 : lIndexFunc_iareMasses_1 xs = some (idxI (fstIdx (fun x => !(isMass x)) 0 xs)) := idx_tree h0
  have h2 : lContainsFunc_iareMasses_1 xs = some (xs.any fun x => !(isMass x)) := has_tree h1
  have h3 : iareMasses xs = _ := not_tree h2
  rw [h3, not_any]
theorem P_areLengths (xs : List Nat) (hl : xs.length ≤ 9223372036854775807) : iareLengths xs = some (xs.all isLen) := by
  have h0 := run_all (f := fun s => (iareLengths_l2_t xs xs.length s).sem) xs 0 isLen (.inl ()) (.inr ()) hl (fun k hk x hx => by
    simp only [iareLengths_l2_t, Tr.sem, ltRange hk, inRange hk, Int.toNat_natCast, getD_at hx, cond_true]
    cases isLen x <;> rfl) (by simp only [iareLengths_l2_t, Tr.sem, not_lt_self, cond_false])
  have h1 : iareLengths_l2 xs xs.length 0 = some (bif xs.all isLen then .inr () else .inl ()) := h0
  unfold iareLengths iareLengths_t
  simp only [h1, Tr.sem, osome, oget, cond_true]
  cases xs.all isLen <;> rfl
def win (lo hi n : Int) : Bool := decide (lo ≤ n) && decide (n ≤ hi)
theorem R_within (n lo hi : Int) : iwithin n lo hi = win lo hi n := by
  unfold iwithin iwithin_t win
  cases h : decide (lo ≤ n) <;> simp [Tr.val, h]
theorem R_finite (xs : List Nat) (hl : xs.length ≤ 9223372036854775807) : sl02Finite xs = some (xs.all (isFin .f32)) := by
  have h0 := run_all (f := fun s => (sl02Finite_l2_t xs s).sem) xs 0 (isFin .f32) (.inl ()) (.inr ()) hl (fun k hk x hx => by
    simp only [sl02Finite_l2_t, Tr.sem, ltRange hk, zeroLe, Bool.and_self, Int.toNat_natCast, getD_at hx, cond_true]
    cases isFin .f32 x <;> rfl) (by simp only [sl02Finite_l2_t, Tr.sem, not_lt_self, cond_false])
  have h1 : sl02Finite_l2 xs 0 = some (bif xs.all (isFin .f32) then .inr () else .inl ()) := h0
  unfold sl02Finite sl02Finite_t
  simp only [h1, Tr.sem, osome, oget, cond_true]
  cases xs.all (isFin .f32) <;> rfl
def insB (xs : List Nat) : Bool := win 1 128 xs.length && xs.all (isFin .f32)
theorem R_sIns (xs : List Nat) : sl05Ins xs = some (insB xs) := by
  unfold sl05Ins sl05Ins_t insB win
  by_cases h1 : (xs.length : Int) ≥ 1
  · by_cases h2 : (xs.length : Int) ≤ 128
    · have h1' : (1 : Int) ≤ xs.length := h1
      simp [Tr.sem, h1', h2, R_finite xs (by omega), osome, oget]
    · simp [Tr.sem, h2]
  · have h1' : ¬ (1 : Int) ≤ xs.length := h1
    simp [Tr.sem, h1']
theorem R_iIns (xs : List Nat) : iareIns xs = some (insB xs) := by
  unfold iareIns iareIns_t insB
  simp only [R_within, Tr.sem]
  cases h : win 1 128 (xs.length : Int) with
  | false => rfl
  | true =>
    have hl : xs.length ≤ 128 := by simp only [win, Bool.and_eq_true, decide_eq_true_eq] at h; omega
    simp only [P_areFinite xs (by omega), osome, oget, cond_true, Bool.true_and]
theorem runL_steps {σ ρ : Type} {f : σ → Option (σ ⊕ ρ)} {r : ρ} : ∀ (n k : Nat) (s : Nat → σ), (∀ j, k ≤ j → j < k + n → f (s j) = some (.inl (s (j + 1)))) → f (s (k + n)) = some (.inr r) → runL f (s k) = some r
  | 0, k, s, h, he => runL_out he
  | n + 1, k, s, h, he => (runL_in (h k (Nat.le_refl _) (by omega))).trans (runL_steps n (k + 1) s (fun j h1 h2 => h j (by omega) (by omega)) (by rw [show k + 1 + n = k + (n + 1) by omega]; exact he))
theorem first_or (p : Nat → Bool) : ∀ n : Nat, (∃ i, i < n ∧ p i = true ∧ ∀ k, k < i → p k = false) ∨ ∀ k, k < n → p k = false
  | 0 => .inr (fun k hk => by omega)
  | n + 1 => by
    rcases first_or p n with ⟨i, h1, h2, h3⟩ | h
    · exact .inl ⟨i, by omega, h2, h3⟩
    · cases hp : p n with
      | true => exact .inl ⟨n, by omega, hp, h⟩
      | false => exact .inr (fun k hk => by
          by_cases e : k = n
          · subst e; exact hp
          · exact h k (by omega))
def waveB (xs : List Nat) (a b c : Nat) : Bool := win 1 48 xs.length && xs.all isMass && (isLen a && isLen b && isLen c)
theorem R_isWave (xs : List Nat) (a b c : Nat) : iisWave xs a b c = some (waveB xs a b c) := by
  unfold iisWave iisWave_t waveB
  simp only [R_within, Tr.sem]
  cases hw : win 1 48 (xs.length : Int) with
  | false => rfl
  | true =>
    have hl : xs.length ≤ 48 := by simp only [win, Bool.and_eq_true, decide_eq_true_eq] at hw; omega
    simp only [P_areMasses xs (by omega), P_areLengths [a, b, c] (by simp), List.all_cons, List.all_nil, Bool.and_true, osome, oget, cond_true, Bool.true_and]
    cases xs.all isMass <;> cases isLen a <;> cases isLen b <;> rfl
theorem R_slope (xs : List Nat) (a b c : Nat) (hl : xs.length ≤ 9223372036854775807) : sl05Slope xs a b c = some (waveB xs a b c) := by
  by_cases h48 : xs.length ≤ 48
  · have h48' : (xs.length : Int) ≤ 48 := by omega
    have h0 := run_all (f := fun s => (sl05Slope_l3_t xs a b c xs.length s).sem) xs 0 isMass (.inl ()) (.inr (a, b, c, (xs.length : Int))) hl (fun k hk x hx => by
      simp only [sl05Slope_l3_t, Tr.sem, ltRange hk, zeroLe, Bool.and_self, Int.toNat_natCast, getD_at hx, cond_true, decide_eq_true h48']
      cases isMass x <;> rfl) (by simp only [sl05Slope_l3_t, Tr.sem, not_lt_self, cond_false])
    have h1 : sl05Slope_l3 xs a b c xs.length 0 = some (bif xs.all isMass then .inr (a, b, c, (xs.length : Int)) else .inl ()) := h0
    unfold sl05Slope sl05Slope_t waveB win
    cases hm : xs.all isMass with
    | false =>
      rw [hm] at h1
      simp only [cond_false] at h1
      simp [h1, Tr.sem, osome, oget, isL]
    | true =>
      rw [hm] at h1
      simp only [cond_true] at h1
      simp only [h1, Tr.sem, osome, oget, cond_true, isL, unR, cond_false, decide_eq_true h48', Bool.and_true, Bool.true_and]
      by_cases h1 : (1 : Int) ≤ xs.length
      · rw [decide_eq_true (show (xs.length : Int) ≥ 1 from h1)]
        cases isLen a <;> cases isLen b <;> cases isLen c <;> rfl
      · rw [decide_eq_false (show ¬ (xs.length : Int) ≥ 1 from h1)]
        rfl
  · have e48 : decide ((xs.length : Int) ≤ 48) = false := by simp only [decide_eq_false_iff_not]; omega
    have h1 : sl05Slope_l3 xs a b c xs.length 0 = some (.inr (a, b, c, (xs.length : Int))) := runL_out (by
      simp only [sl05Slope_l3_t, Tr.sem, decide_eq_true (show (0 : Int) < xs.length by omega), cond_true, e48, cond_false])
    unfold sl05Slope sl05Slope_t waveB win
    simp only [h1, Tr.sem, osome, oget, cond_true, isL, unR, cond_false, e48, Bool.and_false, Bool.false_and]
    cases decide ((xs.length : Int) ≥ 1) <;> rfl
noncomputable def fastW (s dx dt x : Nat) : Bool := fgt .f32 (fmul .f32 (fmul .f32 (fmul .f32 1069547520 s) (froot x)) dt) dx
noncomputable def flowW (s x : Nat) : Nat := fmul .f32 (fmul .f32 s x) (froot x)
noncomputable def newW (r q x f : Nat) : Nat := bif flt .f32 (fadd .f32 x (fmul .f32 r (fsub .f32 q f))) 0 then 0 else fadd .f32 x (fmul .f32 r (fsub .f32 q f))
noncomputable def inW (s q : Nat) (xs : List Nat) : Nat → Nat
  | 0 => q
  | k + 1 => flowW s (xs.getD k 0)
noncomputable def outW (s q r : Nat) (xs : List Nat) (k : Nat) : List Nat := (List.range k).map (fun i => newW r (inW s q xs i) (xs.getD i 0) (flowW s (xs.getD i 0)))
theorem outW_succ (s q r : Nat) (xs : List Nat) (k : Nat) : outW s q r xs (k + 1) = outW s q r xs k ++ [newW r (inW s q xs k) (xs.getD k 0) (flowW s (xs.getD k 0))] := by
  unfold outW; rw [List.range_succ, List.map_append]; rfl
theorem outW_len (s q r : Nat) (xs : List Nat) (k : Nat) : (outW s q r xs k).length = k := by simp [outW]
noncomputable def flowsW (s : Nat) (xs : List Nat) (k : Nat) : List Nat := (List.range k).map (fun i => flowW s (xs.getD i 0))
theorem flowsW_succ (s : Nat) (xs : List Nat) (k : Nat) : flowsW s xs (k + 1) = flowsW s xs k ++ [flowW s (xs.getD k 0)] := by
  unfold flowsW; rw [List.range_succ, List.map_append]; rfl
theorem flowsW_len (s : Nat) (xs : List Nat) (k : Nat) : (flowsW s xs k).length = k := by simp [flowsW]
theorem flowsW_get (s : Nat) (xs : List Nat) (n k : Nat) (h : k < n) : (flowsW s xs n).getD k 0 = flowW s (xs.getD k 0) := by
  unfold flowsW
  rw [List.getD_eq_getElem?_getD, List.getElem?_map, List.getElem?_range h]; rfl
theorem up1 {k : Nat} (h : k ≤ 1048576) : IntKind.wrap .i64 ((k : Int) + 1) = ((k + 1 : Nat) : Int) := by rw [wrap_id (by omega) (by omega)]; omega
theorem fits {a : Nat} (h : a ≤ 1048576) (x : Nat) : decide ((a + List.length [x]) * 4 ≤ 140737488355328) = true := by
  simp only [List.length_cons, List.length_nil, decide_eq_true_eq]; omega
theorem R_flows (xs : List Nat) (q s dx dt : Nat) (hl : xs.length ≤ 1048576) (m : Nat) (hm : m ≤ xs.length) (hf : ∀ k, k < m → fastW s dx dt (xs.getD k 0) = false) : ∀ k, k < m → (sl05Wave_l4_t xs q s dx dt (fdiv .f32 dt dx) xs.length (k : Int) (flowsW s xs k)).sem = some (.inl (((k + 1 : Nat) : Int), flowsW s xs (k + 1))) := by
  intro k hk
  have h1 : fgt .f32 (fmul .f32 (fmul .f32 (fmul .f32 1069547520 s) (froot (xs.getD k 0))) dt) dx = false := hf k hk
  rw [flowsW_succ]
  have hk' : k < xs.length := by omega
  simp only [sl05Wave_l4_t, Tr.sem, ltRange hk', inRange hk', Int.toNat_natCast, cond_true, h1, cond_false, fits (show (flowsW s xs k).length ≤ 1048576 by rw [flowsW_len]; omega), up1 (show k ≤ 1048576 by omega)]
  rfl
theorem R_outs (xs : List Nat) (q s r : Nat) (hl : xs.length ≤ 1048576) (k : Nat) (hk : k < xs.length) : (sl05Wave_l12_t xs q r xs.length (flowsW s xs xs.length) (k : Int) (outW s q r xs k)).sem = some (.inl (((k + 1 : Nat) : Int), outW s q r xs (k + 1))) := by
  have hg : (outW s q r xs k).length ≤ 1048576 := by rw [outW_len]; omega
  have hF : k < (flowsW s xs xs.length).length := by rw [flowsW_len]; exact hk
  rw [outW_succ]
  cases k with
  | zero =>
    have h0 : decide ((((0 : Nat) : Int)) > 0) = false := rfl
    simp only [sl05Wave_l12_t, Tr.sem, ltRange hk, inRange hk, inRange hF, Int.toNat_natCast, cond_true, h0, cond_false, flowsW_get s xs _ 0 hk, fits hg, up1 (show 0 ≤ 1048576 by omega), newW, inW]
    cases flt .f32 (fadd .f32 (xs.getD 0 0) (fmul .f32 r (fsub .f32 q (flowW s (xs.getD 0 0))))) 0 <;> rfl
  | succ k =>
    have h0 : decide ((((k + 1 : Nat) : Int)) > 0) = true := by simp only [decide_eq_true_eq]; omega
    have hw : IntKind.wrap .i64 (((k + 1 : Nat) : Int) - 1) = (k : Int) := by rw [wrap_id (by omega) (by omega)]; omega
    simp only [sl05Wave_l12_t, Tr.sem, ltRange hk, inRange hk, inRange hF, hw, inRange (show k < (flowsW s xs xs.length).length by omega), Int.toNat_natCast, cond_true, h0, flowsW_get s xs _ (k + 1) hk, flowsW_get s xs _ k (show k < xs.length by omega), fits hg, up1 (show k + 1 ≤ 1048576 by omega), newW, inW]
    cases flt .f32 (fadd .f32 (xs.getD (k + 1) 0) (fmul .f32 r (fsub .f32 (flowW s (xs.getD k 0)) (flowW s (xs.getD (k + 1) 0))))) 0 <;> rfl
theorem R_iouts (xs : List Nat) (q s dx dt : Nat) (hl : xs.length ≤ 1048576) (k : Nat) (hk : k < xs.length) (hf : fastW s dx dt (xs.getD k 0) = false) : (iStepWave_l5_t s dx dt xs xs.length (inW s q xs k) (k : Int) (outW s q (fdiv .f32 dt dx) xs k)).sem = some (.inl (inW s q xs (k + 1), ((k + 1 : Nat) : Int), outW s q (fdiv .f32 dt dx) xs (k + 1))) := by
  have hg : (outW s q (fdiv .f32 dt dx) xs k).length ≤ 1048576 := by rw [outW_len]; omega
  have h1 : fgt .f32 (fmul .f32 (fmul .f32 (fmul .f32 1069547520 s) (froot (xs.getD k 0))) dt) dx = false := hf
  rw [outW_succ]
  have e : iwaveFlow s (xs.getD k 0) = flowW s (xs.getD k 0) := rfl
  simp only [iStepWave_l5_t, Tr.sem, ltRange hk, inRange hk, Int.toNat_natCast, cond_true, h1, cond_false, e, fits hg, up1 (show k ≤ 1048576 by omega), newW]
  cases flt .f32 (fadd .f32 (xs.getD k 0) (fmul .f32 (fdiv .f32 dt dx) (fsub .f32 (inW s q xs k) (flowW s (xs.getD k 0))))) 0 <;> rfl
theorem R_ifastAt (xs : List Nat) (y s dx dt : Nat) (l : List Nat) (k : Nat) (hk : k < xs.length) (hf : fastW s dx dt (xs.getD k 0) = true) : (iStepWave_l5_t s dx dt xs xs.length y (k : Int) l).sem = some (.inr (.inl 0)) := by
  have h1 : fgt .f32 (fmul .f32 (fmul .f32 (fmul .f32 1069547520 s) (froot (xs.getD k 0))) dt) dx = true := hf
  simp only [iStepWave_l5_t, Tr.sem, ltRange hk, zeroLe, Bool.and_self, Int.toNat_natCast, cond_true, h1]
theorem mass_of {X : Nat} (hf : isFin .f32 X = true) (hl : flt .f32 X 0 = false) : isMass X = true := by
  unfold isMass
  rw [hf, Bool.true_and]
  have key : ∃ o, FloatKind.f32.format.order X 0 = some o := by
    have h0 : FloatKind.f32.format.read 0 = .number false 0 (-149) := by decide +kernel
    unfold isFin at hf
    split at hf
    · rename_i s m e hr
      unfold Ieee.Format.order
      rw [hr, h0]
      exact ⟨_, rfl⟩
    · cases hf
  obtain ⟨o, ho⟩ := key
  unfold flt at hl
  unfold fge
  rw [ho] at hl ⊢
  cases o
  · exact absurd hl (by decide)
  · decide
  · decide
theorem mass_new (r q x f : Nat) (h : isFin .f32 (newW r q x f) = true) : isMass (newW r q x f) = true := by
  unfold newW at h ⊢
  cases hl : flt .f32 (fadd .f32 x (fmul .f32 r (fsub .f32 q f))) 0 with
  | true => exact (show isMass 0 = true by decide +kernel)
  | false => rw [hl] at h; exact mass_of h hl
theorem mass_out (s q r : Nat) (xs : List Nat) (k : Nat) (h : (outW s q r xs k).all (isFin .f32) = true) : (outW s q r xs k).all isMass = true := by
  rw [List.all_eq_true] at h ⊢
  intro y hy
  have hf := h y hy
  unfold outW at hy
  obtain ⟨i, hi, rfl⟩ := List.mem_map.1 hy
  exact mass_new _ _ _ _ hf
/-- One tick that is slow enough. -/
theorem R_waveOk (xs : List Nat) (q s dx dt : Nat) (hw : waveB xs s dx dt = true) (h : ∀ k, k < xs.length → fastW s dx dt (xs.getD k 0) = false) (hall : (outW s q (fdiv .f32 dt dx) xs xs.length).all (isFin .f32) = true) (hlastf : isFin .f32 (flowW s (xs.getD (xs.length - 1) 0)) = true) (hq0 : isMass q = true) :
    sl05Wave xs q s dx dt = some (.inr (flowW s (xs.getD (xs.length - 1) 0), outW s q (fdiv .f32 dt dx) xs xs.length)) ∧ iStepWave xs q s dx dt = some (.inr (flowW s (xs.getD (xs.length - 1) 0), outW s q (fdiv .f32 dt dx) xs xs.length)) ∧ waveB (outW s q (fdiv .f32 dt dx) xs xs.length) s dx dt = true := by
  have hn : 1 ≤ xs.length ∧ xs.length ≤ 48 := by
    have hw := hw
    simp only [waveB, win, Bool.and_eq_true, decide_eq_true_eq] at hw; omega
  unfold iStepWave iStepWave_t
  simp only [R_isWave xs s dx dt, hw, Tr.sem, osome, oget, cond_true, Bool.not_true, cond_false, hq0]
  have a1 : sl05Wave_l4 xs q s dx dt (fdiv .f32 dt dx) xs.length 0 [] = some (.inr (xs, q, fdiv .f32 dt dx, flowsW s xs xs.length)) :=
    runL_steps (f := fun t : Int × List Nat => (sl05Wave_l4_t xs q s dx dt (fdiv .f32 dt dx) xs.length t.1 t.2).sem) xs.length 0 (fun k => ((k : Int), flowsW s xs k)) (fun j _ hj => R_flows xs q s dx dt (by omega) xs.length (by omega) h j (by omega)) (by
      rw [Nat.zero_add]; simp only [sl05Wave_l4_t, Tr.sem, not_lt_self, cond_false])
  have a2 : iStepWave_l5 s dx dt q xs xs.length 0 [] = some (.inr (inW s q xs xs.length, outW s q (fdiv .f32 dt dx) xs xs.length)) :=
    runL_steps (f := fun t : Nat × Int × List Nat => (iStepWave_l5_t s dx dt xs xs.length t.1 t.2.1 t.2.2).sem) xs.length 0 (fun k => (inW s q xs k, (k : Int), outW s q (fdiv .f32 dt dx) xs k)) (fun j _ hj => R_iouts xs q s dx dt (by omega) j (by omega) (h j (by omega))) (by
      rw [Nat.zero_add]; simp only [iStepWave_l5_t, Tr.sem, not_lt_self, cond_false])
  have a4 : sl05Wave_l12 xs q (fdiv .f32 dt dx) xs.length 0 (flowsW s xs xs.length) [] = some (flowsW s xs xs.length, outW s q (fdiv .f32 dt dx) xs xs.length) :=
    runL_steps (f := fun t : Int × List Nat => (sl05Wave_l12_t xs q (fdiv .f32 dt dx) xs.length (flowsW s xs xs.length) t.1 t.2).sem) xs.length 0 (fun k => ((k : Int), outW s q (fdiv .f32 dt dx) xs k)) (fun j _ hj => R_outs xs q s (fdiv .f32 dt dx) (by omega) j (by omega)) (by
      rw [Nat.zero_add]; simp only [sl05Wave_l12_t, Tr.sem, not_lt_self, cond_false])
  have hF : (flowsW s xs xs.length).length = xs.length := flowsW_len _ _ _
  have hO : (outW s q (fdiv .f32 dt dx) xs xs.length).length = xs.length := outW_len _ _ _ _ _
  have hlast : IntKind.wrap .i64 (((flowsW s xs xs.length).length : Int) - 1) = ((xs.length - 1 : Nat) : Int) := by rw [hF, wrap_id (by omega) (by omega)]; omega
  have hr : (decide (0 ≤ ((xs.length - 1 : Nat) : Int)) && decide (((xs.length - 1 : Nat) : Int) < ((flowsW s xs xs.length).length : Int))) = true := by rw [hF]; exact inRange (by omega)
  have hq : inW s q xs xs.length = flowW s (xs.getD (xs.length - 1) 0) := by
    obtain ⟨m, hm⟩ : ∃ m, xs.length = m + 1 := ⟨xs.length - 1, by omega⟩
    rw [hm]; rfl
  refine ⟨?_, ?_, ?_⟩
  · unfold sl05Wave sl05Wave_t
    simp only [a1, sl05Wave_o1, sl05Wave_o2, sl05Wave_o3, Tr.sem, osome, oget, cond_true, isL, unR, cond_false, a4, hlast, hr, R_finite (outW s q (fdiv .f32 dt dx) xs xs.length) (by omega), Int.toNat_natCast, flowsW_get s xs _ (xs.length - 1) (show xs.length - 1 < xs.length by omega), hall, hlastf, Bool.not_true]
  · simp only [a2, osome, oget, cond_true, isL, unR, Bool.not_true, cond_false, P_areFinite (outW s q (fdiv .f32 dt dx) xs xs.length) (by omega), hq, hall, hlastf]
  · simp only [waveB, Bool.and_eq_true] at hw ⊢
    refine ⟨⟨?_, mass_out _ _ _ _ _ hall⟩, hw.2⟩
    rw [hO]; exact hw.1.1
end Go.Proofs.Ytpglfnkkmafhbaa
