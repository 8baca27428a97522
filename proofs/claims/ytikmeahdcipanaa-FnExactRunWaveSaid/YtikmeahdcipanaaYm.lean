/- Runs of waves: the program's and the reference's are the same. -/
import Derived.Test.YtikmeahdcipanaaYg
set_option linter.unusedVariables false
set_option linter.unusedSimpArgs false
set_option linter.constructorNameAsVariable false
namespace Go.Proofs.Ytikmeahdcipanaa
open Go.RowKit
set_option maxRecDepth 100000

/-- A loop whose states are told one by one. -/
theorem runL_steps {σ ρ : Type} {f : σ → Option (σ ⊕ ρ)} {r : ρ} : ∀ (n k : Nat) (s : Nat → σ), (∀ j, k ≤ j → j < k + n → f (s j) = some (.inl (s (j + 1)))) → f (s (k + n)) = some (.inr r) → runL f (s k) = some r
  | 0, k, s, h, he => runL_out he
  | n + 1, k, s, h, he => (runL_in (h k (Nat.le_refl _) (by omega))).trans (runL_steps n (k + 1) s (fun j h1 h2 => h j (by omega) (by omega)) (by rw [show k + 1 + n = k + (n + 1) by omega]; exact he))
theorem first_or (p : Nat → Bool) : ∀ n : Nat, (∃ i, i < n ∧ p i = true ∧ ∀ k, k < i → p k = false) ∨ ∀ k, k < n → p k = false
  | 0 => .inr (fun k hk => by omega)
  | n + 1 => by
    rcases first_or p n with ⟨i, h1, h2, h3⟩ | h
    · exact .inl ⟨i, by omega, h2, h3⟩
    · cases hp : p n with
      | true => exact .inl ⟨n, by omega, hp, h⟩
      | false => exact .inr (fun k hk => by
          by_cases e : k = n
          · subst e; exact hp
          · exact h k (by omega))
/-! ### Waves -/
def waveB (xs : List Nat) (a b c : Nat) : Bool := win 1 48 xs.length && xs.all isMass && (isLen a && isLen b && isLen c)
theorem R_isWave (xs : List Nat) (a b c : Nat) : iisWave xs a b c = some (waveB xs a b c) := by
  unfold iisWave iisWave_t waveB
  simp only [R_within, Tr.sem]
  cases hw : win 1 48 (xs.length : Int) with
  | false => rfl
  | true =>
    have hl : xs.length ≤ 48 := by simp only [win, Bool.and_eq_true, decide_eq_true_eq] at hw; omega
    simp only [P_areMasses xs (by omega), P_areLengths [a, b, c] (by simp), List.all_cons, List.all_nil, Bool.and_true, osome, oget, cond_true, Bool.true_and]
    cases xs.all isMass <;> cases isLen a <;> cases isLen b <;> rfl
theorem R_slope (xs : List Nat) (a b c : Nat) (hl : xs.length ≤ 9223372036854775807) : sl05Slope xs a b c = some (waveB xs a b c) := by
  by_cases h48 : xs.length ≤ 48
  · have h48' : (xs.length : Int) ≤ 48 := by omega
    have h0 := run_all (f := fun s => (sl05Slope_l3_t xs a b c xs.length s).sem) xs 0 isMass (.inl ()) (.inr (a, b, c, (xs.length : Int))) hl (fun k hk x hx => by
      simp only [sl05Slope_l3_t, Tr.sem, ltRange hk, zeroLe, Bool.and_self, Int.toNat_natCast, getD_at hx, cond_true, decide_eq_true h48']
      cases isMass x <;> rfl) (by simp only [sl05Slope_l3_t, Tr.sem, not_lt_self, cond_false])
    have h1 : sl05Slope_l3 xs a b c xs.length 0 = some (bif xs.all isMass then .inr (a, b, c, (xs.length : Int)) else .inl ()) := h0
    unfold sl05Slope sl05Slope_t waveB win
    cases hm : xs.all isMass with
    | false =>
      rw [hm] at h1
      simp only [cond_false] at h1
      simp [h1, Tr.sem, osome, oget, isL]
    | true =>
      rw [hm] at h1
      simp only [cond_true] at h1
      simp only [h1, Tr.sem, osome, oget, cond_true, isL, unR, cond_false, decide_eq_true h48', Bool.and_true, Bool.true_and]
      by_cases h1 : (1 : Int) ≤ xs.length
      · rw [decide_eq_true (show (xs.length : Int) ≥ 1 from h1)]
        cases isLen a <;> cases isLen b <;> cases isLen c <;> rfl
      · rw [decide_eq_false (show ¬ (xs.length : Int) ≥ 1 from h1)]
        rfl
  · have e48 : decide ((xs.length : Int) ≤ 48) = false := by simp only [decide_eq_false_iff_not]; omega
    have h1 : sl05Slope_l3 xs a b c xs.length 0 = some (.inr (a, b, c, (xs.length : Int))) := runL_out (by
      simp only [sl05Slope_l3_t, Tr.sem, decide_eq_true (show (0 : Int) < xs.length by omega), cond_true, e48, cond_false])
    unfold sl05Slope sl05Slope_t waveB win
    simp only [h1, Tr.sem, osome, oget, cond_true, isL, unR, cond_false, e48, Bool.and_false, Bool.false_and]
    cases decide ((xs.length : Int) ≥ 1) <;> rfl
noncomputable def fastW (s dx dt x : Nat) : Bool := fgt .f32 (fmul .f32 (fmul .f32 (fmul .f32 1069547520 s) (froot x)) dt) dx
noncomputable def flowW (s x : Nat) : Nat := fmul .f32 (fmul .f32 s x) (froot x)
noncomputable def newW (r q x f : Nat) : Nat := bif flt .f32 (fadd .f32 x (fmul .f32 r (fsub .f32 q f))) 0 then 0 else fadd .f32 x (fmul .f32 r (fsub .f32 q f))
noncomputable def inW (s q : Nat) (xs : List Nat) : Nat → Nat
  | 0 => q
  | k + 1 => flowW s (xs.getD k 0)
noncomputable def outW (s q r : Nat) (xs : List Nat) (k : Nat) : List Nat := (List.range k).map (fun i => newW r (inW s q xs i) (xs.getD i 0) (flowW s (xs.getD i 0)))
theorem outW_succ (s q r : Nat) (xs : List Nat) (k : Nat) : outW s q r xs (k + 1) = outW s q r xs k ++ [newW r (inW s q xs k) (xs.getD k 0) (flowW s (xs.getD k 0))] := by
  unfold outW; rw [List.range_succ, List.map_append]; rfl
theorem outW_len (s q r : Nat) (xs : List Nat) (k : Nat) : (outW s q r xs k).length = k := by simp [outW]
noncomputable def flowsW (s : Nat) (xs : List Nat) (k : Nat) : List Nat := (List.range k).map (fun i => flowW s (xs.getD i 0))
theorem flowsW_succ (s : Nat) (xs : List Nat) (k : Nat) : flowsW s xs (k + 1) = flowsW s xs k ++ [flowW s (xs.getD k 0)] := by
  unfold flowsW; rw [List.range_succ, List.map_append]; rfl
theorem flowsW_len (s : Nat) (xs : List Nat) (k : Nat) : (flowsW s xs k).length = k := by simp [flowsW]
theorem flowsW_get (s : Nat) (xs : List Nat) (n k : Nat) (h : k < n) : (flowsW s xs n).getD k 0 = flowW s (xs.getD k 0) := by
  unfold flowsW
  rw [List.getD_eq_getElem?_getD, List.getElem?_map, List.getElem?_range h]; rfl
theorem up1 {k : Nat} (h : k ≤ 1048576) : IntKind.wrap .i64 ((k : Int) + 1) = ((k + 1 : Nat) : Int) := by rw [wrap_id (by omega) (by omega)]; omega
theorem fits {a : Nat} (h : a ≤ 1048576) (x : Nat) : decide ((a + List.length [x]) * 4 ≤ 140737488355328) = true := by
  simp only [List.length_cons, List.length_nil, decide_eq_true_eq]; omega
theorem R_flows (xs : List Nat) (q s dx dt : Nat) (hl : xs.length ≤ 1048576) (m : Nat) (hm : m ≤ xs.length) (hf : ∀ k, k < m → fastW s dx dt (xs.getD k 0) = false) : ∀ k, k < m → (sl05Wave_l4_t xs q s dx dt (fdiv .f32 dt dx) xs.length (k : Int) (flowsW s xs k)).sem = some (.inl (((k + 1 : Nat) : Int), flowsW s xs (k + 1))) := by
  intro k hk
  have h1 : fgt .f32 (fmul .f32 (fmul .f32 (fmul .f32 1069547520 s) (froot (xs.getD k 0))) dt) dx = false := hf k hk
  rw [flowsW_succ]
  have hk' : k < xs.length := by omega
  simp only [sl05Wave_l4_t, Tr.sem, ltRange hk', inRange hk', Int.toNat_natCast, cond_true, h1, cond_false, fits (show (flowsW s xs k).length ≤ 1048576 by rw [flowsW_len]; omega), up1 (show k ≤ 1048576 by omega)]
  rfl
theorem R_fastAt (xs : List Nat) (q s dx dt : Nat) (l : List Nat) (k : Nat) (hk : k < xs.length) (hf : fastW s dx dt (xs.getD k 0) = true) : (sl05Wave_l4_t xs q s dx dt (fdiv .f32 dt dx) xs.length (k : Int) l).sem = some (.inr (.inl 0)) := by
  have h1 : fgt .f32 (fmul .f32 (fmul .f32 (fmul .f32 1069547520 s) (froot (xs.getD k 0))) dt) dx = true := hf
  simp only [sl05Wave_l4_t, Tr.sem, ltRange hk, zeroLe, Bool.and_self, Int.toNat_natCast, cond_true, h1]
theorem R_outs (xs : List Nat) (q s r : Nat) (hl : xs.length ≤ 1048576) (k : Nat) (hk : k < xs.length) : (sl05Wave_l12_t xs q r xs.length (flowsW s xs xs.length) (k : Int) (outW s q r xs k)).sem = some (.inl (((k + 1 : Nat) : Int), outW s q r xs (k + 1))) := by
  have hg : (outW s q r xs k).length ≤ 1048576 := by rw [outW_len]; omega
  have hF : k < (flowsW s xs xs.length).length := by rw [flowsW_len]; exact hk
  rw [outW_succ]
  cases k with
  | zero =>
    have h0 : decide ((((0 : Nat) : Int)) > 0) = false := rfl
    simp only [sl05Wave_l12_t, Tr.sem, ltRange hk, inRange hk, inRange hF, Int.toNat_natCast, cond_true, h0, cond_false, flowsW_get s xs _ 0 hk, fits hg, up1 (show 0 ≤ 1048576 by omega), newW, inW]
    cases flt .f32 (fadd .f32 (xs.getD 0 0) (fmul .f32 r (fsub .f32 q (flowW s (xs.getD 0 0))))) 0 <;> rfl
  | succ k =>
    have h0 : decide ((((k + 1 : Nat) : Int)) > 0) = true := by simp only [decide_eq_true_eq]; omega
    have hw : IntKind.wrap .i64 (((k + 1 : Nat) : Int) - 1) = (k : Int) := by rw [wrap_id (by omega) (by omega)]; omega
    simp only [sl05Wave_l12_t, Tr.sem, ltRange hk, inRange hk, inRange hF, hw, inRange (show k < (flowsW s xs xs.length).length by omega), Int.toNat_natCast, cond_true, h0, flowsW_get s xs _ (k + 1) hk, flowsW_get s xs _ k (show k < xs.length by omega), fits hg, up1 (show k + 1 ≤ 1048576 by omega), newW, inW]
    cases flt .f32 (fadd .f32 (xs.getD (k + 1) 0) (fmul .f32 r (fsub .f32 (flowW s (xs.getD k 0)) (flowW s (xs.getD (k + 1) 0))))) 0 <;> rfl
theorem R_iouts (xs : List Nat) (q s dx dt : Nat) (hl : xs.length ≤ 1048576) (k : Nat) (hk : k < xs.length) (hf : fastW s dx dt (xs.getD k 0) = false) : (iStepWave_l5_t s dx dt xs xs.length (inW s q xs k) (k : Int) (outW s q (fdiv .f32 dt dx) xs k)).sem = some (.inl (inW s q xs (k + 1), ((k + 1 : Nat) : Int), outW s q (fdiv .f32 dt dx) xs (k + 1))) := by
  have hg : (outW s q (fdiv .f32 dt dx) xs k).length ≤ 1048576 := by rw [outW_len]; omega
  have h1 : fgt .f32 (fmul .f32 (fmul .f32 (fmul .f32 1069547520 s) (froot (xs.getD k 0))) dt) dx = false := hf
  rw [outW_succ]
  have e : iwaveFlow s (xs.getD k 0) = flowW s (xs.getD k 0) := rfl
  simp only [iStepWave_l5_t, Tr.sem, ltRange hk, inRange hk, Int.toNat_natCast, cond_true, h1, cond_false, e, fits hg, up1 (show k ≤ 1048576 by omega), newW]
  cases flt .f32 (fadd .f32 (xs.getD k 0) (fmul .f32 (fdiv .f32 dt dx) (fsub .f32 (inW s q xs k) (flowW s (xs.getD k 0))))) 0 <;> rfl
theorem R_ifastAt (xs : List Nat) (y s dx dt : Nat) (l : List Nat) (k : Nat) (hk : k < xs.length) (hf : fastW s dx dt (xs.getD k 0) = true) : (iStepWave_l5_t s dx dt xs xs.length y (k : Int) l).sem = some (.inr (.inl 0)) := by
  have h1 : fgt .f32 (fmul .f32 (fmul .f32 (fmul .f32 1069547520 s) (froot (xs.getD k 0))) dt) dx = true := hf
  simp only [iStepWave_l5_t, Tr.sem, ltRange hk, zeroLe, Bool.and_self, Int.toNat_natCast, cond_true, h1]
theorem mass_of {X : Nat} (hf : isFin .f32 X = true) (hl : flt .f32 X 0 = false) : isMass X = true := by
  unfold isMass
  rw [hf, Bool.true_and]
  have key : ∃ o, FloatKind.f32.format.order X 0 = some o := by
    have h0 : FloatKind.f32.format.read 0 = .number false 0 (-149) := by decide +kernel
    unfold isFin at hf
    split at hf
    · rename_i s m e hr
      unfold Ieee.Format.order
      rw [hr, h0]
      exact ⟨_, rfl⟩
    · cases hf
  obtain ⟨o, ho⟩ := key
  unfold flt at hl
  unfold fge
  rw [ho] at hl ⊢
  cases o
  · exact absurd hl (by decide)
  · decide
  · decide
theorem mass_new (r q x f : Nat) (h : isFin .f32 (newW r q x f) = true) : isMass (newW r q x f) = true := by
  unfold newW at h ⊢
  cases hl : flt .f32 (fadd .f32 x (fmul .f32 r (fsub .f32 q f))) 0 with
  | true => exact (show isMass 0 = true by decide +kernel)
  | false => rw [hl] at h; exact mass_of h hl
theorem mass_out (s q r : Nat) (xs : List Nat) (k : Nat) (h : (outW s q r xs k).all (isFin .f32) = true) : (outW s q r xs k).all isMass = true := by
  rw [List.all_eq_true] at h ⊢
  intro y hy
  have hf := h y hy
  unfold outW at hy
  obtain ⟨i, hi, rfl⟩ := List.mem_map.1 hy
  exact mass_new _ _ _ _ hf
/-- One tick. -/
theorem R_wave (xs : List Nat) (q s dx dt : Nat) (hw : waveB xs s dx dt = true) : ∃ r : Nat ⊕ (Nat × List Nat), sl05Wave xs q s dx dt = some r ∧ iStepWave xs q s dx dt = some (bif isMass q then r else .inl 0) ∧ ∀ u, r = .inr u → waveB u.2 s dx dt = true := by
  have hn : 1 ≤ xs.length ∧ xs.length ≤ 48 := by
    have hw := hw
    simp only [waveB, win, Bool.and_eq_true, decide_eq_true_eq] at hw; omega
  unfold iStepWave iStepWave_t
  simp only [R_isWave xs s dx dt, hw, Tr.sem, osome, oget, cond_true, Bool.not_true, cond_false]
  rcases first_or (fun k => fastW s dx dt (xs.getD k 0)) xs.length with ⟨i, h1, h2, h3⟩ | h
  · have a1 : sl05Wave_l4 xs q s dx dt (fdiv .f32 dt dx) xs.length 0 [] = some (.inl 0) :=
      runL_steps (f := fun t : Int × List Nat => (sl05Wave_l4_t xs q s dx dt (fdiv .f32 dt dx) xs.length t.1 t.2).sem) i 0 (fun k => ((k : Int), flowsW s xs k)) (fun j _ hj => R_flows xs q s dx dt (by omega) i (by omega) h3 j (by omega)) (by rw [Nat.zero_add]; exact R_fastAt xs q s dx dt _ i h1 h2)
    have a2 : iStepWave_l5 s dx dt q xs xs.length 0 [] = some (.inl 0) :=
      runL_steps (f := fun t : Nat × Int × List Nat => (iStepWave_l5_t s dx dt xs xs.length t.1 t.2.1 t.2.2).sem) i 0 (fun k => (inW s q xs k, (k : Int), outW s q (fdiv .f32 dt dx) xs k)) (fun j _ hj => R_iouts xs q s dx dt (by omega) j (by omega) (h3 j (by omega))) (by rw [Nat.zero_add]; exact R_ifastAt xs _ s dx dt _ i h1 h2)
    have a3 : sl05Wave xs q s dx dt = some (.inl 0) := by
      unfold sl05Wave sl05Wave_t
      simp only [a1, Tr.sem, osome, oget, cond_true, isL, unL]
    refine ⟨.inl 0, a3, ?_, (fun u h => by cases h)⟩
    simp only [a2, osome, oget, cond_true, isL, unL]
    cases isMass q <;> rfl
  · have a1 : sl05Wave_l4 xs q s dx dt (fdiv .f32 dt dx) xs.length 0 [] = some (.inr (xs, q, fdiv .f32 dt dx, flowsW s xs xs.length)) :=
      runL_steps (f := fun t : Int × List Nat => (sl05Wave_l4_t xs q s dx dt (fdiv .f32 dt dx) xs.length t.1 t.2).sem) xs.length 0 (fun k => ((k : Int), flowsW s xs k)) (fun j _ hj => R_flows xs q s dx dt (by omega) xs.length (by omega) h j (by omega)) (by
        rw [Nat.zero_add]; simp only [sl05Wave_l4_t, Tr.sem, not_lt_self, cond_false])
    have a2 : iStepWave_l5 s dx dt q xs xs.length 0 [] = some (.inr (inW s q xs xs.length, outW s q (fdiv .f32 dt dx) xs xs.length)) :=
      runL_steps (f := fun t : Nat × Int × List Nat => (iStepWave_l5_t s dx dt xs xs.length t.1 t.2.1 t.2.2).sem) xs.length 0 (fun k => (inW s q xs k, (k : Int), outW s q (fdiv .f32 dt dx) xs k)) (fun j _ hj => R_iouts xs q s dx dt (by omega) j (by omega) (h j (by omega))) (by
        rw [Nat.zero_add]; simp only [iStepWave_l5_t, Tr.sem, not_lt_self, cond_false])
    have a4 : sl05Wave_l12 xs q (fdiv .f32 dt dx) xs.length 0 (flowsW s xs xs.length) [] = some (flowsW s xs xs.length, outW s q (fdiv .f32 dt dx) xs xs.length) :=
      runL_steps (f := fun t : Int × List Nat => (sl05Wave_l12_t xs q (fdiv .f32 dt dx) xs.length (flowsW s xs xs.length) t.1 t.2).sem) xs.length 0 (fun k => ((k : Int), outW s q (fdiv .f32 dt dx) xs k)) (fun j _ hj => R_outs xs q s (fdiv .f32 dt dx) (by omega) j (by omega)) (by
        rw [Nat.zero_add]; simp only [sl05Wave_l12_t, Tr.sem, not_lt_self, cond_false])
    have hF : (flowsW s xs xs.length).length = xs.length := flowsW_len _ _ _
    have hO : (outW s q (fdiv .f32 dt dx) xs xs.length).length = xs.length := outW_len _ _ _ _ _
    have hlast : IntKind.wrap .i64 (((flowsW s xs xs.length).length : Int) - 1) = ((xs.length - 1 : Nat) : Int) := by rw [hF, wrap_id (by omega) (by omega)]; omega
    have hr : (decide (0 ≤ ((xs.length - 1 : Nat) : Int)) && decide (((xs.length - 1 : Nat) : Int) < ((flowsW s xs xs.length).length : Int))) = true := by rw [hF]; exact inRange (by omega)
    have hq : inW s q xs xs.length = flowW s (xs.getD (xs.length - 1) 0) := by
      obtain ⟨m, hm⟩ : ∃ m, xs.length = m + 1 := ⟨xs.length - 1, by omega⟩
      rw [hm]; rfl
    have a3 : sl05Wave xs q s dx dt = some (bif (outW s q (fdiv .f32 dt dx) xs xs.length).all (isFin .f32) && isFin .f32 (flowW s (xs.getD (xs.length - 1) 0)) then .inr (flowW s (xs.getD (xs.length - 1) 0), outW s q (fdiv .f32 dt dx) xs xs.length) else .inl 0) := by
      unfold sl05Wave sl05Wave_t
      simp only [a1, Tr.sem, osome, oget, cond_true, isL, unR, cond_false, a4, hlast, hr, R_finite (outW s q (fdiv .f32 dt dx) xs xs.length) (by omega), Int.toNat_natCast, flowsW_get s xs _ (xs.length - 1) (show xs.length - 1 < xs.length by omega)]
      cases (outW s q (fdiv .f32 dt dx) xs xs.length).all (isFin .f32) <;> cases isFin .f32 (flowW s (xs.getD (xs.length - 1) 0)) <;> rfl
    refine ⟨_, a3, ?_, fun u hu => ?_⟩
    · simp only [a2, osome, oget, cond_true, isL, unR, Bool.not_true, cond_false, P_areFinite (outW s q (fdiv .f32 dt dx) xs xs.length) (by omega), hq]
      cases isMass q <;> cases (outW s q (fdiv .f32 dt dx) xs xs.length).all (isFin .f32) <;> cases isFin .f32 (flowW s (xs.getD (xs.length - 1) 0)) <;> rfl
    · cases ha : (outW s q (fdiv .f32 dt dx) xs xs.length).all (isFin .f32) with
      | false => rw [ha] at hu; cases hu
      | true =>
        cases hb : isFin .f32 (flowW s (xs.getD (xs.length - 1) 0)) with
        | false => rw [ha, hb] at hu; cases hu
        | true =>
          rw [ha, hb] at hu
          simp only [Bool.and_self, cond_true] at hu
          cases hu
          simp only [waveB, Bool.and_eq_true] at hw ⊢
          refine ⟨⟨?_, mass_out _ _ _ _ _ ha⟩, hw.2⟩
          rw [hO]; exact hw.1.1
def rwO : Unit ⊕ (List Nat × List Nat) → Unit ⊕ (List Nat × List Nat) ⊕ (List Nat × List Nat)
  | .inl _ => .inl ()
  | .inr q => .inr (.inr q)
theorem R_rounds (ins : List Nat) (s dx dt : Nat) (hn : ins.length ≤ 128) : ∀ (j : Nat) (xs : List Nat) (out : List Nat), j ≤ ins.length → out.length = ins.length - j → waveB xs s dx dt = true →
    ∃ r : Unit ⊕ (List Nat × List Nat), runL (fun t : Int × List Nat × List Nat => (sRunWave_l6_t ins s dx dt (ins.length : Int) t.1 t.2.1 t.2.2).sem) (((ins.length - j : Nat) : Int), xs, out) = some r ∧ runL iRunWave_l5_s (.inr (s, dx, dt, ins, (ins.length : Int), ((ins.length - j : Nat) : Int), xs, out)) = some (rwO r) ∧ ∀ q, r = .inr q → q.1.length ≤ 48 ∧ q.2.length ≤ 128
  | 0, xs, out, hj, ho, hw => by
    have hn2 : xs.length ≤ 48 := by
      simp only [waveB, win, Bool.and_eq_true, decide_eq_true_eq] at hw; omega
    refine ⟨.inr (xs, out), runL_out ?_, runL_out ?_, fun q h => by cases h; exact ⟨hn2, by simp only; omega⟩⟩
    · simp only [sRunWave_l6_t, Tr.sem, Nat.sub_zero, not_lt_self, cond_false]
    · show (iRunWave_l5_t1 s dx dt ins (ins.length : Int) ((ins.length - 0 : Nat) : Int) xs out).sem = _
      simp only [iRunWave_l5_t1, Tr.sem, Nat.sub_zero, not_lt_self, cond_false]; rfl
  | j + 1, xs, out, hj, ho, hw => by
    have hk : ins.length - (j + 1) < ins.length := by omega
    have hwr : IntKind.wrap .i64 (((ins.length - (j + 1) : Nat) : Int) + 1) = ((ins.length - j : Nat) : Int) := by rw [wrap_id (by omega) (by omega)]; omega
    obtain ⟨r, r1, r2, r3⟩ := R_wave xs (ins.getD (ins.length - (j + 1)) 0) s dx dt hw
    cases hm : isMass (ins.getD (ins.length - (j + 1)) 0) with
    | false =>
      rw [hm] at r2
      simp only [cond_false] at r2
      refine ⟨.inl (), runL_out ?_, runL_out ?_, fun q h => by cases h⟩
      · simp only [sRunWave_l6_t, Tr.sem, ltRange hk, zeroLe, Bool.and_self, cond_true, Int.toNat_natCast, hm, Bool.not_false]
      · show (iRunWave_l5_t1 s dx dt ins (ins.length : Int) ((ins.length - (j + 1) : Nat) : Int) xs out).sem = _
        simp only [iRunWave_l5_t1, Tr.sem, ltRange hk, zeroLe, Bool.and_self, cond_true, Int.toNat_natCast, r2, osome, oget, isL]; rfl
    | true =>
      rw [hm] at r2
      simp only [cond_true] at r2
      cases r with
      | inl u =>
        refine ⟨.inl (), runL_out ?_, runL_out ?_, fun q h => by cases h⟩
        · simp only [sRunWave_l6_t, Tr.sem, ltRange hk, zeroLe, Bool.and_self, cond_true, Int.toNat_natCast, hm, Bool.not_true, cond_false, r1, osome, oget, isL]
        · show (iRunWave_l5_t1 s dx dt ins (ins.length : Int) ((ins.length - (j + 1) : Nat) : Int) xs out).sem = _
          simp only [iRunWave_l5_t1, Tr.sem, ltRange hk, zeroLe, Bool.and_self, cond_true, Int.toNat_natCast, r2, osome, oget, isL]; rfl
      | inr u =>
        have hf : decide ((out.length + List.length [u.1]) * 4 ≤ 140737488355328) = true := fits (by omega) u.1
        obtain ⟨p, p1, p2, p3⟩ := R_rounds ins s dx dt hn j u.2 (out ++ [u.1]) (by omega) (by simp only [List.length_append, List.length_cons, List.length_nil]; omega) (r3 u rfl)
        refine ⟨p, (runL_in (s' := (((ins.length - j : Nat) : Int), u.2, out ++ [u.1])) ?_).trans p1, (runL_in (s' := .inr (s, dx, dt, ins, (ins.length : Int), ((ins.length - j : Nat) : Int), u.2, out ++ [u.1])) ?_).trans p2, p3⟩
        · simp only [sRunWave_l6_t, Tr.sem, ltRange hk, zeroLe, Bool.and_self, cond_true, Int.toNat_natCast, hm, Bool.not_true, cond_false, r1, osome, oget, isL, unR, hf, hwr]
        · show (iRunWave_l5_t1 s dx dt ins (ins.length : Int) ((ins.length - (j + 1) : Nat) : Int) xs out).sem = _
          simp only [iRunWave_l5_t1, Tr.sem, ltRange hk, zeroLe, Bool.and_self, cond_true, Int.toNat_natCast, r2, osome, oget, isL, unR, cond_false, hf, hwr]
theorem R_firstW (xs ins : List Nat) (s dx dt : Nat) (h : 1 ≤ ins.length) : iRunWave_l5 (.inl (xs, s, dx, dt, ins, (ins.length : Int), 0, [])) = runL iRunWave_l5_s (.inr (s, dx, dt, ins, (ins.length : Int), 0, xs, [])) := by
  unfold iRunWave_l5
  have e : iRunWave_l5_s (.inl (xs, s, dx, dt, ins, (ins.length : Int), 0, [])) = iRunWave_l5_s (.inr (s, dx, dt, ins, (ins.length : Int), 0, xs, [])) := by
    show (iRunWave_l5_t0 xs s dx dt ins (ins.length : Int) 0 []).sem = (iRunWave_l5_t1 s dx dt ins (ins.length : Int) 0 xs []).sem
    simp only [iRunWave_l5_t0, iRunWave_l5_t1, Tr.sem, decide_eq_true (show (0 : Int) < (ins.length : Int) by omega), cond_true]
  rw [runL_eq, runL_eq, e]
theorem R_runWave (xs ins : List Nat) (s dx dt : Nat) (hl : xs.length ≤ 9223372036854775807) : ∃ r : Unit ⊕ (List Nat × List Nat), sRunWave xs ins s dx dt = some r ∧ iRunWave xs ins s dx dt = some (rwO r) ∧ ∀ q, r = .inr q → q.1.length ≤ 48 ∧ q.2.length ≤ 128 := by
  unfold sRunWave sRunWave_t iRunWave iRunWave_t
  simp only [R_slope xs s dx dt hl, R_isWave xs s dx dt, R_sIns, R_iIns, Tr.sem, osome, oget, cond_true]
  cases hw : waveB xs s dx dt with
  | false => exact ⟨.inl (), rfl, rfl, (fun q h => by cases h)⟩
  | true =>
  cases hi : insB ins with
  | false => exact ⟨.inl (), rfl, rfl, (fun q h => by cases h)⟩
  | true =>
    have hn : 1 ≤ ins.length ∧ ins.length ≤ 128 := by simp only [insB, win, Bool.and_eq_true, decide_eq_true_eq] at hi; omega
    have hx : xs.length ≤ 48 := by
      have hw := hw
      simp only [waveB, win, Bool.and_eq_true, decide_eq_true_eq] at hw; omega
    obtain ⟨r, r1, r2, r3⟩ := R_rounds ins s dx dt hn.2 ins.length xs [] (Nat.le_refl _) (by simp) hw
    rw [Nat.sub_self] at r1 r2
    have hA : iRunWave_l5 (.inl (xs, s, dx, dt, ins, (ins.length : Int), 0, [])) = some (rwO r) := (R_firstW xs ins s dx dt hn.1).trans r2
    have hf : decide ((0 + xs.length) * 4 ≤ 140737488355328) = true := by simp only [decide_eq_true_eq]; omega
    have hB : sRunWave_l6 ins s dx dt (ins.length : Int) 0 ([] ++ xs) [] = some r := r1
    simp only [hA, hf, hB, Bool.not_true, cond_true, cond_false, osome, oget]
    cases r with
    | inl u => exact ⟨.inl (), rfl, rfl, (fun q h => by cases h)⟩
    | inr q => exact ⟨.inr q, rfl, rfl, r3⟩
theorem R_nil : wmarkFloat32S_nil 1 = some 1 := by
  unfold wmarkFloat32S_nil wmarkFloat32S_nil_t
  have h : wmarkFloat32S_nil_l2 1 0 = some 1 := runL_out rfl
  simp only [h, Tr.sem, osome, oget, cond_true]
theorem pureFnExactRunWave (xs ins : List Nat) (s dx dt : Nat) (hX : xs.length ≤ 9223372036854775807) (hI : ins.length ≤ 9223372036854775807) : wFnExactRunWave xs ins s dx dt = some true := by
  unfold wFnExactRunWave wFnExactRunWave_t
  cases hz : decide (((xs.length : Nat) : Int) > 1048576) with
  | true => rfl
  | false =>
    have hx : xs.length ≤ 1048576 := by have := of_decide_eq_false hz; omega
    refine (brF rfl).trans ?_
    cases hy : decide (((ins.length : Nat) : Int) > 1048576) with
    | true => rfl
    | false =>
      have hi : ins.length ≤ 1048576 := by have := of_decide_eq_false hy; omega
      refine (brF rfl).trans ?_
      obtain ⟨r, s1, s2, hq⟩ := R_runWave xs ins s dx dt hX
      have hk := R_markG (1 + (xs.length : Int)) ins hi (by omega) (by omega)
      have hd0 : decide (1 + (xs.length : Int) + (ins.length : Int) < 0) = false := by simp only [decide_eq_false_iff_not]; omega
      simp only [R_to xs hx, R_to ins hi, R_eq xs hx, R_eq ins hi, R_mark xs hx, hk, hd0, s1, s2, Tr.sem, osome, oget, cond_true, Bool.not_true, cond_false, R_eqnil, R_nil, R_heldnil, beq_self_eq_true, bne_self_eq_false]
      cases r with
      | inl u => simp [isL, rwO]
      | inr q =>
        obtain ⟨a, b⟩ := q
        have hl := hq _ rfl
        simp only at hl
        have hd : decide (1 + (a.length : Int) < 0) = false := by simp only [decide_eq_false_iff_not]; omega
        have hd2 : decide (1 + (a.length : Int) + (b.length : Int) < 0) = false := by simp only [decide_eq_false_iff_not]; omega
        have k1 := R_markG (1 + (a.length : Int)) b (by omega) (by omega) (by omega)
        have k2 := R_heldG (1 + (a.length : Int)) b.length (by omega) (by omega) (by omega)
        simp only [rwO, isL, unR, cond_false, R_eq a (by omega), R_eq b (by omega), R_mark a (by omega), R_held a.length (by omega), k1, k2, hd, hd2, Bool.not_true, cond_true, bne_self_eq_false]
end Go.Proofs.Ytikmeahdcipanaa
