/- The program's rights, told plainly. -/
import Derived.Test.YtcjekndobhkmbaaSu
set_option linter.unusedVariables false
set_option linter.unusedSimpArgs false
set_option linter.constructorNameAsVariable false
namespace Go.Proofs.Ytcjekndobhkmbaa
open Go.RowKit
set_option maxRecDepth 100000
def win (lo hi n : Int) : Bool := decide (lo ≤ n) && decide (n ≤ hi)
theorem Q_within (n lo hi : Int) : iwithin n lo hi = win lo hi n := by
  unfold iwithin iwithin_t win
  cases h : decide (lo ≤ n) <;> simp [Tr.val, h]
theorem Q_are (xs : List Int) (lo hi : Int) (hl : xs.length ≤ 9223372036854775807) : iareWithin xs lo hi = some (xs.all (win lo hi)) := by
  have h0 := run_idx (f := fun s => (lIndexFunc_iareWithin_1_l2_t xs lo hi xs.length s).sem) xs (fun x => !(win lo hi x)) hl (fun k hk x hx => by
    simp only [lIndexFunc_iareWithin_1_l2_t, Tr.sem, ltRange hk, inRange hk, Int.toNat_natCast, getD_at hx, cond_true, iareWithin_1, iareWithin_1_t, Tr.val, Q_within]
    cases win lo hi x <;> rfl) (by simp only [lIndexFunc_iareWithin_1_l2_t, Tr.sem, not_lt_self, cond_false])
  have h1 : lIndexFunc_iareWithin_1 xs lo hi = some (idxI (fstIdx (fun x => !(win lo hi x)) 0 xs)) := idx_tree h0
  have h2 : lContainsFunc_iareWithin_1 xs lo hi = some (xs.any fun x => !(win lo hi x)) := has_tree h1
  have h3 : iareWithin xs lo hi = _ := not_tree h2
  rw [h3, not_any]
def unitB (n : Int) : Bool := win 0 1000000000 n
theorem P_units (n : Int) (xs : List Int) : iareUnits n xs = some (unitB n && win 1 64 xs.length && xs.all unitB) := by
  unfold iareUnits iareUnits_t unitB
  simp only [Q_within, Tr.sem]
  cases win 0 1000000000 n <;> cases h : win 1 64 (xs.length : Int) <;> simp only [cond_true, cond_false, Bool.and_self, Bool.and_true, Bool.true_and, Bool.false_and, Bool.and_false]
  have hl : xs.length ≤ 64 := by simp only [win, Bool.and_eq_true, decide_eq_true_eq] at h; omega
  simp only [Q_are xs _ _ (show xs.length ≤ 9223372036854775807 by omega), osome, oget, cond_true]
  try rfl
theorem win_iff {lo hi n : Int} : win lo hi n = true ↔ lo ≤ n ∧ n ≤ hi := by simp [win]
/-- What is chosen at the places of a rank. -/
def selL {α : Type} (f : Nat → α) (ranks : List Int) (k : Int) : Nat → List α
  | 0 => []
  | m + 1 => selL f ranks k m ++ (if ranks.getD m 0 = k then [f m] else [])
def cntL (ranks : List Int) (k : Int) : Nat → Nat
  | 0 => 0
  | m + 1 => cntL ranks k m + (if ranks.getD m 0 = k then 1 else 0)
theorem selL_len {α : Type} (f : Nat → α) (ranks : List Int) (k : Int) : ∀ m, (selL f ranks k m).length = cntL ranks k m
  | 0 => rfl
  | m + 1 => by
    simp only [selL, cntL, List.length_append, selL_len f ranks k m]
    split <;> rfl
theorem cntL_le (ranks : List Int) (k : Int) : ∀ m, cntL ranks k m ≤ m
  | 0 => Nat.le_refl _
  | m + 1 => by have := cntL_le ranks k m; simp only [cntL]; split <;> omega
theorem cntL_lt (ranks : List Int) (k : Int) {m : Nat} (hm : ranks.getD m 0 = k) : ∀ n, m < n → cntL ranks k m < cntL ranks k n
  | 0, h => by omega
  | n + 1, h => by
    simp only [cntL]
    rcases Nat.lt_succ_iff_lt_or_eq.1 h with h | rfl
    · have := cntL_lt ranks k hm n h; split <;> omega
    · rw [if_pos hm]; omega
theorem selL_mem {α : Type} (f : Nat → α) (ranks : List Int) (k : Int) : ∀ m x, x ∈ selL f ranks k m → ∃ i, i < m ∧ x = f i
  | 0, x, h => by cases h
  | m + 1, x, h => by
    simp only [selL] at h
    rcases List.mem_append.1 h with h | h
    · obtain ⟨i, h1, h2⟩ := selL_mem f ranks k m x h; exact ⟨i, by omega, h2⟩
    · split at h
      · rw [List.mem_singleton] at h; exact ⟨m, by omega, h⟩
      · cases h
theorem selL_at {α : Type} (f : Nat → α) (ranks : List Int) (k : Int) {m : Nat} (hm : ranks.getD m 0 = k) : ∀ n, m < n → (selL f ranks k n)[cntL ranks k m]? = some (f m)
  | 0, h => by omega
  | n + 1, h => by
    simp only [selL]
    rcases Nat.lt_succ_iff_lt_or_eq.1 h with h | rfl
    · rw [List.getElem?_append_left (by rw [selL_len]; exact cntL_lt ranks k hm n h)]
      exact selL_at f ranks k hm n h
    · rw [if_pos hm, List.getElem?_append_right (by rw [selL_len]; exact Nat.le_refl _), selL_len, Nat.sub_self]; rfl
/-- Put back to their places. -/
def putR (out own ranks : List Int) (k : Int) : Nat → List Int
  | 0 => out
  | m + 1 => if ranks.getD m 0 = k then (putR out own ranks k m).set m (own.getD (cntL ranks k m) 0) else putR out own ranks k m
theorem putR_len (out own ranks : List Int) (k : Int) : ∀ m, (putR out own ranks k m).length = out.length
  | 0 => rfl
  | m + 1 => by
    simp only [putR]
    split
    · rw [List.length_set, putR_len out own ranks k m]
    · exact putR_len out own ranks k m
def putP (out own places : List Int) : Nat → List Int
  | 0 => out
  | p + 1 => (putP out own places p).set (places.getD p 0).toNat (own.getD p 0)
theorem putP_len (out own places : List Int) : ∀ p, (putP out own places p).length = out.length
  | 0 => rfl
  | p + 1 => by simp only [putP, List.length_set, putP_len out own places p]
theorem put_eq (out own ranks : List Int) (k : Int) (n : Nat) : ∀ m, m ≤ n → putP out own (selL (fun i => (i : Int)) ranks k n) (cntL ranks k m) = putR out own ranks k m
  | 0, _ => rfl
  | m + 1, h => by
    by_cases hm : ranks.getD m 0 = k
    · have e := selL_at (fun i => (i : Int)) ranks k hm n (by omega)
      simp only [cntL, putR, if_pos hm, putP, put_eq out own ranks k n m (by omega)]
      rw [List.getD_eq_getElem?_getD, e]; rfl
    · simp only [cntL, putR, if_neg hm, Nat.add_zero]
      exact put_eq out own ranks k n m (by omega)
theorem putR_get (out own ranks : List Int) (k : Int) (i : Nat) : ∀ m, m ≤ out.length → (putR out own ranks k m).getD i 0 = if i < m ∧ ranks.getD i 0 = k then own.getD (cntL ranks k i) 0 else out.getD i 0
  | 0, _ => by rw [if_neg (by omega)]; rfl
  | m + 1, h => by
    have ih := putR_get out own ranks k i m (by omega)
    by_cases hm : ranks.getD m 0 = k
    · simp only [putR, if_pos hm]
      rw [set_get (by rw [putR_len]; omega), ih]
      by_cases e : i = m
      · subst e; rw [if_pos rfl, if_pos ⟨by omega, hm⟩]
      · rw [if_neg e]
        by_cases h2 : i < m ∧ ranks.getD i 0 = k
        · rw [if_pos h2, if_pos ⟨by omega, h2.2⟩]
        · rw [if_neg h2, if_neg (fun h3 => h2 ⟨by omega, h3.2⟩)]
    · simp only [putR, if_neg hm]
      rw [ih]
      by_cases h2 : i < m ∧ ranks.getD i 0 = k
      · rw [if_pos h2, if_pos ⟨by omega, h2.2⟩]
      · rw [if_neg h2, if_neg (fun h3 => h2 ⟨by
          rcases Nat.lt_succ_iff_lt_or_eq.1 h3.1 with h | rfl
          · exact h
          · exact (hm h3.2).elim, h3.2⟩)]
abbrev ownL (wants ranks : List Int) (k : Int) (m : Nat) : List Int := selL (fun i => wants.getD i 0) ranks k m
abbrev plaL (ranks : List Int) (k : Int) (m : Nat) : List Int := selL (fun i => (i : Int)) ranks k m
theorem selL_step {α : Type} (f : Nat → α) (ranks : List Int) (k : Int) (m : Nat) : selL f ranks k (m + 1) = selL f ranks k m ++ (if ranks.getD m 0 = k then [f m] else []) := rfl
theorem T_l9 (am : Int) (wants ranks : List Int) (k : Int) (out : List Int) (hl : ranks.length = wants.length) (h64 : wants.length ≤ 64) :
    iByRights_l9 am wants ranks k ranks (ranks.length : Nat) 0 out [] [] = some (am, wants, ranks, k, out, ownL wants ranks k ranks.length, plaL ranks k ranks.length) := by
  exact runL_steps (f := fun q : Int × List Int × List Int => (iByRights_l9_t am wants ranks k ranks (ranks.length : Nat) out q.1 q.2.1 q.2.2).sem) (r := (am, wants, ranks, k, out, ownL wants ranks k ranks.length, plaL ranks k ranks.length)) ranks.length 0 (fun j => ((j : Int), ownL wants ranks k j, plaL ranks k j)) (fun j _ hj => by
    have hj : j < ranks.length := by omega
    have c1 := cntL_le ranks k j
    have f1 : decide (((ownL wants ranks k j).length + List.length [wants.getD j 0]) * 8 ≤ 140737488355328) = true := fits8 (by rw [selL_len]; omega) _
    have f2 : decide (((plaL ranks k j).length + List.length [(j : Int)]) * 8 ≤ 140737488355328) = true := fits8 (by rw [selL_len]; omega) _
    simp only [iByRights_l9_t, Tr.sem, ltRange hj, ltRange (show j < wants.length by omega), zeroLe, Bool.and_self, cond_true, Int.toNat_natCast, up1 (show j ≤ 1048576 by omega), f1, f2]
    by_cases hr : ranks.getD j 0 = k
    · rw [show (ranks.getD j 0 == k) = true from by simpa using hr]
      simp only [ownL, plaL, selL_step, if_pos hr, cond_true]
    · rw [show (ranks.getD j 0 == k) = false from by simpa using hr]
      simp only [ownL, plaL, selL_step, if_neg hr, cond_false, List.append_nil]) (by
    rw [Nat.zero_add]; simp only [iByRights_l9_t, Tr.sem, not_lt_self, cond_false])
theorem T_l17 (am : Int) (wants ranks : List Int) (k : Int) (out own places : List Int) (hp : ∀ p, p < places.length → 0 ≤ places.getD p 0 ∧ places.getD p 0 < out.length) (ho : places.length ≤ own.length) (h64 : places.length ≤ 64) :
    iByRights_l17 (.inl (am, wants, ranks, k, (places.length : Int), 0, out, own, places)) = some (.inl (am, wants, ranks, k, putP out own places places.length, own)) ∧
    iByRights_l17 (.inr (am, wants, ranks, k, (places.length : Int), 0, out, own, places)) = some (.inr (am, wants, ranks, k, putP out own places places.length, own)) := by
  have hr : ∀ j, j < places.length → (decide (0 ≤ places.getD j 0) && decide (places.getD j 0 < ((putP out own places j).length : Int))) = true := fun j hj => by
    rw [putP_len, decide_eq_true (hp j hj).1, decide_eq_true (hp j hj).2]; rfl
  refine ⟨?_, ?_⟩
  · refine runL_steps (f := iByRights_l17_s) (r := .inl (am, wants, ranks, k, putP out own places places.length, own)) places.length 0 (fun j => .inl (am, wants, ranks, k, (places.length : Int), (j : Int), putP out own places j, own, places)) (fun j _ hj => ?_) ?_
    · have hj : j < places.length := by omega
      show (iByRights_l17_t0 am wants ranks k (places.length : Int) (j : Int) (putP out own places j) own places).sem = _
      simp only [iByRights_l17_t0, Tr.sem, ltRange hj, ltRange (show j < own.length by omega), zeroLe, Bool.and_self, Bool.true_and, cond_true, Int.toNat_natCast, up1 (show j ≤ 1048576 by omega), hr j hj]
      rfl
    · rw [Nat.zero_add]
      show (iByRights_l17_t0 am wants ranks k (places.length : Int) (places.length : Int) (putP out own places places.length) own places).sem = _
      simp only [iByRights_l17_t0, Tr.sem, not_lt_self, cond_false]
  · refine runL_steps (f := iByRights_l17_s) (r := .inr (am, wants, ranks, k, putP out own places places.length, own)) places.length 0 (fun j => .inr (am, wants, ranks, k, (places.length : Int), (j : Int), putP out own places j, own, places)) (fun j _ hj => ?_) ?_
    · have hj : j < places.length := by omega
      show (iByRights_l17_t1 am wants ranks k (places.length : Int) (j : Int) (putP out own places j) own places).sem = _
      simp only [iByRights_l17_t1, Tr.sem, ltRange hj, ltRange (show j < own.length by omega), zeroLe, Bool.and_self, Bool.true_and, cond_true, Int.toNat_natCast, up1 (show j ≤ 1048576 by omega), hr j hj]
      rfl
    · rw [Nat.zero_add]
      show (iByRights_l17_t1 am wants ranks k (places.length : Int) (places.length : Int) (putP out own places places.length) own places).sem = _
      simp only [iByRights_l17_t1, Tr.sem, not_lt_self, cond_false]
/-- What those of a rank are given. -/
noncomputable def own2 (am : Int) (l : List Int) : List Int := if isum l > am then (isplit am l).getD [] else l
theorem own2_spec {am : Int} {l : List Int} (h0 : 0 ≤ am) (h1 : am ≤ 1000000000) (h : unitsL l) : (own2 am l).length = l.length ∧ (∀ x ∈ own2 am l, 0 ≤ x) ∧ 0 ≤ isum (own2 am l) ∧ isum (own2 am l) ≤ am ∧ (isum l > am → isplit am l = some (own2 am l) ∧ isum (own2 am l) = am) ∧ (¬ isum l > am → own2 am l = l) ∧ ∀ i, i < l.length → (own2 am l).getD i 0 ≤ l.getD i 0 := by
  by_cases hs : isum l > am
  · obtain ⟨r, r1, r2, r3, r4⟩ := T_split am l h0 h1 h (by omega)
    have e : own2 am l = r := by unfold own2; rw [if_pos hs, r1]; rfl
    have sh : ∀ i, i < l.length → isum l * qS am (isum l) (l.getD i 0) + pS am (isum l) (l.getD i 0) = am * l.getD i 0 ∧ 0 ≤ qS am (isum l) (l.getD i 0) ∧ 0 ≤ pS am (isum l) (l.getD i 0) ∧ pS am (isum l) (l.getD i 0) < isum l := fun i hi => share_eq h0 (by omega) (h.2 _ (getD_mem (d := 0) hi)).1
    rw [e]
    have hnn : ∀ i, i < l.length → 0 ≤ r.getD i 0 := fun i hi => by
      have a := (sh i hi).2.1
      rcases r4 i hi with q | ⟨q, _⟩ <;> omega
    refine ⟨r2, fun x hx => ?_, by omega, by omega, fun _ => ⟨r1, r3⟩, fun hc => absurd hs hc, fun i hi => ?_⟩
    · obtain ⟨i, hi⟩ := List.getElem?_of_mem hx
      have hil : i < r.length := (List.getElem?_eq_some_iff.1 hi).1
      have := hnn i (by omega)
      rwa [getD_at hi] at this
    · -- a share is at most what is wanted
      obtain ⟨a, b, c, d⟩ := sh i hi
      have hx := h.2 _ (getD_mem (d := 0) hi)
      have hlt : am * l.getD i 0 ≤ (isum l) * l.getD i 0 := Int.mul_le_mul_of_nonneg_right (by omega) hx.1
      have hS : 0 < isum l := by omega
      rcases r4 i hi with q | ⟨q, hp⟩
      · rw [q]
        refine Int.le_of_mul_le_mul_left (a := isum l) ?_ hS
        omega
      · rw [q]
        have : isum l * qS am (isum l) (l.getD i 0) < isum l * l.getD i 0 := by omega
        have := Int.lt_of_mul_lt_mul_left this (by omega)
        omega
  · have e : own2 am l = l := by unfold own2; rw [if_neg hs]
    rw [e]
    exact ⟨rfl, fun x hx => (h.2 x hx).1, (units_sum h).1, by omega, fun hc => absurd hc hs, fun _ => rfl, fun i _ => Int.le_refl _⟩
theorem own_units {wants : List Int} (h : unitsL wants) (ranks : List Int) (k : Int) (hl : ranks.length = wants.length) : unitsL (ownL wants ranks k ranks.length) := by
  refine ⟨?_, fun x hx => ?_⟩
  · rw [selL_len]; have := cntL_le ranks k ranks.length; have := h.1; omega
  · obtain ⟨i, hi, rfl⟩ := selL_mem _ _ _ _ _ hx
    exact h.2 _ (getD_mem (by omega))
/-- The rights of the ranks from k on. -/
noncomputable def rightsL (wants ranks : List Int) : Nat → Int → Int → List Int → List Int
  | 0, am, k, out => out
  | j + 1, am, k, out => rightsL wants ranks j (am - isum (own2 am (ownL wants ranks k ranks.length))) (k + 1) (putR out (own2 am (ownL wants ranks k ranks.length)) ranks k ranks.length)
theorem T_rounds (wants ranks : List Int) (hw : unitsL wants) (hl : ranks.length = wants.length) : ∀ (j : Nat) (am : Int) (k : Nat) (out : List Int), k + j = 65 → 0 ≤ am → am ≤ 1000000000 → out.length = ranks.length →
    iByRights_l5 am wants ranks (k : Int) out = some (rightsL wants ranks j am k out)
  | 0, am, k, out, hk, h0, h1, ho => runL_out (by simp only [iByRights_l5_t, Tr.sem, decide_eq_false (show ¬ ((k : Int) ≤ 64) by omega), cond_false]; rfl)
  | j + 1, am, k, out, hk, h0, h1, ho => by
    have hu := own_units hw ranks (k : Int) hl
    have h64 := hw.1
    obtain ⟨o1, o2, o3, o4, o5, o6, o7⟩ := own2_spec h0 h1 hu
    have hs := units_sum hu
    have t9 := T_l9 am wants ranks k out hl h64
    have tt1 := T_list _ (fun x hx => (hu.2 x hx).1) (by omega) (by have := hu.1; omega)
    have tt2 := T_list _ o2 (by omega) (by have := hu.1; omega)
    have hpl : (plaL ranks k ranks.length).length = cntL ranks k ranks.length := selL_len _ _ _ _
    have hol : (ownL wants ranks k ranks.length).length = cntL ranks k ranks.length := selL_len _ _ _ _
    have hc := cntL_le ranks (k : Int) ranks.length
    obtain ⟨t17, t17'⟩ := T_l17 am wants ranks k out (own2 am (ownL wants ranks k ranks.length)) (plaL ranks k ranks.length) (fun p hp => by
      obtain ⟨i, hi, e⟩ := selL_mem _ _ _ _ _ (getD_mem (d := 0) hp)
      rw [e]; omega) (by omega) (by omega)
    have hpe : putP out (own2 am (ownL wants ranks k ranks.length)) (plaL ranks k ranks.length) (plaL ranks k ranks.length).length = putR out (own2 am (ownL wants ranks k ranks.length)) ranks k ranks.length := by
      rw [hpl]; exact put_eq _ _ _ _ _ _ (Nat.le_refl _)
    rw [hpe] at t17 t17'
    have ih := T_rounds wants ranks hw hl j (am - isum (own2 am (ownL wants ranks k ranks.length))) (k + 1) (putR out (own2 am (ownL wants ranks k ranks.length)) ranks k ranks.length) (by omega) (by omega) (by omega) (by rw [putR_len]; exact ho)
    have hw1 : IntKind.wrap .i64 (am - isum (own2 am (ownL wants ranks k ranks.length))) = am - isum (own2 am (ownL wants ranks k ranks.length)) := wrap_id (by omega) (by omega)
    refine (runL_in (s' := (am - isum (own2 am (ownL wants ranks k ranks.length)), wants, ranks, ((k + 1 : Nat) : Int), putR out (own2 am (ownL wants ranks k ranks.length)) ranks k ranks.length)) ?_).trans ih
    by_cases hgt : isum (ownL wants ranks k ranks.length) > am
    · obtain ⟨q1, q2⟩ := o5 hgt
      simp only [iByRights_l5_t, iByRights_l5_o1, iByRights_l5_o2, iByRights_l5_o3, iByRights_l5_o4, iByRights_l5_o5, iByRights_l5_o6, iByRights_l5_o7, iByRights_l5_o8, iByRights_l5_o9, Tr.sem, decide_eq_true (show ((k : Int) ≤ 64) by omega), t9, tt1, decide_eq_true hgt, q1, t17, t17', tt2, hw1, up1 (show k ≤ 1048576 by omega), osome, oget, isL, unL, unR, cond_true, cond_false]
    · have e := o6 hgt
      rw [e] at t17 t17' hw1 ⊢
      simp only [iByRights_l5_t, iByRights_l5_o1, iByRights_l5_o2, iByRights_l5_o3, iByRights_l5_o4, iByRights_l5_o5, iByRights_l5_o6, iByRights_l5_o7, iByRights_l5_o8, iByRights_l5_o9, Tr.sem, decide_eq_true (show ((k : Int) ≤ 64) by omega), t9, tt1, decide_eq_false hgt, t17, t17', hw1, up1 (show k ≤ 1048576 by omega), osome, oget, isL, unL, unR, cond_true, cond_false]
def rightB (am : Int) (wants ranks : List Int) : Bool := unitB am && win 1 64 wants.length && wants.all unitB && decide (ranks.length = wants.length) && ranks.all (win 0 64)
theorem right_parts {am : Int} {wants ranks : List Int} (h : rightB am wants ranks = true) : (0 ≤ am ∧ am ≤ 1000000000) ∧ unitsL wants ∧ 1 ≤ wants.length ∧ ranks.length = wants.length ∧ ∀ x ∈ ranks, 0 ≤ x ∧ x ≤ 64 := by
  simp only [rightB, unitB, Bool.and_eq_true, win_iff, decide_eq_true_eq, List.all_eq_true] at h
  obtain ⟨⟨⟨⟨a, b⟩, c⟩, d⟩, e⟩ := h
  exact ⟨a, ⟨by omega, c⟩, by omega, d, e⟩
theorem len_ne {m n : Nat} : (((m : Nat) : Int) != ((n : Nat) : Int)) = !decide (m = n) := by
  by_cases h : m = n
  · subst h; simp
  · have : ((m : Nat) : Int) ≠ ((n : Nat) : Int) := by omega
    simp [h, this]
theorem mk8n {n : Nat} (h : n ≤ 1048576) : (decide (((n : Nat) : Int) = ((n : Nat) : Int)) && decide (0 ≤ ((n : Nat) : Int)) && decide (((n : Nat) : Int) * ((8 : Nat) : Int) ≤ 140737488355328)) = true := by
  simp only [decide_true, Bool.true_and, Bool.and_eq_true, decide_eq_true_eq]; omega
theorem mk8m {n : Nat} (h : n ≤ 1048576) : (true && decide (0 ≤ ((n : Nat) : Int)) && decide (((n : Nat) : Int) * ((8 : Nat) : Int) ≤ 140737488355328)) = true := by
  simp only [Bool.true_and, Bool.and_eq_true, decide_eq_true_eq]; omega
/-- **THE RIGHTS** that the program tells. -/
theorem T_byRights (am : Int) (wants ranks : List Int) : iByRights am wants ranks = some (bif rightB am wants ranks then .inr (rightsL wants ranks 65 am 0 (List.replicate wants.length 0)) else .inl ()) := by
  unfold iByRights
  simp only [iByRights_t, P_units, len_ne, Tr.sem, osome, oget, cond_true]
  cases h1 : unitB am && win 1 64 (wants.length : Int) && wants.all unitB with
  | false => simp only [rightB, h1, Bool.false_and, Bool.not_false, cond_true, cond_false]
  | true =>
    by_cases h2 : ranks.length = wants.length
    · have hn : wants.length ≤ 64 := by simp only [Bool.and_eq_true, win_iff] at h1; omega
      have h3 := Q_are ranks 0 64 (by omega)
      simp only [h2, h3, mk8n (show wants.length ≤ 1048576 by omega), mk8m (show wants.length ≤ 1048576 by omega), decide_true, Bool.not_true, cond_true, cond_false, Int.toNat_natCast]
      cases h4 : ranks.all (win 0 64) with
      | false => simp only [rightB, h1, h2, h4, Bool.not_false, decide_true, Bool.and_false, cond_true, cond_false]
      | true =>
        have hB : rightB am wants ranks = true := by simp only [rightB, h1, h2, h4, decide_true, Bool.and_self]
        obtain ⟨p1, p2, p3, p4, p5⟩ := right_parts hB
        have hr := T_rounds wants ranks p2 p4 65 am 0 (List.replicate wants.length 0) (by omega) p1.1 p1.2 (by simp [p4])
        have hr' : iByRights_l5 am wants ranks 0 (List.replicate wants.length 0) = _ := hr
        simp only [hr', hB, Bool.not_true, cond_true, cond_false, Int.natCast_zero]
    · simp only [rightB, h1, h2, decide_false, Bool.not_false, Bool.not_true, Bool.and_false, Bool.false_and, cond_true, cond_false]
end Go.Proofs.Ytcjekndobhkmbaa
