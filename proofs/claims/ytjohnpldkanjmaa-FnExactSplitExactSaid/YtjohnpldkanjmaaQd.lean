/- Splits: the program's and the reference's are the same. -/
import Derived.Test.YtjohnpldkanjmaaQb
set_option linter.unusedVariables false
set_option linter.unusedSimpArgs false
set_option linter.constructorNameAsVariable false
namespace Go.Proofs.Ytjohnpldkanjmaa
open Go.RowKit
set_option maxRecDepth 100000
theorem P_units (n : Int) (xs : List Int) : iareUnits n xs = some (unitB n && win 1 64 xs.length && xs.all unitB) := by
  unfold iareUnits iareUnits_t unitB
  simp only [Q_within, Tr.sem]
  cases win 0 1000000000 n <;> cases h : win 1 64 (xs.length : Int) <;> simp only [cond_true, cond_false, Bool.and_self, Bool.and_true, Bool.true_and, Bool.false_and, Bool.and_false]
  have hl : xs.length ≤ 64 := by simp only [win, Bool.and_eq_true, decide_eq_true_eq] at h; omega
  simp only [Q_are xs _ _ (show xs.length ≤ 9223372036854775807 by omega), osome, oget, cond_true]
  try rfl
theorem P_inflows (xs : List Int) (hl : xs.length ≤ 9223372036854775806) : sl06Inflows xs xs.length = some (xs.all unitB) := by
  unfold sl06Inflows sl06Inflows_t
  have h1 : sl06Inflows_l2 xs (xs.length : Nat) 0 = some (bif xs.all unitB then .inr (xs, ((xs.length : Nat) : Int)) else .inl ()) := by
    unfold sl06Inflows_l2
    refine run_all (f := fun s => (sl06Inflows_l2_t xs (xs.length : Nat) s).sem) xs 0 unitB (.inl ()) (.inr (xs, ((xs.length : Nat) : Int))) (by omega) (fun k hk x hx => ?_) (by simp only [sl06Inflows_l2_t, Tr.sem, not_lt_self, cond_false])
    simp only [sl06Inflows_l2_t, Tr.sem, ltRange hk, zeroLe, Bool.and_self, cond_true, Int.toNat_natCast, getD_at hx, beq_self_eq_true, Q_unit]
    cases unitB x <;> rfl
  simp only [h1, Tr.sem, osome, oget, cond_true]
  cases xs.all unitB <;> simp [isL, unR]
theorem P_list (xs : List Int) (hl : xs.length ≤ 1048576) : sl06List xs = some (win 1 64 xs.length && xs.all unitB) := by
  unfold sl06List sl06List_t win
  simp only [P_inflows xs (by omega), Tr.sem, osome, oget, cond_true]
  by_cases h1 : (xs.length : Int) ≥ 1
  · by_cases h2 : (xs.length : Int) ≤ 64
    · have h1' : (1 : Int) ≤ xs.length := h1
      simp [h1', h2]
    · simp [h2]
  · have h1' : ¬ (1 : Int) ≤ xs.length := h1
    simp [h1']
theorem P_sum (xs : List Int) (hl : xs.length ≤ 1048576) : ∃ n, sl06Sum xs = some n ∧ itotal [xs] = some n := by
  obtain ⟨n, hn, _⟩ := runL_ex0 (f := fun s : Int × Int => (sl06Sum_l3_t xs s.1 s.2).sem) xs.length (fun j s => s.2 = (j : Int)) (fun _ => True) (0, 0) rfl (fun j s hj e1 => by
    obtain ⟨x, y⟩ := s
    simp only at e1
    subst e1
    simp only [sl06Sum_l3_t, Tr.sem, ltRange hj, zeroLe, Bool.and_self, cond_true]
    exact ⟨_, rfl, by simp only; rw [wrap_id (by omega) (by omega)]; omega⟩) (fun s e1 => by
    obtain ⟨x, y⟩ := s
    simp only at e1
    subst e1
    exact ⟨x, by simp only [sl06Sum_l3_t, Tr.sem, not_lt_self, cond_false], trivial⟩)
  have hn' : sl06Sum_l3 xs 0 0 = some n := hn
  refine ⟨n, ?_, ?_⟩
  · unfold sl06Sum sl06Sum_t
    simp only [hn', Tr.sem, osome, oget, cond_true]
  · have key : ∀ (L : Nat) (a b : Int), (∃ t : Int × Int, iterN (fun s : Int × Int => (sl06Sum_l3_t xs s.1 s.2).sem) L (a, b) = some n) → iterN (fun s : Int × Int => (itotal_l6_t [xs] 1 0 xs (xs.length : Nat) s.1 s.2).sem) L (a, b) = some (n, [xs], 1, 0) := by
      intro L
      induction L with
      | zero => intro a b ⟨_, h⟩; simp [iterN] at h
      | succ L ih =>
        intro a b ⟨t, h⟩
        simp only [iterN, sl06Sum_l3_t, itotal_l6_t, Tr.sem] at h ⊢
        cases h1 : decide (b < (xs.length : Int)) with
        | false => rw [h1] at h; simp only [cond_false, Option.some.injEq] at h ⊢; rw [h]
        | true =>
          rw [h1] at h
          cases h2 : (decide (0 ≤ b) && true) with
          | false => rw [h2] at h; simp at h
          | true =>
            rw [h2] at h
            simp only [cond_true] at h ⊢
            exact ih _ _ ⟨t, h⟩
    obtain ⟨L, hL⟩ := runL_some hn
    have h6 : itotal_l6 0 [xs] 1 0 xs (xs.length : Nat) 0 = some (n, [xs], 1, 0) := runL_of (key L 0 0 ⟨(0, 0), hL⟩)
    unfold itotal itotal_t itotal_l3
    have h3 : runL (fun s : Int × List (List Int) × Int × Int => (itotal_l3_t s.1 s.2.1 s.2.2.1 s.2.2.2).sem) (0, [xs], 1, 0) = some n := by
      refine (runL_in (s' := (n, [xs], 1, 1)) (by
        simp only [itotal_l3_t, Tr.sem, List.length_cons, List.length_nil]
        simp only [show (List.getD [xs] (Int.toNat 0) []) = xs from rfl, h6, osome, oget, cond_true]
        rfl)).trans ?_
      exact runL_out (by simp only [itotal_l3_t, Tr.sem]; rfl)
    simp only [List.length_cons, List.length_nil, h3, Tr.sem, osome, oget, cond_true, show ((0 + 1 : Nat) : Int) = 1 from rfl]
/-- The shares and what is left of each. -/
theorem P_shares (n s : Int) (xs : List Int) (hs : s ≠ 0) (hl : xs.length ≤ 1048576) : ∃ r, sl06Split_l6 n xs s n 0 [] [] = some r ∧ isplit_l4 n s n xs (xs.length : Nat) 0 [] [] = some r ∧ r.2.1.length = xs.length ∧ r.2.2.length = xs.length ∧ r.1 ≤ max n 9223372036854775807 := by
  have e : isplit_l4 n s n xs (xs.length : Nat) 0 [] [] = sl06Split_l6 n xs s n 0 [] [] := by
    unfold isplit_l4 sl06Split_l6
    refine runL_same (fun _ => True) (fun t _ => ?_) (fun _ _ _ _ => trivial) _ trivial
    simp only [isplit_l4_t, sl06Split_l6_t, Tr.sem, decide_eq_true hs, cond_true]
    cases decide (t.2.1 < (xs.length : Int)) <;> cases decide (0 ≤ t.2.1) <;> simp
  obtain ⟨r, hr, h1, h2, h3⟩ := runL_ex0 (f := fun t : Int × Int × List Int × List Int => (sl06Split_l6_t n xs s t.1 t.2.1 t.2.2.1 t.2.2.2).sem) xs.length (fun j t => t.2.1 = (j : Int) ∧ t.2.2.1.length = j ∧ t.2.2.2.length = j ∧ t.1 ≤ max n 9223372036854775807) (fun r => r.2.1.length = xs.length ∧ r.2.2.length = xs.length ∧ r.1 ≤ max n 9223372036854775807) (n, 0, [], []) ⟨rfl, rfl, rfl, by omega⟩ (fun j t hj ⟨e1, e2, e3, e4⟩ => by
    obtain ⟨a, b, u, v⟩ := t
    simp only at e1 e2 e3 e4
    subst e1
    simp only [sl06Split_l6_t, Tr.sem, ltRange hj, zeroLe, Bool.and_self, cond_true, decide_eq_true hs]
    rw [decide_eq_true (by simp only [List.length_cons, List.length_nil]; omega), decide_eq_true (by simp only [List.length_cons, List.length_nil]; omega)]
    refine ⟨_, rfl, ?_, ?_, ?_, ?_⟩
    · simp only; rw [wrap_id (n := (j : Int) + 1) (by omega) (by omega)]; omega
    · simp only [List.length_append, List.length_cons, List.length_nil]; omega
    · simp only [List.length_append, List.length_cons, List.length_nil]; omega
    · exact Int.le_trans (wrap_hi _) (Int.le_max_right _ _)) (fun t ⟨e1, e2, e3, e4⟩ => by
    obtain ⟨a, b, u, v⟩ := t
    simp only at e1 e2 e3 e4
    subst e1
    exact ⟨(a, u, v), by simp only [sl06Split_l6_t, Tr.sem, not_lt_self, cond_false], e2, e3, e4⟩)
  exact ⟨r, hr, e.trans hr, h1, h2, h3⟩
/-- Which rest is greatest. -/
theorem P_best (l : Int) (u v : List Int) (hv : 1 ≤ v.length) (hl : v.length ≤ 1048576) : ∃ b : Int, sl06Split_l16 l 0 1 u v = some (l, b, u, v) ∧ isplit_l13 l 0 (v.length : Nat) 0 u v = some (l, b, u, v) ∧ 0 ≤ b ∧ b < v.length := by
  have e : isplit_l13 l 0 (v.length : Nat) 0 u v = sl06Split_l16 l 0 1 u v := by
    unfold isplit_l13 sl06Split_l16
    refine (runL_in (s' := (0, 1)) (by
      have hz : decide ((0 : Int) < (v.length : Int)) = true := by simp; omega
      simp only [isplit_l13_t, Tr.sem, hz, show decide ((0 : Int) ≤ 0) = true from rfl, Bool.and_self, cond_true, show decide (v.getD (Int.toNat 0) 0 > v.getD (Int.toNat 0) 0) = false from by simp, cond_false]; rfl)).trans ?_
    exact runL_same (fun _ => True) (fun t _ => rfl) (fun _ _ _ _ => trivial) _ trivial
  obtain ⟨r, hr, b, rfl, hb0, hb1⟩ := runL_ex0 (f := fun t : Int × Int => (sl06Split_l16_t l u v t.1 t.2).sem) (v.length - 1) (fun j t => t.2 = (j : Int) + 1 ∧ 0 ≤ t.1 ∧ t.1 < v.length) (fun r => ∃ b : Int, r = (l, b, u, v) ∧ 0 ≤ b ∧ b < v.length) (0, 1) ⟨rfl, by omega, by omega⟩ (fun j t hj ⟨e1, e2, e3⟩ => by
    obtain ⟨a, b⟩ := t
    simp only at e1 e2 e3
    subst e1
    simp only [sl06Split_l16_t, Tr.sem, decide_eq_true (show ((j : Int) + 1) < (v.length : Int) by omega), decide_eq_true (show (0 : Int) ≤ (j : Int) + 1 by omega), decide_eq_true e2, decide_eq_true e3, Bool.and_self, cond_true]
    cases decide (v.getD (Int.toNat ((j : Int) + 1)) 0 > v.getD a.toNat 0) with
    | true => exact ⟨_, rfl, by simp only; rw [wrap_id (by omega) (by omega)]; omega, by simp only; omega, by simp only; omega⟩
    | false => exact ⟨_, rfl, by simp only; rw [wrap_id (by omega) (by omega)]; omega, e2, e3⟩) (fun t ⟨e1, e2, e3⟩ => by
    obtain ⟨a, b⟩ := t
    simp only at e1 e2 e3
    subst e1
    refine ⟨(l, a, u, v), ?_, a, rfl, e2, e3⟩
    simp only [sl06Split_l16_t, Tr.sem]
    rw [decide_eq_false (by omega)]; rfl)
  exact ⟨b, hr, e.trans hr, hb0, hb1⟩
theorem P_rest (l : Int) (u v : List Int) (hu : u.length = v.length) (hv : 1 ≤ v.length) (hl : v.length ≤ 1048576) (hb : l ≤ 9223372036854775807) : ∃ r, sl06Split_l12 l u v = some r ∧ isplit_l9 l u v = some r ∧ r.length = u.length := by
  have step : ∀ (a : Int) (x y : List Int), 0 < a → a ≤ 9223372036854775807 → x.length = y.length → 1 ≤ y.length → y.length ≤ 1048576 → ∃ x' y', (sl06Split_l12_t a x y).sem = some (.inl (a - 1, x', y')) ∧ (isplit_l9_t a x y).sem = some (.inl (a - 1, x', y')) ∧ x'.length = x.length ∧ y'.length = y.length := by
    intro a x y h0 h1 hxy hy hy2
    obtain ⟨b, hb1, hb2, hb3, hb4⟩ := P_best a x y hy hy2
    simp only [sl06Split_l12_t, isplit_l9_t, Tr.sem, hb1, hb2, osome, oget, cond_true, decide_eq_true (show a > 0 from h0), decide_eq_true hb3, decide_eq_true hb4, decide_eq_true (show b < (x.length : Int) by omega), Bool.and_self]
    rw [wrap_id (n := a - 1) (by omega) (by omega)]
    exact ⟨_, _, rfl, rfl, by simp, by simp⟩
  have stop : ∀ (a : Int) (x y : List Int), ¬ 0 < a → (sl06Split_l12_t a x y).sem = some (.inr x) ∧ (isplit_l9_t a x y).sem = some (.inr x) := by
    intro a x y h0
    simp only [sl06Split_l12_t, isplit_l9_t, Tr.sem, decide_eq_false (show ¬ a > 0 from h0), cond_false, and_self]
  have key : ∀ (n : Nat) (a : Int) (x y : List Int), a ≤ n → a ≤ 9223372036854775807 → x.length = y.length → 1 ≤ y.length → y.length ≤ 1048576 → ∃ r, runL (fun s : Int × List Int × List Int => (sl06Split_l12_t s.1 s.2.1 s.2.2).sem) (a, x, y) = some r ∧ runL (fun s : Int × List Int × List Int => (isplit_l9_t s.1 s.2.1 s.2.2).sem) (a, x, y) = some r ∧ r.length = x.length := by
    intro n
    induction n with
    | zero =>
      intro a x y h0 h1 hxy hy hy2
      obtain ⟨e1, e2⟩ := stop a x y (by omega)
      exact ⟨x, runL_out e1, runL_out e2, rfl⟩
    | succ n ih =>
      intro a x y h0 h1 hxy hy hy2
      by_cases ha : 0 < a
      · obtain ⟨x', y', e1, e2, e3, e4⟩ := step a x y ha h1 hxy hy hy2
        obtain ⟨r, r1, r2, r3⟩ := ih (a - 1) x' y' (by omega) (by omega) (by omega) (by omega) (by omega)
        exact ⟨r, (runL_in e1).trans r1, (runL_in e2).trans r2, by omega⟩
      · obtain ⟨e1, e2⟩ := stop a x y ha
        exact ⟨x, runL_out e1, runL_out e2, rfl⟩
  exact key l.toNat l u v (by omega) hb hu hv hl
theorem P_split (n s : Int) (xs : List Int) (h1 : 1 ≤ xs.length) (hl : xs.length ≤ 1048576) (hn : n ≤ 9223372036854775807) (hs : s ≠ 0) (hs1 : sl06Sum xs = some s) (hs2 : itotal [xs] = some s) : ∃ r, sl06Split n xs = some r ∧ isplit n xs = some r ∧ r.length = xs.length := by
  obtain ⟨q, q1, q2, q3, q4, q5⟩ := P_shares n s xs hs hl
  obtain ⟨r, r1, r2, r3⟩ := P_rest q.1 q.2.1 q.2.2 (by omega) (by omega) (by omega) (by omega)
  refine ⟨r, ?_, ?_, by omega⟩
  · unfold sl06Split sl06Split_t
    simp only [hs1, q1, r1, Tr.sem, osome, oget, cond_true]
  · unfold isplit isplit_t
    simp only [hs2, q2, r2, Tr.sem, osome, oget, cond_true]
theorem P_splits (n : Int) (xs : List Int) (hl : xs.length ≤ 1048576) : ∃ r, sSplitExact n xs = some r ∧ iSplitExact n xs = some r ∧ ∀ l, r = .inr l → l.length ≤ 1048576 := by
  obtain ⟨s, s1, s2⟩ := P_sum xs hl
  unfold sSplitExact sSplitExact_t iSplitExact iSplitExact_t
  simp only [Q_unit, P_list xs hl, P_units, s1, s2, Tr.sem, osome, oget, cond_true]
  cases hn : unitB n with
  | false => exact ⟨.inl (), rfl, rfl, fun l h => by cases h⟩
  | true =>
  cases hw : win 1 64 (xs.length : Int) with
  | false => exact ⟨.inl (), rfl, rfl, fun l h => by cases h⟩
  | true =>
  cases hx : xs.all unitB with
  | false => exact ⟨.inl (), rfl, rfl, fun l h => by cases h⟩
  | true =>
  by_cases h0 : s = 0
  · subst h0
    exact ⟨.inl (), rfl, rfl, fun l h => by cases h⟩
  · have hlen : 1 ≤ xs.length := by simp only [win, Bool.and_eq_true, decide_eq_true_eq] at hw; omega
    have hn' : n ≤ 1000000000 := by simp only [unitB, win, Bool.and_eq_true, decide_eq_true_eq] at hn; omega
    obtain ⟨r, r1, r2, r3⟩ := P_split n s xs hlen hl (by omega) h0 s1 s2
    have hb : (s == 0) = false := by simpa using h0
    simp only [r1, r2, hb, osome, oget, cond_true, cond_false, Bool.not_true, Bool.and_self]
    exact ⟨.inr r, rfl, rfl, fun l h => by cases h; omega⟩
theorem pureFnExactSplitExact (n : Int) (xs : List Int) (h : xs.length ≤ 9223372036854775807) : wFnExactSplitExact n xs = some true := by
  unfold wFnExactSplitExact wFnExactSplitExact_t
  cases hz : decide (((xs.length : Nat) : Int) > 1048576) with
  | true => rfl
  | false =>
    have hl : xs.length ≤ 1048576 := by have := of_decide_eq_false hz; omega
    obtain ⟨r, s1, s2, hq⟩ := P_splits n xs hl
    have hd0 : decide (1 + (xs.length : Int) < 0) = false := by simp only [decide_eq_false_iff_not]; omega
    refine (brF rfl).trans ?_
    simp only [Q_to xs hl, Q_eq xs hl, Q_mark xs hl, hd0, s1, s2, Tr.sem, osome, oget, cond_true, Bool.not_true, cond_false, Q_eqnil, Q_nil, Q_heldnil, beq_self_eq_true, bne_self_eq_false]
    cases r with
    | inl u => simp [isL]
    | inr l =>
      have hl := hq l rfl
      have hd : decide (1 + (l.length : Int) < 0) = false := by simp only [decide_eq_false_iff_not]; omega
      simp only [isL, unR, cond_false, Q_eq l hl, Q_mark l hl, Q_held l.length hl, hd, Bool.not_true, cond_true, bne_self_eq_false]
end Go.Proofs.Ytjohnpldkanjmaa
