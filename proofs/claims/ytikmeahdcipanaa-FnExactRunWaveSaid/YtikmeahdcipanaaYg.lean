/- Chains of reaches: the program's and the reference's are the same. -/
import Derived.Test.YtikmeahdcipanaaYf
set_option linter.unusedVariables false
set_option linter.unusedSimpArgs false
set_option linter.constructorNameAsVariable false
namespace Go.Proofs.Ytikmeahdcipanaa
open Go.RowKit
set_option maxRecDepth 100000
theorem R_finite (xs : List Nat) (hl : xs.length ≤ 9223372036854775807) : sl02Finite xs = some (xs.all (isFin .f32)) := by
  have h0 := run_all (f := fun s => (sl02Finite_l2_t xs s).sem) xs 0 (isFin .f32) (.inl ()) (.inr ()) hl (fun k hk x hx => by
    simp only [sl02Finite_l2_t, Tr.sem, ltRange hk, zeroLe, Bool.and_self, Int.toNat_natCast, getD_at hx, cond_true]
    cases isFin .f32 x <;> rfl) (by simp only [sl02Finite_l2_t, Tr.sem, not_lt_self, cond_false])
  have h1 : sl02Finite_l2 xs 0 = some (bif xs.all (isFin .f32) then .inr () else .inl ()) := h0
  unfold sl02Finite sl02Finite_t
  simp only [h1, Tr.sem, osome, oget, cond_true]
  cases xs.all (isFin .f32) <;> rfl
def insB (xs : List Nat) : Bool := win 1 128 xs.length && xs.all (isFin .f32)
theorem R_sIns (xs : List Nat) : sl05Ins xs = some (insB xs) := by
  unfold sl05Ins sl05Ins_t insB win
  by_cases h1 : (xs.length : Int) ≥ 1
  · by_cases h2 : (xs.length : Int) ≤ 128
    · have h1' : (1 : Int) ≤ xs.length := h1
      simp [Tr.sem, h1', h2, R_finite xs (by omega), osome, oget]
    · simp [Tr.sem, h2]
  · have h1' : ¬ (1 : Int) ≤ xs.length := h1
    simp [Tr.sem, h1']
theorem R_iIns (xs : List Nat) : iareIns xs = some (insB xs) := by
  unfold iareIns iareIns_t insB
  simp only [R_within, Tr.sem]
  cases h : win 1 128 (xs.length : Int) with
  | false => rfl
  | true =>
    have hl : xs.length ≤ 128 := by simp only [win, Bool.and_eq_true, decide_eq_true_eq] at h; omega
    simp only [P_areFinite xs (by omega), osome, oget, cond_true, Bool.true_and]
theorem R_reach (d l : Nat) : iValidReach d l = sl05Reach d l := rfl
theorem R_shares (d l t : Nat) : iReachShares d l t = some (bif sl05Reach d l && isLen t then sl05Shares d l t else (0, 0, 0, false)) := by
  unfold iReachShares iReachShares_t sl05Shares sl05Shares_t
  simp only [R_reach, P_areFinite [_, _, _] (by simp), List.all_cons, List.all_nil, Bool.and_true, Tr.sem, Tr.val, osome, oget, cond_true]
  cases sl05Reach d l <;> cases isLen t <;> simp only [Bool.not_true, Bool.not_false, cond_true, cond_false, Bool.and_self, Bool.and_false, Bool.false_and, Bool.true_and]
  generalize fdiv .f32 (fsub .f32 t (fmul .f32 (fmul .f32 1073741824 d) l)) (fadd .f32 (fmul .f32 (fmul .f32 1073741824 d) (fsub .f32 1065353216 l)) t) = a
  generalize fdiv .f32 (fadd .f32 t (fmul .f32 (fmul .f32 1073741824 d) l)) (fadd .f32 (fmul .f32 (fmul .f32 1073741824 d) (fsub .f32 1065353216 l)) t) = b
  generalize fdiv .f32 (fsub .f32 (fmul .f32 (fmul .f32 1073741824 d) (fsub .f32 1065353216 l)) t) (fadd .f32 (fmul .f32 (fmul .f32 1073741824 d) (fsub .f32 1065353216 l)) t) = c
  cases isFin .f32 a <;> cases isFin .f32 b <;> cases isFin .f32 c <;> rfl
theorem R_run (ins : List Nat) (a b c x : Nat) (h1 : 1 ≤ ins.length) (hl : ins.length ≤ 1048576) : ∃ r, sl05Route_l6 ins a b c 1 [x] = some r ∧ iRouteReach_l6 ins a b c 1 [x] = some r ∧ r.length = ins.length := by
  obtain ⟨r, hr, hq⟩ := runL_ex0 (f := fun s : Int × List Nat => (sl05Route_l6_t ins a b c s.1 s.2).sem) (ins.length - 1) (fun j s => s.1 = (j : Int) + 1 ∧ s.2.length = j + 1) (fun r => r.length = ins.length) (1, [x]) ⟨rfl, rfl⟩ (fun j s hj ⟨e1, e2⟩ => by
    obtain ⟨y, l⟩ := s
    simp only at e1 e2
    subst e1
    have hw : IntKind.wrap .i64 ((j : Int) + 1 - 1) = (j : Int) := by rw [wrap_id (by omega) (by omega)]; omega
    simp only [sl05Route_l6_t, Tr.sem, hw, decide_eq_true (show ((j : Int) + 1) < (ins.length : Int) by omega), decide_eq_true (show (0 : Int) ≤ (j : Int) + 1 by omega), zeroLe, ltRange (show j < ins.length by omega), ltRange (show j < l.length by omega), Bool.and_self, cond_true]
    rw [decide_eq_true (by simp only [List.length_cons, List.length_nil]; omega)]
    refine ⟨_, rfl, ?_, ?_⟩
    · simp only; rw [wrap_id (by omega) (by omega)]; omega
    · simp only [List.length_append, List.length_cons, List.length_nil]; omega) (fun s ⟨e1, e2⟩ => by
    obtain ⟨y, l⟩ := s
    simp only at e1 e2
    subst e1
    exact ⟨l, by simp only [sl05Route_l6_t, Tr.sem, decide_eq_false (show ¬ (((ins.length - 1 : Nat) : Int) + 1 < (ins.length : Int)) by omega), cond_false], by omega⟩)
  exact ⟨r, hr, hr, hq⟩
theorem R_route (d l : Nat) (ins : List Nat) (t x : Nat) (h1 : 1 ≤ ins.length) (hl : ins.length ≤ 1048576) : ∃ r, sl05Route d l ins t x = some r ∧ (∀ q, r = .inr q → q.length = ins.length) ∧ (bif (sl05Shares d l t).2.2.2 then (∃ q, iRouteReach_l6 ins (sl05Shares d l t).1 (sl05Shares d l t).2.1 (sl05Shares d l t).2.2.1 1 [x] = some q ∧ q.length = ins.length ∧ r = bif q.all (isFin .f32) then .inr q else .inl ()) else r = .inl ()) := by
  obtain ⟨q, q1, q2, q3⟩ := R_run ins (sl05Shares d l t).1 (sl05Shares d l t).2.1 (sl05Shares d l t).2.2.1 x h1 hl
  unfold sl05Route sl05Route_t
  simp only [q1, R_finite q (by omega), Tr.sem, osome, oget, cond_true]
  cases (sl05Shares d l t).2.2.2 with
  | false => exact ⟨_, rfl, (fun q h => by cases h), rfl⟩
  | true =>
    cases hq : q.all (isFin .f32) with
    | false => exact ⟨_, rfl, (fun q h => by cases h), q, q2, q3, by rw [hq]; rfl⟩
    | true => exact ⟨_, rfl, (fun q' h => by cases h; exact q3), q, q2, q3, by rw [hq]; rfl⟩
/-- One reach, for rows that are in order. -/
theorem R_one (d l : Nat) (ins : List Nat) (t x : Nat) (hi : insB ins = true) (hx : isFin .f32 x = true) : ∃ r : Unit ⊕ List Nat, (sl05Route d l ins t x = some r ∨ (sl05Reach d l && isLen t) = false) ∧ iRouteReach d l ins t x = some (bif sl05Reach d l && isLen t then r else .inl ()) ∧ ((sl05Reach d l && isLen t) = true → ∀ q, r = .inr q → insB q = true ∧ q.length = ins.length) := by
  have hlen : 1 ≤ ins.length ∧ ins.length ≤ 128 := by simp only [insB, win, Bool.and_eq_true, decide_eq_true_eq] at hi; omega
  obtain ⟨r, r1, r2, r3⟩ := R_route d l ins t x hlen.1 (by omega)
  refine ⟨r, .inl r1, ?_, ?_⟩
  · unfold iRouteReach iRouteReach_t
    simp only [R_iIns, R_shares, Tr.sem, osome, oget, cond_true]
    cases hr : sl05Reach d l && isLen t with
    | false => rfl
    | true =>
      simp only [cond_true, hi, hx, Bool.not_true, cond_false]
      cases hs : (sl05Shares d l t).2.2.2 with
      | false =>
        rw [hs] at r3
        have r3' : r = .inl () := r3
        subst r3'
        rfl
      | true =>
        rw [hs] at r3
        obtain ⟨q, q1, q2, q3⟩ := (show ∃ q, _ from r3)
        simp only [q1, P_areFinite q (by omega), osome, oget, cond_true, Bool.not_true, cond_false]
        cases hq : q.all (isFin .f32) with
        | false => rw [hq] at q3; subst q3; rfl
        | true => rw [hq] at q3; simp only [cond_true] at q3; subst q3; rfl
  · intro _ q hq
    have hl := r2 q hq
    refine ⟨?_, hl⟩
    cases hs : (sl05Shares d l t).2.2.2 with
    | false => rw [hs] at r3; have r3' : r = .inl () := r3; rw [r3'] at hq; cases hq
    | true =>
      rw [hs] at r3
      obtain ⟨p, q1, q2, q3⟩ := (show ∃ q, _ from r3)
      cases hp : p.all (isFin .f32) with
      | false => rw [hp] at q3; rw [q3] at hq; cases hq
      | true =>
        rw [hp] at q3
        rw [q3] at hq
        cases hq
        unfold insB win
        rw [hp]
        simp only [Bool.and_true, Bool.and_eq_true, decide_eq_true_eq]; omega
end Go.Proofs.Ytikmeahdcipanaa
