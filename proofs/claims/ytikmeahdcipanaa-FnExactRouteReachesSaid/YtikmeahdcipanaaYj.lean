/- Chains of reaches: the law. -/
import Derived.Test.YtikmeahdcipanaaYi
set_option linter.unusedVariables false
set_option linter.unusedSimpArgs false
set_option linter.constructorNameAsVariable false
namespace Go.Proofs.Ytikmeahdcipanaa
open Go.RowKit
set_option maxRecDepth 100000

theorem R_first (l : List (Nat × Nat)) (t : Nat) (ins : List Nat) (h : 1 ≤ l.length) : iRouteReaches_l4 (.inl (ins, t, l, (l.length : Int), 0)) = runL iRouteReaches_l4_s (.inr (t, l, (l.length : Int), 0, ins)) := by
  unfold iRouteReaches_l4
  have e : iRouteReaches_l4_s (.inl (ins, t, l, (l.length : Int), 0)) = iRouteReaches_l4_s (.inr (t, l, (l.length : Int), 0, ins)) := by
    show (iRouteReaches_l4_t0 ins t l (l.length : Int) 0).sem = (iRouteReaches_l4_t1 t l (l.length : Int) 0 ins).sem
    simp only [iRouteReaches_l4_t0, iRouteReaches_l4_t1, Tr.sem, decide_eq_true (show (0 : Int) < (l.length : Int) by omega), cond_true]
  rw [runL_eq, runL_eq, e]
theorem R_routeReaches (l : List (Nat × Nat)) (ins : List Nat) (t : Nat) (hl : l.length ≤ 9223372036854775807) : ∃ r : Unit ⊕ List Nat, sRouteReaches l ins t = some r ∧ iRouteReaches l ins t = some (chO r) ∧ ∀ q, r = .inr q → q.length ≤ 128 := by
  unfold sRouteReaches sRouteReaches_t iRouteReaches iRouteReaches_t
  simp only [R_sList l hl, R_iList l hl, R_sIns, R_iIns, Tr.sem, osome, oget, cond_true]
  cases hL : listB l with
  | false => exact ⟨.inl (), rfl, rfl, (fun q h => by cases h)⟩
  | true =>
  cases hi : insB ins with
  | false => exact ⟨.inl (), rfl, rfl, (fun q h => by cases h)⟩
  | true =>
  simp only [listB, win, Bool.and_eq_true, decide_eq_true_eq] at hL
  have hn : 1 ≤ l.length ∧ l.length ≤ 12 := by omega
  obtain ⟨g1, g2, g3⟩ := ins_head hi
  cases ht : isLen t with
  | false =>
    obtain ⟨r, r1, r2, r3⟩ := R_one (l.getD 0 (0, 0)).1 (l.getD 0 (0, 0)).2 ins t (ins.getD 0 0) hi g3
    rw [ht, Bool.and_false] at r2
    simp only [cond_false] at r2
    have h0 : (decide ((0 : Int) ≤ 0) && decide ((0 : Int) < (ins.length : Int))) = true := by simp; omega
    have h1 : (decide ((0 : Int) ≤ 0) && decide ((0 : Int) < (l.length : Int))) = true := by simp; omega
    have hA : iRouteReaches_l4 (.inl (ins, t, l, (l.length : Int), 0)) = some (.inl ()) := by
      refine runL_out ?_
      show (iRouteReaches_l4_t0 ins t l (l.length : Int) 0).sem = _
      simp only [iRouteReaches_l4_t0, Tr.sem, decide_eq_true (show (0 : Int) < (l.length : Int) by omega), h0, h1, cond_true, show Int.toNat 0 = 0 from rfl, r2, osome, oget, isL]
      rfl
    simp only [hA, Bool.not_true, Bool.not_false, cond_true, cond_false, osome, oget, isL]
    exact ⟨.inl (), rfl, rfl, (fun q h => by cases h)⟩
  | true =>
    obtain ⟨r, r1, r2, r3⟩ := R_chain l t hn.2 hL.2 ht l.length ins (Nat.le_refl _) hi
    rw [Nat.sub_self] at r1 r2
    have hA : iRouteReaches_l4 (.inl (ins, t, l, (l.length : Int), 0)) = some (chO r) := (R_first l t ins hn.1).trans r2
    have hf : decide ((0 + ins.length) * 4 ≤ 140737488355328) = true := by simp only [decide_eq_true_eq]; omega
    have hB : sl05Chain_l3 l t (l.length : Int) 0 ([] ++ ins) = some (match r with | .inl _ => .inl () | .inr q => .inr q) := by
      cases r <;> exact r1
    have hC : sl05Chain l ins t = some r := by
      unfold sl05Chain sl05Chain_t
      simp only [hf, hB, Tr.sem, osome, oget, cond_true]
      cases r <;> rfl
    simp only [hA, hC, Bool.not_true, cond_true, cond_false, osome, oget]
    cases r with
    | inl u => exact ⟨.inl (), rfl, rfl, (fun q h => by cases h)⟩
    | inr q => exact ⟨.inr q, rfl, rfl, r3⟩
/-! ### Rows of reaches: copied, compared, marked -/
theorem mk8 {n : Nat} (h : n ≤ 1048576) : (decide (((n : Nat) : Int) = ((n : Nat) : Int)) && decide (0 ≤ ((n : Nat) : Int)) && decide (((n : Nat) : Int) * ((8 : Nat) : Int) ≤ 140737488355328)) = true := by
  simp only [decide_true, Bool.true_and, Bool.and_eq_true, decide_eq_true_eq]; omega
theorem R_szR (l : List (Nat × Nat)) (hl : l.length ≤ 9223372036854775807) (h : decide (wszReachS l 1048576 < 0) = false) : l.length ≤ 1048576 := by
  have h' := of_decide_eq_false h
  unfold wszReachS wszReachS_t at h'
  rw [wrap_id (by omega) (by omega)] at h'
  by_cases hz : (1048576 - ((l.length : Nat) : Int) : Int) < 0
  · rw [decide_eq_true hz] at h'
    simp [Tr.val] at h'
  · omega
theorem R_toR (xs : List (Nat × Nat)) (h : xs.length ≤ 1048576) : wtoReachS xs = some xs := by
  unfold wtoReachS wtoReachS_t
  have h1 : wtoReachS_l3 xs 0 (List.replicate (Int.toNat ((xs.length : Nat) : Int)) (0, 0)) = some xs := by
    unfold wtoReachS_l3
    refine run_copy xs _ (by simp) (by omega) (fun k t x hk ht hx => ?_) (fun t => by simp only [wtoReachS_l3_t, Tr.sem, not_lt_self, cond_false])
    simp only [wtoReachS_l3_t, Tr.sem, ltRange hk, zeroLe, Bool.and_self, ltRange (show k < t.length by omega), cond_true, Int.toNat_natCast, getD_at hx]
    rfl
  refine (brT (mk8 h)).trans ?_
  simp only [Tr.sem, h1, osome, oget, cond_true]
theorem R_eqR (xs : List (Nat × Nat)) (h : xs.length ≤ 1048576) : weqReachS xs xs = some true := by
  unfold weqReachS weqReachS_t
  have h1 : weqReachS_l4 xs xs 0 = some () := by
    unfold weqReachS_l4
    have := run_all (f := fun s => (weqReachS_l4_t xs xs s).sem) xs (0, 0) (fun _ => true) () () (by omega) (fun k hk x hx => by
      have he : ∀ a b, weqReach a b a b = some () := fun a b => by
        unfold weqReach weqReach_t
        simp only [natEq_self, Tr.sem, cond_true]
      simp only [weqReachS_l4_t, Tr.sem, ltRange hk, zeroLe, Bool.and_self, cond_true, he, osome]) (by simp only [weqReachS_l4_t, Tr.sem, not_lt_self, cond_false])
    rw [all_true] at this
    exact this
  simp only [Tr.sem, bne_self_eq_false, cond_false, h1, osome, cond_true]
theorem R_markR (xs : List (Nat × Nat)) (h : xs.length ≤ 1048576) : ∃ ys, wmarkReachS 1 xs = some (1 + 2 * (xs.length : Int), ys) := by
  obtain ⟨r, hr, hq⟩ := runL_ex0 (f := fun s : Int × Int × List (Nat × Nat) => (wmarkReachS_l2_t s.1 s.2.1 s.2.2).sem) xs.length (fun j s => s.1 = 1 + 2 * (j : Int) ∧ s.2.1 = (j : Int) ∧ s.2.2.length = xs.length) (fun r => r.1 = 1 + 2 * (xs.length : Int)) (1, 0, xs) ⟨rfl, rfl, rfl⟩ (fun j s hj ⟨e1, e2, e3⟩ => by
    obtain ⟨a, b, l⟩ := s
    simp only at e1 e2 e3
    subst e1; subst e2
    simp only [wmarkReachS_l2_t, Tr.sem, ltRange (show j < l.length by omega), zeroLe, Bool.and_self, cond_true, Int.toNat_natCast, List.length_set]
    refine ⟨_, rfl, ?_, ?_, ?_⟩
    · simp only
      rw [wrap_id (n := 1 + 2 * (j : Int) + 1) (by omega) (by omega), wrap_id (by omega) (by omega)]; omega
    · simp only; rw [wrap_id (by omega) (by omega)]; omega
    · simp only [List.length_set]; exact e3) (fun s ⟨e1, e2, e3⟩ => by
    obtain ⟨a, b, l⟩ := s
    simp only at e1 e2 e3
    subst e1; subst e2
    refine ⟨(1 + 2 * (xs.length : Int), l), ?_, rfl⟩
    simp only [wmarkReachS_l2_t, Tr.sem, e3, not_lt_self, cond_false])
  obtain ⟨a, ys⟩ := r
  have ha : a = 1 + 2 * (xs.length : Int) := hq
  subst ha
  have h1 : wmarkReachS_l2 1 0 xs = some (1 + 2 * (xs.length : Int), ys) := hr
  refine ⟨ys, ?_⟩
  unfold wmarkReachS wmarkReachS_t
  simp only [h1, Tr.sem, osome, oget, cond_true]
theorem R_nil : wmarkFloat32S_nil 1 = some 1 := by
  unfold wmarkFloat32S_nil wmarkFloat32S_nil_t
  have h : wmarkFloat32S_nil_l2 1 0 = some 1 := runL_out rfl
  simp only [h, Tr.sem, osome, oget, cond_true]
theorem pureFnExactRouteReaches (l : List (Nat × Nat)) (ins : List Nat) (t : Nat) (hL : l.length ≤ 9223372036854775807) (hI : ins.length ≤ 9223372036854775807) : wFnExactRouteReaches l ins t = some true := by
  unfold wFnExactRouteReaches wFnExactRouteReaches_t
  cases hz : decide (((ins.length : Nat) : Int) > 1048576) with
  | true => rfl
  | false =>
    have hi : ins.length ≤ 1048576 := by have := of_decide_eq_false hz; omega
    refine (brF rfl).trans ?_
    cases hy : decide ((wszReachS l 1048576 : Int) < 0) with
    | true => rfl
    | false =>
      have hl := R_szR l hL hy
      refine (brF rfl).trans ?_
      obtain ⟨r, s1, s2, hq⟩ := R_routeReaches l ins t hL
      obtain ⟨ys, hm⟩ := R_markR l hl
      have hk := R_markG (1 + 2 * (l.length : Int)) ins hi (by omega) (by omega)
      have hd0 : decide (1 + 2 * (l.length : Int) + (ins.length : Int) < 0) = false := by simp only [decide_eq_false_iff_not]; omega
      simp only [R_toR l hl, R_to ins hi, R_eqR l hl, R_eq ins hi, hm, hk, hd0, s1, s2, Tr.sem, osome, oget, cond_true, Bool.not_true, cond_false, R_eqnil, R_nil, R_heldnil, beq_self_eq_true, bne_self_eq_false]
      cases r with
      | inl u => simp [isL, chO]
      | inr q =>
        have hl := hq q rfl
        have hd : decide (1 + (q.length : Int) < 0) = false := by simp only [decide_eq_false_iff_not]; omega
        simp only [chO, isL, unR, cond_false, R_eq q (by omega), R_mark q (by omega), R_held q.length (by omega), hd, Bool.not_true, cond_true, bne_self_eq_false]
end Go.Proofs.Ytikmeahdcipanaa
