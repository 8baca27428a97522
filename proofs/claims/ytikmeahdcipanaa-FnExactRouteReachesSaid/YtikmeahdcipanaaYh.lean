/- Chains of reaches: the program's and the reference's are the same. -/
import Derived.Test.YtikmeahdcipanaaYg
set_option linter.unusedVariables false
set_option linter.unusedSimpArgs false
set_option linter.constructorNameAsVariable false
namespace Go.Proofs.Ytikmeahdcipanaa
open Go.RowKit
set_option maxRecDepth 100000

noncomputable def rchB (x : Nat × Nat) : Bool := sl05Reach x.1 x.2
noncomputable def listB (l : List (Nat × Nat)) : Bool := win 1 12 l.length && l.all rchB
theorem R_iList (l : List (Nat × Nat)) (hl : l.length ≤ 9223372036854775807) : iareReaches l = some (listB l) := by
  have h0 := run_idx (f := fun s => (lIndexFunc_iareReaches_1_l2_t l l.length s).sem) l (fun x => !(rchB x)) hl (fun k hk x hx => by
    simp only [lIndexFunc_iareReaches_1_l2_t, Tr.sem, ltRange hk, inRange hk, Int.toNat_natCast, getD_at hx, cond_true, iareReaches_1, iareReaches_1_t, Tr.val]
    show (bif !rchB x then _ else _) = _
    cases rchB x <;> rfl) (by simp only [lIndexFunc_iareReaches_1_l2_t, Tr.sem, not_lt_self, cond_false])
  have h1 : lIndexFunc_iareReaches_1 l = some (idxI (fstIdx (fun x => !(rchB x)) 0 l)) := idx_tree h0
  have h2 : lContainsFunc_iareReaches_1 l = some (l.any fun x => !(rchB x)) := has_tree h1
  unfold iareReaches iareReaches_t listB
  simp only [R_within, h2, Tr.sem, osome, oget, cond_true]
  cases win 1 12 (l.length : Int) with
  | false => rfl
  | true => rw [not_any]; rfl
theorem R_sList (l : List (Nat × Nat)) (hl : l.length ≤ 9223372036854775807) : sl05List l = some (listB l) := by
  by_cases h12 : l.length ≤ 12
  · have h12' : (l.length : Int) ≤ 12 := by omega
    have h0 := run_all (f := fun s => (sl05List_l3_t l l.length s).sem) l (0, 0) rchB (.inl ()) (.inr (l.length : Int)) hl (fun k hk x hx => by
      simp only [sl05List_l3_t, Tr.sem, ltRange hk, zeroLe, Bool.and_self, Int.toNat_natCast, getD_at hx, cond_true, decide_eq_true h12']
      show (bif !rchB x then _ else _) = _
      cases rchB x <;> rfl) (by simp only [sl05List_l3_t, Tr.sem, not_lt_self, cond_false])
    have h1 : sl05List_l3 l l.length 0 = some (bif l.all rchB then .inr (l.length : Int) else .inl ()) := h0
    unfold sl05List sl05List_t listB win
    cases hm : l.all rchB with
    | false =>
      rw [hm] at h1
      simp only [cond_false] at h1
      simp [h1, Tr.sem, osome, oget, isL]
    | true =>
      rw [hm] at h1
      simp only [cond_true] at h1
      simp only [h1, Tr.sem, osome, oget, cond_true, isL, unR, cond_false, Bool.and_true]
      by_cases h1 : (1 : Int) ≤ l.length
      · rw [decide_eq_true (show (l.length : Int) ≥ 1 from h1)]; rfl
      · rw [decide_eq_false (show ¬ (l.length : Int) ≥ 1 from h1)]; rfl
  · have e12 : decide ((l.length : Int) ≤ 12) = false := by simp only [decide_eq_false_iff_not]; omega
    have h1 : sl05List_l3 l l.length 0 = some (.inr (l.length : Int)) := runL_out (by
      simp only [sl05List_l3_t, Tr.sem, decide_eq_true (show (0 : Int) < l.length by omega), cond_true, e12, cond_false])
    unfold sl05List sl05List_t listB win
    simp only [h1, Tr.sem, osome, oget, cond_true, isL, unR, cond_false, e12, Bool.and_false, Bool.false_and]
    cases decide ((l.length : Int) ≥ 1) <;> rfl
end Go.Proofs.Ytikmeahdcipanaa
