/- A reach's routed rows: the program's and the reference's are the same. -/
import Derived.Test.YtikmeahdcipanaaRc
set_option linter.unusedVariables false
set_option linter.unusedSimpArgs false
set_option linter.constructorNameAsVariable false
namespace Go.Proofs.Ytikmeahdcipanaa
open Go.RowKit
set_option maxRecDepth 100000
theorem R_nil : wmarkFloat32S_nil 1 = some 1 := by
  unfold wmarkFloat32S_nil wmarkFloat32S_nil_t
  have h : wmarkFloat32S_nil_l2 1 0 = some 1 := runL_out rfl
  simp only [h, Tr.sem, osome, oget, cond_true]
theorem pureFnExactRouteReach (d l : Nat) (ins : List Nat) (t x : Nat) (h : ins.length ≤ 9223372036854775807) : wFnExactRouteReach d l ins t x = some true := by
  unfold wFnExactRouteReach wFnExactRouteReach_t
  cases hz : decide (((ins.length : Nat) : Int) > 1048576) with
  | true => rfl
  | false =>
    have hl : ins.length ≤ 1048576 := by have := of_decide_eq_false hz; omega
    have ht : wtoReach d l = (d, l) := rfl
    obtain ⟨r, s1, s2, hq⟩ := R_routeReach d l ins t x
    have hd0 : decide (1 + (ins.length : Int) < 0) = false := by simp only [decide_eq_false_iff_not]; omega
    refine (brF rfl).trans ?_
    simp only [R_to ins hl, R_eq ins hl, R_mark ins hl, hd0, ht, s1, s2, Tr.sem, osome, oget, cond_true, Bool.not_true, cond_false, R_eqnil, R_nil, R_heldnil, beq_self_eq_true, bne_self_eq_false]
    cases r with
    | inl u => simp [isL]
    | inr l =>
      have hl := hq l rfl
      have hd : decide (1 + (l.length : Int) < 0) = false := by simp only [decide_eq_false_iff_not]; omega
      simp only [isL, unR, cond_false, R_eq l hl, R_mark l hl, R_held l.length hl, hd, Bool.not_true, cond_true, bne_self_eq_false]
end Go.Proofs.Ytikmeahdcipanaa
