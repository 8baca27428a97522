/- Tests of lists of floats. -/
import Derived.Test.YtlhfpjpgglfcfaaPa
import Derived.Test.YtlhfpjpgglfcfaaGa1d
set_option linter.unusedVariables false
set_option linter.unusedSimpArgs false
set_option linter.constructorNameAsVariable false
namespace Go.Proofs.Ytlhfpjpgglfcfaa
open Go.RowKit
theorem P_areFinite (xs : List Nat) (hl : xs.length ≤ 9223372036854775807) : iareFinite xs = some (xs.all (isFin .f32)) := by
  have h0 := run_idx (f := fun s => (lIndexFunc_iareFinite_1_l2_t xs xs.length s).sem) xs (fun x => !(isFin .f32 x)) hl (fun k hk x hx => by
    simp only [lIndexFunc_iareFinite_1_l2_t, Tr.sem, ltRange hk, inRange hk, Int.toNat_natCast, getD_at hx, cond_true, iareFinite_1, iareFinite_1_t, Tr.val]
    cases isFin .f32 x <;> rfl) (by simp only [lIndexFunc_iareFinite_1_l2_t, Tr.sem, not_lt_self, cond_false])
  have h1 : lIndexFunc_iareFinite_1 xs = some (idxI (fstIdx (fun x => !(isFin .f32 x)) 0 xs)) := idx_tree h0
  have h2 : lContainsFunc_iareFinite_1 xs = some (xs.any fun x => !(isFin .f32 x)) := has_tree h1
  have h3 : iareFinite xs = _ := not_tree h2
  rw [h3, not_any]
theorem P_areMasses (xs : List Nat) (hl : xs.length ≤ 9223372036854775807) : iareMasses xs = some (xs.all isMass) := by
  have h0 := run_idx (f := fun s => (lIndexFunc_iareMasses_1_l2_t xs xs.length s).sem) xs (fun x => !(isMass x)) hl (fun k hk x hx => by
    simp only [lIndexFunc_iareMasses_1_l2_t, Tr.sem, ltRange hk, inRange hk, Int.toNat_natCast, getD_at hx, cond_true, iareMasses_1, iareMasses_1_t, Tr.val]
    cases isMass x <;> rfl) (by simp only [lIndexFunc_iareMasses_1_l2_t, Tr.sem, not_lt_self, cond_false])
  have h1 : lIndexFunc_iareMasses_1 xs = some (idxI (fstIdx (fun x => !(isMass x)) 0 xs)) := idx_tree h0
  have h2 : lContainsFunc_iareMasses_1 xs = some (xs.any fun x => !(isMass x)) := has_tree h1
  have h3 : iareMasses xs = _ := not_tree h2
  rw [h3, not_any]
theorem P_areLengths (xs : List Nat) (hl : xs.length ≤ 9223372036854775807) : iareLengths xs = some (xs.all isLen) := by
  have h0 := run_all (f := fun s => (iareLengths_l2_t xs xs.length s).sem) xs 0 isLen (.inl ()) (.inr ()) hl (fun k hk x hx => by
    simp only [iareLengths_l2_t, Tr.sem, ltRange hk, inRange hk, Int.toNat_natCast, getD_at hx, cond_true]
    cases isLen x <;> rfl) (by simp only [iareLengths_l2_t, Tr.sem, not_lt_self, cond_false])
  have h1 : iareLengths_l2 xs xs.length 0 = some (bif xs.all isLen then .inr () else .inl ()) := h0
  unfold iareLengths iareLengths_t
  simp only [h1, Tr.sem, osome, oget, cond_true]
  cases xs.all isLen <;> rfl
end Go.Proofs.Ytlhfpjpgglfcfaa
