/- Wants set: the program's and the reference's are the same. -/
import Derived.Test.YtcjekndobhkmbaaZb
import Derived.Test.YtcjekndobhkmbaaGe2d
set_option linter.unusedVariables false
set_option linter.unusedSimpArgs false
set_option linter.constructorNameAsVariable false
namespace Go.Proofs.Ytcjekndobhkmbaa
open Go.RowKit
set_option maxRecDepth 100000
theorem P_setWant (a : List Int) (b : List Dam) (c : List Int) (i d : Int) (ha : a.length ≤ 1048576) (hb : b.length ≤ 1048576) (hc : c.length ≤ 1048576) : (sSetWant a b c i d = some ([], [], [], false) ∧ iSetWant a b c i d = some (.inl ())) ∨ ∃ x y z, sSetWant a b c i d = some (x, y, z, true) ∧ iSetWant a b c i d = some (.inr (x, y, z)) ∧ x.length ≤ 1048576 ∧ y.length ≤ 1048576 ∧ z.length ≤ 1048576 := by
  obtain ⟨o1, o2⟩ := P_own a b c ha hb hc
  unfold sSetWant sSetWant_t iSetWant iSetWant_t
  simp only [P_has a b c i ha, P_node a b c i ha (by omega) (by omega), Tr.sem, osome, oget, cond_true, o1, o2]
  cases hv : rivB a b c with
  | false => exact .inl ⟨rfl, rfl⟩
  | true =>
  cases hw : win 0 ((a.length : Int) - 1) i with
  | false => exact .inl ⟨rfl, rfl⟩
  | true =>
    obtain ⟨p1, p2, p3, p4, p5, p6, p7, p8⟩ := riv_parts hv
    have hr : (decide (0 ≤ i) && decide (i < (c.length : Int))) = true := by
      simp only [win, Bool.and_eq_true, decide_eq_true_eq] at hw ⊢; omega
    obtain ⟨t1, t2⟩ := P_told a b (c.set i.toNat d) (by omega) (by rw [List.length_set]; omega)
    simp only [hr, t1, t2, osome, oget, cond_true, Bool.and_self, Bool.not_true, cond_false]
    cases rivB a b (c.set i.toNat d) with
    | false => exact .inl ⟨rfl, rfl⟩
    | true => exact .inr ⟨a, b, c.set i.toNat d, rfl, rfl, ha, hb, by rw [List.length_set]; exact hc⟩
theorem pureFnExactSetWant (a : List Int) (b : List Dam) (c : List Int) (i d : Int) (ha : a.length ≤ 9223372036854775807) (hb : b.length ≤ 9223372036854775807) (hc : c.length ≤ 9223372036854775807) : wFnExactSetWant a b c i d = some true := by
  unfold wFnExactSetWant wFnExactSetWant_t
  cases hz : decide (wszRiver a b c 1048576 < 0) with
  | true => rfl
  | false =>
    obtain ⟨h1, h2, h3⟩ := Q_sizes a b c ha hb hc hz
    refine (brF rfl).trans ?_
    have hd0 : decide (1 + (a.length : Int) + 4 * (b.length : Int) + (c.length : Int) < 0) = false := by simp only [decide_eq_false_iff_not]; omega
    rcases P_setWant a b c i d h1 h2 h3 with ⟨s1, s2⟩ | ⟨x, y, z, s1, s2, g1, g2, g3⟩
    · simp only [Q_toR a b c h1 h2 h3, Q_eqR a b c h1 h2 h3, Q_markRG a b c h1 h2 h3, hd0, s1, s2, Tr.sem, osome, oget, cond_true, Bool.not_true, cond_false, Q_eqR0, Q_nilR, Q_heldR0, beq_self_eq_true, bne_self_eq_false, isL, show decide ((1 : Int) < 0) = false from rfl]
    · have hd : decide (1 + (x.length : Int) + 4 * (y.length : Int) + (z.length : Int) < 0) = false := by simp only [decide_eq_false_iff_not]; omega
      simp only [Q_toR a b c h1 h2 h3, Q_eqR a b c h1 h2 h3, Q_markRG a b c h1 h2 h3, hd0, s1, s2, Tr.sem, osome, oget, cond_true, Bool.not_true, cond_false, beq_self_eq_true, bne_self_eq_false, isL, unR, Q_eqR x y z g1 g2 g3, Q_markRG x y z g1 g2 g3, Q_heldR x.length y.length z.length g1 g2 g3, hd]
end Go.Proofs.Ytcjekndobhkmbaa
