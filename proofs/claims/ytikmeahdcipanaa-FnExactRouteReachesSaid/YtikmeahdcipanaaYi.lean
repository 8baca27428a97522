/- Chains of reaches, run: the program's and the reference's are the same. -/
import Derived.Test.YtikmeahdcipanaaYh
set_option linter.unusedVariables false
set_option linter.unusedSimpArgs false
set_option linter.constructorNameAsVariable false
namespace Go.Proofs.Ytikmeahdcipanaa
open Go.RowKit
set_option maxRecDepth 100000

def chO : Unit ⊕ List Nat → Unit ⊕ List Nat ⊕ List Nat
  | .inl _ => .inl ()
  | .inr q => .inr (.inr q)
theorem ins_head {ins : List Nat} (h : insB ins = true) : 1 ≤ ins.length ∧ ins.length ≤ 128 ∧ isFin .f32 (ins.getD (Int.toNat 0) 0) = true := by
  simp only [insB, win, Bool.and_eq_true, decide_eq_true_eq, List.all_eq_true] at h
  refine ⟨by omega, by omega, ?_⟩
  have hl : 0 < ins.length := by omega
  rw [show Int.toNat 0 = 0 from rfl, List.getD_eq_getElem?_getD, List.getElem?_eq_getElem hl]
  exact h.2 _ (List.getElem_mem hl)
theorem R_chain (l : List (Nat × Nat)) (t : Nat) (hn : l.length ≤ 12) (hl : l.all rchB = true) (ht : isLen t = true) : ∀ (j : Nat) (ins : List Nat), j ≤ l.length → insB ins = true →
    ∃ r : Unit ⊕ List Nat, runL (fun s : Int × List Nat => (sl05Chain_l3_t l t (l.length : Int) s.1 s.2).sem) (((l.length - j : Nat) : Int), ins) = some r ∧ runL iRouteReaches_l4_s (.inr (t, l, (l.length : Int), ((l.length - j : Nat) : Int), ins)) = some (chO r) ∧ ∀ q, r = .inr q → q.length ≤ 128
  | 0, ins, hj, hi => by
    refine ⟨.inr ins, runL_out ?_, runL_out ?_, fun q h => by cases h; exact (ins_head hi).2.1⟩
    · simp only [sl05Chain_l3_t, Tr.sem, Nat.sub_zero, not_lt_self, cond_false]
    · show (iRouteReaches_l4_t1 t l (l.length : Int) ((l.length - 0 : Nat) : Int) ins).sem = _
      simp only [iRouteReaches_l4_t1, Tr.sem, Nat.sub_zero, not_lt_self, cond_false]; rfl
  | j + 1, ins, hj, hi => by
    obtain ⟨g1, g2, g3⟩ := ins_head hi
    have hk : l.length - (j + 1) < l.length := by omega
    have h0 : (decide ((0 : Int) ≤ 0) && decide ((0 : Int) < (ins.length : Int))) = true := by simp; omega
    have hw : IntKind.wrap .i64 (((l.length - (j + 1) : Nat) : Int) + 1) = ((l.length - j : Nat) : Int) := by rw [wrap_id (by omega) (by omega)]; omega
    have hr : sl05Reach (l.getD (l.length - (j + 1)) (0, 0)).1 (l.getD (l.length - (j + 1)) (0, 0)).2 = true := by
      rw [List.getD_eq_getElem?_getD, List.getElem?_eq_getElem hk]
      exact List.all_eq_true.1 hl _ (List.getElem_mem hk)
    obtain ⟨r, r1, r2, r3⟩ := R_one (l.getD (l.length - (j + 1)) (0, 0)).1 (l.getD (l.length - (j + 1)) (0, 0)).2 ins t (ins.getD (Int.toNat 0) 0) hi g3
    rw [hr, ht] at r1 r2 r3
    have r1 := r1.resolve_right (by simp)
    simp only [Bool.and_self, cond_true] at r2
    cases r with
    | inl u =>
      refine ⟨.inl (), runL_out ?_, runL_out ?_, fun q h => by cases h⟩
      · simp only [sl05Chain_l3_t, Tr.sem, ltRange hk, zeroLe, Bool.true_and, h0, cond_true, Int.toNat_natCast, r1, osome, oget, isL]
      · show (iRouteReaches_l4_t1 t l (l.length : Int) ((l.length - (j + 1) : Nat) : Int) ins).sem = _
        simp only [iRouteReaches_l4_t1, Tr.sem, ltRange hk, zeroLe, Bool.true_and, h0, cond_true, Int.toNat_natCast, r2, osome, oget, isL]; rfl
    | inr q =>
      obtain ⟨p, p1, p2, p3⟩ := R_chain l t hn hl ht j q (by omega) (r3 rfl q rfl).1
      refine ⟨p, (runL_in (s' := (((l.length - j : Nat) : Int), q)) ?_).trans p1, (runL_in (s' := .inr (t, l, (l.length : Int), ((l.length - j : Nat) : Int), q)) ?_).trans p2, p3⟩
      · simp only [sl05Chain_l3_t, Tr.sem, ltRange hk, zeroLe, Bool.true_and, h0, cond_true, Int.toNat_natCast, r1, osome, oget, isL, unR, cond_false, hw]
      · show (iRouteReaches_l4_t1 t l (l.length : Int) ((l.length - (j + 1) : Nat) : Int) ins).sem = _
        simp only [iRouteReaches_l4_t1, Tr.sem, ltRange hk, zeroLe, Bool.true_and, h0, cond_true, Int.toNat_natCast, r2, osome, oget, isL, unR, cond_false, hw]
end Go.Proofs.Ytikmeahdcipanaa
