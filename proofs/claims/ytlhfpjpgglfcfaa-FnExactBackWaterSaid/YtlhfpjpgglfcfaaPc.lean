/- Culverts: the program's and the reference's flow through one are the same. -/
import Derived.Test.YtlhfpjpgglfcfaaPb
import Derived.Test.YtlhfpjpgglfcfaaPh
set_option linter.unusedVariables false
set_option linter.unusedSimpArgs false
set_option linter.constructorNameAsVariable false
namespace Go.Proofs.Ytlhfpjpgglfcfaa
open Go.RowKit
set_option maxRecDepth 100000
theorem num_same (x : Nat) : ifinite32 x = sl02Number x := rfl
theorem P_weir (a b c d : Nat) : iWeirOver a b c d = some (sWeirOver a b c d) := by
  unfold iWeirOver iWeirOver_t sWeirOver sWeirOver_t sl04Weir sl04Weir_t
  simp only [P_areFinite [b, c, d] (by simp), Tr.sem, Tr.val, osome, oget, cond_true, List.all_cons, List.all_nil, Bool.and_true, num_same]
  cases isMass a <;> cases isFin .f32 b <;> cases isFin .f32 c <;> cases isFin .f32 d <;> try rfl
  simp only [Bool.not_true, cond_false, Bool.and_self, Bool.and_true]
  cases fgt .f32 (fsub .f32 c b) 0 <;> simp only [Bool.not_true, Bool.not_false, cond_false, cond_true]
  · rfl
  cases fgt .f32 d b <;> simp only [Bool.not_true, Bool.not_false, cond_false, cond_true]
  cases flt .f32 (fdiv .f32 (fsub .f32 d b) (fsub .f32 c b)) 1065353216 <;> simp only [Bool.not_true, Bool.not_false, cond_false, cond_true]
  rfl
theorem P_gate (a b c d : Nat) : iGateUnder a b c d = some (sGateUnder a b c d) := by
  unfold iGateUnder iGateUnder_t sGateUnder sGateUnder_t sl04Gate sl04Gate_t
  simp only [P_areFinite [c, d] (by simp), P_areMasses [a, b] (by simp), fdiv_two, Tr.sem, Tr.val, osome, oget, cond_true, List.all_cons, List.all_nil, Bool.and_true, num_same]
  cases isMass a <;> cases isMass b <;> cases isFin .f32 c <;> cases isFin .f32 d <;> try rfl
  simp only [Bool.not_true, cond_false, Bool.and_self, Bool.and_true]
  cases fgt .f32 (fsub .f32 c (fmax .f32 d (fmul .f32 1056964608 b))) 0 <;> rfl
theorem P_culvert (a b c d e : Nat) : iCulvertFlow a b c d e = some (sCulvertFlow a b c d e) := by
  unfold iCulvertFlow iCulvertFlow_t sCulvertFlow sCulvertFlow_t
  simp only [P_weir, P_gate, Tr.sem, Tr.val, osome, oget, cond_true]
  cases (sWeirOver a b d e).2 <;> cases (sGateUnder a c (fsub .f32 d b) (fsub .f32 e b)).2 <;> cases isLen c <;> try rfl
  cases flt .f32 (sGateUnder a c (fsub .f32 d b) (fsub .f32 e b)).1 (sWeirOver a b d e).1 <;> rfl
theorem pureFnExactCulvertFlow (a b c d e : Nat) : wFnExactCulvertFlow a b c d e = some true := by
  unfold wFnExactCulvertFlow wFnExactCulvertFlow_t
  simp only [P_culvert, Tr.sem, osome, oget, cond_true, natEq_self, beq_self_eq_true, Bool.not_true, cond_false]
end Go.Proofs.Ytlhfpjpgglfcfaa
