/- For all canals ValidCanal returns what the reference returns. No condition. -/
import Derived.Test.YtihoaflcjkppnaaRows
import Derived.Test.YtihoaflcjkppnaaV4
import Derived.WalkKit
import Derived.ProofKit
import Derived.OpenShut
import Derived.ShutString
import Derived.ChangeOld
import Derived.Below
import Derived.Deep.Slices
import Derived.Lib.SmallJoins
import Derived.Laws.Cover2
set_option linter.unusedVariables false
set_option linter.unusedSimpArgs false
namespace Go.Proofs.Ytihoaflcjkppnaa.fnExactValidCanal
open Go.ChangeShapes Go.WideShapes Go.ChangeAt Go.RowKit Go.Joins Go.Deep
open Go.Proofs.Ytihoaflcjkppnaa
theorem own : ownKnob Try.prog.godebug = none := by kernel_rfl
theorem laidOut : laidOutB Try.prog = true := by kernel_rfl
set_option maxRecDepth 100000 in
theorem lifted (os : Os) (started : os.Started) (H : Type) (enc : TypeId × Value → H) :
    ReturnsInHanded {} Try.checked os 11 .any (Rows.fnExactValidCanalSpec.pre6 enc Try.prog Try.f11 Rows.fnExactValidCanalRow.domain false) (Rows.fnExactValidCanalSpec.post enc Try.prog Try.f11 false true false false) := by
  refine returnsInHanded_of_change (C := Try.checked) own started (by kernel_rfl) Try.func11
    (ChangeSpec.witness6 (enc := enc) (C := Try.checked) false ⟨#[], #[.agg #[.float .f32 0, .float .f32 0, .float .f32 0, .slice none 0 0, .slice none 0 0]], []⟩ 8 (by kernel_rfl) (by kernel_rfl) (by kernel_rfl) (by kernel_rfl)) ?_
  intro W base args ds gs before hval0 hW hcnd _
  have hval : ∀ (j : Nat) t v, Try.f11.params[j]? = some t → args[j]? = some v → Value.okWide Try.prog W .any base t v := hval0
  have hW' := hW
  obtain ⟨p, q, hA0, hV, rfl, hfz, hnd⟩ := hW
  have hA : DataW.TrodAll enc Try.prog W 0 (fun _ => true) true Try.f11.params.toList args.toList ds p := hA0
  rw [Try.params11] at hA hval
  obtain ⟨v0, vs0, d0, ds0, p0, q0, hargs, rfl, rfl, h0, r0⟩ := trodAll_cons hA
  obtain ⟨rfl, rfl, rfl⟩ := trodAll_nil r0
  obtain rfl : args = #[v0] := by cases args; simp_all
  obtain ⟨rfl, rfl⟩ := trodVars_none hV
  have k0 := h0
  have lt0 : ∀ x ∈ p0, x.block < W.heap.size := by obtain ⟨m, hm⟩ := k0; exact DataW.trod_lt m _ _ _ hm
  obtain ⟨c0_0, c0_1, c0_2, c0_3, c0_4, y0_0, y0_1, y0_2, y0_3, y0_4, m0, rfl, rfl, rfl, hy0_0, hy0_1, hy0_2, hy0_3, hy0_4⟩ := open_agg5 Try.underlying54 (by kernel_rfl) (by kernel_rfl) (hval 0 54 v0 rfl rfl) h0
  obtain ⟨b0_0, e0_0, fl0_0⟩ := trod_float Try.underlying22 hy0_0
  obtain rfl : c0_0 = _ := by simpa using e0_0
  obtain ⟨b0_1, e0_1, fl0_1⟩ := trod_float Try.underlying22 hy0_1
  obtain rfl : c0_1 = _ := by simpa using e0_1
  obtain ⟨b0_2, e0_2, fl0_2⟩ := trod_float Try.underlying22 hy0_2
  obtain rfl : c0_2 = _ := by simpa using e0_2
  obtain ⟨A0_3, n0_3, k0_3, l0_3, rfl, fl0_3⟩ := rd_of_trod Try.underlying43 Try.underlying22 (by kernel_rfl) hy0_3
  obtain ⟨A0_4, n0_4, k0_4, l0_4, rfl, fl0_4⟩ := rd_of_trod Try.underlying43 Try.underlying22 (by kernel_rfl) hy0_4
  refine (lawValidCanal fl0_0 fl0_1 fl0_2 fl0_3 fl0_4).mono fun e W' ⟨he, bel⟩ => ?_
  subst he
  exact ⟨_, rfl, _, _, _, [], _, [], hW', trodAll_mk1 (shut_bool Try.underlying4 _), (trodAll_cons_mk (Below.trod laidOut (by kernel_rfl) (of_decide_eq_true (by kernel_rfl)) k0 bel lt0) trodAll_mk0), rfl, bel.frame _, fun h => by cases h⟩
theorem over : Rows.fnExactValidCanalRow.holds Try.pinned (OpenSpec.ofChange Rows.fnExactValidCanalSpec) :=
  OpenClaim.holds_of_wide 11 Try.f11 rfl rfl rfl rfl rfl rfl rfl ⟨rfl, rfl, rfl, rfl, rfl⟩ rfl rfl rfl rfl rfl (by kernel_rfl) Try.func11 (by kernel_rfl)
    (of_decide_eq_true (by kernel_rfl)) (by unfold Func.isWrapper; first | (rw [if_pos (by decide +kernel)]; kernel_rfl) | (rw [if_neg (by decide +kernel)]; exact ⟨rfl, rfl⟩))
    (fun os started H enc _ => lifted os started H enc)
theorem proved : Rows.FnExactValidCanalSaid := over
#print axioms proved
end Go.Proofs.Ytihoaflcjkppnaa.fnExactValidCanal
namespace Go.Proofs.Ytihoaflcjkppnaa
/-- The row, under a short name, for the claim. -/
theorem fnExactValidCanal_holds : Rows.FnExactValidCanalSaid := fnExactValidCanal.proved
end Go.Proofs.Ytihoaflcjkppnaa
