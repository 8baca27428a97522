/- Functions, as plain functions. Plain functions. -/
import Derived.Test.YtlhfpjpgglfcfaaDa
set_option linter.unusedVariables false
set_option linter.unusedSimpArgs false
set_option linter.constructorNameAsVariable false
namespace Go.Proofs.Ytlhfpjpgglfcfaa
open Go.RowKit
set_option maxRecDepth 100000
noncomputable def sl04Weir_t (x0 : Nat) (x1 : Nat) (x2 : Nat) (x3 : Nat) : Tr (Nat) :=
  .br (! (fgt .f32 (fsub .f32 x2 x1) 0)) (.ok 0) (.br (! (fgt .f32 x3 x1)) (.ok (fmul .f32 (fmul .f32 x0 (fsub .f32 x2 x1)) (froot (fsub .f32 x2 x1)))) (.br (! (flt .f32 (fdiv .f32 (fsub .f32 x3 x1) (fsub .f32 x2 x1)) 1065353216)) (.ok 0) (.ok (fmul .f32 (fmul .f32 (fmul .f32 x0 (fsub .f32 x2 x1)) (froot (fsub .f32 x2 x1))) (froot (fsub .f32 1065353216 (fmul .f32 (fdiv .f32 (fsub .f32 x3 x1) (fsub .f32 x2 x1)) (fdiv .f32 (fsub .f32 x3 x1) (fsub .f32 x2 x1)))))))))

noncomputable def sl04Weir (x0 : Nat) (x1 : Nat) (x2 : Nat) (x3 : Nat) : Nat := (sl04Weir_t x0 x1 x2 x3).val

noncomputable def sl02Number_t (x0 : Nat) : Tr (Nat × Bool) :=
  .br (! (isFin .f32 x0)) (.ok (0, false)) (.ok (x0, true))

noncomputable def sl02Number (x0 : Nat) : Nat × Bool := (sl02Number_t x0).val

noncomputable def sWeirOver_t (x0 : Nat) (x1 : Nat) (x2 : Nat) (x3 : Nat) : Tr (Nat × Bool) :=
  .br (! (isMass x0)) (.ok (0, false)) (.br (! (isFin .f32 x1)) (.ok (0, false)) (.br (! (isFin .f32 x2)) (.ok (0, false)) (.br (! (isFin .f32 x3)) (.ok (0, false)) (.ok ((sl02Number (sl04Weir x0 x1 x2 x3)).1, (sl02Number (sl04Weir x0 x1 x2 x3)).2)))))

noncomputable def sWeirOver (x0 : Nat) (x1 : Nat) (x2 : Nat) (x3 : Nat) : Nat × Bool := (sWeirOver_t x0 x1 x2 x3).val

noncomputable def sl04Gate_t (x0 : Nat) (x1 : Nat) (x2 : Nat) (x3 : Nat) : Tr (Nat) :=
  .br (! (fgt .f32 (fsub .f32 x2 (fmax .f32 x3 (fmul .f32 1056964608 x1))) 0)) (.ok 0) (.ok (fmul .f32 (fmul .f32 x0 x1) (froot (fmul .f32 1100805571 (fsub .f32 x2 (fmax .f32 x3 (fmul .f32 1056964608 x1)))))))

noncomputable def sl04Gate (x0 : Nat) (x1 : Nat) (x2 : Nat) (x3 : Nat) : Nat := (sl04Gate_t x0 x1 x2 x3).val

noncomputable def sGateUnder_t (x0 : Nat) (x1 : Nat) (x2 : Nat) (x3 : Nat) : Tr (Nat × Bool) :=
  .br (! (isMass x0)) (.ok (0, false)) (.br (! (isMass x1)) (.ok (0, false)) (.br (! (isFin .f32 x2)) (.ok (0, false)) (.br (! (isFin .f32 x3)) (.ok (0, false)) (.ok ((sl02Number (sl04Gate x0 x1 x2 x3)).1, (sl02Number (sl04Gate x0 x1 x2 x3)).2)))))

noncomputable def sGateUnder (x0 : Nat) (x1 : Nat) (x2 : Nat) (x3 : Nat) : Nat × Bool := (sGateUnder_t x0 x1 x2 x3).val

noncomputable def sCulvertFlow_t (x0 : Nat) (x1 : Nat) (x2 : Nat) (x3 : Nat) (x4 : Nat) : Tr (Nat × Bool) :=
  .br (! ((sWeirOver x0 x1 x3 x4).2)) (.ok (0, false)) (.br (! ((sGateUnder x0 x2 (fsub .f32 x3 x1) (fsub .f32 x4 x1)).2)) (.ok (0, false)) (.br (! (isLen x2)) (.ok (0, false)) (.br (flt .f32 ((sGateUnder x0 x2 (fsub .f32 x3 x1) (fsub .f32 x4 x1)).1) ((sWeirOver x0 x1 x3 x4).1)) (.ok ((sGateUnder x0 x2 (fsub .f32 x3 x1) (fsub .f32 x4 x1)).1, true)) (.ok ((sWeirOver x0 x1 x3 x4).1, true)))))

noncomputable def sCulvertFlow (x0 : Nat) (x1 : Nat) (x2 : Nat) (x3 : Nat) (x4 : Nat) : Nat × Bool := (sCulvertFlow_t x0 x1 x2 x3 x4).val

noncomputable def iareFinite_1_t (x0 : Nat) : Tr (Bool) :=
  .ok (! (isFin .f32 x0))

noncomputable def iareFinite_1 (x0 : Nat) : Bool := (iareFinite_1_t x0).val

noncomputable def lIndexFunc_iareFinite_1_l2_t (y0 : List Nat) (y1 : Int) (y2 : Int) : Tr (Int ⊕ (Int ⊕ Unit)) :=
  .br (decide ((y2 : Int) < y1)) (.br (decide (0 ≤ (y2 : Int)) && decide ((y2 : Int) < ((List.length y0 : Nat) : Int))) (.br (iareFinite_1 (List.getD y0 (Int.toNat y2) 0)) (.ok (.inr (.inl y2))) (.ok (.inl (IntKind.wrap .i64 (y2 + 1))))) .bad) (.ok (.inr (.inr ())))

noncomputable def lIndexFunc_iareFinite_1_l2 (y0 : List Nat) (y1 : Int) (y2 : Int) : Option (Int ⊕ Unit) := runL (fun s : Int => (lIndexFunc_iareFinite_1_l2_t y0 y1 s).sem) y2

noncomputable def lIndexFunc_iareFinite_1_t (x0 : List Nat) : Tr (Int) :=
  .br (osome (lIndexFunc_iareFinite_1_l2 x0 (((List.length x0 : Nat) : Int)) 0)) (.br (isL (oget (lIndexFunc_iareFinite_1_l2 x0 (((List.length x0 : Nat) : Int)) 0))) (.ok (unL (oget (lIndexFunc_iareFinite_1_l2 x0 (((List.length x0 : Nat) : Int)) 0)))) (.ok (-1))) .bad

noncomputable def lIndexFunc_iareFinite_1 (x0 : List Nat) : Option (Int) := (lIndexFunc_iareFinite_1_t x0).sem

noncomputable def lContainsFunc_iareFinite_1_t (x0 : List Nat) : Tr (Bool) :=
  .br (osome (lIndexFunc_iareFinite_1 x0)) (.ok (decide ((oget (lIndexFunc_iareFinite_1 x0) : Int) ≥ 0))) .bad

noncomputable def lContainsFunc_iareFinite_1 (x0 : List Nat) : Option (Bool) := (lContainsFunc_iareFinite_1_t x0).sem

noncomputable def iareFinite_t (x0 : List Nat) : Tr (Bool) :=
  .br (osome (lContainsFunc_iareFinite_1 x0)) (.ok (! (oget (lContainsFunc_iareFinite_1 x0)))) .bad

noncomputable def iareFinite (x0 : List Nat) : Option (Bool) := (iareFinite_t x0).sem

noncomputable def ifinite32_t (x0 : Nat) : Tr (Nat × Bool) :=
  .br (! (isFin .f32 x0)) (.ok (0, false)) (.ok (x0, true))

noncomputable def ifinite32 (x0 : Nat) : Nat × Bool := (ifinite32_t x0).val

noncomputable def iWeirOver_t (x0 : Nat) (x1 : Nat) (x2 : Nat) (x3 : Nat) : Tr (Nat × Bool) :=
  .br (! (isMass x0)) (.ok (0, false)) (.br (osome (iareFinite [x1, x2, x3])) (.br (! (oget (iareFinite [x1, x2, x3]))) (.ok (0, false)) (.br (! (fgt .f32 (fsub .f32 x2 x1) 0)) (.ok (0, true)) (.br (fgt .f32 x3 x1) (.br (! (flt .f32 (fdiv .f32 (fsub .f32 x3 x1) (fsub .f32 x2 x1)) 1065353216)) (.ok (0, true)) (.ok ((ifinite32 (fmul .f32 (fmul .f32 (fmul .f32 x0 (fsub .f32 x2 x1)) (froot (fsub .f32 x2 x1))) (froot (fsub .f32 1065353216 (fmul .f32 (fdiv .f32 (fsub .f32 x3 x1) (fsub .f32 x2 x1)) (fdiv .f32 (fsub .f32 x3 x1) (fsub .f32 x2 x1))))))).1, (ifinite32 (fmul .f32 (fmul .f32 (fmul .f32 x0 (fsub .f32 x2 x1)) (froot (fsub .f32 x2 x1))) (froot (fsub .f32 1065353216 (fmul .f32 (fdiv .f32 (fsub .f32 x3 x1) (fsub .f32 x2 x1)) (fdiv .f32 (fsub .f32 x3 x1) (fsub .f32 x2 x1))))))).2))) (.ok ((ifinite32 (fmul .f32 (fmul .f32 x0 (fsub .f32 x2 x1)) (froot (fsub .f32 x2 x1)))).1, (ifinite32 (fmul .f32 (fmul .f32 x0 (fsub .f32 x2 x1)) (froot (fsub .f32 x2 x1)))).2))))) .bad)

noncomputable def iWeirOver (x0 : Nat) (x1 : Nat) (x2 : Nat) (x3 : Nat) : Option (Nat × Bool) := (iWeirOver_t x0 x1 x2 x3).sem

noncomputable def iareMasses_1_t (x0 : Nat) : Tr (Bool) :=
  .ok (! (isMass x0))

noncomputable def iareMasses_1 (x0 : Nat) : Bool := (iareMasses_1_t x0).val

noncomputable def lIndexFunc_iareMasses_1_l2_t (y0 : List Nat) (y1 : Int) (y2 : Int) : Tr (Int ⊕ (Int ⊕ Unit)) :=
  .br (decide ((y2 : Int) < y1)) (.br (decide (0 ≤ (y2 : Int)) && decide ((y2 : Int) < ((List.length y0 : Nat) : Int))) (.br (iareMasses_1 (List.getD y0 (Int.toNat y2) 0)) (.ok (.inr (.inl y2))) (.ok (.inl (IntKind.wrap .i64 (y2 + 1))))) .bad) (.ok (.inr (.inr ())))

noncomputable def lIndexFunc_iareMasses_1_l2 (y0 : List Nat) (y1 : Int) (y2 : Int) : Option (Int ⊕ Unit) := runL (fun s : Int => (lIndexFunc_iareMasses_1_l2_t y0 y1 s).sem) y2

noncomputable def lIndexFunc_iareMasses_1_t (x0 : List Nat) : Tr (Int) :=
  .br (osome (lIndexFunc_iareMasses_1_l2 x0 (((List.length x0 : Nat) : Int)) 0)) (.br (isL (oget (lIndexFunc_iareMasses_1_l2 x0 (((List.length x0 : Nat) : Int)) 0))) (.ok (unL (oget (lIndexFunc_iareMasses_1_l2 x0 (((List.length x0 : Nat) : Int)) 0)))) (.ok (-1))) .bad

noncomputable def lIndexFunc_iareMasses_1 (x0 : List Nat) : Option (Int) := (lIndexFunc_iareMasses_1_t x0).sem

noncomputable def lContainsFunc_iareMasses_1_t (x0 : List Nat) : Tr (Bool) :=
  .br (osome (lIndexFunc_iareMasses_1 x0)) (.ok (decide ((oget (lIndexFunc_iareMasses_1 x0) : Int) ≥ 0))) .bad

noncomputable def lContainsFunc_iareMasses_1 (x0 : List Nat) : Option (Bool) := (lContainsFunc_iareMasses_1_t x0).sem

noncomputable def iareMasses_t (x0 : List Nat) : Tr (Bool) :=
  .br (osome (lContainsFunc_iareMasses_1 x0)) (.ok (! (oget (lContainsFunc_iareMasses_1 x0)))) .bad

noncomputable def iareMasses (x0 : List Nat) : Option (Bool) := (iareMasses_t x0).sem

noncomputable def iGateUnder_t (x0 : Nat) (x1 : Nat) (x2 : Nat) (x3 : Nat) : Tr (Nat × Bool) :=
  .br (osome (iareMasses [x0, x1])) (.br (! (oget (iareMasses [x0, x1]))) (.ok (0, false)) (.br (osome (iareFinite [x2, x3])) (.br (! (oget (iareFinite [x2, x3]))) (.ok (0, false)) (.br (! (fgt .f32 (fsub .f32 x2 (fmax .f32 x3 (fdiv .f32 x1 1073741824))) 0)) (.ok (0, true)) (.ok ((ifinite32 (fmul .f32 (fmul .f32 x0 x1) (froot (fmul .f32 1100805571 (fsub .f32 x2 (fmax .f32 x3 (fdiv .f32 x1 1073741824))))))).1, (ifinite32 (fmul .f32 (fmul .f32 x0 x1) (froot (fmul .f32 1100805571 (fsub .f32 x2 (fmax .f32 x3 (fdiv .f32 x1 1073741824))))))).2)))) .bad)) .bad

noncomputable def iGateUnder (x0 : Nat) (x1 : Nat) (x2 : Nat) (x3 : Nat) : Option (Nat × Bool) := (iGateUnder_t x0 x1 x2 x3).sem

noncomputable def iCulvertFlow_t (x0 : Nat) (x1 : Nat) (x2 : Nat) (x3 : Nat) (x4 : Nat) : Tr (Nat × Bool) :=
  .br (osome (iWeirOver x0 x1 x3 x4)) (.br (osome (iGateUnder x0 x2 (fsub .f32 x3 x1) (fsub .f32 x4 x1))) (.br (! ((oget (iWeirOver x0 x1 x3 x4)).2)) (.ok (0, false)) (.br (! ((oget (iGateUnder x0 x2 (fsub .f32 x3 x1) (fsub .f32 x4 x1))).2)) (.ok (0, false)) (.br (! (isLen x2)) (.ok (0, false)) (.br (flt .f32 ((oget (iGateUnder x0 x2 (fsub .f32 x3 x1) (fsub .f32 x4 x1))).1) ((oget (iWeirOver x0 x1 x3 x4)).1)) (.ok ((oget (iGateUnder x0 x2 (fsub .f32 x3 x1) (fsub .f32 x4 x1))).1, true)) (.ok ((oget (iWeirOver x0 x1 x3 x4)).1, true)))))) .bad) .bad

noncomputable def iCulvertFlow (x0 : Nat) (x1 : Nat) (x2 : Nat) (x3 : Nat) (x4 : Nat) : Option (Nat × Bool) := (iCulvertFlow_t x0 x1 x2 x3 x4).sem

noncomputable def wFnExactCulvertFlow_t (x0 : Nat) (x1 : Nat) (x2 : Nat) (x3 : Nat) (x4 : Nat) : Tr (Bool) :=
  .br (osome (iCulvertFlow x0 x1 x2 x3 x4)) (.br (natEq (fup ((oget (iCulvertFlow x0 x1 x2 x3 x4)).1)) (fup ((sCulvertFlow x0 x1 x2 x3 x4).1))) (.br (! (((oget (iCulvertFlow x0 x1 x2 x3 x4)).2) == ((sCulvertFlow x0 x1 x2 x3 x4).2))) (.ok false) (.ok true)) .bad) .bad

noncomputable def wFnExactCulvertFlow (x0 : Nat) (x1 : Nat) (x2 : Nat) (x3 : Nat) (x4 : Nat) : Option (Bool) := (wFnExactCulvertFlow_t x0 x1 x2 x3 x4).sem

noncomputable def wtoSection_t (x0 : Nat) (x1 : Nat) (x2 : Nat) (x3 : Nat) : Tr (Nat × Nat × Nat × Nat) :=
  .ok (x0, x1, x2, x3)

noncomputable def wtoSection (x0 : Nat) (x1 : Nat) (x2 : Nat) (x3 : Nat) : Nat × Nat × Nat × Nat := (wtoSection_t x0 x1 x2 x3).val

noncomputable def sl04Is_t (x0 : Nat) (x1 : Nat) (x2 : Nat) (x3 : Nat) : Tr (Bool) :=
  .br (isMass x0) (.br (isMass x1) (.br (fgt .f32 x0 0) (.br (isLen x2) (.ok (isLen x3)) (.ok false)) (.br (fgt .f32 x1 0) (.br (isLen x2) (.ok (isLen x3)) (.ok false)) (.ok false))) (.ok false)) (.ok false)

noncomputable def sl04Is (x0 : Nat) (x1 : Nat) (x2 : Nat) (x3 : Nat) : Bool := (sl04Is_t x0 x1 x2 x3).val

noncomputable def sl04Can_t (x0 : Nat) (x1 : Nat) (x2 : Nat) (x3 : Nat) (x4 : Nat) : Tr (Bool) :=
  .br (sl04Is x0 x1 x2 x3) (.ok (isLen x4)) (.ok false)

noncomputable def sl04Can (x0 : Nat) (x1 : Nat) (x2 : Nat) (x3 : Nat) (x4 : Nat) : Bool := (sl04Can_t x0 x1 x2 x3 x4).val

noncomputable def sl04Both_t (x0 : Nat) (x1 : Nat) (x2 : Nat) (x3 : Nat) (x4 : Nat) (x5 : Nat) : Tr (Bool) :=
  .br (sl04Can x0 x1 x2 x3 x4) (.ok (isLen x5)) (.ok false)

noncomputable def sl04Both (x0 : Nat) (x1 : Nat) (x2 : Nat) (x3 : Nat) (x4 : Nat) (x5 : Nat) : Bool := (sl04Both_t x0 x1 x2 x3 x4 x5).val

noncomputable def sl04Area_t (x0 : Nat) (x1 : Nat) (x2 : Nat) (x3 : Nat) (x4 : Nat) : Tr (Nat) :=
  .ok (fmul .f32 x4 (fadd .f32 x0 (fmul .f32 x1 x4)))

noncomputable def sl04Area (x0 : Nat) (x1 : Nat) (x2 : Nat) (x3 : Nat) (x4 : Nat) : Nat := (sl04Area_t x0 x1 x2 x3 x4).val

noncomputable def sAreaAt_t (x0 : Nat) (x1 : Nat) (x2 : Nat) (x3 : Nat) (x4 : Nat) : Tr (Nat × Bool) :=
  .br (! (sl04Can x0 x1 x2 x3 x4)) (.ok (0, false)) (.ok ((sl02Number (sl04Area x0 x1 x2 x3 x4)).1, (sl02Number (sl04Area x0 x1 x2 x3 x4)).2))

noncomputable def sAreaAt (x0 : Nat) (x1 : Nat) (x2 : Nat) (x3 : Nat) (x4 : Nat) : Nat × Bool := (sAreaAt_t x0 x1 x2 x3 x4).val

noncomputable def sl04Top_t (x0 : Nat) (x1 : Nat) (x2 : Nat) (x3 : Nat) (x4 : Nat) : Tr (Nat) :=
  .ok (fadd .f32 x0 (fmul .f32 (fmul .f32 1073741824 x1) x4))

noncomputable def sl04Top (x0 : Nat) (x1 : Nat) (x2 : Nat) (x3 : Nat) (x4 : Nat) : Nat := (sl04Top_t x0 x1 x2 x3 x4).val

noncomputable def sTopAt_t (x0 : Nat) (x1 : Nat) (x2 : Nat) (x3 : Nat) (x4 : Nat) : Tr (Nat × Bool) :=
  .br (! (sl04Can x0 x1 x2 x3 x4)) (.ok (0, false)) (.ok ((sl02Number (sl04Top x0 x1 x2 x3 x4)).1, (sl02Number (sl04Top x0 x1 x2 x3 x4)).2))

noncomputable def sTopAt (x0 : Nat) (x1 : Nat) (x2 : Nat) (x3 : Nat) (x4 : Nat) : Nat × Bool := (sTopAt_t x0 x1 x2 x3 x4).val

noncomputable def sl04Critical_l4_t (y0 : Nat) (y1 : Nat) (y2 : Nat) (y3 : Nat) (y4 : Nat) (y5 : Nat) (y6 : Nat) (y7 : Int) : Tr ((Nat × Nat × Int) ⊕ (Nat ⊕ Nat)) :=
  .br (decide ((y7 : Int) < 40)) (.br (! ((sAreaAt y0 y1 y2 y3 (fmul .f32 1056964608 (fadd .f32 y5 y6))).2)) (.ok (.inr (.inl 0))) (.br (! ((sTopAt y0 y1 y2 y3 (fmul .f32 1056964608 (fadd .f32 y5 y6))).2)) (.ok (.inr (.inl 0))) (.br (fgt .f32 (fmul .f32 1092416963 (fmul .f32 (fmul .f32 ((sAreaAt y0 y1 y2 y3 (fmul .f32 1056964608 (fadd .f32 y5 y6))).1) ((sAreaAt y0 y1 y2 y3 (fmul .f32 1056964608 (fadd .f32 y5 y6))).1)) ((sAreaAt y0 y1 y2 y3 (fmul .f32 1056964608 (fadd .f32 y5 y6))).1))) (fmul .f32 (fmul .f32 y4 y4) ((sTopAt y0 y1 y2 y3 (fmul .f32 1056964608 (fadd .f32 y5 y6))).1))) (.ok (.inl (y5, fmul .f32 1056964608 (fadd .f32 y5 y6), IntKind.wrap .i64 (y7 + 1)))) (.ok (.inl (fmul .f32 1056964608 (fadd .f32 y5 y6), y6, IntKind.wrap .i64 (y7 + 1))))))) (.ok (.inr (.inr y6)))

noncomputable def sl04Critical_l4 (y0 : Nat) (y1 : Nat) (y2 : Nat) (y3 : Nat) (y4 : Nat) (y5 : Nat) (y6 : Nat) (y7 : Int) : Option (Nat ⊕ Nat) := runL (fun s : Nat × Nat × Int => (sl04Critical_l4_t y0 y1 y2 y3 y4 s.1 s.2.1 s.2.2).sem) (y5, y6, y7)

noncomputable def sl04Critical_t (x0 : Nat) (x1 : Nat) (x2 : Nat) (x3 : Nat) (x4 : Nat) : Tr (Nat × Bool) :=
  .br (osome (sl04Critical_l4 x0 x1 x2 x3 x4 0 1148846080 0)) (.br (isL (oget (sl04Critical_l4 x0 x1 x2 x3 x4 0 1148846080 0))) (.ok (unL (oget (sl04Critical_l4 x0 x1 x2 x3 x4 0 1148846080 0)), false)) (.ok (unR (oget (sl04Critical_l4 x0 x1 x2 x3 x4 0 1148846080 0)), true))) .bad

noncomputable def sl04Critical (x0 : Nat) (x1 : Nat) (x2 : Nat) (x3 : Nat) (x4 : Nat) : Option (Nat × Bool) := (sl04Critical_t x0 x1 x2 x3 x4).sem

noncomputable def sl04Speed_t (x0 : Nat) (x1 : Nat) (x2 : Nat) (x3 : Nat) (x4 : Nat) (x5 : Nat) : Tr (Nat × Bool) :=
  .br ((sl02Number (fdiv .f32 x5 (sl04Area x0 x1 x2 x3 x4))).2) (.ok ((sl02Number (fdiv .f32 x5 (sl04Area x0 x1 x2 x3 x4))).1, isFin .f32 (sl04Area x0 x1 x2 x3 x4))) (.ok ((sl02Number (fdiv .f32 x5 (sl04Area x0 x1 x2 x3 x4))).1, false))

noncomputable def sl04Speed (x0 : Nat) (x1 : Nat) (x2 : Nat) (x3 : Nat) (x4 : Nat) (x5 : Nat) : Nat × Bool := (sl04Speed_t x0 x1 x2 x3 x4 x5).val

noncomputable def sl04Push_t (x0 : Nat) (x1 : Nat) (x2 : Nat) (x3 : Nat) (x4 : Nat) (x5 : Nat) : Tr (Nat × Bool) :=
  .br (! ((sl04Speed x0 x1 x2 x3 x4 x5).2)) (.ok (0, false)) (.ok ((sl02Number (fadd .f32 (fmul .f32 1092416963 (fmul .f32 (fmul .f32 x4 x4) (fadd .f32 (fdiv .f32 x0 1073741824) (fdiv .f32 (fmul .f32 x1 x4) 1077936128)))) (fmul .f32 x5 ((sl04Speed x0 x1 x2 x3 x4 x5).1)))).1, (sl02Number (fadd .f32 (fmul .f32 1092416963 (fmul .f32 (fmul .f32 x4 x4) (fadd .f32 (fdiv .f32 x0 1073741824) (fdiv .f32 (fmul .f32 x1 x4) 1077936128)))) (fmul .f32 x5 ((sl04Speed x0 x1 x2 x3 x4 x5).1)))).2))

noncomputable def sl04Push (x0 : Nat) (x1 : Nat) (x2 : Nat) (x3 : Nat) (x4 : Nat) (x5 : Nat) : Nat × Bool := (sl04Push_t x0 x1 x2 x3 x4 x5).val

noncomputable def sl04Head_t (x0 : Nat) (x1 : Nat) (x2 : Nat) (x3 : Nat) (x4 : Nat) (x5 : Nat) : Tr (Nat × Bool) :=
  .br (! ((sl04Speed x0 x1 x2 x3 x4 x5).2)) (.ok (0, false)) (.ok ((sl02Number (fadd .f32 x4 (fdiv .f32 (fmul .f32 ((sl04Speed x0 x1 x2 x3 x4 x5).1) ((sl04Speed x0 x1 x2 x3 x4 x5).1)) 1100805571))).1, (sl02Number (fadd .f32 x4 (fdiv .f32 (fmul .f32 ((sl04Speed x0 x1 x2 x3 x4 x5).1) ((sl04Speed x0 x1 x2 x3 x4 x5).1)) 1100805571))).2))

noncomputable def sl04Head (x0 : Nat) (x1 : Nat) (x2 : Nat) (x3 : Nat) (x4 : Nat) (x5 : Nat) : Nat × Bool := (sl04Head_t x0 x1 x2 x3 x4 x5).val

noncomputable def sl04Of_t (x0 : Nat) (x1 : Nat) (x2 : Nat) (x3 : Nat) (x4 : Nat) (x5 : Nat) (x6 : Bool) : Tr (Nat × Bool) :=
  .br (! (sl04Both x0 x1 x2 x3 x4 x5)) (.ok (0, false)) (.br x6 (.ok ((sl04Push x0 x1 x2 x3 x4 x5).1, (sl04Push x0 x1 x2 x3 x4 x5).2)) (.ok ((sl04Head x0 x1 x2 x3 x4 x5).1, (sl04Head x0 x1 x2 x3 x4 x5).2)))

noncomputable def sl04Of (x0 : Nat) (x1 : Nat) (x2 : Nat) (x3 : Nat) (x4 : Nat) (x5 : Nat) (x6 : Bool) : Nat × Bool := (sl04Of_t x0 x1 x2 x3 x4 x5 x6).val

noncomputable def sl04Other_l12_t (y0 : Nat) (y1 : Nat) (y2 : Nat) (y3 : Nat) (y4 : Nat) (y5 : Bool) (y6 : Nat) (y7 : Bool) (y8 : Nat) (y9 : Nat) (y10 : Int) : Tr ((Nat × Nat × Int) ⊕ (Nat ⊕ (Bool × Nat × Nat))) :=
  .br (decide ((y10 : Int) < 40)) (.br (! ((sl04Of y0 y1 y2 y3 (fmul .f32 1056964608 (fadd .f32 y8 y9)) y4 y5).2)) (.ok (.inr (.inl 0))) (.br y7 (.br (fgt .f32 ((sl04Of y0 y1 y2 y3 (fmul .f32 1056964608 (fadd .f32 y8 y9)) y4 y5).1) y6) (.ok (.inl (y8, fmul .f32 1056964608 (fadd .f32 y8 y9), IntKind.wrap .i64 (y10 + 1)))) (.br (!y7) (.br (flt .f32 ((sl04Of y0 y1 y2 y3 (fmul .f32 1056964608 (fadd .f32 y8 y9)) y4 y5).1) y6) (.ok (.inl (y8, fmul .f32 1056964608 (fadd .f32 y8 y9), IntKind.wrap .i64 (y10 + 1)))) (.ok (.inl (fmul .f32 1056964608 (fadd .f32 y8 y9), y9, IntKind.wrap .i64 (y10 + 1))))) (.ok (.inl (fmul .f32 1056964608 (fadd .f32 y8 y9), y9, IntKind.wrap .i64 (y10 + 1)))))) (.br (!y7) (.br (flt .f32 ((sl04Of y0 y1 y2 y3 (fmul .f32 1056964608 (fadd .f32 y8 y9)) y4 y5).1) y6) (.ok (.inl (y8, fmul .f32 1056964608 (fadd .f32 y8 y9), IntKind.wrap .i64 (y10 + 1)))) (.ok (.inl (fmul .f32 1056964608 (fadd .f32 y8 y9), y9, IntKind.wrap .i64 (y10 + 1))))) (.ok (.inl (fmul .f32 1056964608 (fadd .f32 y8 y9), y9, IntKind.wrap .i64 (y10 + 1))))))) (.ok (.inr (.inr (y7, y8, y9))))

noncomputable def sl04Other_l12 (y0 : Nat) (y1 : Nat) (y2 : Nat) (y3 : Nat) (y4 : Nat) (y5 : Bool) (y6 : Nat) (y7 : Bool) (y8 : Nat) (y9 : Nat) (y10 : Int) : Option (Nat ⊕ (Bool × Nat × Nat)) := runL (fun s : Nat × Nat × Int => (sl04Other_l12_t y0 y1 y2 y3 y4 y5 y6 y7 s.1 s.2.1 s.2.2).sem) (y8, y9, y10)

noncomputable def sl04Other_t (x0 : Nat) (x1 : Nat) (x2 : Nat) (x3 : Nat) (x4 : Nat) (x5 : Nat) (x6 : Bool) : Tr (Nat × Bool) :=
  .br (osome (sl04Critical x0 x1 x2 x3 x5)) (.br (! ((oget (sl04Critical x0 x1 x2 x3 x5)).2)) (.ok (0, false)) (.br (! ((sl04Of x0 x1 x2 x3 x4 x5 x6).2)) (.ok (0, false)) (.br (! (flt .f32 x4 ((oget (sl04Critical x0 x1 x2 x3 x5)).1))) (.br (osome (sl04Other_l12 x0 x1 x2 x3 x5 x6 ((sl04Of x0 x1 x2 x3 x4 x5 x6).1) (flt .f32 x4 ((oget (sl04Critical x0 x1 x2 x3 x5)).1)) 981668463 ((oget (sl04Critical x0 x1 x2 x3 x5)).1) 0)) (.br (isL (oget (sl04Other_l12 x0 x1 x2 x3 x5 x6 ((sl04Of x0 x1 x2 x3 x4 x5 x6).1) (flt .f32 x4 ((oget (sl04Critical x0 x1 x2 x3 x5)).1)) 981668463 ((oget (sl04Critical x0 x1 x2 x3 x5)).1) 0))) (.ok (unL (oget (sl04Other_l12 x0 x1 x2 x3 x5 x6 ((sl04Of x0 x1 x2 x3 x4 x5 x6).1) (flt .f32 x4 ((oget (sl04Critical x0 x1 x2 x3 x5)).1)) 981668463 ((oget (sl04Critical x0 x1 x2 x3 x5)).1) 0)), false)) (.br ((unR (oget (sl04Other_l12 x0 x1 x2 x3 x5 x6 ((sl04Of x0 x1 x2 x3 x4 x5 x6).1) (flt .f32 x4 ((oget (sl04Critical x0 x1 x2 x3 x5)).1)) 981668463 ((oget (sl04Critical x0 x1 x2 x3 x5)).1) 0))).1) (.ok (((unR (oget (sl04Other_l12 x0 x1 x2 x3 x5 x6 ((sl04Of x0 x1 x2 x3 x4 x5 x6).1) (flt .f32 x4 ((oget (sl04Critical x0 x1 x2 x3 x5)).1)) 981668463 ((oget (sl04Critical x0 x1 x2 x3 x5)).1) 0))).2).1, true)) (.ok (((unR (oget (sl04Other_l12 x0 x1 x2 x3 x5 x6 ((sl04Of x0 x1 x2 x3 x4 x5 x6).1) (flt .f32 x4 ((oget (sl04Critical x0 x1 x2 x3 x5)).1)) 981668463 ((oget (sl04Critical x0 x1 x2 x3 x5)).1) 0))).2).2, true)))) .bad) (.br (osome (sl04Other_l12 x0 x1 x2 x3 x5 x6 ((sl04Of x0 x1 x2 x3 x4 x5 x6).1) (flt .f32 x4 ((oget (sl04Critical x0 x1 x2 x3 x5)).1)) ((oget (sl04Critical x0 x1 x2 x3 x5)).1) 1148846080 0)) (.br (isL (oget (sl04Other_l12 x0 x1 x2 x3 x5 x6 ((sl04Of x0 x1 x2 x3 x4 x5 x6).1) (flt .f32 x4 ((oget (sl04Critical x0 x1 x2 x3 x5)).1)) ((oget (sl04Critical x0 x1 x2 x3 x5)).1) 1148846080 0))) (.ok (unL (oget (sl04Other_l12 x0 x1 x2 x3 x5 x6 ((sl04Of x0 x1 x2 x3 x4 x5 x6).1) (flt .f32 x4 ((oget (sl04Critical x0 x1 x2 x3 x5)).1)) ((oget (sl04Critical x0 x1 x2 x3 x5)).1) 1148846080 0)), false)) (.br ((unR (oget (sl04Other_l12 x0 x1 x2 x3 x5 x6 ((sl04Of x0 x1 x2 x3 x4 x5 x6).1) (flt .f32 x4 ((oget (sl04Critical x0 x1 x2 x3 x5)).1)) ((oget (sl04Critical x0 x1 x2 x3 x5)).1) 1148846080 0))).1) (.ok (((unR (oget (sl04Other_l12 x0 x1 x2 x3 x5 x6 ((sl04Of x0 x1 x2 x3 x4 x5 x6).1) (flt .f32 x4 ((oget (sl04Critical x0 x1 x2 x3 x5)).1)) ((oget (sl04Critical x0 x1 x2 x3 x5)).1) 1148846080 0))).2).1, true)) (.ok (((unR (oget (sl04Other_l12 x0 x1 x2 x3 x5 x6 ((sl04Of x0 x1 x2 x3 x4 x5 x6).1) (flt .f32 x4 ((oget (sl04Critical x0 x1 x2 x3 x5)).1)) ((oget (sl04Critical x0 x1 x2 x3 x5)).1) 1148846080 0))).2).2, true)))) .bad)))) .bad

noncomputable def sl04Other (x0 : Nat) (x1 : Nat) (x2 : Nat) (x3 : Nat) (x4 : Nat) (x5 : Nat) (x6 : Bool) : Option (Nat × Bool) := (sl04Other_t x0 x1 x2 x3 x4 x5 x6).sem

noncomputable def sOtherDepth_t (x0 : Nat) (x1 : Nat) (x2 : Nat) (x3 : Nat) (x4 : Nat) (x5 : Nat) : Tr (Nat × Bool) :=
  .br (! (sl04Both x0 x1 x2 x3 x4 x5)) (.ok (0, false)) (.br (osome (sl04Other x0 x1 x2 x3 x4 x5 false)) (.ok ((oget (sl04Other x0 x1 x2 x3 x4 x5 false)).1, (oget (sl04Other x0 x1 x2 x3 x4 x5 false)).2)) .bad)

noncomputable def sOtherDepth (x0 : Nat) (x1 : Nat) (x2 : Nat) (x3 : Nat) (x4 : Nat) (x5 : Nat) : Option (Nat × Bool) := (sOtherDepth_t x0 x1 x2 x3 x4 x5).sem

noncomputable def iareLengths_l2_t (y0 : List Nat) (y1 : Int) (y2 : Int) : Tr (Int ⊕ (Unit ⊕ Unit)) :=
  .br (decide ((y2 : Int) < y1)) (.br (decide (0 ≤ (y2 : Int)) && decide ((y2 : Int) < ((List.length y0 : Nat) : Int))) (.br (! (isLen (List.getD y0 (Int.toNat y2) 0))) (.ok (.inr (.inl ()))) (.ok (.inl (IntKind.wrap .i64 (y2 + 1))))) .bad) (.ok (.inr (.inr ())))

noncomputable def iareLengths_l2 (y0 : List Nat) (y1 : Int) (y2 : Int) : Option (Unit ⊕ Unit) := runL (fun s : Int => (iareLengths_l2_t y0 y1 s).sem) y2

noncomputable def iareLengths_t (x0 : List Nat) : Tr (Bool) :=
  .br (osome (iareLengths_l2 x0 (((List.length x0 : Nat) : Int)) 0)) (.br (isL (oget (iareLengths_l2 x0 (((List.length x0 : Nat) : Int)) 0))) (.ok false) (.ok true)) .bad

noncomputable def iareLengths (x0 : List Nat) : Option (Bool) := (iareLengths_t x0).sem

noncomputable def iValidSection_t (x0 : Nat) (x1 : Nat) (x2 : Nat) (x3 : Nat) : Tr (Bool) :=
  .br (osome (iareMasses [x0, x1])) (.br (oget (iareMasses [x0, x1])) (.br (fgt .f32 x0 0) (.br (osome (iareLengths [x2, x3])) (.ok (oget (iareLengths [x2, x3]))) .bad) (.br (fgt .f32 x1 0) (.br (osome (iareLengths [x2, x3])) (.ok (oget (iareLengths [x2, x3]))) .bad) (.ok false))) (.ok false)) .bad

noncomputable def iValidSection (x0 : Nat) (x1 : Nat) (x2 : Nat) (x3 : Nat) : Option (Bool) := (iValidSection_t x0 x1 x2 x3).sem

noncomputable def iSection_isFlow_t (x0 : Nat) (x1 : Nat) (x2 : Nat) (x3 : Nat) (x4 : List Nat) : Tr (Bool) :=
  .br (osome (iValidSection x0 x1 x2 x3)) (.br (oget (iValidSection x0 x1 x2 x3)) (.br (osome (iareLengths x4)) (.ok (oget (iareLengths x4))) .bad) (.ok false)) .bad

noncomputable def iSection_isFlow (x0 : Nat) (x1 : Nat) (x2 : Nat) (x3 : Nat) (x4 : List Nat) : Option (Bool) := (iSection_isFlow_t x0 x1 x2 x3 x4).sem

noncomputable def iAreaAt_t (x0 : Nat) (x1 : Nat) (x2 : Nat) (x3 : Nat) (x4 : Nat) : Tr (Nat × Bool) :=
  .br (osome (iSection_isFlow x0 x1 x2 x3 [x4])) (.br (! (oget (iSection_isFlow x0 x1 x2 x3 [x4]))) (.ok (0, false)) (.ok ((ifinite32 (fmul .f32 x4 (fadd .f32 x0 (fmul .f32 x1 x4)))).1, (ifinite32 (fmul .f32 x4 (fadd .f32 x0 (fmul .f32 x1 x4)))).2))) .bad

noncomputable def iAreaAt (x0 : Nat) (x1 : Nat) (x2 : Nat) (x3 : Nat) (x4 : Nat) : Option (Nat × Bool) := (iAreaAt_t x0 x1 x2 x3 x4).sem

noncomputable def iTopAt_t (x0 : Nat) (x1 : Nat) (x2 : Nat) (x3 : Nat) (x4 : Nat) : Tr (Nat × Bool) :=
  .br (osome (iSection_isFlow x0 x1 x2 x3 [x4])) (.br (! (oget (iSection_isFlow x0 x1 x2 x3 [x4]))) (.ok (0, false)) (.ok ((ifinite32 (fadd .f32 x0 (fmul .f32 (fmul .f32 1073741824 x1) x4))).1, (ifinite32 (fadd .f32 x0 (fmul .f32 (fmul .f32 1073741824 x1) x4))).2))) .bad

noncomputable def iTopAt (x0 : Nat) (x1 : Nat) (x2 : Nat) (x3 : Nat) (x4 : Nat) : Option (Nat × Bool) := (iTopAt_t x0 x1 x2 x3 x4).sem

noncomputable def iCriticalDepth_1_t (x0 : Nat) (x1 : Nat) (x2 : Nat) (x3 : Nat) (x4 : Nat) (x5 : Nat) : Tr (Bool × Bool) :=
  .br (osome (iAreaAt x1 x2 x3 x4 x0)) (.br (osome (iTopAt x1 x2 x3 x4 x0)) (.br ((oget (iAreaAt x1 x2 x3 x4 x0)).2) (.ok (fgt .f32 (fmul .f32 1092416963 (fmul .f32 (fmul .f32 ((oget (iAreaAt x1 x2 x3 x4 x0)).1) ((oget (iAreaAt x1 x2 x3 x4 x0)).1)) ((oget (iAreaAt x1 x2 x3 x4 x0)).1))) (fmul .f32 (fmul .f32 x5 x5) ((oget (iTopAt x1 x2 x3 x4 x0)).1)), (oget (iTopAt x1 x2 x3 x4 x0)).2)) (.ok (fgt .f32 (fmul .f32 1092416963 (fmul .f32 (fmul .f32 ((oget (iAreaAt x1 x2 x3 x4 x0)).1) ((oget (iAreaAt x1 x2 x3 x4 x0)).1)) ((oget (iAreaAt x1 x2 x3 x4 x0)).1))) (fmul .f32 (fmul .f32 x5 x5) ((oget (iTopAt x1 x2 x3 x4 x0)).1)), false))) .bad) .bad

noncomputable def iCriticalDepth_1 (x0 : Nat) (x1 : Nat) (x2 : Nat) (x3 : Nat) (x4 : Nat) (x5 : Nat) : Option (Bool × Bool) := (iCriticalDepth_1_t x0 x1 x2 x3 x4 x5).sem

noncomputable def ihalve_iCriticalDepth_1_l2_t (y2 : Nat) (y3 : Nat) (y4 : Nat) (y5 : Nat) (y6 : Nat) (y0 : Nat) (y1 : Nat) (y7 : Int) : Tr ((Nat × Nat × Int) ⊕ ((Nat × Nat) ⊕ (Nat × Nat))) :=
  .br (decide ((y7 : Int) < 40)) (.br (osome (iCriticalDepth_1 (fmul .f32 1056964608 (fadd .f32 y0 y1)) y2 y3 y4 y5 y6)) (.br (! ((oget (iCriticalDepth_1 (fmul .f32 1056964608 (fadd .f32 y0 y1)) y2 y3 y4 y5 y6)).2)) (.ok (.inr (.inl (0, 0)))) (.br ((oget (iCriticalDepth_1 (fmul .f32 1056964608 (fadd .f32 y0 y1)) y2 y3 y4 y5 y6)).1) (.ok (.inl (y0, fmul .f32 1056964608 (fadd .f32 y0 y1), IntKind.wrap .i64 (y7 + 1)))) (.ok (.inl (fmul .f32 1056964608 (fadd .f32 y0 y1), y1, IntKind.wrap .i64 (y7 + 1)))))) .bad) (.ok (.inr (.inr (y0, y1))))

noncomputable def ihalve_iCriticalDepth_1_l2 (y0 : Nat) (y1 : Nat) (y2 : Nat) (y3 : Nat) (y4 : Nat) (y5 : Nat) (y6 : Nat) (y7 : Int) : Option ((Nat × Nat) ⊕ (Nat × Nat)) := runL (fun s : Nat × Nat × Int => (ihalve_iCriticalDepth_1_l2_t y2 y3 y4 y5 y6 s.1 s.2.1 s.2.2).sem) (y0, y1, y7)

noncomputable def ihalve_iCriticalDepth_1_t (x0 : Nat) (x1 : Nat) (x2 : Nat) (x3 : Nat) (x4 : Nat) (x5 : Nat) (x6 : Nat) : Tr (Nat × Nat × Bool) :=
  .br (osome (ihalve_iCriticalDepth_1_l2 x0 x1 x2 x3 x4 x5 x6 0)) (.br (isL (oget (ihalve_iCriticalDepth_1_l2 x0 x1 x2 x3 x4 x5 x6 0))) (.ok ((unL (oget (ihalve_iCriticalDepth_1_l2 x0 x1 x2 x3 x4 x5 x6 0))).1, (unL (oget (ihalve_iCriticalDepth_1_l2 x0 x1 x2 x3 x4 x5 x6 0))).2, false)) (.ok ((unR (oget (ihalve_iCriticalDepth_1_l2 x0 x1 x2 x3 x4 x5 x6 0))).1, (unR (oget (ihalve_iCriticalDepth_1_l2 x0 x1 x2 x3 x4 x5 x6 0))).2, true))) .bad

noncomputable def ihalve_iCriticalDepth_1 (x0 : Nat) (x1 : Nat) (x2 : Nat) (x3 : Nat) (x4 : Nat) (x5 : Nat) (x6 : Nat) : Option (Nat × Nat × Bool) := (ihalve_iCriticalDepth_1_t x0 x1 x2 x3 x4 x5 x6).sem

noncomputable def iCriticalDepth_t (x0 : Nat) (x1 : Nat) (x2 : Nat) (x3 : Nat) (x4 : Nat) : Tr (Nat × Bool) :=
  .br (osome (iSection_isFlow x0 x1 x2 x3 [x4])) (.br (! (oget (iSection_isFlow x0 x1 x2 x3 [x4]))) (.ok (0, false)) (.br (osome (ihalve_iCriticalDepth_1 0 1148846080 x0 x1 x2 x3 x4)) (.ok (((oget (ihalve_iCriticalDepth_1 0 1148846080 x0 x1 x2 x3 x4)).2).1, ((oget (ihalve_iCriticalDepth_1 0 1148846080 x0 x1 x2 x3 x4)).2).2)) .bad)) .bad

noncomputable def iCriticalDepth (x0 : Nat) (x1 : Nat) (x2 : Nat) (x3 : Nat) (x4 : Nat) : Option (Nat × Bool) := (iCriticalDepth_t x0 x1 x2 x3 x4).sem

noncomputable def iSpeedAt_t (x0 : Nat) (x1 : Nat) (x2 : Nat) (x3 : Nat) (x4 : Nat) (x5 : Nat) : Tr (Nat × Bool) :=
  .br (osome (iAreaAt x0 x1 x2 x3 x4)) (.br (! ((oget (iAreaAt x0 x1 x2 x3 x4)).2)) (.ok (0, false)) (.br (! (isLen x5)) (.ok (0, false)) (.ok ((ifinite32 (fdiv .f32 x5 ((oget (iAreaAt x0 x1 x2 x3 x4)).1))).1, (ifinite32 (fdiv .f32 x5 ((oget (iAreaAt x0 x1 x2 x3 x4)).1))).2)))) .bad

noncomputable def iSpeedAt (x0 : Nat) (x1 : Nat) (x2 : Nat) (x3 : Nat) (x4 : Nat) (x5 : Nat) : Option (Nat × Bool) := (iSpeedAt_t x0 x1 x2 x3 x4 x5).sem

noncomputable def iHeadAt_t (x0 : Nat) (x1 : Nat) (x2 : Nat) (x3 : Nat) (x4 : Nat) (x5 : Nat) : Tr (Nat × Bool) :=
  .br (osome (iSpeedAt x0 x1 x2 x3 x4 x5)) (.br (! ((oget (iSpeedAt x0 x1 x2 x3 x4 x5)).2)) (.ok (0, false)) (.ok ((ifinite32 (fadd .f32 x4 (fdiv .f32 (fmul .f32 ((oget (iSpeedAt x0 x1 x2 x3 x4 x5)).1) ((oget (iSpeedAt x0 x1 x2 x3 x4 x5)).1)) 1100805571))).1, (ifinite32 (fadd .f32 x4 (fdiv .f32 (fmul .f32 ((oget (iSpeedAt x0 x1 x2 x3 x4 x5)).1) ((oget (iSpeedAt x0 x1 x2 x3 x4 x5)).1)) 1100805571))).2))) .bad

noncomputable def iHeadAt (x0 : Nat) (x1 : Nat) (x2 : Nat) (x3 : Nat) (x4 : Nat) (x5 : Nat) : Option (Nat × Bool) := (iHeadAt_t x0 x1 x2 x3 x4 x5).sem

noncomputable def iother_1_iHeadAt_t (x0 : Nat) (x1 : Nat) (x2 : Nat) (x3 : Nat) (x4 : Nat) (x5 : Nat) (x6 : Nat) : Tr (Bool × Bool) :=
  .br (osome (iHeadAt x1 x2 x3 x4 x0 x5)) (.ok (fgt .f32 ((oget (iHeadAt x1 x2 x3 x4 x0 x5)).1) x6, (oget (iHeadAt x1 x2 x3 x4 x0 x5)).2)) .bad

noncomputable def iother_1_iHeadAt (x0 : Nat) (x1 : Nat) (x2 : Nat) (x3 : Nat) (x4 : Nat) (x5 : Nat) (x6 : Nat) : Option (Bool × Bool) := (iother_1_iHeadAt_t x0 x1 x2 x3 x4 x5 x6).sem

noncomputable def ihalve_iother_1_iHeadAt_l2_t (y2 : Nat) (y3 : Nat) (y4 : Nat) (y5 : Nat) (y6 : Nat) (y7 : Nat) (y0 : Nat) (y1 : Nat) (y8 : Int) : Tr ((Nat × Nat × Int) ⊕ ((Nat × Nat) ⊕ (Nat × Nat))) :=
  .br (decide ((y8 : Int) < 40)) (.br (osome (iother_1_iHeadAt (fmul .f32 1056964608 (fadd .f32 y0 y1)) y2 y3 y4 y5 y6 y7)) (.br (! ((oget (iother_1_iHeadAt (fmul .f32 1056964608 (fadd .f32 y0 y1)) y2 y3 y4 y5 y6 y7)).2)) (.ok (.inr (.inl (0, 0)))) (.br ((oget (iother_1_iHeadAt (fmul .f32 1056964608 (fadd .f32 y0 y1)) y2 y3 y4 y5 y6 y7)).1) (.ok (.inl (y0, fmul .f32 1056964608 (fadd .f32 y0 y1), IntKind.wrap .i64 (y8 + 1)))) (.ok (.inl (fmul .f32 1056964608 (fadd .f32 y0 y1), y1, IntKind.wrap .i64 (y8 + 1)))))) .bad) (.ok (.inr (.inr (y0, y1))))

noncomputable def ihalve_iother_1_iHeadAt_l2 (y0 : Nat) (y1 : Nat) (y2 : Nat) (y3 : Nat) (y4 : Nat) (y5 : Nat) (y6 : Nat) (y7 : Nat) (y8 : Int) : Option ((Nat × Nat) ⊕ (Nat × Nat)) := runL (fun s : Nat × Nat × Int => (ihalve_iother_1_iHeadAt_l2_t y2 y3 y4 y5 y6 y7 s.1 s.2.1 s.2.2).sem) (y0, y1, y8)

noncomputable def ihalve_iother_1_iHeadAt_t (x0 : Nat) (x1 : Nat) (x2 : Nat) (x3 : Nat) (x4 : Nat) (x5 : Nat) (x6 : Nat) (x7 : Nat) : Tr (Nat × Nat × Bool) :=
  .br (osome (ihalve_iother_1_iHeadAt_l2 x0 x1 x2 x3 x4 x5 x6 x7 0)) (.br (isL (oget (ihalve_iother_1_iHeadAt_l2 x0 x1 x2 x3 x4 x5 x6 x7 0))) (.ok ((unL (oget (ihalve_iother_1_iHeadAt_l2 x0 x1 x2 x3 x4 x5 x6 x7 0))).1, (unL (oget (ihalve_iother_1_iHeadAt_l2 x0 x1 x2 x3 x4 x5 x6 x7 0))).2, false)) (.ok ((unR (oget (ihalve_iother_1_iHeadAt_l2 x0 x1 x2 x3 x4 x5 x6 x7 0))).1, (unR (oget (ihalve_iother_1_iHeadAt_l2 x0 x1 x2 x3 x4 x5 x6 x7 0))).2, true))) .bad

noncomputable def ihalve_iother_1_iHeadAt (x0 : Nat) (x1 : Nat) (x2 : Nat) (x3 : Nat) (x4 : Nat) (x5 : Nat) (x6 : Nat) (x7 : Nat) : Option (Nat × Nat × Bool) := (ihalve_iother_1_iHeadAt_t x0 x1 x2 x3 x4 x5 x6 x7).sem

noncomputable def iother_2_iHeadAt_t (x0 : Nat) (x1 : Nat) (x2 : Nat) (x3 : Nat) (x4 : Nat) (x5 : Nat) (x6 : Nat) : Tr (Bool × Bool) :=
  .br (osome (iHeadAt x1 x2 x3 x4 x0 x5)) (.ok (flt .f32 ((oget (iHeadAt x1 x2 x3 x4 x0 x5)).1) x6, (oget (iHeadAt x1 x2 x3 x4 x0 x5)).2)) .bad

noncomputable def iother_2_iHeadAt (x0 : Nat) (x1 : Nat) (x2 : Nat) (x3 : Nat) (x4 : Nat) (x5 : Nat) (x6 : Nat) : Option (Bool × Bool) := (iother_2_iHeadAt_t x0 x1 x2 x3 x4 x5 x6).sem

noncomputable def ihalve_iother_2_iHeadAt_l2_t (y2 : Nat) (y3 : Nat) (y4 : Nat) (y5 : Nat) (y6 : Nat) (y7 : Nat) (y0 : Nat) (y1 : Nat) (y8 : Int) : Tr ((Nat × Nat × Int) ⊕ ((Nat × Nat) ⊕ (Nat × Nat))) :=
  .br (decide ((y8 : Int) < 40)) (.br (osome (iother_2_iHeadAt (fmul .f32 1056964608 (fadd .f32 y0 y1)) y2 y3 y4 y5 y6 y7)) (.br (! ((oget (iother_2_iHeadAt (fmul .f32 1056964608 (fadd .f32 y0 y1)) y2 y3 y4 y5 y6 y7)).2)) (.ok (.inr (.inl (0, 0)))) (.br ((oget (iother_2_iHeadAt (fmul .f32 1056964608 (fadd .f32 y0 y1)) y2 y3 y4 y5 y6 y7)).1) (.ok (.inl (y0, fmul .f32 1056964608 (fadd .f32 y0 y1), IntKind.wrap .i64 (y8 + 1)))) (.ok (.inl (fmul .f32 1056964608 (fadd .f32 y0 y1), y1, IntKind.wrap .i64 (y8 + 1)))))) .bad) (.ok (.inr (.inr (y0, y1))))

noncomputable def ihalve_iother_2_iHeadAt_l2 (y0 : Nat) (y1 : Nat) (y2 : Nat) (y3 : Nat) (y4 : Nat) (y5 : Nat) (y6 : Nat) (y7 : Nat) (y8 : Int) : Option ((Nat × Nat) ⊕ (Nat × Nat)) := runL (fun s : Nat × Nat × Int => (ihalve_iother_2_iHeadAt_l2_t y2 y3 y4 y5 y6 y7 s.1 s.2.1 s.2.2).sem) (y0, y1, y8)

noncomputable def ihalve_iother_2_iHeadAt_t (x0 : Nat) (x1 : Nat) (x2 : Nat) (x3 : Nat) (x4 : Nat) (x5 : Nat) (x6 : Nat) (x7 : Nat) : Tr (Nat × Nat × Bool) :=
  .br (osome (ihalve_iother_2_iHeadAt_l2 x0 x1 x2 x3 x4 x5 x6 x7 0)) (.br (isL (oget (ihalve_iother_2_iHeadAt_l2 x0 x1 x2 x3 x4 x5 x6 x7 0))) (.ok ((unL (oget (ihalve_iother_2_iHeadAt_l2 x0 x1 x2 x3 x4 x5 x6 x7 0))).1, (unL (oget (ihalve_iother_2_iHeadAt_l2 x0 x1 x2 x3 x4 x5 x6 x7 0))).2, false)) (.ok ((unR (oget (ihalve_iother_2_iHeadAt_l2 x0 x1 x2 x3 x4 x5 x6 x7 0))).1, (unR (oget (ihalve_iother_2_iHeadAt_l2 x0 x1 x2 x3 x4 x5 x6 x7 0))).2, true))) .bad

noncomputable def ihalve_iother_2_iHeadAt (x0 : Nat) (x1 : Nat) (x2 : Nat) (x3 : Nat) (x4 : Nat) (x5 : Nat) (x6 : Nat) (x7 : Nat) : Option (Nat × Nat × Bool) := (ihalve_iother_2_iHeadAt_t x0 x1 x2 x3 x4 x5 x6 x7).sem

noncomputable def iother_iHeadAt_t (x0 : Nat) (x1 : Nat) (x2 : Nat) (x3 : Nat) (x4 : Nat) (x5 : Nat) : Tr (Nat × Bool) :=
  .br (osome (iCriticalDepth x0 x1 x2 x3 x5)) (.br (osome (iHeadAt x0 x1 x2 x3 x4 x5)) (.br (! ((oget (iCriticalDepth x0 x1 x2 x3 x5)).2)) (.ok (0, false)) (.br (! ((oget (iHeadAt x0 x1 x2 x3 x4 x5)).2)) (.ok (0, false)) (.br (flt .f32 x4 ((oget (iCriticalDepth x0 x1 x2 x3 x5)).1)) (.br (osome (ihalve_iother_1_iHeadAt ((oget (iCriticalDepth x0 x1 x2 x3 x5)).1) 1148846080 x0 x1 x2 x3 x5 ((oget (iHeadAt x0 x1 x2 x3 x4 x5)).1))) (.ok ((oget (ihalve_iother_1_iHeadAt ((oget (iCriticalDepth x0 x1 x2 x3 x5)).1) 1148846080 x0 x1 x2 x3 x5 ((oget (iHeadAt x0 x1 x2 x3 x4 x5)).1))).1, ((oget (ihalve_iother_1_iHeadAt ((oget (iCriticalDepth x0 x1 x2 x3 x5)).1) 1148846080 x0 x1 x2 x3 x5 ((oget (iHeadAt x0 x1 x2 x3 x4 x5)).1))).2).2)) .bad) (.br (osome (ihalve_iother_2_iHeadAt 981668463 ((oget (iCriticalDepth x0 x1 x2 x3 x5)).1) x0 x1 x2 x3 x5 ((oget (iHeadAt x0 x1 x2 x3 x4 x5)).1))) (.ok (((oget (ihalve_iother_2_iHeadAt 981668463 ((oget (iCriticalDepth x0 x1 x2 x3 x5)).1) x0 x1 x2 x3 x5 ((oget (iHeadAt x0 x1 x2 x3 x4 x5)).1))).2).1, ((oget (ihalve_iother_2_iHeadAt 981668463 ((oget (iCriticalDepth x0 x1 x2 x3 x5)).1) x0 x1 x2 x3 x5 ((oget (iHeadAt x0 x1 x2 x3 x4 x5)).1))).2).2)) .bad)))) .bad) .bad

noncomputable def iother_iHeadAt (x0 : Nat) (x1 : Nat) (x2 : Nat) (x3 : Nat) (x4 : Nat) (x5 : Nat) : Option (Nat × Bool) := (iother_iHeadAt_t x0 x1 x2 x3 x4 x5).sem

noncomputable def iOtherDepth_t (x0 : Nat) (x1 : Nat) (x2 : Nat) (x3 : Nat) (x4 : Nat) (x5 : Nat) : Tr (Nat × Bool) :=
  .br (osome (iother_iHeadAt x0 x1 x2 x3 x4 x5)) (.ok ((oget (iother_iHeadAt x0 x1 x2 x3 x4 x5)).1, (oget (iother_iHeadAt x0 x1 x2 x3 x4 x5)).2)) .bad

noncomputable def iOtherDepth (x0 : Nat) (x1 : Nat) (x2 : Nat) (x3 : Nat) (x4 : Nat) (x5 : Nat) : Option (Nat × Bool) := (iOtherDepth_t x0 x1 x2 x3 x4 x5).sem

noncomputable def wFnExactOtherDepth_t (x0 : Nat) (x1 : Nat) (x2 : Nat) (x3 : Nat) (x4 : Nat) (x5 : Nat) : Tr (Bool) :=
  .br (osome (sOtherDepth ((wtoSection x0 x1 x2 x3).1) (((wtoSection x0 x1 x2 x3).2).1) ((((wtoSection x0 x1 x2 x3).2).2).1) ((((wtoSection x0 x1 x2 x3).2).2).2) x4 x5)) (.br (osome (iOtherDepth ((wtoSection x0 x1 x2 x3).1) (((wtoSection x0 x1 x2 x3).2).1) ((((wtoSection x0 x1 x2 x3).2).2).1) ((((wtoSection x0 x1 x2 x3).2).2).2) x4 x5)) (.br (natEq (fup ((oget (iOtherDepth ((wtoSection x0 x1 x2 x3).1) (((wtoSection x0 x1 x2 x3).2).1) ((((wtoSection x0 x1 x2 x3).2).2).1) ((((wtoSection x0 x1 x2 x3).2).2).2) x4 x5)).1)) (fup ((oget (sOtherDepth ((wtoSection x0 x1 x2 x3).1) (((wtoSection x0 x1 x2 x3).2).1) ((((wtoSection x0 x1 x2 x3).2).2).1) ((((wtoSection x0 x1 x2 x3).2).2).2) x4 x5)).1))) (.br (! (((oget (iOtherDepth ((wtoSection x0 x1 x2 x3).1) (((wtoSection x0 x1 x2 x3).2).1) ((((wtoSection x0 x1 x2 x3).2).2).1) ((((wtoSection x0 x1 x2 x3).2).2).2) x4 x5)).2) == ((oget (sOtherDepth ((wtoSection x0 x1 x2 x3).1) (((wtoSection x0 x1 x2 x3).2).1) ((((wtoSection x0 x1 x2 x3).2).2).1) ((((wtoSection x0 x1 x2 x3).2).2).2) x4 x5)).2))) (.ok false) (.ok true)) .bad) .bad) .bad

noncomputable def wFnExactOtherDepth (x0 : Nat) (x1 : Nat) (x2 : Nat) (x3 : Nat) (x4 : Nat) (x5 : Nat) : Option (Bool) := (wFnExactOtherDepth_t x0 x1 x2 x3 x4 x5).sem

noncomputable def sJumpDepth_t (x0 : Nat) (x1 : Nat) (x2 : Nat) (x3 : Nat) (x4 : Nat) (x5 : Nat) : Tr (Nat × Bool) :=
  .br (! (sl04Both x0 x1 x2 x3 x4 x5)) (.ok (0, false)) (.br (osome (sl04Other x0 x1 x2 x3 x4 x5 true)) (.ok ((oget (sl04Other x0 x1 x2 x3 x4 x5 true)).1, (oget (sl04Other x0 x1 x2 x3 x4 x5 true)).2)) .bad)

noncomputable def sJumpDepth (x0 : Nat) (x1 : Nat) (x2 : Nat) (x3 : Nat) (x4 : Nat) (x5 : Nat) : Option (Nat × Bool) := (sJumpDepth_t x0 x1 x2 x3 x4 x5).sem

noncomputable def iPushAt_t (x0 : Nat) (x1 : Nat) (x2 : Nat) (x3 : Nat) (x4 : Nat) (x5 : Nat) : Tr (Nat × Bool) :=
  .br (osome (iSpeedAt x0 x1 x2 x3 x4 x5)) (.br (! ((oget (iSpeedAt x0 x1 x2 x3 x4 x5)).2)) (.ok (0, false)) (.ok ((ifinite32 (fadd .f32 (fmul .f32 1092416963 (fmul .f32 (fmul .f32 x4 x4) (fadd .f32 (fdiv .f32 x0 1073741824) (fdiv .f32 (fmul .f32 x1 x4) 1077936128)))) (fmul .f32 x5 ((oget (iSpeedAt x0 x1 x2 x3 x4 x5)).1)))).1, (ifinite32 (fadd .f32 (fmul .f32 1092416963 (fmul .f32 (fmul .f32 x4 x4) (fadd .f32 (fdiv .f32 x0 1073741824) (fdiv .f32 (fmul .f32 x1 x4) 1077936128)))) (fmul .f32 x5 ((oget (iSpeedAt x0 x1 x2 x3 x4 x5)).1)))).2))) .bad

noncomputable def iPushAt (x0 : Nat) (x1 : Nat) (x2 : Nat) (x3 : Nat) (x4 : Nat) (x5 : Nat) : Option (Nat × Bool) := (iPushAt_t x0 x1 x2 x3 x4 x5).sem

noncomputable def iother_1_iPushAt_t (x0 : Nat) (x1 : Nat) (x2 : Nat) (x3 : Nat) (x4 : Nat) (x5 : Nat) (x6 : Nat) : Tr (Bool × Bool) :=
  .br (osome (iPushAt x1 x2 x3 x4 x0 x5)) (.ok (fgt .f32 ((oget (iPushAt x1 x2 x3 x4 x0 x5)).1) x6, (oget (iPushAt x1 x2 x3 x4 x0 x5)).2)) .bad

noncomputable def iother_1_iPushAt (x0 : Nat) (x1 : Nat) (x2 : Nat) (x3 : Nat) (x4 : Nat) (x5 : Nat) (x6 : Nat) : Option (Bool × Bool) := (iother_1_iPushAt_t x0 x1 x2 x3 x4 x5 x6).sem

noncomputable def ihalve_iother_1_iPushAt_l2_t (y2 : Nat) (y3 : Nat) (y4 : Nat) (y5 : Nat) (y6 : Nat) (y7 : Nat) (y0 : Nat) (y1 : Nat) (y8 : Int) : Tr ((Nat × Nat × Int) ⊕ ((Nat × Nat) ⊕ (Nat × Nat))) :=
  .br (decide ((y8 : Int) < 40)) (.br (osome (iother_1_iPushAt (fmul .f32 1056964608 (fadd .f32 y0 y1)) y2 y3 y4 y5 y6 y7)) (.br (! ((oget (iother_1_iPushAt (fmul .f32 1056964608 (fadd .f32 y0 y1)) y2 y3 y4 y5 y6 y7)).2)) (.ok (.inr (.inl (0, 0)))) (.br ((oget (iother_1_iPushAt (fmul .f32 1056964608 (fadd .f32 y0 y1)) y2 y3 y4 y5 y6 y7)).1) (.ok (.inl (y0, fmul .f32 1056964608 (fadd .f32 y0 y1), IntKind.wrap .i64 (y8 + 1)))) (.ok (.inl (fmul .f32 1056964608 (fadd .f32 y0 y1), y1, IntKind.wrap .i64 (y8 + 1)))))) .bad) (.ok (.inr (.inr (y0, y1))))

noncomputable def ihalve_iother_1_iPushAt_l2 (y0 : Nat) (y1 : Nat) (y2 : Nat) (y3 : Nat) (y4 : Nat) (y5 : Nat) (y6 : Nat) (y7 : Nat) (y8 : Int) : Option ((Nat × Nat) ⊕ (Nat × Nat)) := runL (fun s : Nat × Nat × Int => (ihalve_iother_1_iPushAt_l2_t y2 y3 y4 y5 y6 y7 s.1 s.2.1 s.2.2).sem) (y0, y1, y8)

noncomputable def ihalve_iother_1_iPushAt_t (x0 : Nat) (x1 : Nat) (x2 : Nat) (x3 : Nat) (x4 : Nat) (x5 : Nat) (x6 : Nat) (x7 : Nat) : Tr (Nat × Nat × Bool) :=
  .br (osome (ihalve_iother_1_iPushAt_l2 x0 x1 x2 x3 x4 x5 x6 x7 0)) (.br (isL (oget (ihalve_iother_1_iPushAt_l2 x0 x1 x2 x3 x4 x5 x6 x7 0))) (.ok ((unL (oget (ihalve_iother_1_iPushAt_l2 x0 x1 x2 x3 x4 x5 x6 x7 0))).1, (unL (oget (ihalve_iother_1_iPushAt_l2 x0 x1 x2 x3 x4 x5 x6 x7 0))).2, false)) (.ok ((unR (oget (ihalve_iother_1_iPushAt_l2 x0 x1 x2 x3 x4 x5 x6 x7 0))).1, (unR (oget (ihalve_iother_1_iPushAt_l2 x0 x1 x2 x3 x4 x5 x6 x7 0))).2, true))) .bad

noncomputable def ihalve_iother_1_iPushAt (x0 : Nat) (x1 : Nat) (x2 : Nat) (x3 : Nat) (x4 : Nat) (x5 : Nat) (x6 : Nat) (x7 : Nat) : Option (Nat × Nat × Bool) := (ihalve_iother_1_iPushAt_t x0 x1 x2 x3 x4 x5 x6 x7).sem

noncomputable def iother_2_iPushAt_t (x0 : Nat) (x1 : Nat) (x2 : Nat) (x3 : Nat) (x4 : Nat) (x5 : Nat) (x6 : Nat) : Tr (Bool × Bool) :=
  .br (osome (iPushAt x1 x2 x3 x4 x0 x5)) (.ok (flt .f32 ((oget (iPushAt x1 x2 x3 x4 x0 x5)).1) x6, (oget (iPushAt x1 x2 x3 x4 x0 x5)).2)) .bad

noncomputable def iother_2_iPushAt (x0 : Nat) (x1 : Nat) (x2 : Nat) (x3 : Nat) (x4 : Nat) (x5 : Nat) (x6 : Nat) : Option (Bool × Bool) := (iother_2_iPushAt_t x0 x1 x2 x3 x4 x5 x6).sem

noncomputable def ihalve_iother_2_iPushAt_l2_t (y2 : Nat) (y3 : Nat) (y4 : Nat) (y5 : Nat) (y6 : Nat) (y7 : Nat) (y0 : Nat) (y1 : Nat) (y8 : Int) : Tr ((Nat × Nat × Int) ⊕ ((Nat × Nat) ⊕ (Nat × Nat))) :=
  .br (decide ((y8 : Int) < 40)) (.br (osome (iother_2_iPushAt (fmul .f32 1056964608 (fadd .f32 y0 y1)) y2 y3 y4 y5 y6 y7)) (.br (! ((oget (iother_2_iPushAt (fmul .f32 1056964608 (fadd .f32 y0 y1)) y2 y3 y4 y5 y6 y7)).2)) (.ok (.inr (.inl (0, 0)))) (.br ((oget (iother_2_iPushAt (fmul .f32 1056964608 (fadd .f32 y0 y1)) y2 y3 y4 y5 y6 y7)).1) (.ok (.inl (y0, fmul .f32 1056964608 (fadd .f32 y0 y1), IntKind.wrap .i64 (y8 + 1)))) (.ok (.inl (fmul .f32 1056964608 (fadd .f32 y0 y1), y1, IntKind.wrap .i64 (y8 + 1)))))) .bad) (.ok (.inr (.inr (y0, y1))))

noncomputable def ihalve_iother_2_iPushAt_l2 (y0 : Nat) (y1 : Nat) (y2 : Nat) (y3 : Nat) (y4 : Nat) (y5 : Nat) (y6 : Nat) (y7 : Nat) (y8 : Int) : Option ((Nat × Nat) ⊕ (Nat × Nat)) := runL (fun s : Nat × Nat × Int => (ihalve_iother_2_iPushAt_l2_t y2 y3 y4 y5 y6 y7 s.1 s.2.1 s.2.2).sem) (y0, y1, y8)

noncomputable def ihalve_iother_2_iPushAt_t (x0 : Nat) (x1 : Nat) (x2 : Nat) (x3 : Nat) (x4 : Nat) (x5 : Nat) (x6 : Nat) (x7 : Nat) : Tr (Nat × Nat × Bool) :=
  .br (osome (ihalve_iother_2_iPushAt_l2 x0 x1 x2 x3 x4 x5 x6 x7 0)) (.br (isL (oget (ihalve_iother_2_iPushAt_l2 x0 x1 x2 x3 x4 x5 x6 x7 0))) (.ok ((unL (oget (ihalve_iother_2_iPushAt_l2 x0 x1 x2 x3 x4 x5 x6 x7 0))).1, (unL (oget (ihalve_iother_2_iPushAt_l2 x0 x1 x2 x3 x4 x5 x6 x7 0))).2, false)) (.ok ((unR (oget (ihalve_iother_2_iPushAt_l2 x0 x1 x2 x3 x4 x5 x6 x7 0))).1, (unR (oget (ihalve_iother_2_iPushAt_l2 x0 x1 x2 x3 x4 x5 x6 x7 0))).2, true))) .bad

noncomputable def ihalve_iother_2_iPushAt (x0 : Nat) (x1 : Nat) (x2 : Nat) (x3 : Nat) (x4 : Nat) (x5 : Nat) (x6 : Nat) (x7 : Nat) : Option (Nat × Nat × Bool) := (ihalve_iother_2_iPushAt_t x0 x1 x2 x3 x4 x5 x6 x7).sem

noncomputable def iother_iPushAt_t (x0 : Nat) (x1 : Nat) (x2 : Nat) (x3 : Nat) (x4 : Nat) (x5 : Nat) : Tr (Nat × Bool) :=
  .br (osome (iCriticalDepth x0 x1 x2 x3 x5)) (.br (osome (iPushAt x0 x1 x2 x3 x4 x5)) (.br (! ((oget (iCriticalDepth x0 x1 x2 x3 x5)).2)) (.ok (0, false)) (.br (! ((oget (iPushAt x0 x1 x2 x3 x4 x5)).2)) (.ok (0, false)) (.br (flt .f32 x4 ((oget (iCriticalDepth x0 x1 x2 x3 x5)).1)) (.br (osome (ihalve_iother_1_iPushAt ((oget (iCriticalDepth x0 x1 x2 x3 x5)).1) 1148846080 x0 x1 x2 x3 x5 ((oget (iPushAt x0 x1 x2 x3 x4 x5)).1))) (.ok ((oget (ihalve_iother_1_iPushAt ((oget (iCriticalDepth x0 x1 x2 x3 x5)).1) 1148846080 x0 x1 x2 x3 x5 ((oget (iPushAt x0 x1 x2 x3 x4 x5)).1))).1, ((oget (ihalve_iother_1_iPushAt ((oget (iCriticalDepth x0 x1 x2 x3 x5)).1) 1148846080 x0 x1 x2 x3 x5 ((oget (iPushAt x0 x1 x2 x3 x4 x5)).1))).2).2)) .bad) (.br (osome (ihalve_iother_2_iPushAt 981668463 ((oget (iCriticalDepth x0 x1 x2 x3 x5)).1) x0 x1 x2 x3 x5 ((oget (iPushAt x0 x1 x2 x3 x4 x5)).1))) (.ok (((oget (ihalve_iother_2_iPushAt 981668463 ((oget (iCriticalDepth x0 x1 x2 x3 x5)).1) x0 x1 x2 x3 x5 ((oget (iPushAt x0 x1 x2 x3 x4 x5)).1))).2).1, ((oget (ihalve_iother_2_iPushAt 981668463 ((oget (iCriticalDepth x0 x1 x2 x3 x5)).1) x0 x1 x2 x3 x5 ((oget (iPushAt x0 x1 x2 x3 x4 x5)).1))).2).2)) .bad)))) .bad) .bad

noncomputable def iother_iPushAt (x0 : Nat) (x1 : Nat) (x2 : Nat) (x3 : Nat) (x4 : Nat) (x5 : Nat) : Option (Nat × Bool) := (iother_iPushAt_t x0 x1 x2 x3 x4 x5).sem

noncomputable def iJumpDepth_t (x0 : Nat) (x1 : Nat) (x2 : Nat) (x3 : Nat) (x4 : Nat) (x5 : Nat) : Tr (Nat × Bool) :=
  .br (osome (iother_iPushAt x0 x1 x2 x3 x4 x5)) (.ok ((oget (iother_iPushAt x0 x1 x2 x3 x4 x5)).1, (oget (iother_iPushAt x0 x1 x2 x3 x4 x5)).2)) .bad

noncomputable def iJumpDepth (x0 : Nat) (x1 : Nat) (x2 : Nat) (x3 : Nat) (x4 : Nat) (x5 : Nat) : Option (Nat × Bool) := (iJumpDepth_t x0 x1 x2 x3 x4 x5).sem

noncomputable def wFnExactJumpDepth_t (x0 : Nat) (x1 : Nat) (x2 : Nat) (x3 : Nat) (x4 : Nat) (x5 : Nat) : Tr (Bool) :=
  .br (osome (sJumpDepth ((wtoSection x0 x1 x2 x3).1) (((wtoSection x0 x1 x2 x3).2).1) ((((wtoSection x0 x1 x2 x3).2).2).1) ((((wtoSection x0 x1 x2 x3).2).2).2) x4 x5)) (.br (osome (iJumpDepth ((wtoSection x0 x1 x2 x3).1) (((wtoSection x0 x1 x2 x3).2).1) ((((wtoSection x0 x1 x2 x3).2).2).1) ((((wtoSection x0 x1 x2 x3).2).2).2) x4 x5)) (.br (natEq (fup ((oget (iJumpDepth ((wtoSection x0 x1 x2 x3).1) (((wtoSection x0 x1 x2 x3).2).1) ((((wtoSection x0 x1 x2 x3).2).2).1) ((((wtoSection x0 x1 x2 x3).2).2).2) x4 x5)).1)) (fup ((oget (sJumpDepth ((wtoSection x0 x1 x2 x3).1) (((wtoSection x0 x1 x2 x3).2).1) ((((wtoSection x0 x1 x2 x3).2).2).1) ((((wtoSection x0 x1 x2 x3).2).2).2) x4 x5)).1))) (.br (! (((oget (iJumpDepth ((wtoSection x0 x1 x2 x3).1) (((wtoSection x0 x1 x2 x3).2).1) ((((wtoSection x0 x1 x2 x3).2).2).1) ((((wtoSection x0 x1 x2 x3).2).2).2) x4 x5)).2) == ((oget (sJumpDepth ((wtoSection x0 x1 x2 x3).1) (((wtoSection x0 x1 x2 x3).2).1) ((((wtoSection x0 x1 x2 x3).2).2).1) ((((wtoSection x0 x1 x2 x3).2).2).2) x4 x5)).2))) (.ok false) (.ok true)) .bad) .bad) .bad

noncomputable def wFnExactJumpDepth (x0 : Nat) (x1 : Nat) (x2 : Nat) (x3 : Nat) (x4 : Nat) (x5 : Nat) : Option (Bool) := (wFnExactJumpDepth_t x0 x1 x2 x3 x4 x5).sem
end Go.Proofs.Ytlhfpjpgglfcfaa
