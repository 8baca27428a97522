/- Functions, as plain functions. Plain functions. -/
import Derived.Test.YtikmeahdcipanaaDa
set_option linter.unusedVariables false
set_option linter.unusedSimpArgs false
set_option linter.constructorNameAsVariable false
namespace Go.Proofs.Ytikmeahdcipanaa
open Go.RowKit
set_option maxRecDepth 100000
noncomputable def wszFloat32S_t (x0 : List Nat) (x1 : Int) : Tr (Int) :=
  .br (decide ((IntKind.wrap .i64 (x1 - (((List.length x0 : Nat) : Int))) : Int) < 0)) (.ok (-1)) (.ok (IntKind.wrap .i64 (x1 - (((List.length x0 : Nat) : Int)))))

noncomputable def wszFloat32S (x0 : List Nat) (x1 : Int) : Int := (wszFloat32S_t x0 x1).val

noncomputable def wszLake_t (x0 : List Nat) (x1 : List Nat) (x2 : Int) : Tr (Int) :=
  .br (decide ((wszFloat32S x0 x2 : Int) < 0)) (.ok (-1)) (.br (decide ((wszFloat32S x1 (wszFloat32S x0 x2) : Int) < 0)) (.ok (-1)) (.ok (wszFloat32S x1 (wszFloat32S x0 x2))))

noncomputable def wszLake (x0 : List Nat) (x1 : List Nat) (x2 : Int) : Int := (wszLake_t x0 x1 x2).val

noncomputable def wtoFloat32S_l3_t (y0 : List Nat) (y1 : Int) (y2 : List Nat) : Tr ((Int × List Nat) ⊕ (List Nat)) :=
  .br (decide ((y1 : Int) < (((List.length y0 : Nat) : Int)))) (.br (decide (0 ≤ (y1 : Int)) && decide ((y1 : Int) < ((List.length y0 : Nat) : Int))) (.br (decide (0 ≤ (y1 : Int)) && decide ((y1 : Int) < ((List.length y2 : Nat) : Int))) (.ok (.inl (IntKind.wrap .i64 (y1 + 1), List.set y2 (Int.toNat y1) (List.getD y0 (Int.toNat y1) 0)))) .bad) .bad) (.ok (.inr y2))

noncomputable def wtoFloat32S_l3 (y0 : List Nat) (y1 : Int) (y2 : List Nat) : Option (List Nat) := runL (fun s : Int × List Nat => (wtoFloat32S_l3_t y0 s.1 s.2).sem) (y1, y2)

noncomputable def wtoFloat32S_t (x0 : List Nat) : Tr (List Nat) :=
  .br (decide ((((List.length x0 : Nat) : Int) : Int) = (((List.length x0 : Nat) : Int))) && decide (0 ≤ (((List.length x0 : Nat) : Int) : Int)) && decide ((((List.length x0 : Nat) : Int) : Int) * ((4 : Nat) : Int) ≤ 140737488355328)) (.br (osome (wtoFloat32S_l3 x0 0 (List.replicate (Int.toNat (((List.length x0 : Nat) : Int))) 0))) (.ok (oget (wtoFloat32S_l3 x0 0 (List.replicate (Int.toNat (((List.length x0 : Nat) : Int))) 0)))) .bad) .bad

noncomputable def wtoFloat32S (x0 : List Nat) : Option (List Nat) := (wtoFloat32S_t x0).sem

noncomputable def wtoLake_t (x0 : List Nat) (x1 : List Nat) : Tr (List Nat × List Nat) :=
  .br (osome (wtoFloat32S x0)) (.br (osome (wtoFloat32S x1)) (.ok (oget (wtoFloat32S x0), oget (wtoFloat32S x1))) .bad) .bad

noncomputable def wtoLake (x0 : List Nat) (x1 : List Nat) : Option (List Nat × List Nat) := (wtoLake_t x0 x1).sem

noncomputable def sl05Lake_l5_t (y0 : List Nat) (y1 : List Nat) (y2 : Int) (y3 : Int) : Tr (Int ⊕ (Unit ⊕ Unit)) :=
  .br (decide ((y3 : Int) < y2)) (.br (decide (0 ≤ (y3 : Int)) && decide ((y3 : Int) < ((List.length y0 : Nat) : Int))) (.br (! (isMass (List.getD y0 (Int.toNat y3) 0))) (.ok (.inr (.inl ()))) (.br (decide (0 ≤ (y3 : Int)) && decide ((y3 : Int) < ((List.length y1 : Nat) : Int))) (.br (! (isMass (List.getD y1 (Int.toNat y3) 0))) (.ok (.inr (.inl ()))) (.br (decide ((y3 : Int) > 0)) (.br (decide (0 ≤ (y3 : Int)) && decide ((y3 : Int) < ((List.length y0 : Nat) : Int))) (.br (decide (0 ≤ (IntKind.wrap .i64 (y3 - 1) : Int)) && decide ((IntKind.wrap .i64 (y3 - 1) : Int) < ((List.length y0 : Nat) : Int))) (.br (fle .f32 (List.getD y0 (Int.toNat y3) 0) (List.getD y0 (Int.toNat (IntKind.wrap .i64 (y3 - 1))) 0)) (.ok (.inr (.inl ()))) (.br (decide (0 ≤ (y3 : Int)) && decide ((y3 : Int) < ((List.length y1 : Nat) : Int))) (.br (decide (0 ≤ (IntKind.wrap .i64 (y3 - 1) : Int)) && decide ((IntKind.wrap .i64 (y3 - 1) : Int) < ((List.length y1 : Nat) : Int))) (.br (flt .f32 (List.getD y1 (Int.toNat y3) 0) (List.getD y1 (Int.toNat (IntKind.wrap .i64 (y3 - 1))) 0)) (.ok (.inr (.inl ()))) (.ok (.inl (IntKind.wrap .i64 (y3 + 1))))) .bad) .bad)) .bad) .bad) (.ok (.inl (IntKind.wrap .i64 (y3 + 1)))))) .bad)) .bad) (.ok (.inr (.inr ())))

noncomputable def sl05Lake_l5 (y0 : List Nat) (y1 : List Nat) (y2 : Int) (y3 : Int) : Option (Unit ⊕ Unit) := runL (fun s : Int => (sl05Lake_l5_t y0 y1 y2 s).sem) y3

noncomputable def sl05Lake_t (x0 : List Nat) (x1 : List Nat) : Tr (Bool) :=
  .br (decide ((((List.length x0 : Nat) : Int) : Int) < 2)) (.ok false) (.br (decide ((((List.length x0 : Nat) : Int) : Int) > 16)) (.ok false) (.br ((((List.length x1 : Nat) : Int) : Int) != (((List.length x0 : Nat) : Int))) (.ok false) (.br (osome (sl05Lake_l5 x0 x1 (((List.length x0 : Nat) : Int)) 0)) (.br (isL (oget (sl05Lake_l5 x0 x1 (((List.length x0 : Nat) : Int)) 0))) (.ok false) (.ok true)) .bad)))

noncomputable def sl05Lake (x0 : List Nat) (x1 : List Nat) : Option (Bool) := (sl05Lake_t x0 x1).sem

noncomputable def sl05Out_l7_t (y0 : List Nat) (y1 : List Nat) (y2 : Nat) (y3 : Int) : Tr (Int ⊕ (List Nat × List Nat × Nat × Int)) :=
  .br (decide (0 ≤ (y3 : Int)) && decide ((y3 : Int) < ((List.length y0 : Nat) : Int))) (.br (flt .f32 (List.getD y0 (Int.toNat y3) 0) y2) (.ok (.inl (IntKind.wrap .i64 (y3 + 1)))) (.ok (.inr (y0, y1, y2, y3)))) .bad

noncomputable def sl05Out_l7 (y0 : List Nat) (y1 : List Nat) (y2 : Nat) (y3 : Int) : Option (List Nat × List Nat × Nat × Int) := runL (fun s : Int => (sl05Out_l7_t y0 y1 y2 s).sem) y3

noncomputable def sl05Out_t (x0 : List Nat) (x1 : List Nat) (x2 : Nat) : Tr (Nat) :=
  .br (decide (0 ≤ (0 : Int)) && decide ((0 : Int) < ((List.length x0 : Nat) : Int))) (.br (fle .f32 x2 (List.getD x0 (Int.toNat 0) 0)) (.br (decide (0 ≤ (0 : Int)) && decide ((0 : Int) < ((List.length x1 : Nat) : Int))) (.ok (List.getD x1 (Int.toNat 0) 0)) .bad) (.br (decide (0 ≤ (IntKind.wrap .i64 ((((List.length x0 : Nat) : Int)) - 1) : Int)) && decide ((IntKind.wrap .i64 ((((List.length x0 : Nat) : Int)) - 1) : Int) < ((List.length x0 : Nat) : Int))) (.br (fge .f32 x2 (List.getD x0 (Int.toNat (IntKind.wrap .i64 ((((List.length x0 : Nat) : Int)) - 1))) 0)) (.br (decide (0 ≤ (IntKind.wrap .i64 ((((List.length x0 : Nat) : Int)) - 1) : Int)) && decide ((IntKind.wrap .i64 ((((List.length x0 : Nat) : Int)) - 1) : Int) < ((List.length x1 : Nat) : Int))) (.ok (List.getD x1 (Int.toNat (IntKind.wrap .i64 ((((List.length x0 : Nat) : Int)) - 1))) 0)) .bad) (.br (osome (sl05Out_l7 x0 x1 x2 1)) (.br (decide (0 ≤ (IntKind.wrap .i64 (((((oget (sl05Out_l7 x0 x1 x2 1)).2).2).2) - 1) : Int)) && decide ((IntKind.wrap .i64 (((((oget (sl05Out_l7 x0 x1 x2 1)).2).2).2) - 1) : Int) < ((List.length ((oget (sl05Out_l7 x0 x1 x2 1)).1) : Nat) : Int))) (.br (decide (0 ≤ ((((oget (sl05Out_l7 x0 x1 x2 1)).2).2).2 : Int)) && decide (((((oget (sl05Out_l7 x0 x1 x2 1)).2).2).2 : Int) < ((List.length ((oget (sl05Out_l7 x0 x1 x2 1)).1) : Nat) : Int))) (.br (decide (0 ≤ (IntKind.wrap .i64 (((((oget (sl05Out_l7 x0 x1 x2 1)).2).2).2) - 1) : Int)) && decide ((IntKind.wrap .i64 (((((oget (sl05Out_l7 x0 x1 x2 1)).2).2).2) - 1) : Int) < ((List.length ((oget (sl05Out_l7 x0 x1 x2 1)).1) : Nat) : Int))) (.br (decide (0 ≤ (IntKind.wrap .i64 (((((oget (sl05Out_l7 x0 x1 x2 1)).2).2).2) - 1) : Int)) && decide ((IntKind.wrap .i64 (((((oget (sl05Out_l7 x0 x1 x2 1)).2).2).2) - 1) : Int) < ((List.length (((oget (sl05Out_l7 x0 x1 x2 1)).2).1) : Nat) : Int))) (.br (decide (0 ≤ ((((oget (sl05Out_l7 x0 x1 x2 1)).2).2).2 : Int)) && decide (((((oget (sl05Out_l7 x0 x1 x2 1)).2).2).2 : Int) < ((List.length (((oget (sl05Out_l7 x0 x1 x2 1)).2).1) : Nat) : Int))) (.br (decide (0 ≤ (IntKind.wrap .i64 (((((oget (sl05Out_l7 x0 x1 x2 1)).2).2).2) - 1) : Int)) && decide ((IntKind.wrap .i64 (((((oget (sl05Out_l7 x0 x1 x2 1)).2).2).2) - 1) : Int) < ((List.length (((oget (sl05Out_l7 x0 x1 x2 1)).2).1) : Nat) : Int))) (.ok (fadd .f32 (List.getD (((oget (sl05Out_l7 x0 x1 x2 1)).2).1) (Int.toNat (IntKind.wrap .i64 (((((oget (sl05Out_l7 x0 x1 x2 1)).2).2).2) - 1))) 0) (fmul .f32 (fdiv .f32 (fsub .f32 ((((oget (sl05Out_l7 x0 x1 x2 1)).2).2).1) (List.getD ((oget (sl05Out_l7 x0 x1 x2 1)).1) (Int.toNat (IntKind.wrap .i64 (((((oget (sl05Out_l7 x0 x1 x2 1)).2).2).2) - 1))) 0)) (fsub .f32 (List.getD ((oget (sl05Out_l7 x0 x1 x2 1)).1) (Int.toNat ((((oget (sl05Out_l7 x0 x1 x2 1)).2).2).2)) 0) (List.getD ((oget (sl05Out_l7 x0 x1 x2 1)).1) (Int.toNat (IntKind.wrap .i64 (((((oget (sl05Out_l7 x0 x1 x2 1)).2).2).2) - 1))) 0))) (fsub .f32 (List.getD (((oget (sl05Out_l7 x0 x1 x2 1)).2).1) (Int.toNat ((((oget (sl05Out_l7 x0 x1 x2 1)).2).2).2)) 0) (List.getD (((oget (sl05Out_l7 x0 x1 x2 1)).2).1) (Int.toNat (IntKind.wrap .i64 (((((oget (sl05Out_l7 x0 x1 x2 1)).2).2).2) - 1))) 0))))) .bad) .bad) .bad) .bad) .bad) .bad) .bad)) .bad)) .bad

noncomputable def sl05Out (x0 : List Nat) (x1 : List Nat) (x2 : Nat) : Option (Nat) := (sl05Out_t x0 x1 x2).sem

noncomputable def sl02Number_t (x0 : Nat) : Tr (Nat × Bool) :=
  .br (! (isFin .f32 x0)) (.ok (0, false)) (.ok (x0, true))

noncomputable def sl02Number (x0 : Nat) : Nat × Bool := (sl02Number_t x0).val

noncomputable def sLakeOut_t (x0 : List Nat) (x1 : List Nat) (x2 : Nat) : Tr (Nat × Bool) :=
  .br (osome (sl05Lake x0 x1)) (.br (! (oget (sl05Lake x0 x1))) (.ok (0, false)) (.br (! (isFin .f32 x2)) (.ok (0, false)) (.br (osome (sl05Out x0 x1 x2)) (.ok ((sl02Number (oget (sl05Out x0 x1 x2))).1, (sl02Number (oget (sl05Out x0 x1 x2))).2)) .bad))) .bad

noncomputable def sLakeOut (x0 : List Nat) (x1 : List Nat) (x2 : Nat) : Option (Nat × Bool) := (sLakeOut_t x0 x1 x2).sem

noncomputable def iwithin_t (x0 : Int) (x1 : Int) (x2 : Int) : Tr (Bool) :=
  .br (decide ((x1 : Int) ≤ x0)) (.ok (decide ((x0 : Int) ≤ x2))) (.ok false)

noncomputable def iwithin (x0 : Int) (x1 : Int) (x2 : Int) : Bool := (iwithin_t x0 x1 x2).val

noncomputable def iareMasses_1_t (x0 : Nat) : Tr (Bool) :=
  .ok (! (isMass x0))

noncomputable def iareMasses_1 (x0 : Nat) : Bool := (iareMasses_1_t x0).val

noncomputable def lIndexFunc_iareMasses_1_l2_t (y0 : List Nat) (y1 : Int) (y2 : Int) : Tr (Int ⊕ (Int ⊕ Unit)) :=
  .br (decide ((y2 : Int) < y1)) (.br (decide (0 ≤ (y2 : Int)) && decide ((y2 : Int) < ((List.length y0 : Nat) : Int))) (.br (iareMasses_1 (List.getD y0 (Int.toNat y2) 0)) (.ok (.inr (.inl y2))) (.ok (.inl (IntKind.wrap .i64 (y2 + 1))))) .bad) (.ok (.inr (.inr ())))

noncomputable def lIndexFunc_iareMasses_1_l2 (y0 : List Nat) (y1 : Int) (y2 : Int) : Option (Int ⊕ Unit) := runL (fun s : Int => (lIndexFunc_iareMasses_1_l2_t y0 y1 s).sem) y2

noncomputable def lIndexFunc_iareMasses_1_t (x0 : List Nat) : Tr (Int) :=
  .br (osome (lIndexFunc_iareMasses_1_l2 x0 (((List.length x0 : Nat) : Int)) 0)) (.br (isL (oget (lIndexFunc_iareMasses_1_l2 x0 (((List.length x0 : Nat) : Int)) 0))) (.ok (unL (oget (lIndexFunc_iareMasses_1_l2 x0 (((List.length x0 : Nat) : Int)) 0)))) (.ok (-1))) .bad

noncomputable def lIndexFunc_iareMasses_1 (x0 : List Nat) : Option (Int) := (lIndexFunc_iareMasses_1_t x0).sem

noncomputable def lContainsFunc_iareMasses_1_t (x0 : List Nat) : Tr (Bool) :=
  .br (osome (lIndexFunc_iareMasses_1 x0)) (.ok (decide ((oget (lIndexFunc_iareMasses_1 x0) : Int) ≥ 0))) .bad

noncomputable def lContainsFunc_iareMasses_1 (x0 : List Nat) : Option (Bool) := (lContainsFunc_iareMasses_1_t x0).sem

noncomputable def iareMasses_t (x0 : List Nat) : Tr (Bool) :=
  .br (osome (lContainsFunc_iareMasses_1 x0)) (.ok (! (oget (lContainsFunc_iareMasses_1 x0)))) .bad

noncomputable def iareMasses (x0 : List Nat) : Option (Bool) := (iareMasses_t x0).sem

noncomputable def iValidLake_l4_t (y1 : List Nat) (y2 : List Nat) (y0 : Int) : Tr (Int ⊕ (Unit ⊕ Unit)) :=
  .br (decide ((y0 : Int) < (((List.length y1 : Nat) : Int)))) (.br (decide (0 ≤ (y0 : Int)) && decide ((y0 : Int) < ((List.length y1 : Nat) : Int))) (.br (decide (0 ≤ (IntKind.wrap .i64 (y0 - 1) : Int)) && decide ((IntKind.wrap .i64 (y0 - 1) : Int) < ((List.length y1 : Nat) : Int))) (.br (! (fgt .f32 (List.getD y1 (Int.toNat y0) 0) (List.getD y1 (Int.toNat (IntKind.wrap .i64 (y0 - 1))) 0))) (.ok (.inr (.inl ()))) (.br (decide (0 ≤ (y0 : Int)) && decide ((y0 : Int) < ((List.length y2 : Nat) : Int))) (.br (decide (0 ≤ (IntKind.wrap .i64 (y0 - 1) : Int)) && decide ((IntKind.wrap .i64 (y0 - 1) : Int) < ((List.length y2 : Nat) : Int))) (.br (flt .f32 (List.getD y2 (Int.toNat y0) 0) (List.getD y2 (Int.toNat (IntKind.wrap .i64 (y0 - 1))) 0)) (.ok (.inr (.inl ()))) (.ok (.inl (IntKind.wrap .i64 (y0 + 1))))) .bad) .bad)) .bad) .bad) (.ok (.inr (.inr ())))

noncomputable def iValidLake_l4 (y0 : Int) (y1 : List Nat) (y2 : List Nat) : Option (Unit ⊕ Unit) := runL (fun s : Int => (iValidLake_l4_t y1 y2 s).sem) y0

noncomputable def iValidLake_t (x0 : List Nat) (x1 : List Nat) : Tr (Bool) :=
  .br (! (iwithin (((List.length x0 : Nat) : Int)) 2 16)) (.ok false) (.br ((((List.length x1 : Nat) : Int) : Int) != (((List.length x0 : Nat) : Int))) (.ok false) (.br (osome (iareMasses x0)) (.br (! (oget (iareMasses x0))) (.ok false) (.br (osome (iareMasses x1)) (.br (! (oget (iareMasses x1))) (.ok false) (.br (osome (iValidLake_l4 1 x0 x1)) (.br (isL (oget (iValidLake_l4 1 x0 x1))) (.ok false) (.ok true)) .bad)) .bad)) .bad))

noncomputable def iValidLake (x0 : List Nat) (x1 : List Nat) : Option (Bool) := (iValidLake_t x0 x1).sem

noncomputable def iLake_out_1_t (x0 : Nat) (x1 : Nat) : Tr (Bool) :=
  .ok (fge .f32 x0 x1)

noncomputable def iLake_out_1 (x0 : Nat) (x1 : Nat) : Bool := (iLake_out_1_t x0 x1).val

noncomputable def lIndexFunc_iLake_out_1_l2_t (y0 : List Nat) (y1 : Nat) (y2 : Int) (y3 : Int) : Tr (Int ⊕ (Int ⊕ Unit)) :=
  .br (decide ((y3 : Int) < y2)) (.br (decide (0 ≤ (y3 : Int)) && decide ((y3 : Int) < ((List.length y0 : Nat) : Int))) (.br (iLake_out_1 (List.getD y0 (Int.toNat y3) 0) y1) (.ok (.inr (.inl y3))) (.ok (.inl (IntKind.wrap .i64 (y3 + 1))))) .bad) (.ok (.inr (.inr ())))

noncomputable def lIndexFunc_iLake_out_1_l2 (y0 : List Nat) (y1 : Nat) (y2 : Int) (y3 : Int) : Option (Int ⊕ Unit) := runL (fun s : Int => (lIndexFunc_iLake_out_1_l2_t y0 y1 y2 s).sem) y3

noncomputable def lIndexFunc_iLake_out_1_t (x0 : List Nat) (x1 : Nat) : Tr (Int) :=
  .br (osome (lIndexFunc_iLake_out_1_l2 x0 x1 (((List.length x0 : Nat) : Int)) 0)) (.br (isL (oget (lIndexFunc_iLake_out_1_l2 x0 x1 (((List.length x0 : Nat) : Int)) 0))) (.ok (unL (oget (lIndexFunc_iLake_out_1_l2 x0 x1 (((List.length x0 : Nat) : Int)) 0)))) (.ok (-1))) .bad

noncomputable def lIndexFunc_iLake_out_1 (x0 : List Nat) (x1 : Nat) : Option (Int) := (lIndexFunc_iLake_out_1_t x0 x1).sem

noncomputable def iLake_out_t (x0 : List Nat) (x1 : List Nat) (x2 : Nat) : Tr (Nat) :=
  .br (decide (0 ≤ (0 : Int)) && decide ((0 : Int) < ((List.length x0 : Nat) : Int))) (.br (fle .f32 x2 (List.getD x0 (Int.toNat 0) 0)) (.br (decide (0 ≤ (0 : Int)) && decide ((0 : Int) < ((List.length x1 : Nat) : Int))) (.ok (List.getD x1 (Int.toNat 0) 0)) .bad) (.br (decide (0 ≤ (IntKind.wrap .i64 ((((List.length x0 : Nat) : Int)) - 1) : Int)) && decide ((IntKind.wrap .i64 ((((List.length x0 : Nat) : Int)) - 1) : Int) < ((List.length x0 : Nat) : Int))) (.br (fge .f32 x2 (List.getD x0 (Int.toNat (IntKind.wrap .i64 ((((List.length x0 : Nat) : Int)) - 1))) 0)) (.br (decide (0 ≤ (IntKind.wrap .i64 ((((List.length x0 : Nat) : Int)) - 1) : Int)) && decide ((IntKind.wrap .i64 ((((List.length x0 : Nat) : Int)) - 1) : Int) < ((List.length x1 : Nat) : Int))) (.ok (List.getD x1 (Int.toNat (IntKind.wrap .i64 ((((List.length x0 : Nat) : Int)) - 1))) 0)) .bad) (.br (osome (lIndexFunc_iLake_out_1 x0 x2)) (.br (decide (0 ≤ (IntKind.wrap .i64 ((oget (lIndexFunc_iLake_out_1 x0 x2)) - 1) : Int)) && decide ((IntKind.wrap .i64 ((oget (lIndexFunc_iLake_out_1 x0 x2)) - 1) : Int) < ((List.length x1 : Nat) : Int))) (.br (decide (0 ≤ (IntKind.wrap .i64 ((oget (lIndexFunc_iLake_out_1 x0 x2)) - 1) : Int)) && decide ((IntKind.wrap .i64 ((oget (lIndexFunc_iLake_out_1 x0 x2)) - 1) : Int) < ((List.length x0 : Nat) : Int))) (.br (decide (0 ≤ (oget (lIndexFunc_iLake_out_1 x0 x2) : Int)) && decide ((oget (lIndexFunc_iLake_out_1 x0 x2) : Int) < ((List.length x0 : Nat) : Int))) (.br (decide (0 ≤ (IntKind.wrap .i64 ((oget (lIndexFunc_iLake_out_1 x0 x2)) - 1) : Int)) && decide ((IntKind.wrap .i64 ((oget (lIndexFunc_iLake_out_1 x0 x2)) - 1) : Int) < ((List.length x0 : Nat) : Int))) (.br (decide (0 ≤ (oget (lIndexFunc_iLake_out_1 x0 x2) : Int)) && decide ((oget (lIndexFunc_iLake_out_1 x0 x2) : Int) < ((List.length x1 : Nat) : Int))) (.br (decide (0 ≤ (IntKind.wrap .i64 ((oget (lIndexFunc_iLake_out_1 x0 x2)) - 1) : Int)) && decide ((IntKind.wrap .i64 ((oget (lIndexFunc_iLake_out_1 x0 x2)) - 1) : Int) < ((List.length x1 : Nat) : Int))) (.ok (fadd .f32 (List.getD x1 (Int.toNat (IntKind.wrap .i64 ((oget (lIndexFunc_iLake_out_1 x0 x2)) - 1))) 0) (fmul .f32 (fdiv .f32 (fsub .f32 x2 (List.getD x0 (Int.toNat (IntKind.wrap .i64 ((oget (lIndexFunc_iLake_out_1 x0 x2)) - 1))) 0)) (fsub .f32 (List.getD x0 (Int.toNat (oget (lIndexFunc_iLake_out_1 x0 x2))) 0) (List.getD x0 (Int.toNat (IntKind.wrap .i64 ((oget (lIndexFunc_iLake_out_1 x0 x2)) - 1))) 0))) (fsub .f32 (List.getD x1 (Int.toNat (oget (lIndexFunc_iLake_out_1 x0 x2))) 0) (List.getD x1 (Int.toNat (IntKind.wrap .i64 ((oget (lIndexFunc_iLake_out_1 x0 x2)) - 1))) 0))))) .bad) .bad) .bad) .bad) .bad) .bad) .bad)) .bad)) .bad

noncomputable def iLake_out (x0 : List Nat) (x1 : List Nat) (x2 : Nat) : Option (Nat) := (iLake_out_t x0 x1 x2).sem

noncomputable def ifinite32_t (x0 : Nat) : Tr (Nat × Bool) :=
  .br (! (isFin .f32 x0)) (.ok (0, false)) (.ok (x0, true))

noncomputable def ifinite32 (x0 : Nat) : Nat × Bool := (ifinite32_t x0).val

noncomputable def iLakeOut_t (x0 : List Nat) (x1 : List Nat) (x2 : Nat) : Tr (Nat × Bool) :=
  .br (osome (iValidLake x0 x1)) (.br (! (oget (iValidLake x0 x1))) (.ok (0, false)) (.br (! (isFin .f32 x2)) (.ok (0, false)) (.br (osome (iLake_out x0 x1 x2)) (.ok ((ifinite32 (oget (iLake_out x0 x1 x2))).1, (ifinite32 (oget (iLake_out x0 x1 x2))).2)) .bad))) .bad

noncomputable def iLakeOut (x0 : List Nat) (x1 : List Nat) (x2 : Nat) : Option (Nat × Bool) := (iLakeOut_t x0 x1 x2).sem

noncomputable def weqFloat32S_l4_t (y0 : List Nat) (y1 : List Nat) (y2 : Int) : Tr (Int ⊕ Unit) :=
  .br (decide ((y2 : Int) < (((List.length y0 : Nat) : Int)))) (.br (decide (0 ≤ (y2 : Int)) && decide ((y2 : Int) < ((List.length y0 : Nat) : Int))) (.br (decide (0 ≤ (y2 : Int)) && decide ((y2 : Int) < ((List.length y1 : Nat) : Int))) (.br (natEq (fup (List.getD y0 (Int.toNat y2) 0)) (fup (List.getD y1 (Int.toNat y2) 0))) (.ok (.inl (IntKind.wrap .i64 (y2 + 1)))) .bad) .bad) .bad) (.ok (.inr ()))

noncomputable def weqFloat32S_l4 (y0 : List Nat) (y1 : List Nat) (y2 : Int) : Option (Unit) := runL (fun s : Int => (weqFloat32S_l4_t y0 y1 s).sem) y2

noncomputable def weqFloat32S_t (x0 : List Nat) (x1 : List Nat) : Tr (Bool) :=
  .br ((((List.length x0 : Nat) : Int) : Int) != (((List.length x1 : Nat) : Int))) (.ok false) (.br (osome (weqFloat32S_l4 x0 x1 0)) (.ok true) .bad)

noncomputable def weqFloat32S (x0 : List Nat) (x1 : List Nat) : Option (Bool) := (weqFloat32S_t x0 x1).sem

noncomputable def weqLake_t (x0 : List Nat) (x1 : List Nat) (x2 : List Nat) (x3 : List Nat) : Tr (Bool) :=
  .br (osome (weqFloat32S x0 x2)) (.br (! (oget (weqFloat32S x0 x2))) (.ok false) (.br (osome (weqFloat32S x1 x3)) (.br (! (oget (weqFloat32S x1 x3))) (.ok false) (.ok true)) .bad)) .bad

noncomputable def weqLake (x0 : List Nat) (x1 : List Nat) (x2 : List Nat) (x3 : List Nat) : Option (Bool) := (weqLake_t x0 x1 x2 x3).sem

noncomputable def wFnExactLakeOut_t (x0 : List Nat) (x1 : List Nat) (x2 : Nat) : Tr (Bool) :=
  .br (decide ((wszLake x0 x1 1048576 : Int) < 0)) (.ok true) (.br (osome (wtoLake x0 x1)) (.br (osome (sLakeOut ((oget (wtoLake x0 x1)).1) ((oget (wtoLake x0 x1)).2) x2)) (.br (osome (wtoLake x0 x1)) (.br (osome (iLakeOut ((oget (wtoLake x0 x1)).1) ((oget (wtoLake x0 x1)).2) x2)) (.br (natEq (fup ((oget (iLakeOut ((oget (wtoLake x0 x1)).1) ((oget (wtoLake x0 x1)).2) x2)).1)) (fup ((oget (sLakeOut ((oget (wtoLake x0 x1)).1) ((oget (wtoLake x0 x1)).2) x2)).1))) (.br (! (((oget (iLakeOut ((oget (wtoLake x0 x1)).1) ((oget (wtoLake x0 x1)).2) x2)).2) == ((oget (sLakeOut ((oget (wtoLake x0 x1)).1) ((oget (wtoLake x0 x1)).2) x2)).2))) (.ok false) (.br (osome (wtoLake x0 x1)) (.br (osome (weqLake ((oget (wtoLake x0 x1)).1) ((oget (wtoLake x0 x1)).2) ((oget (wtoLake x0 x1)).1) ((oget (wtoLake x0 x1)).2))) (.br (! (oget (weqLake ((oget (wtoLake x0 x1)).1) ((oget (wtoLake x0 x1)).2) ((oget (wtoLake x0 x1)).1) ((oget (wtoLake x0 x1)).2)))) (.ok false) (.ok true)) .bad) .bad)) .bad) .bad) .bad) .bad) .bad)

noncomputable def wFnExactLakeOut (x0 : List Nat) (x1 : List Nat) (x2 : Nat) : Option (Bool) := (wFnExactLakeOut_t x0 x1 x2).sem

noncomputable def sl05Holds_t (x0 : List Nat) (x1 : List Nat) (x2 : Nat) : Tr (Bool) :=
  .br (osome (sl05Lake x0 x1)) (.br (oget (sl05Lake x0 x1)) (.br (decide (0 ≤ (0 : Int)) && decide ((0 : Int) < ((List.length x0 : Nat) : Int))) (.br (fge .f32 x2 (List.getD x0 (Int.toNat 0) 0)) (.br (decide (0 ≤ (IntKind.wrap .i64 ((((List.length x0 : Nat) : Int)) - 1) : Int)) && decide ((IntKind.wrap .i64 ((((List.length x0 : Nat) : Int)) - 1) : Int) < ((List.length x0 : Nat) : Int))) (.ok (fle .f32 x2 (List.getD x0 (Int.toNat (IntKind.wrap .i64 ((((List.length x0 : Nat) : Int)) - 1))) 0))) .bad) (.ok false)) .bad) (.ok false)) .bad

noncomputable def sl05Holds (x0 : List Nat) (x1 : List Nat) (x2 : Nat) : Option (Bool) := (sl05Holds_t x0 x1 x2).sem

noncomputable def sl05Store_l6_t (y0 : List Nat) (y1 : List Nat) (y2 : Nat) (y3 : Nat) (y4 : Nat) (y5 : Nat) (y6 : Int) : Tr ((Nat × Nat × Int) ⊕ Nat) :=
  .br (decide ((y6 : Int) < 40)) (.br (osome (sl05Out y0 y1 (fmul .f32 1056964608 (fadd .f32 y4 y5)))) (.br (fgt .f32 (fadd .f32 (fmul .f32 1056964608 (fadd .f32 y4 y5)) (fmul .f32 y2 (oget (sl05Out y0 y1 (fmul .f32 1056964608 (fadd .f32 y4 y5)))))) y3) (.ok (.inl (y4, fmul .f32 1056964608 (fadd .f32 y4 y5), IntKind.wrap .i64 (y6 + 1)))) (.ok (.inl (fmul .f32 1056964608 (fadd .f32 y4 y5), y5, IntKind.wrap .i64 (y6 + 1))))) .bad) (.ok (.inr y4))

noncomputable def sl05Store_l6 (y0 : List Nat) (y1 : List Nat) (y2 : Nat) (y3 : Nat) (y4 : Nat) (y5 : Nat) (y6 : Int) : Option (Nat) := runL (fun s : Nat × Nat × Int => (sl05Store_l6_t y0 y1 y2 y3 s.1 s.2.1 s.2.2).sem) (y4, y5, y6)

noncomputable def sl05Store_t (x0 : List Nat) (x1 : List Nat) (x2 : Nat) (x3 : Nat) (x4 : Nat) (x5 : Nat) : Tr (Nat) :=
  .br (osome (sl05Out x0 x1 x2)) (.br (decide (0 ≤ (0 : Int)) && decide ((0 : Int) < ((List.length x0 : Nat) : Int))) (.br (decide (0 ≤ (IntKind.wrap .i64 ((((List.length x0 : Nat) : Int)) - 1) : Int)) && decide ((IntKind.wrap .i64 ((((List.length x0 : Nat) : Int)) - 1) : Int) < ((List.length x0 : Nat) : Int))) (.br (osome (sl05Store_l6 x0 x1 (fmul .f32 1056964608 x5) (fadd .f32 (fsub .f32 x2 (fmul .f32 (fmul .f32 1056964608 x5) (oget (sl05Out x0 x1 x2)))) (fmul .f32 (fmul .f32 1056964608 x5) (fadd .f32 x3 x4))) (List.getD x0 (Int.toNat 0) 0) (List.getD x0 (Int.toNat (IntKind.wrap .i64 ((((List.length x0 : Nat) : Int)) - 1))) 0) 0)) (.ok (oget (sl05Store_l6 x0 x1 (fmul .f32 1056964608 x5) (fadd .f32 (fsub .f32 x2 (fmul .f32 (fmul .f32 1056964608 x5) (oget (sl05Out x0 x1 x2)))) (fmul .f32 (fmul .f32 1056964608 x5) (fadd .f32 x3 x4))) (List.getD x0 (Int.toNat 0) 0) (List.getD x0 (Int.toNat (IntKind.wrap .i64 ((((List.length x0 : Nat) : Int)) - 1))) 0) 0))) .bad) .bad) .bad) .bad

noncomputable def sl05Store (x0 : List Nat) (x1 : List Nat) (x2 : Nat) (x3 : Nat) (x4 : Nat) (x5 : Nat) : Option (Nat) := (sl05Store_t x0 x1 x2 x3 x4 x5).sem

noncomputable def sStepLake_t (x0 : List Nat) (x1 : List Nat) (x2 : Nat) (x3 : Nat) (x4 : Nat) (x5 : Nat) : Tr (Nat × Bool) :=
  .br (osome (sl05Holds x0 x1 x2)) (.br (! (oget (sl05Holds x0 x1 x2))) (.ok (0, false)) (.br (! (isMass x3)) (.ok (0, false)) (.br (! (isMass x4)) (.ok (0, false)) (.br (! (isLen x5)) (.ok (0, false)) (.br (osome (sl05Store x0 x1 x2 x3 x4 x5)) (.ok ((sl02Number (oget (sl05Store x0 x1 x2 x3 x4 x5))).1, (sl02Number (oget (sl05Store x0 x1 x2 x3 x4 x5))).2)) .bad))))) .bad

noncomputable def sStepLake (x0 : List Nat) (x1 : List Nat) (x2 : Nat) (x3 : Nat) (x4 : Nat) (x5 : Nat) : Option (Nat × Bool) := (sStepLake_t x0 x1 x2 x3 x4 x5).sem

noncomputable def iLake_isStore_t (x0 : List Nat) (x1 : List Nat) (x2 : Nat) : Tr (Bool) :=
  .br (osome (iValidLake x0 x1)) (.br (oget (iValidLake x0 x1)) (.br (decide (0 ≤ (0 : Int)) && decide ((0 : Int) < ((List.length x0 : Nat) : Int))) (.br (fge .f32 x2 (List.getD x0 (Int.toNat 0) 0)) (.br (decide (0 ≤ (IntKind.wrap .i64 ((((List.length x0 : Nat) : Int)) - 1) : Int)) && decide ((IntKind.wrap .i64 ((((List.length x0 : Nat) : Int)) - 1) : Int) < ((List.length x0 : Nat) : Int))) (.ok (fle .f32 x2 (List.getD x0 (Int.toNat (IntKind.wrap .i64 ((((List.length x0 : Nat) : Int)) - 1))) 0))) .bad) (.ok false)) .bad) (.ok false)) .bad

noncomputable def iLake_isStore (x0 : List Nat) (x1 : List Nat) (x2 : Nat) : Option (Bool) := (iLake_isStore_t x0 x1 x2).sem

noncomputable def iStepLake_1_t (x0 : Nat) (x1 : Nat) (x2 : List Nat) (x3 : List Nat) (x4 : Nat) : Tr (Bool) :=
  .br (osome (iLake_out x2 x3 x0)) (.ok (fgt .f32 (fadd .f32 x0 (fmul .f32 x1 (oget (iLake_out x2 x3 x0)))) x4)) .bad

noncomputable def iStepLake_1 (x0 : Nat) (x1 : Nat) (x2 : List Nat) (x3 : List Nat) (x4 : Nat) : Option (Bool) := (iStepLake_1_t x0 x1 x2 x3 x4).sem

noncomputable def ihalve_iStepLake_1_l2_t (y2 : Nat) (y3 : List Nat) (y4 : List Nat) (y5 : Nat) (y0 : Nat) (y1 : Nat) (y6 : Int) : Tr ((Nat × Nat × Int) ⊕ (Nat × Nat)) :=
  .br (decide ((y6 : Int) < 40)) (.br (osome (iStepLake_1 (fmul .f32 1056964608 (fadd .f32 y0 y1)) y2 y3 y4 y5)) (.br (oget (iStepLake_1 (fmul .f32 1056964608 (fadd .f32 y0 y1)) y2 y3 y4 y5)) (.ok (.inl (y0, fmul .f32 1056964608 (fadd .f32 y0 y1), IntKind.wrap .i64 (y6 + 1)))) (.ok (.inl (fmul .f32 1056964608 (fadd .f32 y0 y1), y1, IntKind.wrap .i64 (y6 + 1))))) .bad) (.ok (.inr (y0, y1)))

noncomputable def ihalve_iStepLake_1_l2 (y0 : Nat) (y1 : Nat) (y2 : Nat) (y3 : List Nat) (y4 : List Nat) (y5 : Nat) (y6 : Int) : Option (Nat × Nat) := runL (fun s : Nat × Nat × Int => (ihalve_iStepLake_1_l2_t y2 y3 y4 y5 s.1 s.2.1 s.2.2).sem) (y0, y1, y6)

noncomputable def ihalve_iStepLake_1_t (x0 : Nat) (x1 : Nat) (x2 : Nat) (x3 : List Nat) (x4 : List Nat) (x5 : Nat) : Tr (Nat × Nat) :=
  .br (osome (ihalve_iStepLake_1_l2 x0 x1 x2 x3 x4 x5 0)) (.ok ((oget (ihalve_iStepLake_1_l2 x0 x1 x2 x3 x4 x5 0)).1, (oget (ihalve_iStepLake_1_l2 x0 x1 x2 x3 x4 x5 0)).2)) .bad

noncomputable def ihalve_iStepLake_1 (x0 : Nat) (x1 : Nat) (x2 : Nat) (x3 : List Nat) (x4 : List Nat) (x5 : Nat) : Option (Nat × Nat) := (ihalve_iStepLake_1_t x0 x1 x2 x3 x4 x5).sem

noncomputable def iStepLake_t (x0 : List Nat) (x1 : List Nat) (x2 : Nat) (x3 : Nat) (x4 : Nat) (x5 : Nat) : Tr (Nat × Bool) :=
  .br (osome (iLake_isStore x0 x1 x2)) (.br (! (oget (iLake_isStore x0 x1 x2))) (.ok (0, false)) (.br (osome (iareMasses [x3, x4])) (.br (! (oget (iareMasses [x3, x4]))) (.ok (0, false)) (.br (! (isLen x5)) (.ok (0, false)) (.br (osome (iLake_out x0 x1 x2)) (.br (decide (0 ≤ (0 : Int)) && decide ((0 : Int) < ((List.length x0 : Nat) : Int))) (.br (decide (0 ≤ (IntKind.wrap .i64 ((((List.length x0 : Nat) : Int)) - 1) : Int)) && decide ((IntKind.wrap .i64 ((((List.length x0 : Nat) : Int)) - 1) : Int) < ((List.length x0 : Nat) : Int))) (.br (osome (ihalve_iStepLake_1 (List.getD x0 (Int.toNat 0) 0) (List.getD x0 (Int.toNat (IntKind.wrap .i64 ((((List.length x0 : Nat) : Int)) - 1))) 0) (fmul .f32 1056964608 x5) x0 x1 (fadd .f32 (fsub .f32 x2 (fmul .f32 (fmul .f32 1056964608 x5) (oget (iLake_out x0 x1 x2)))) (fmul .f32 (fmul .f32 1056964608 x5) (fadd .f32 x3 x4))))) (.ok ((ifinite32 ((oget (ihalve_iStepLake_1 (List.getD x0 (Int.toNat 0) 0) (List.getD x0 (Int.toNat (IntKind.wrap .i64 ((((List.length x0 : Nat) : Int)) - 1))) 0) (fmul .f32 1056964608 x5) x0 x1 (fadd .f32 (fsub .f32 x2 (fmul .f32 (fmul .f32 1056964608 x5) (oget (iLake_out x0 x1 x2)))) (fmul .f32 (fmul .f32 1056964608 x5) (fadd .f32 x3 x4))))).1)).1, (ifinite32 ((oget (ihalve_iStepLake_1 (List.getD x0 (Int.toNat 0) 0) (List.getD x0 (Int.toNat (IntKind.wrap .i64 ((((List.length x0 : Nat) : Int)) - 1))) 0) (fmul .f32 1056964608 x5) x0 x1 (fadd .f32 (fsub .f32 x2 (fmul .f32 (fmul .f32 1056964608 x5) (oget (iLake_out x0 x1 x2)))) (fmul .f32 (fmul .f32 1056964608 x5) (fadd .f32 x3 x4))))).1)).2)) .bad) .bad) .bad) .bad))) .bad)) .bad

noncomputable def iStepLake (x0 : List Nat) (x1 : List Nat) (x2 : Nat) (x3 : Nat) (x4 : Nat) (x5 : Nat) : Option (Nat × Bool) := (iStepLake_t x0 x1 x2 x3 x4 x5).sem

noncomputable def wFnExactStepLake_t (x0 : List Nat) (x1 : List Nat) (x2 : Nat) (x3 : Nat) (x4 : Nat) (x5 : Nat) : Tr (Bool) :=
  .br (decide ((wszLake x0 x1 1048576 : Int) < 0)) (.ok true) (.br (osome (wtoLake x0 x1)) (.br (osome (sStepLake ((oget (wtoLake x0 x1)).1) ((oget (wtoLake x0 x1)).2) x2 x3 x4 x5)) (.br (osome (wtoLake x0 x1)) (.br (osome (iStepLake ((oget (wtoLake x0 x1)).1) ((oget (wtoLake x0 x1)).2) x2 x3 x4 x5)) (.br (natEq (fup ((oget (iStepLake ((oget (wtoLake x0 x1)).1) ((oget (wtoLake x0 x1)).2) x2 x3 x4 x5)).1)) (fup ((oget (sStepLake ((oget (wtoLake x0 x1)).1) ((oget (wtoLake x0 x1)).2) x2 x3 x4 x5)).1))) (.br (! (((oget (iStepLake ((oget (wtoLake x0 x1)).1) ((oget (wtoLake x0 x1)).2) x2 x3 x4 x5)).2) == ((oget (sStepLake ((oget (wtoLake x0 x1)).1) ((oget (wtoLake x0 x1)).2) x2 x3 x4 x5)).2))) (.ok false) (.br (osome (wtoLake x0 x1)) (.br (osome (weqLake ((oget (wtoLake x0 x1)).1) ((oget (wtoLake x0 x1)).2) ((oget (wtoLake x0 x1)).1) ((oget (wtoLake x0 x1)).2))) (.br (! (oget (weqLake ((oget (wtoLake x0 x1)).1) ((oget (wtoLake x0 x1)).2) ((oget (wtoLake x0 x1)).1) ((oget (wtoLake x0 x1)).2)))) (.ok false) (.ok true)) .bad) .bad)) .bad) .bad) .bad) .bad) .bad)

noncomputable def wFnExactStepLake (x0 : List Nat) (x1 : List Nat) (x2 : Nat) (x3 : Nat) (x4 : Nat) (x5 : Nat) : Option (Bool) := (wFnExactStepLake_t x0 x1 x2 x3 x4 x5).sem

noncomputable def wtoReach_t (x0 : Nat) (x1 : Nat) : Tr (Nat × Nat) :=
  .ok (x0, x1)

noncomputable def wtoReach (x0 : Nat) (x1 : Nat) : Nat × Nat := (wtoReach_t x0 x1).val

noncomputable def sl05Reach_t (x0 : Nat) (x1 : Nat) : Tr (Bool) :=
  .br (isLen x0) (.br (fge .f32 x1 0) (.ok (fle .f32 x1 1056964608)) (.ok false)) (.ok false)

noncomputable def sl05Reach (x0 : Nat) (x1 : Nat) : Bool := (sl05Reach_t x0 x1).val

noncomputable def sl02Finite_l2_t (y0 : List Nat) (y1 : Int) : Tr (Int ⊕ (Unit ⊕ Unit)) :=
  .br (decide ((y1 : Int) < (((List.length y0 : Nat) : Int)))) (.br (decide (0 ≤ (y1 : Int)) && decide ((y1 : Int) < ((List.length y0 : Nat) : Int))) (.br (! (isFin .f32 (List.getD y0 (Int.toNat y1) 0))) (.ok (.inr (.inl ()))) (.ok (.inl (IntKind.wrap .i64 (y1 + 1))))) .bad) (.ok (.inr (.inr ())))

noncomputable def sl02Finite_l2 (y0 : List Nat) (y1 : Int) : Option (Unit ⊕ Unit) := runL (fun s : Int => (sl02Finite_l2_t y0 s).sem) y1

noncomputable def sl02Finite_t (x0 : List Nat) : Tr (Bool) :=
  .br (osome (sl02Finite_l2 x0 0)) (.br (isL (oget (sl02Finite_l2 x0 0))) (.ok false) (.ok true)) .bad

noncomputable def sl02Finite (x0 : List Nat) : Option (Bool) := (sl02Finite_t x0).sem

noncomputable def sl05Ins_t (x0 : List Nat) : Tr (Bool) :=
  .br (decide ((((List.length x0 : Nat) : Int) : Int) ≥ 1)) (.br (decide ((((List.length x0 : Nat) : Int) : Int) ≤ 128)) (.br (osome (sl02Finite x0)) (.ok (oget (sl02Finite x0))) .bad) (.ok false)) (.ok false)

noncomputable def sl05Ins (x0 : List Nat) : Option (Bool) := (sl05Ins_t x0).sem

noncomputable def sl05Shares_t (x0 : Nat) (x1 : Nat) (x2 : Nat) : Tr (Nat × Nat × Nat × Bool) :=
  .br (! (isFin .f32 (fdiv .f32 (fsub .f32 x2 (fmul .f32 (fmul .f32 1073741824 x0) x1)) (fadd .f32 (fmul .f32 (fmul .f32 1073741824 x0) (fsub .f32 1065353216 x1)) x2)))) (.ok (0, 0, 0, false)) (.br (! (isFin .f32 (fdiv .f32 (fadd .f32 x2 (fmul .f32 (fmul .f32 1073741824 x0) x1)) (fadd .f32 (fmul .f32 (fmul .f32 1073741824 x0) (fsub .f32 1065353216 x1)) x2)))) (.ok (0, 0, 0, false)) (.br (! (isFin .f32 (fdiv .f32 (fsub .f32 (fmul .f32 (fmul .f32 1073741824 x0) (fsub .f32 1065353216 x1)) x2) (fadd .f32 (fmul .f32 (fmul .f32 1073741824 x0) (fsub .f32 1065353216 x1)) x2)))) (.ok (0, 0, 0, false)) (.ok (fdiv .f32 (fsub .f32 x2 (fmul .f32 (fmul .f32 1073741824 x0) x1)) (fadd .f32 (fmul .f32 (fmul .f32 1073741824 x0) (fsub .f32 1065353216 x1)) x2), fdiv .f32 (fadd .f32 x2 (fmul .f32 (fmul .f32 1073741824 x0) x1)) (fadd .f32 (fmul .f32 (fmul .f32 1073741824 x0) (fsub .f32 1065353216 x1)) x2), fdiv .f32 (fsub .f32 (fmul .f32 (fmul .f32 1073741824 x0) (fsub .f32 1065353216 x1)) x2) (fadd .f32 (fmul .f32 (fmul .f32 1073741824 x0) (fsub .f32 1065353216 x1)) x2), true))))

noncomputable def sl05Shares (x0 : Nat) (x1 : Nat) (x2 : Nat) : Nat × Nat × Nat × Bool := (sl05Shares_t x0 x1 x2).val

noncomputable def sl05Route_l6_t (y0 : List Nat) (y1 : Nat) (y2 : Nat) (y3 : Nat) (y4 : Int) (y5 : List Nat) : Tr ((Int × List Nat) ⊕ (List Nat)) :=
  .br (decide ((y4 : Int) < (((List.length y0 : Nat) : Int)))) (.br (decide (0 ≤ (y4 : Int)) && decide ((y4 : Int) < ((List.length y0 : Nat) : Int))) (.br (decide (0 ≤ (IntKind.wrap .i64 (y4 - 1) : Int)) && decide ((IntKind.wrap .i64 (y4 - 1) : Int) < ((List.length y0 : Nat) : Int))) (.br (decide (0 ≤ (IntKind.wrap .i64 (y4 - 1) : Int)) && decide ((IntKind.wrap .i64 (y4 - 1) : Int) < ((List.length y5 : Nat) : Int))) (.br (decide ((List.length y5 + List.length [fadd .f32 (fadd .f32 (fmul .f32 y1 (List.getD y0 (Int.toNat y4) 0)) (fmul .f32 y2 (List.getD y0 (Int.toNat (IntKind.wrap .i64 (y4 - 1))) 0))) (fmul .f32 y3 (List.getD y5 (Int.toNat (IntKind.wrap .i64 (y4 - 1))) 0))]) * 4 ≤ 140737488355328)) (.ok (.inl (IntKind.wrap .i64 (y4 + 1), y5 ++ [fadd .f32 (fadd .f32 (fmul .f32 y1 (List.getD y0 (Int.toNat y4) 0)) (fmul .f32 y2 (List.getD y0 (Int.toNat (IntKind.wrap .i64 (y4 - 1))) 0))) (fmul .f32 y3 (List.getD y5 (Int.toNat (IntKind.wrap .i64 (y4 - 1))) 0))]))) .bad) .bad) .bad) .bad) (.ok (.inr y5))

noncomputable def sl05Route_l6 (y0 : List Nat) (y1 : Nat) (y2 : Nat) (y3 : Nat) (y4 : Int) (y5 : List Nat) : Option (List Nat) := runL (fun s : Int × List Nat => (sl05Route_l6_t y0 y1 y2 y3 s.1 s.2).sem) (y4, y5)

noncomputable def sl05Route_t (x0 : Nat) (x1 : Nat) (x2 : List Nat) (x3 : Nat) (x4 : Nat) : Tr (Unit ⊕ (List Nat)) :=
  .br (! ((((sl05Shares x0 x1 x3).2).2).2)) (.ok (.inl ())) (.br (osome (sl05Route_l6 x2 ((sl05Shares x0 x1 x3).1) (((sl05Shares x0 x1 x3).2).1) ((((sl05Shares x0 x1 x3).2).2).1) 1 [x4])) (.br (osome (sl02Finite (oget (sl05Route_l6 x2 ((sl05Shares x0 x1 x3).1) (((sl05Shares x0 x1 x3).2).1) ((((sl05Shares x0 x1 x3).2).2).1) 1 [x4])))) (.br (! (oget (sl02Finite (oget (sl05Route_l6 x2 ((sl05Shares x0 x1 x3).1) (((sl05Shares x0 x1 x3).2).1) ((((sl05Shares x0 x1 x3).2).2).1) 1 [x4]))))) (.ok (.inl ())) (.ok (.inr (oget (sl05Route_l6 x2 ((sl05Shares x0 x1 x3).1) (((sl05Shares x0 x1 x3).2).1) ((((sl05Shares x0 x1 x3).2).2).1) 1 [x4]))))) .bad) .bad)

noncomputable def sl05Route (x0 : Nat) (x1 : Nat) (x2 : List Nat) (x3 : Nat) (x4 : Nat) : Option (Unit ⊕ (List Nat)) := (sl05Route_t x0 x1 x2 x3 x4).sem

noncomputable def sRouteReach_t (x0 : Nat) (x1 : Nat) (x2 : List Nat) (x3 : Nat) (x4 : Nat) : Tr (Unit ⊕ (List Nat)) :=
  .br (! (sl05Reach x0 x1)) (.ok (.inl ())) (.br (osome (sl05Ins x2)) (.br (! (oget (sl05Ins x2))) (.ok (.inl ())) (.br (! (isLen x3)) (.ok (.inl ())) (.br (! (isFin .f32 x4)) (.ok (.inl ())) (.br (osome (sl05Route x0 x1 x2 x3 x4)) (.br (isL (oget (sl05Route x0 x1 x2 x3 x4))) (.ok (.inl ())) (.ok (.inr (unR (oget (sl05Route x0 x1 x2 x3 x4)))))) .bad)))) .bad)

noncomputable def sRouteReach (x0 : Nat) (x1 : Nat) (x2 : List Nat) (x3 : Nat) (x4 : Nat) : Option (Unit ⊕ (List Nat)) := (sRouteReach_t x0 x1 x2 x3 x4).sem

noncomputable def iValidReach_t (x0 : Nat) (x1 : Nat) : Tr (Bool) :=
  .br (isLen x0) (.br (fge .f32 x1 0) (.ok (fle .f32 x1 1056964608)) (.ok false)) (.ok false)

noncomputable def iValidReach (x0 : Nat) (x1 : Nat) : Bool := (iValidReach_t x0 x1).val

noncomputable def iareFinite_1_t (x0 : Nat) : Tr (Bool) :=
  .ok (! (isFin .f32 x0))

noncomputable def iareFinite_1 (x0 : Nat) : Bool := (iareFinite_1_t x0).val

noncomputable def lIndexFunc_iareFinite_1_l2_t (y0 : List Nat) (y1 : Int) (y2 : Int) : Tr (Int ⊕ (Int ⊕ Unit)) :=
  .br (decide ((y2 : Int) < y1)) (.br (decide (0 ≤ (y2 : Int)) && decide ((y2 : Int) < ((List.length y0 : Nat) : Int))) (.br (iareFinite_1 (List.getD y0 (Int.toNat y2) 0)) (.ok (.inr (.inl y2))) (.ok (.inl (IntKind.wrap .i64 (y2 + 1))))) .bad) (.ok (.inr (.inr ())))

noncomputable def lIndexFunc_iareFinite_1_l2 (y0 : List Nat) (y1 : Int) (y2 : Int) : Option (Int ⊕ Unit) := runL (fun s : Int => (lIndexFunc_iareFinite_1_l2_t y0 y1 s).sem) y2

noncomputable def lIndexFunc_iareFinite_1_t (x0 : List Nat) : Tr (Int) :=
  .br (osome (lIndexFunc_iareFinite_1_l2 x0 (((List.length x0 : Nat) : Int)) 0)) (.br (isL (oget (lIndexFunc_iareFinite_1_l2 x0 (((List.length x0 : Nat) : Int)) 0))) (.ok (unL (oget (lIndexFunc_iareFinite_1_l2 x0 (((List.length x0 : Nat) : Int)) 0)))) (.ok (-1))) .bad

noncomputable def lIndexFunc_iareFinite_1 (x0 : List Nat) : Option (Int) := (lIndexFunc_iareFinite_1_t x0).sem

noncomputable def lContainsFunc_iareFinite_1_t (x0 : List Nat) : Tr (Bool) :=
  .br (osome (lIndexFunc_iareFinite_1 x0)) (.ok (decide ((oget (lIndexFunc_iareFinite_1 x0) : Int) ≥ 0))) .bad

noncomputable def lContainsFunc_iareFinite_1 (x0 : List Nat) : Option (Bool) := (lContainsFunc_iareFinite_1_t x0).sem

noncomputable def iareFinite_t (x0 : List Nat) : Tr (Bool) :=
  .br (osome (lContainsFunc_iareFinite_1 x0)) (.ok (! (oget (lContainsFunc_iareFinite_1 x0)))) .bad

noncomputable def iareFinite (x0 : List Nat) : Option (Bool) := (iareFinite_t x0).sem

noncomputable def iReachShares_t (x0 : Nat) (x1 : Nat) (x2 : Nat) : Tr (Nat × Nat × Nat × Bool) :=
  .br (! (iValidReach x0 x1)) (.ok (0, 0, 0, false)) (.br (! (isLen x2)) (.ok (0, 0, 0, false)) (.br (osome (iareFinite [fdiv .f32 (fsub .f32 x2 (fmul .f32 (fmul .f32 1073741824 x0) x1)) (fadd .f32 (fmul .f32 (fmul .f32 1073741824 x0) (fsub .f32 1065353216 x1)) x2), fdiv .f32 (fadd .f32 x2 (fmul .f32 (fmul .f32 1073741824 x0) x1)) (fadd .f32 (fmul .f32 (fmul .f32 1073741824 x0) (fsub .f32 1065353216 x1)) x2), fdiv .f32 (fsub .f32 (fmul .f32 (fmul .f32 1073741824 x0) (fsub .f32 1065353216 x1)) x2) (fadd .f32 (fmul .f32 (fmul .f32 1073741824 x0) (fsub .f32 1065353216 x1)) x2)])) (.br (! (oget (iareFinite [fdiv .f32 (fsub .f32 x2 (fmul .f32 (fmul .f32 1073741824 x0) x1)) (fadd .f32 (fmul .f32 (fmul .f32 1073741824 x0) (fsub .f32 1065353216 x1)) x2), fdiv .f32 (fadd .f32 x2 (fmul .f32 (fmul .f32 1073741824 x0) x1)) (fadd .f32 (fmul .f32 (fmul .f32 1073741824 x0) (fsub .f32 1065353216 x1)) x2), fdiv .f32 (fsub .f32 (fmul .f32 (fmul .f32 1073741824 x0) (fsub .f32 1065353216 x1)) x2) (fadd .f32 (fmul .f32 (fmul .f32 1073741824 x0) (fsub .f32 1065353216 x1)) x2)]))) (.ok (0, 0, 0, false)) (.ok (fdiv .f32 (fsub .f32 x2 (fmul .f32 (fmul .f32 1073741824 x0) x1)) (fadd .f32 (fmul .f32 (fmul .f32 1073741824 x0) (fsub .f32 1065353216 x1)) x2), fdiv .f32 (fadd .f32 x2 (fmul .f32 (fmul .f32 1073741824 x0) x1)) (fadd .f32 (fmul .f32 (fmul .f32 1073741824 x0) (fsub .f32 1065353216 x1)) x2), fdiv .f32 (fsub .f32 (fmul .f32 (fmul .f32 1073741824 x0) (fsub .f32 1065353216 x1)) x2) (fadd .f32 (fmul .f32 (fmul .f32 1073741824 x0) (fsub .f32 1065353216 x1)) x2), true))) .bad))

noncomputable def iReachShares (x0 : Nat) (x1 : Nat) (x2 : Nat) : Option (Nat × Nat × Nat × Bool) := (iReachShares_t x0 x1 x2).sem

noncomputable def iareIns_t (x0 : List Nat) : Tr (Bool) :=
  .br (iwithin (((List.length x0 : Nat) : Int)) 1 128) (.br (osome (iareFinite x0)) (.ok (oget (iareFinite x0))) .bad) (.ok false)

noncomputable def iareIns (x0 : List Nat) : Option (Bool) := (iareIns_t x0).sem

noncomputable def iRouteReach_l6_t (y0 : List Nat) (y1 : Nat) (y2 : Nat) (y3 : Nat) (y4 : Int) (y5 : List Nat) : Tr ((Int × List Nat) ⊕ (List Nat)) :=
  .br (decide ((y4 : Int) < (((List.length y0 : Nat) : Int)))) (.br (decide (0 ≤ (y4 : Int)) && decide ((y4 : Int) < ((List.length y0 : Nat) : Int))) (.br (decide (0 ≤ (IntKind.wrap .i64 (y4 - 1) : Int)) && decide ((IntKind.wrap .i64 (y4 - 1) : Int) < ((List.length y0 : Nat) : Int))) (.br (decide (0 ≤ (IntKind.wrap .i64 (y4 - 1) : Int)) && decide ((IntKind.wrap .i64 (y4 - 1) : Int) < ((List.length y5 : Nat) : Int))) (.br (decide ((List.length y5 + List.length [fadd .f32 (fadd .f32 (fmul .f32 y1 (List.getD y0 (Int.toNat y4) 0)) (fmul .f32 y2 (List.getD y0 (Int.toNat (IntKind.wrap .i64 (y4 - 1))) 0))) (fmul .f32 y3 (List.getD y5 (Int.toNat (IntKind.wrap .i64 (y4 - 1))) 0))]) * 4 ≤ 140737488355328)) (.ok (.inl (IntKind.wrap .i64 (y4 + 1), y5 ++ [fadd .f32 (fadd .f32 (fmul .f32 y1 (List.getD y0 (Int.toNat y4) 0)) (fmul .f32 y2 (List.getD y0 (Int.toNat (IntKind.wrap .i64 (y4 - 1))) 0))) (fmul .f32 y3 (List.getD y5 (Int.toNat (IntKind.wrap .i64 (y4 - 1))) 0))]))) .bad) .bad) .bad) .bad) (.ok (.inr y5))

noncomputable def iRouteReach_l6 (y0 : List Nat) (y1 : Nat) (y2 : Nat) (y3 : Nat) (y4 : Int) (y5 : List Nat) : Option (List Nat) := runL (fun s : Int × List Nat => (iRouteReach_l6_t y0 y1 y2 y3 s.1 s.2).sem) (y4, y5)

noncomputable def iRouteReach_t (x0 : Nat) (x1 : Nat) (x2 : List Nat) (x3 : Nat) (x4 : Nat) : Tr (Unit ⊕ (List Nat)) :=
  .br (osome (iReachShares x0 x1 x3)) (.br (! ((((oget (iReachShares x0 x1 x3)).2).2).2)) (.ok (.inl ())) (.br (osome (iareIns x2)) (.br (! (oget (iareIns x2))) (.ok (.inl ())) (.br (! (isFin .f32 x4)) (.ok (.inl ())) (.br (osome (iRouteReach_l6 x2 ((oget (iReachShares x0 x1 x3)).1) (((oget (iReachShares x0 x1 x3)).2).1) ((((oget (iReachShares x0 x1 x3)).2).2).1) 1 [x4])) (.br (osome (iareFinite (oget (iRouteReach_l6 x2 ((oget (iReachShares x0 x1 x3)).1) (((oget (iReachShares x0 x1 x3)).2).1) ((((oget (iReachShares x0 x1 x3)).2).2).1) 1 [x4])))) (.br (! (oget (iareFinite (oget (iRouteReach_l6 x2 ((oget (iReachShares x0 x1 x3)).1) (((oget (iReachShares x0 x1 x3)).2).1) ((((oget (iReachShares x0 x1 x3)).2).2).1) 1 [x4]))))) (.ok (.inl ())) (.ok (.inr (oget (iRouteReach_l6 x2 ((oget (iReachShares x0 x1 x3)).1) (((oget (iReachShares x0 x1 x3)).2).1) ((((oget (iReachShares x0 x1 x3)).2).2).1) 1 [x4]))))) .bad) .bad))) .bad)) .bad

noncomputable def iRouteReach (x0 : Nat) (x1 : Nat) (x2 : List Nat) (x3 : Nat) (x4 : Nat) : Option (Unit ⊕ (List Nat)) := (iRouteReach_t x0 x1 x2 x3 x4).sem

noncomputable def wmarkFloat32S_l2_t  (y0 : Int) (y1 : Int) (y2 : List Nat) : Tr ((Int × Int × List Nat) ⊕ (Int × List Nat)) :=
  .br (decide ((y1 : Int) < (((List.length y2 : Nat) : Int)))) (.br (decide (0 ≤ (y1 : Int)) && decide ((y1 : Int) < ((List.length y2 : Nat) : Int))) (.ok (.inl (IntKind.wrap .i64 (y0 + 1), IntKind.wrap .i64 (y1 + 1), List.set y2 (Int.toNat y1) (FloatKind.nearest .f32 y0)))) .bad) (.ok (.inr (y0, y2)))

noncomputable def wmarkFloat32S_l2 (y0 : Int) (y1 : Int) (y2 : List Nat) : Option (Int × List Nat) := runL (fun s : Int × Int × List Nat => (wmarkFloat32S_l2_t  s.1 s.2.1 s.2.2).sem) (y0, y1, y2)

noncomputable def wmarkFloat32S_t (x0 : Int) (x1 : List Nat) : Tr (Int × List Nat) :=
  .br (osome (wmarkFloat32S_l2 x0 0 x1)) (.ok ((oget (wmarkFloat32S_l2 x0 0 x1)).1, (oget (wmarkFloat32S_l2 x0 0 x1)).2)) .bad

noncomputable def wmarkFloat32S (x0 : Int) (x1 : List Nat) : Option (Int × List Nat) := (wmarkFloat32S_t x0 x1).sem

noncomputable def wheldFloat32S_l2_t (y0 : List Nat) (y1 : Int) (y2 : Int) : Tr ((Int × Int) ⊕ (Int ⊕ Int)) :=
  .br (decide ((y2 : Int) < (((List.length y0 : Nat) : Int)))) (.br (decide (0 ≤ (y2 : Int)) && decide ((y2 : Int) < ((List.length y0 : Nat) : Int))) (.br (! (feq .f32 (List.getD y0 (Int.toNat y2) 0) (FloatKind.nearest .f32 y1))) (.ok (.inr (.inl (-1)))) (.ok (.inl (IntKind.wrap .i64 (y1 + 1), IntKind.wrap .i64 (y2 + 1))))) .bad) (.ok (.inr (.inr y1)))

noncomputable def wheldFloat32S_l2 (y0 : List Nat) (y1 : Int) (y2 : Int) : Option (Int ⊕ Int) := runL (fun s : Int × Int => (wheldFloat32S_l2_t y0 s.1 s.2).sem) (y1, y2)

noncomputable def wheldFloat32S_t (x0 : List Nat) (x1 : Int) : Tr (Int) :=
  .br (osome (wheldFloat32S_l2 x0 x1 0)) (.br (isL (oget (wheldFloat32S_l2 x0 x1 0))) (.ok (unL (oget (wheldFloat32S_l2 x0 x1 0)))) (.ok (unR (oget (wheldFloat32S_l2 x0 x1 0))))) .bad

noncomputable def wheldFloat32S (x0 : List Nat) (x1 : Int) : Option (Int) := (wheldFloat32S_t x0 x1).sem

noncomputable def wmarkFloat32S_nil_l2_t (y0 : Int) (y1 : Int)  : Tr (Unit ⊕ Int) :=
  .br (decide ((y1 : Int) < 0)) .bad (.ok (.inr y0))

noncomputable def wmarkFloat32S_nil_l2 (y0 : Int) (y1 : Int) : Option (Int) := runL (fun s : Unit => (wmarkFloat32S_nil_l2_t y0 y1 ).sem) ()

noncomputable def wmarkFloat32S_nil_t (x0 : Int) : Tr (Int) :=
  .br (osome (wmarkFloat32S_nil_l2 x0 0)) (.ok (oget (wmarkFloat32S_nil_l2 x0 0))) .bad

noncomputable def wmarkFloat32S_nil (x0 : Int) : Option (Int) := (wmarkFloat32S_nil_t x0).sem

noncomputable def wFnExactRouteReach_t (x0 : Nat) (x1 : Nat) (x2 : List Nat) (x3 : Nat) (x4 : Nat) : Tr (Bool) :=
  .br (decide ((((List.length x2 : Nat) : Int) : Int) > 1048576)) (.ok true) (.br (osome (wtoFloat32S x2)) (.br (osome (sRouteReach ((wtoReach x0 x1).1) ((wtoReach x0 x1).2) (oget (wtoFloat32S x2)) x3 x4)) (.br (isL (oget (sRouteReach ((wtoReach x0 x1).1) ((wtoReach x0 x1).2) (oget (wtoFloat32S x2)) x3 x4))) (.br (osome (wtoFloat32S x2)) (.br (osome (iRouteReach ((wtoReach x0 x1).1) ((wtoReach x0 x1).2) (oget (wtoFloat32S x2)) x3 x4)) (.br (isL (oget (iRouteReach ((wtoReach x0 x1).1) ((wtoReach x0 x1).2) (oget (wtoFloat32S x2)) x3 x4))) (.br (osome (weqFloat32S [] [])) (.br (! (oget (weqFloat32S [] []))) (.ok false) (.br (! (false == false)) (.ok false) (.br (osome (wtoFloat32S x2)) (.br (osome (weqFloat32S (oget (wtoFloat32S x2)) (oget (wtoFloat32S x2)))) (.br (! (oget (weqFloat32S (oget (wtoFloat32S x2)) (oget (wtoFloat32S x2))))) (.ok false) (.br (osome (wmarkFloat32S 1 (oget (wtoFloat32S x2)))) (.br (decide (((oget (wmarkFloat32S 1 (oget (wtoFloat32S x2)))).1 : Int) < 0)) (.ok false) (.br (osome (weqFloat32S [] [])) (.br (! (oget (weqFloat32S [] []))) (.ok false) (.br (! (false == false)) (.ok false) (.br (osome (wmarkFloat32S_nil 1)) (.br (osome (wheldFloat32S [] 1)) (.br (decide ((oget (wheldFloat32S [] 1) : Int) < 0)) (.ok false) (.br ((oget (wheldFloat32S [] 1) : Int) != (oget (wmarkFloat32S_nil 1))) (.ok false) (.br (osome (wtoFloat32S x2)) (.br (osome (iRouteReach ((wtoReach x0 x1).1) ((wtoReach x0 x1).2) (oget (wtoFloat32S x2)) x3 x4)) (.br (isL (oget (iRouteReach ((wtoReach x0 x1).1) ((wtoReach x0 x1).2) (oget (wtoFloat32S x2)) x3 x4))) (.br (osome (weqFloat32S [] [])) (.br (! (oget (weqFloat32S [] []))) (.ok false) (.br (! (false == false)) (.ok false) (.br (osome (wheldFloat32S [] 1)) (.br (decide ((oget (wheldFloat32S [] 1) : Int) < 0)) (.ok false) (.br ((oget (wheldFloat32S [] 1) : Int) != (oget (wmarkFloat32S_nil 1))) (.ok false) (.ok true))) .bad))) .bad) (.br (osome (weqFloat32S (unR (oget (iRouteReach ((wtoReach x0 x1).1) ((wtoReach x0 x1).2) (oget (wtoFloat32S x2)) x3 x4))) [])) (.br (! (oget (weqFloat32S (unR (oget (iRouteReach ((wtoReach x0 x1).1) ((wtoReach x0 x1).2) (oget (wtoFloat32S x2)) x3 x4))) []))) (.ok false) (.br (! (true == false)) (.ok false) (.br (osome (wheldFloat32S [] 1)) (.br (decide ((oget (wheldFloat32S [] 1) : Int) < 0)) (.ok false) (.br ((oget (wheldFloat32S [] 1) : Int) != (oget (wmarkFloat32S_nil 1))) (.ok false) (.ok true))) .bad))) .bad)) .bad) .bad))) .bad) .bad))) .bad)) .bad)) .bad) .bad))) .bad) (.br (osome (weqFloat32S (unR (oget (iRouteReach ((wtoReach x0 x1).1) ((wtoReach x0 x1).2) (oget (wtoFloat32S x2)) x3 x4))) [])) (.br (! (oget (weqFloat32S (unR (oget (iRouteReach ((wtoReach x0 x1).1) ((wtoReach x0 x1).2) (oget (wtoFloat32S x2)) x3 x4))) []))) (.ok false) (.br (! (true == false)) (.ok false) (.br (osome (wtoFloat32S x2)) (.br (osome (weqFloat32S (oget (wtoFloat32S x2)) (oget (wtoFloat32S x2)))) (.br (! (oget (weqFloat32S (oget (wtoFloat32S x2)) (oget (wtoFloat32S x2))))) (.ok false) (.br (osome (wmarkFloat32S 1 (oget (wtoFloat32S x2)))) (.br (decide (((oget (wmarkFloat32S 1 (oget (wtoFloat32S x2)))).1 : Int) < 0)) (.ok false) (.br (osome (weqFloat32S (unR (oget (iRouteReach ((wtoReach x0 x1).1) ((wtoReach x0 x1).2) (oget (wtoFloat32S x2)) x3 x4))) [])) (.br (! (oget (weqFloat32S (unR (oget (iRouteReach ((wtoReach x0 x1).1) ((wtoReach x0 x1).2) (oget (wtoFloat32S x2)) x3 x4))) []))) (.ok false) (.br (! (true == false)) (.ok false) (.br (osome (wmarkFloat32S 1 (unR (oget (iRouteReach ((wtoReach x0 x1).1) ((wtoReach x0 x1).2) (oget (wtoFloat32S x2)) x3 x4))))) (.br (osome (wheldFloat32S ((oget (wmarkFloat32S 1 (unR (oget (iRouteReach ((wtoReach x0 x1).1) ((wtoReach x0 x1).2) (oget (wtoFloat32S x2)) x3 x4))))).2) 1)) (.br (decide ((oget (wheldFloat32S ((oget (wmarkFloat32S 1 (unR (oget (iRouteReach ((wtoReach x0 x1).1) ((wtoReach x0 x1).2) (oget (wtoFloat32S x2)) x3 x4))))).2) 1) : Int) < 0)) (.ok false) (.br ((oget (wheldFloat32S ((oget (wmarkFloat32S 1 (unR (oget (iRouteReach ((wtoReach x0 x1).1) ((wtoReach x0 x1).2) (oget (wtoFloat32S x2)) x3 x4))))).2) 1) : Int) != ((oget (wmarkFloat32S 1 (unR (oget (iRouteReach ((wtoReach x0 x1).1) ((wtoReach x0 x1).2) (oget (wtoFloat32S x2)) x3 x4))))).1)) (.ok false) (.br (osome (wtoFloat32S x2)) (.br (osome (iRouteReach ((wtoReach x0 x1).1) ((wtoReach x0 x1).2) (oget (wtoFloat32S x2)) x3 x4)) (.br (isL (oget (iRouteReach ((wtoReach x0 x1).1) ((wtoReach x0 x1).2) (oget (wtoFloat32S x2)) x3 x4))) (.br (osome (weqFloat32S [] [])) (.br (! (oget (weqFloat32S [] []))) (.ok false) (.br (! (false == false)) (.ok false) (.br (osome (wheldFloat32S ((oget (wmarkFloat32S 1 (unR (oget (iRouteReach ((wtoReach x0 x1).1) ((wtoReach x0 x1).2) (oget (wtoFloat32S x2)) x3 x4))))).2) 1)) (.br (decide ((oget (wheldFloat32S ((oget (wmarkFloat32S 1 (unR (oget (iRouteReach ((wtoReach x0 x1).1) ((wtoReach x0 x1).2) (oget (wtoFloat32S x2)) x3 x4))))).2) 1) : Int) < 0)) (.ok false) (.br ((oget (wheldFloat32S ((oget (wmarkFloat32S 1 (unR (oget (iRouteReach ((wtoReach x0 x1).1) ((wtoReach x0 x1).2) (oget (wtoFloat32S x2)) x3 x4))))).2) 1) : Int) != ((oget (wmarkFloat32S 1 (unR (oget (iRouteReach ((wtoReach x0 x1).1) ((wtoReach x0 x1).2) (oget (wtoFloat32S x2)) x3 x4))))).1)) (.ok false) (.ok true))) .bad))) .bad) (.br (osome (weqFloat32S (unR (oget (iRouteReach ((wtoReach x0 x1).1) ((wtoReach x0 x1).2) (oget (wtoFloat32S x2)) x3 x4))) [])) (.br (! (oget (weqFloat32S (unR (oget (iRouteReach ((wtoReach x0 x1).1) ((wtoReach x0 x1).2) (oget (wtoFloat32S x2)) x3 x4))) []))) (.ok false) (.br (! (true == false)) (.ok false) (.br (osome (wheldFloat32S ((oget (wmarkFloat32S 1 (unR (oget (iRouteReach ((wtoReach x0 x1).1) ((wtoReach x0 x1).2) (oget (wtoFloat32S x2)) x3 x4))))).2) 1)) (.br (decide ((oget (wheldFloat32S ((oget (wmarkFloat32S 1 (unR (oget (iRouteReach ((wtoReach x0 x1).1) ((wtoReach x0 x1).2) (oget (wtoFloat32S x2)) x3 x4))))).2) 1) : Int) < 0)) (.ok false) (.br ((oget (wheldFloat32S ((oget (wmarkFloat32S 1 (unR (oget (iRouteReach ((wtoReach x0 x1).1) ((wtoReach x0 x1).2) (oget (wtoFloat32S x2)) x3 x4))))).2) 1) : Int) != ((oget (wmarkFloat32S 1 (unR (oget (iRouteReach ((wtoReach x0 x1).1) ((wtoReach x0 x1).2) (oget (wtoFloat32S x2)) x3 x4))))).1)) (.ok false) (.ok true))) .bad))) .bad)) .bad) .bad))) .bad) .bad))) .bad)) .bad)) .bad) .bad))) .bad)) .bad) .bad) (.br (osome (wtoFloat32S x2)) (.br (osome (iRouteReach ((wtoReach x0 x1).1) ((wtoReach x0 x1).2) (oget (wtoFloat32S x2)) x3 x4)) (.br (isL (oget (iRouteReach ((wtoReach x0 x1).1) ((wtoReach x0 x1).2) (oget (wtoFloat32S x2)) x3 x4))) (.br (osome (weqFloat32S [] (unR (oget (sRouteReach ((wtoReach x0 x1).1) ((wtoReach x0 x1).2) (oget (wtoFloat32S x2)) x3 x4))))) (.br (! (oget (weqFloat32S [] (unR (oget (sRouteReach ((wtoReach x0 x1).1) ((wtoReach x0 x1).2) (oget (wtoFloat32S x2)) x3 x4)))))) (.ok false) (.br (! (false == true)) (.ok false) (.br (osome (wtoFloat32S x2)) (.br (osome (weqFloat32S (oget (wtoFloat32S x2)) (oget (wtoFloat32S x2)))) (.br (! (oget (weqFloat32S (oget (wtoFloat32S x2)) (oget (wtoFloat32S x2))))) (.ok false) (.br (osome (wmarkFloat32S 1 (oget (wtoFloat32S x2)))) (.br (decide (((oget (wmarkFloat32S 1 (oget (wtoFloat32S x2)))).1 : Int) < 0)) (.ok false) (.br (osome (weqFloat32S [] (unR (oget (sRouteReach ((wtoReach x0 x1).1) ((wtoReach x0 x1).2) (oget (wtoFloat32S x2)) x3 x4))))) (.br (! (oget (weqFloat32S [] (unR (oget (sRouteReach ((wtoReach x0 x1).1) ((wtoReach x0 x1).2) (oget (wtoFloat32S x2)) x3 x4)))))) (.ok false) (.br (! (false == true)) (.ok false) (.br (osome (wmarkFloat32S_nil 1)) (.br (osome (wheldFloat32S [] 1)) (.br (decide ((oget (wheldFloat32S [] 1) : Int) < 0)) (.ok false) (.br ((oget (wheldFloat32S [] 1) : Int) != (oget (wmarkFloat32S_nil 1))) (.ok false) (.br (osome (wtoFloat32S x2)) (.br (osome (iRouteReach ((wtoReach x0 x1).1) ((wtoReach x0 x1).2) (oget (wtoFloat32S x2)) x3 x4)) (.br (isL (oget (iRouteReach ((wtoReach x0 x1).1) ((wtoReach x0 x1).2) (oget (wtoFloat32S x2)) x3 x4))) (.br (osome (weqFloat32S [] (unR (oget (sRouteReach ((wtoReach x0 x1).1) ((wtoReach x0 x1).2) (oget (wtoFloat32S x2)) x3 x4))))) (.br (! (oget (weqFloat32S [] (unR (oget (sRouteReach ((wtoReach x0 x1).1) ((wtoReach x0 x1).2) (oget (wtoFloat32S x2)) x3 x4)))))) (.ok false) (.br (! (false == true)) (.ok false) (.br (osome (wheldFloat32S [] 1)) (.br (decide ((oget (wheldFloat32S [] 1) : Int) < 0)) (.ok false) (.br ((oget (wheldFloat32S [] 1) : Int) != (oget (wmarkFloat32S_nil 1))) (.ok false) (.ok true))) .bad))) .bad) (.br (osome (weqFloat32S (unR (oget (iRouteReach ((wtoReach x0 x1).1) ((wtoReach x0 x1).2) (oget (wtoFloat32S x2)) x3 x4))) (unR (oget (sRouteReach ((wtoReach x0 x1).1) ((wtoReach x0 x1).2) (oget (wtoFloat32S x2)) x3 x4))))) (.br (! (oget (weqFloat32S (unR (oget (iRouteReach ((wtoReach x0 x1).1) ((wtoReach x0 x1).2) (oget (wtoFloat32S x2)) x3 x4))) (unR (oget (sRouteReach ((wtoReach x0 x1).1) ((wtoReach x0 x1).2) (oget (wtoFloat32S x2)) x3 x4)))))) (.ok false) (.br (! (true == true)) (.ok false) (.br (osome (wheldFloat32S [] 1)) (.br (decide ((oget (wheldFloat32S [] 1) : Int) < 0)) (.ok false) (.br ((oget (wheldFloat32S [] 1) : Int) != (oget (wmarkFloat32S_nil 1))) (.ok false) (.ok true))) .bad))) .bad)) .bad) .bad))) .bad) .bad))) .bad)) .bad)) .bad) .bad))) .bad) (.br (osome (weqFloat32S (unR (oget (iRouteReach ((wtoReach x0 x1).1) ((wtoReach x0 x1).2) (oget (wtoFloat32S x2)) x3 x4))) (unR (oget (sRouteReach ((wtoReach x0 x1).1) ((wtoReach x0 x1).2) (oget (wtoFloat32S x2)) x3 x4))))) (.br (! (oget (weqFloat32S (unR (oget (iRouteReach ((wtoReach x0 x1).1) ((wtoReach x0 x1).2) (oget (wtoFloat32S x2)) x3 x4))) (unR (oget (sRouteReach ((wtoReach x0 x1).1) ((wtoReach x0 x1).2) (oget (wtoFloat32S x2)) x3 x4)))))) (.ok false) (.br (! (true == true)) (.ok false) (.br (osome (wtoFloat32S x2)) (.br (osome (weqFloat32S (oget (wtoFloat32S x2)) (oget (wtoFloat32S x2)))) (.br (! (oget (weqFloat32S (oget (wtoFloat32S x2)) (oget (wtoFloat32S x2))))) (.ok false) (.br (osome (wmarkFloat32S 1 (oget (wtoFloat32S x2)))) (.br (decide (((oget (wmarkFloat32S 1 (oget (wtoFloat32S x2)))).1 : Int) < 0)) (.ok false) (.br (osome (weqFloat32S (unR (oget (iRouteReach ((wtoReach x0 x1).1) ((wtoReach x0 x1).2) (oget (wtoFloat32S x2)) x3 x4))) (unR (oget (sRouteReach ((wtoReach x0 x1).1) ((wtoReach x0 x1).2) (oget (wtoFloat32S x2)) x3 x4))))) (.br (! (oget (weqFloat32S (unR (oget (iRouteReach ((wtoReach x0 x1).1) ((wtoReach x0 x1).2) (oget (wtoFloat32S x2)) x3 x4))) (unR (oget (sRouteReach ((wtoReach x0 x1).1) ((wtoReach x0 x1).2) (oget (wtoFloat32S x2)) x3 x4)))))) (.ok false) (.br (! (true == true)) (.ok false) (.br (osome (wmarkFloat32S 1 (unR (oget (iRouteReach ((wtoReach x0 x1).1) ((wtoReach x0 x1).2) (oget (wtoFloat32S x2)) x3 x4))))) (.br (osome (wheldFloat32S ((oget (wmarkFloat32S 1 (unR (oget (iRouteReach ((wtoReach x0 x1).1) ((wtoReach x0 x1).2) (oget (wtoFloat32S x2)) x3 x4))))).2) 1)) (.br (decide ((oget (wheldFloat32S ((oget (wmarkFloat32S 1 (unR (oget (iRouteReach ((wtoReach x0 x1).1) ((wtoReach x0 x1).2) (oget (wtoFloat32S x2)) x3 x4))))).2) 1) : Int) < 0)) (.ok false) (.br ((oget (wheldFloat32S ((oget (wmarkFloat32S 1 (unR (oget (iRouteReach ((wtoReach x0 x1).1) ((wtoReach x0 x1).2) (oget (wtoFloat32S x2)) x3 x4))))).2) 1) : Int) != ((oget (wmarkFloat32S 1 (unR (oget (iRouteReach ((wtoReach x0 x1).1) ((wtoReach x0 x1).2) (oget (wtoFloat32S x2)) x3 x4))))).1)) (.ok false) (.br (osome (wtoFloat32S x2)) (.br (osome (iRouteReach ((wtoReach x0 x1).1) ((wtoReach x0 x1).2) (oget (wtoFloat32S x2)) x3 x4)) (.br (isL (oget (iRouteReach ((wtoReach x0 x1).1) ((wtoReach x0 x1).2) (oget (wtoFloat32S x2)) x3 x4))) (.br (osome (weqFloat32S [] (unR (oget (sRouteReach ((wtoReach x0 x1).1) ((wtoReach x0 x1).2) (oget (wtoFloat32S x2)) x3 x4))))) (.br (! (oget (weqFloat32S [] (unR (oget (sRouteReach ((wtoReach x0 x1).1) ((wtoReach x0 x1).2) (oget (wtoFloat32S x2)) x3 x4)))))) (.ok false) (.br (! (false == true)) (.ok false) (.br (osome (wheldFloat32S ((oget (wmarkFloat32S 1 (unR (oget (iRouteReach ((wtoReach x0 x1).1) ((wtoReach x0 x1).2) (oget (wtoFloat32S x2)) x3 x4))))).2) 1)) (.br (decide ((oget (wheldFloat32S ((oget (wmarkFloat32S 1 (unR (oget (iRouteReach ((wtoReach x0 x1).1) ((wtoReach x0 x1).2) (oget (wtoFloat32S x2)) x3 x4))))).2) 1) : Int) < 0)) (.ok false) (.br ((oget (wheldFloat32S ((oget (wmarkFloat32S 1 (unR (oget (iRouteReach ((wtoReach x0 x1).1) ((wtoReach x0 x1).2) (oget (wtoFloat32S x2)) x3 x4))))).2) 1) : Int) != ((oget (wmarkFloat32S 1 (unR (oget (iRouteReach ((wtoReach x0 x1).1) ((wtoReach x0 x1).2) (oget (wtoFloat32S x2)) x3 x4))))).1)) (.ok false) (.ok true))) .bad))) .bad) (.br (osome (weqFloat32S (unR (oget (iRouteReach ((wtoReach x0 x1).1) ((wtoReach x0 x1).2) (oget (wtoFloat32S x2)) x3 x4))) (unR (oget (sRouteReach ((wtoReach x0 x1).1) ((wtoReach x0 x1).2) (oget (wtoFloat32S x2)) x3 x4))))) (.br (! (oget (weqFloat32S (unR (oget (iRouteReach ((wtoReach x0 x1).1) ((wtoReach x0 x1).2) (oget (wtoFloat32S x2)) x3 x4))) (unR (oget (sRouteReach ((wtoReach x0 x1).1) ((wtoReach x0 x1).2) (oget (wtoFloat32S x2)) x3 x4)))))) (.ok false) (.br (! (true == true)) (.ok false) (.br (osome (wheldFloat32S ((oget (wmarkFloat32S 1 (unR (oget (iRouteReach ((wtoReach x0 x1).1) ((wtoReach x0 x1).2) (oget (wtoFloat32S x2)) x3 x4))))).2) 1)) (.br (decide ((oget (wheldFloat32S ((oget (wmarkFloat32S 1 (unR (oget (iRouteReach ((wtoReach x0 x1).1) ((wtoReach x0 x1).2) (oget (wtoFloat32S x2)) x3 x4))))).2) 1) : Int) < 0)) (.ok false) (.br ((oget (wheldFloat32S ((oget (wmarkFloat32S 1 (unR (oget (iRouteReach ((wtoReach x0 x1).1) ((wtoReach x0 x1).2) (oget (wtoFloat32S x2)) x3 x4))))).2) 1) : Int) != ((oget (wmarkFloat32S 1 (unR (oget (iRouteReach ((wtoReach x0 x1).1) ((wtoReach x0 x1).2) (oget (wtoFloat32S x2)) x3 x4))))).1)) (.ok false) (.ok true))) .bad))) .bad)) .bad) .bad))) .bad) .bad))) .bad)) .bad)) .bad) .bad))) .bad)) .bad) .bad)) .bad) .bad)

noncomputable def wFnExactRouteReach (x0 : Nat) (x1 : Nat) (x2 : List Nat) (x3 : Nat) (x4 : Nat) : Option (Bool) := (wFnExactRouteReach_t x0 x1 x2 x3 x4).sem

noncomputable def wszCanal_t (x0 : Nat) (x1 : Nat) (x2 : Nat) (x3 : List Nat) (x4 : List Nat) (x5 : Int) : Tr (Int) :=
  .br (decide ((wszFloat32S x3 x5 : Int) < 0)) (.ok (-1)) (.br (decide ((wszFloat32S x4 (wszFloat32S x3 x5) : Int) < 0)) (.ok (-1)) (.ok (wszFloat32S x4 (wszFloat32S x3 x5))))

noncomputable def wszCanal (x0 : Nat) (x1 : Nat) (x2 : Nat) (x3 : List Nat) (x4 : List Nat) (x5 : Int) : Int := (wszCanal_t x0 x1 x2 x3 x4 x5).val

noncomputable def wtoCanal_t (x0 : Nat) (x1 : Nat) (x2 : Nat) (x3 : List Nat) (x4 : List Nat) : Tr (Nat × Nat × Nat × List Nat × List Nat) :=
  .br (osome (wtoFloat32S x3)) (.br (osome (wtoFloat32S x4)) (.ok (x0, x1, x2, oget (wtoFloat32S x3), oget (wtoFloat32S x4))) .bad) .bad

noncomputable def wtoCanal (x0 : Nat) (x1 : Nat) (x2 : Nat) (x3 : List Nat) (x4 : List Nat) : Option (Nat × Nat × Nat × List Nat × List Nat) := (wtoCanal_t x0 x1 x2 x3 x4).sem

noncomputable def sl05Canal_t (x0 : Nat) (x1 : Nat) (x2 : Nat) (x3 : List Nat) (x4 : List Nat) : Tr (Bool) :=
  .br (isLen x0) (.br (isLen x1) (.br (isMass x2) (.br (decide ((((List.length x3 : Nat) : Int) : Int) ≥ 1)) (.br (decide ((((List.length x3 : Nat) : Int) : Int) ≤ 48)) (.br ((((List.length x4 : Nat) : Int) : Int) == (((List.length x3 : Nat) : Int))) (.br (osome (sl02Finite x3)) (.br (oget (sl02Finite x3)) (.br (osome (sl02Finite x4)) (.ok (oget (sl02Finite x4))) .bad) (.ok false)) .bad) (.ok false)) (.ok false)) (.ok false)) (.ok false)) (.ok false)) (.ok false)

noncomputable def sl05Canal (x0 : Nat) (x1 : Nat) (x2 : Nat) (x3 : List Nat) (x4 : List Nat) : Option (Bool) := (sl05Canal_t x0 x1 x2 x3 x4).sem

noncomputable def sEnergyOfCanal_l5_t (y1 : Int) (y3 : Nat) (y4 : Nat) (y5 : Nat) (y6 : List Nat) (y7 : List Nat) (y0 : Nat) (y2 : Int) : Tr ((Nat × Int) ⊕ Nat) :=
  .br (decide ((y2 : Int) < y1)) (.br (decide (0 ≤ (y2 : Int)) && decide ((y2 : Int) < ((List.length y6 : Nat) : Int))) (.br (decide (0 ≤ (y2 : Int)) && decide ((y2 : Int) < ((List.length y6 : Nat) : Int))) (.br (decide (0 ≤ (y2 : Int)) && decide ((y2 : Int) < ((List.length y7 : Nat) : Int))) (.br (decide (0 ≤ (y2 : Int)) && decide ((y2 : Int) < ((List.length y7 : Nat) : Int))) (.ok (.inl (fadd .f32 y0 (fmul .f32 y3 (fadd .f32 (fmul .f32 1084028355 (fmul .f32 (List.getD y6 (Int.toNat y2) 0) (List.getD y6 (Int.toNat y2) 0))) (fdiv .f32 (fmul .f32 1056964608 (fmul .f32 (List.getD y7 (Int.toNat y2) 0) (List.getD y7 (Int.toNat y2) 0))) y4))), IntKind.wrap .i64 (y2 + 1)))) .bad) .bad) .bad) .bad) (.ok (.inr y0))

noncomputable def sEnergyOfCanal_l5 (y0 : Nat) (y1 : Int) (y2 : Int) (y3 : Nat) (y4 : Nat) (y5 : Nat) (y6 : List Nat) (y7 : List Nat) : Option (Nat) := runL (fun s : Nat × Int => (sEnergyOfCanal_l5_t y1 y3 y4 y5 y6 y7 s.1 s.2).sem) (y0, y2)

noncomputable def sEnergyOfCanal_t (x0 : Nat) (x1 : Nat) (x2 : Nat) (x3 : List Nat) (x4 : List Nat) : Tr (Nat × Bool) :=
  .br (osome (sl05Canal x0 x1 x2 x3 x4)) (.br (! (oget (sl05Canal x0 x1 x2 x3 x4))) (.ok (0, false)) (.br (osome (sEnergyOfCanal_l5 0 (((List.length x3 : Nat) : Int)) 0 x0 x1 x2 x3 x4)) (.ok ((sl02Number (oget (sEnergyOfCanal_l5 0 (((List.length x3 : Nat) : Int)) 0 x0 x1 x2 x3 x4))).1, (sl02Number (oget (sEnergyOfCanal_l5 0 (((List.length x3 : Nat) : Int)) 0 x0 x1 x2 x3 x4))).2)) .bad)) .bad

noncomputable def sEnergyOfCanal (x0 : Nat) (x1 : Nat) (x2 : Nat) (x3 : List Nat) (x4 : List Nat) : Option (Nat × Bool) := (sEnergyOfCanal_t x0 x1 x2 x3 x4).sem

noncomputable def iareLengths_l2_t (y0 : List Nat) (y1 : Int) (y2 : Int) : Tr (Int ⊕ (Unit ⊕ Unit)) :=
  .br (decide ((y2 : Int) < y1)) (.br (decide (0 ≤ (y2 : Int)) && decide ((y2 : Int) < ((List.length y0 : Nat) : Int))) (.br (! (isLen (List.getD y0 (Int.toNat y2) 0))) (.ok (.inr (.inl ()))) (.ok (.inl (IntKind.wrap .i64 (y2 + 1))))) .bad) (.ok (.inr (.inr ())))

noncomputable def iareLengths_l2 (y0 : List Nat) (y1 : Int) (y2 : Int) : Option (Unit ⊕ Unit) := runL (fun s : Int => (iareLengths_l2_t y0 y1 s).sem) y2

noncomputable def iareLengths_t (x0 : List Nat) : Tr (Bool) :=
  .br (osome (iareLengths_l2 x0 (((List.length x0 : Nat) : Int)) 0)) (.br (isL (oget (iareLengths_l2 x0 (((List.length x0 : Nat) : Int)) 0))) (.ok false) (.ok true)) .bad

noncomputable def iareLengths (x0 : List Nat) : Option (Bool) := (iareLengths_t x0).sem

noncomputable def iValidCanal_t (x0 : Nat) (x1 : Nat) (x2 : Nat) (x3 : List Nat) (x4 : List Nat) : Tr (Bool) :=
  .br (osome (iareLengths [x0, x1])) (.br (oget (iareLengths [x0, x1])) (.br (isMass x2) (.br (iwithin (((List.length x3 : Nat) : Int)) 1 48) (.br ((((List.length x4 : Nat) : Int) : Int) == (((List.length x3 : Nat) : Int))) (.br (osome (iareFinite x3)) (.br (oget (iareFinite x3)) (.br (osome (iareFinite x4)) (.ok (oget (iareFinite x4))) .bad) (.ok false)) .bad) (.ok false)) (.ok false)) (.ok false)) (.ok false)) .bad

noncomputable def iValidCanal (x0 : Nat) (x1 : Nat) (x2 : Nat) (x3 : List Nat) (x4 : List Nat) : Option (Bool) := (iValidCanal_t x0 x1 x2 x3 x4).sem

noncomputable def iEnergyOfCanal_l6_t (y1 : Nat) (y2 : List Nat) (y3 : Int) (y5 : Nat) (y6 : Nat) (y7 : Nat) (y8 : List Nat) (y9 : List Nat) (y0 : Nat) (y4 : Int) : Tr ((Nat × Int) ⊕ Nat) :=
  .br (decide ((y4 : Int) < y3)) (.br (decide (0 ≤ (y4 : Int)) && decide ((y4 : Int) < ((List.length y2 : Nat) : Int))) (.br (decide (0 ≤ (y4 : Int)) && decide ((y4 : Int) < ((List.length y9 : Nat) : Int))) (.br (decide (0 ≤ (y4 : Int)) && decide ((y4 : Int) < ((List.length y9 : Nat) : Int))) (.ok (.inl (fadd .f32 y0 (fmul .f32 y5 (fadd .f32 (fmul .f32 y1 (fmul .f32 (List.getD y2 (Int.toNat y4) 0) (List.getD y2 (Int.toNat y4) 0))) (fdiv .f32 (fmul .f32 1056964608 (fmul .f32 (List.getD y9 (Int.toNat y4) 0) (List.getD y9 (Int.toNat y4) 0))) y6))), IntKind.wrap .i64 (y4 + 1)))) .bad) .bad) .bad) (.ok (.inr y0))

noncomputable def iEnergyOfCanal_l6 (y0 : Nat) (y1 : Nat) (y2 : List Nat) (y3 : Int) (y4 : Int) (y5 : Nat) (y6 : Nat) (y7 : Nat) (y8 : List Nat) (y9 : List Nat) : Option (Nat) := runL (fun s : Nat × Int => (iEnergyOfCanal_l6_t y1 y2 y3 y5 y6 y7 y8 y9 s.1 s.2).sem) (y0, y4)

noncomputable def iEnergyOfCanal_t (x0 : Nat) (x1 : Nat) (x2 : Nat) (x3 : List Nat) (x4 : List Nat) : Tr (Nat × Bool) :=
  .br (osome (iValidCanal x0 x1 x2 x3 x4)) (.br (! (oget (iValidCanal x0 x1 x2 x3 x4))) (.ok (0, false)) (.br (osome (iEnergyOfCanal_l6 0 (fmul .f32 1056964608 1092416963) x3 (((List.length x3 : Nat) : Int)) 0 x0 x1 x2 x3 x4)) (.ok ((ifinite32 (oget (iEnergyOfCanal_l6 0 (fmul .f32 1056964608 1092416963) x3 (((List.length x3 : Nat) : Int)) 0 x0 x1 x2 x3 x4))).1, (ifinite32 (oget (iEnergyOfCanal_l6 0 (fmul .f32 1056964608 1092416963) x3 (((List.length x3 : Nat) : Int)) 0 x0 x1 x2 x3 x4))).2)) .bad)) .bad

noncomputable def iEnergyOfCanal (x0 : Nat) (x1 : Nat) (x2 : Nat) (x3 : List Nat) (x4 : List Nat) : Option (Nat × Bool) := (iEnergyOfCanal_t x0 x1 x2 x3 x4).sem

noncomputable def weqCanal_t (x0 : Nat) (x1 : Nat) (x2 : Nat) (x3 : List Nat) (x4 : List Nat) (x5 : Nat) (x6 : Nat) (x7 : Nat) (x8 : List Nat) (x9 : List Nat) : Tr (Bool) :=
  .br (natEq (fup x0) (fup x5)) (.br (natEq (fup x1) (fup x6)) (.br (natEq (fup x2) (fup x7)) (.br (osome (weqFloat32S x3 x8)) (.br (! (oget (weqFloat32S x3 x8))) (.ok false) (.br (osome (weqFloat32S x4 x9)) (.br (! (oget (weqFloat32S x4 x9))) (.ok false) (.ok true)) .bad)) .bad) .bad) .bad) .bad

noncomputable def weqCanal (x0 : Nat) (x1 : Nat) (x2 : Nat) (x3 : List Nat) (x4 : List Nat) (x5 : Nat) (x6 : Nat) (x7 : Nat) (x8 : List Nat) (x9 : List Nat) : Option (Bool) := (weqCanal_t x0 x1 x2 x3 x4 x5 x6 x7 x8 x9).sem

noncomputable def wFnExactEnergyOfCanal_t (x0 : Nat) (x1 : Nat) (x2 : Nat) (x3 : List Nat) (x4 : List Nat) : Tr (Bool) :=
  .br (decide ((wszCanal x0 x1 x2 x3 x4 1048576 : Int) < 0)) (.ok true) (.br (osome (wtoCanal x0 x1 x2 x3 x4)) (.br (osome (sEnergyOfCanal ((oget (wtoCanal x0 x1 x2 x3 x4)).1) (((oget (wtoCanal x0 x1 x2 x3 x4)).2).1) ((((oget (wtoCanal x0 x1 x2 x3 x4)).2).2).1) (((((oget (wtoCanal x0 x1 x2 x3 x4)).2).2).2).1) (((((oget (wtoCanal x0 x1 x2 x3 x4)).2).2).2).2))) (.br (osome (wtoCanal x0 x1 x2 x3 x4)) (.br (osome (iEnergyOfCanal ((oget (wtoCanal x0 x1 x2 x3 x4)).1) (((oget (wtoCanal x0 x1 x2 x3 x4)).2).1) ((((oget (wtoCanal x0 x1 x2 x3 x4)).2).2).1) (((((oget (wtoCanal x0 x1 x2 x3 x4)).2).2).2).1) (((((oget (wtoCanal x0 x1 x2 x3 x4)).2).2).2).2))) (.br (natEq (fup ((oget (iEnergyOfCanal ((oget (wtoCanal x0 x1 x2 x3 x4)).1) (((oget (wtoCanal x0 x1 x2 x3 x4)).2).1) ((((oget (wtoCanal x0 x1 x2 x3 x4)).2).2).1) (((((oget (wtoCanal x0 x1 x2 x3 x4)).2).2).2).1) (((((oget (wtoCanal x0 x1 x2 x3 x4)).2).2).2).2))).1)) (fup ((oget (sEnergyOfCanal ((oget (wtoCanal x0 x1 x2 x3 x4)).1) (((oget (wtoCanal x0 x1 x2 x3 x4)).2).1) ((((oget (wtoCanal x0 x1 x2 x3 x4)).2).2).1) (((((oget (wtoCanal x0 x1 x2 x3 x4)).2).2).2).1) (((((oget (wtoCanal x0 x1 x2 x3 x4)).2).2).2).2))).1))) (.br (! (((oget (iEnergyOfCanal ((oget (wtoCanal x0 x1 x2 x3 x4)).1) (((oget (wtoCanal x0 x1 x2 x3 x4)).2).1) ((((oget (wtoCanal x0 x1 x2 x3 x4)).2).2).1) (((((oget (wtoCanal x0 x1 x2 x3 x4)).2).2).2).1) (((((oget (wtoCanal x0 x1 x2 x3 x4)).2).2).2).2))).2) == ((oget (sEnergyOfCanal ((oget (wtoCanal x0 x1 x2 x3 x4)).1) (((oget (wtoCanal x0 x1 x2 x3 x4)).2).1) ((((oget (wtoCanal x0 x1 x2 x3 x4)).2).2).1) (((((oget (wtoCanal x0 x1 x2 x3 x4)).2).2).2).1) (((((oget (wtoCanal x0 x1 x2 x3 x4)).2).2).2).2))).2))) (.ok false) (.br (osome (wtoCanal x0 x1 x2 x3 x4)) (.br (osome (weqCanal ((oget (wtoCanal x0 x1 x2 x3 x4)).1) (((oget (wtoCanal x0 x1 x2 x3 x4)).2).1) ((((oget (wtoCanal x0 x1 x2 x3 x4)).2).2).1) (((((oget (wtoCanal x0 x1 x2 x3 x4)).2).2).2).1) (((((oget (wtoCanal x0 x1 x2 x3 x4)).2).2).2).2) ((oget (wtoCanal x0 x1 x2 x3 x4)).1) (((oget (wtoCanal x0 x1 x2 x3 x4)).2).1) ((((oget (wtoCanal x0 x1 x2 x3 x4)).2).2).1) (((((oget (wtoCanal x0 x1 x2 x3 x4)).2).2).2).1) (((((oget (wtoCanal x0 x1 x2 x3 x4)).2).2).2).2))) (.br (! (oget (weqCanal ((oget (wtoCanal x0 x1 x2 x3 x4)).1) (((oget (wtoCanal x0 x1 x2 x3 x4)).2).1) ((((oget (wtoCanal x0 x1 x2 x3 x4)).2).2).1) (((((oget (wtoCanal x0 x1 x2 x3 x4)).2).2).2).1) (((((oget (wtoCanal x0 x1 x2 x3 x4)).2).2).2).2) ((oget (wtoCanal x0 x1 x2 x3 x4)).1) (((oget (wtoCanal x0 x1 x2 x3 x4)).2).1) ((((oget (wtoCanal x0 x1 x2 x3 x4)).2).2).1) (((((oget (wtoCanal x0 x1 x2 x3 x4)).2).2).2).1) (((((oget (wtoCanal x0 x1 x2 x3 x4)).2).2).2).2)))) (.ok false) (.ok true)) .bad) .bad)) .bad) .bad) .bad) .bad) .bad)

noncomputable def wFnExactEnergyOfCanal (x0 : Nat) (x1 : Nat) (x2 : Nat) (x3 : List Nat) (x4 : List Nat) : Option (Bool) := (wFnExactEnergyOfCanal_t x0 x1 x2 x3 x4).sem
end Go.Proofs.Ytikmeahdcipanaa
