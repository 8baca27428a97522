/- Functions, as plain functions. Plain functions. -/
import Derived.Test.YtikmeahdcipanaaDa
set_option linter.unusedVariables false
set_option linter.unusedSimpArgs false
set_option linter.constructorNameAsVariable false
namespace Go.Proofs.Ytikmeahdcipanaa
open Go.RowKit
set_option maxRecDepth 100000
noncomputable def wszFloat32S_t (x0 : List Nat) (x1 : Int) : Tr (Int) :=
  .br (decide ((IntKind.wrap .i64 (x1 - (((List.length x0 : Nat) : Int))) : Int) < 0)) (.ok (-1)) (.ok (IntKind.wrap .i64 (x1 - (((List.length x0 : Nat) : Int)))))

noncomputable def wszFloat32S (x0 : List Nat) (x1 : Int) : Int := (wszFloat32S_t x0 x1).val

noncomputable def wszCanal_t (x0 : Nat) (x1 : Nat) (x2 : Nat) (x3 : List Nat) (x4 : List Nat) (x5 : Int) : Tr (Int) :=
  .br (decide ((wszFloat32S x3 x5 : Int) < 0)) (.ok (-1)) (.br (decide ((wszFloat32S x4 (wszFloat32S x3 x5) : Int) < 0)) (.ok (-1)) (.ok (wszFloat32S x4 (wszFloat32S x3 x5))))

noncomputable def wszCanal (x0 : Nat) (x1 : Nat) (x2 : Nat) (x3 : List Nat) (x4 : List Nat) (x5 : Int) : Int := (wszCanal_t x0 x1 x2 x3 x4 x5).val

noncomputable def wtoFloat32S_l3_t (y0 : List Nat) (y1 : Int) (y2 : List Nat) : Tr ((Int × List Nat) ⊕ (List Nat)) :=
  .br (decide ((y1 : Int) < (((List.length y0 : Nat) : Int)))) (.br (decide (0 ≤ (y1 : Int)) && decide ((y1 : Int) < ((List.length y0 : Nat) : Int))) (.br (decide (0 ≤ (y1 : Int)) && decide ((y1 : Int) < ((List.length y2 : Nat) : Int))) (.ok (.inl (IntKind.wrap .i64 (y1 + 1), List.set y2 (Int.toNat y1) (List.getD y0 (Int.toNat y1) 0)))) .bad) .bad) (.ok (.inr y2))

noncomputable def wtoFloat32S_l3 (y0 : List Nat) (y1 : Int) (y2 : List Nat) : Option (List Nat) := runL (fun s : Int × List Nat => (wtoFloat32S_l3_t y0 s.1 s.2).sem) (y1, y2)

noncomputable def wtoFloat32S_t (x0 : List Nat) : Tr (List Nat) :=
  .br (decide ((((List.length x0 : Nat) : Int) : Int) = (((List.length x0 : Nat) : Int))) && decide (0 ≤ (((List.length x0 : Nat) : Int) : Int)) && decide ((((List.length x0 : Nat) : Int) : Int) * ((4 : Nat) : Int) ≤ 140737488355328)) (.br (osome (wtoFloat32S_l3 x0 0 (List.replicate (Int.toNat (((List.length x0 : Nat) : Int))) 0))) (.ok (oget (wtoFloat32S_l3 x0 0 (List.replicate (Int.toNat (((List.length x0 : Nat) : Int))) 0)))) .bad) .bad

noncomputable def wtoFloat32S (x0 : List Nat) : Option (List Nat) := (wtoFloat32S_t x0).sem

noncomputable def wtoCanal_t (x0 : Nat) (x1 : Nat) (x2 : Nat) (x3 : List Nat) (x4 : List Nat) : Tr (Nat × Nat × Nat × List Nat × List Nat) :=
  .br (osome (wtoFloat32S x3)) (.br (osome (wtoFloat32S x4)) (.ok (x0, x1, x2, (oget (wtoFloat32S x3)), (oget (wtoFloat32S x4)))) .bad) .bad

noncomputable def wtoCanal (x0 : Nat) (x1 : Nat) (x2 : Nat) (x3 : List Nat) (x4 : List Nat) : Option (Nat × Nat × Nat × List Nat × List Nat) := (wtoCanal_t x0 x1 x2 x3 x4).sem

noncomputable def sl02Finite_l2_t (y0 : List Nat) (y1 : Int) : Tr (Int ⊕ (Unit ⊕ Unit)) :=
  .br (decide ((y1 : Int) < (((List.length y0 : Nat) : Int)))) (.br (decide (0 ≤ (y1 : Int)) && decide ((y1 : Int) < ((List.length y0 : Nat) : Int))) (.br (! (isFin .f32 (List.getD y0 (Int.toNat y1) 0))) (.ok (.inr (.inl ()))) (.ok (.inl (IntKind.wrap .i64 (y1 + 1))))) .bad) (.ok (.inr (.inr ())))

noncomputable def sl02Finite_l2 (y0 : List Nat) (y1 : Int) : Option (Unit ⊕ Unit) := runL (fun s : Int => (sl02Finite_l2_t y0 s).sem) y1

noncomputable def sl02Finite_t (x0 : List Nat) : Tr (Bool) :=
  .br (osome (sl02Finite_l2 x0 0)) (.br (isL (oget (sl02Finite_l2 x0 0))) (.ok false) (.ok true)) .bad

noncomputable def sl02Finite (x0 : List Nat) : Option (Bool) := (sl02Finite_t x0).sem

noncomputable def sl05Canal_t (x0 : Nat) (x1 : Nat) (x2 : Nat) (x3 : List Nat) (x4 : List Nat) : Tr (Bool) :=
  .br (isLen x0) (.br (isLen x1) (.br (isMass x2) (.br (decide ((((List.length x3 : Nat) : Int) : Int) ≥ 1)) (.br (decide ((((List.length x3 : Nat) : Int) : Int) ≤ 48)) (.br ((((List.length x4 : Nat) : Int) : Int) == (((List.length x3 : Nat) : Int))) (.br (osome (sl02Finite x3)) (.br (oget (sl02Finite x3)) (.br (osome (sl02Finite x4)) (.ok (oget (sl02Finite x4))) .bad) (.ok false)) .bad) (.ok false)) (.ok false)) (.ok false)) (.ok false)) (.ok false)) (.ok false)

noncomputable def sl05Canal (x0 : Nat) (x1 : Nat) (x2 : Nat) (x3 : List Nat) (x4 : List Nat) : Option (Bool) := (sl05Canal_t x0 x1 x2 x3 x4).sem

noncomputable def sl05Own_t (x0 : Nat) (x1 : Nat) (x2 : Nat) (x3 : List Nat) (x4 : List Nat) : Tr (Nat × Nat × Nat × List Nat × List Nat) :=
  .br (decide ((List.length ([] : List Nat) + List.length x3) * 4 ≤ 140737488355328)) (.br (decide ((List.length ([] : List Nat) + List.length x4) * 4 ≤ 140737488355328)) (.ok (x0, x1, x2, [] ++ x3, [] ++ x4)) .bad) .bad

noncomputable def sl05Own (x0 : Nat) (x1 : Nat) (x2 : Nat) (x3 : List Nat) (x4 : List Nat) : Option (Nat × Nat × Nat × List Nat × List Nat) := (sl05Own_t x0 x1 x2 x3 x4).sem

noncomputable def sl05Tick_l4_t (y0 : Nat) (y1 : Nat) (y2 : Nat) (y3 : List Nat) (y4 : List Nat) (y5 : Nat) (y6 : Nat) (y7 : Nat) (y8 : Int) (y10 : Nat) (y11 : Nat) (y12 : Nat) (y13 : Nat) (y14 : Nat) (y15 : Nat) (y16 : List Nat) (y9 : Int) (y17 : List Nat) : Tr ((Int × List Nat) ⊕ (Nat × Nat × Nat × List Nat × List Nat × Nat × Nat × Nat × Nat × Nat × Nat × Nat × List Nat × List Nat)) :=
  .br (decide ((y9 : Int) < y8)) (.br (decide ((y9 : Int) > 0)) (.br (decide (0 ≤ (IntKind.wrap .i64 (y9 - 1) : Int)) && decide ((IntKind.wrap .i64 (y9 - 1) : Int) < ((List.length y3 : Nat) : Int))) (.br (decide (0 ≤ (y9 : Int)) && decide ((y9 : Int) < ((List.length y3 : Nat) : Int))) (.br (decide (0 ≤ (y9 : Int)) && decide ((y9 : Int) < ((List.length y4 : Nat) : Int))) (.br (decide (0 ≤ (y9 : Int)) && decide ((y9 : Int) < ((List.length y17 : Nat) : Int))) (.ok (.inl (IntKind.wrap .i64 (y9 + 1), List.set y17 (Int.toNat y9) (fdiv .f32 (fsub .f32 (List.getD y4 (Int.toNat y9) 0) (fmul .f32 y7 (fdiv .f32 (fsub .f32 (List.getD y3 (Int.toNat y9) 0) (List.getD y3 (Int.toNat (IntKind.wrap .i64 (y9 - 1))) 0)) y0))) (fadd .f32 1065353216 (fmul .f32 y6 y2)))))) .bad) .bad) .bad) .bad) (.br (decide (0 ≤ (y9 : Int)) && decide ((y9 : Int) < ((List.length y3 : Nat) : Int))) (.br (decide (0 ≤ (y9 : Int)) && decide ((y9 : Int) < ((List.length y4 : Nat) : Int))) (.br (decide (0 ≤ (y9 : Int)) && decide ((y9 : Int) < ((List.length y17 : Nat) : Int))) (.ok (.inl (IntKind.wrap .i64 (y9 + 1), List.set y17 (Int.toNat y9) (fdiv .f32 (fsub .f32 (List.getD y4 (Int.toNat y9) 0) (fmul .f32 y7 (fdiv .f32 (fsub .f32 (List.getD y3 (Int.toNat y9) 0) y5) y0))) (fadd .f32 1065353216 (fmul .f32 y6 y2)))))) .bad) .bad) .bad)) (.ok (.inr (y0, y1, y2, y3, y4, y6, y10, y11, y12, y13, y14, y15, y16, y17)))

noncomputable def sl05Tick_l4 (y0 : Nat) (y1 : Nat) (y2 : Nat) (y3 : List Nat) (y4 : List Nat) (y5 : Nat) (y6 : Nat) (y7 : Nat) (y8 : Int) (y9 : Int) (y10 : Nat) (y11 : Nat) (y12 : Nat) (y13 : Nat) (y14 : Nat) (y15 : Nat) (y16 : List Nat) (y17 : List Nat) : Option (Nat × Nat × Nat × List Nat × List Nat × Nat × Nat × Nat × Nat × Nat × Nat × Nat × List Nat × List Nat) := runL (fun s : Int × List Nat => (sl05Tick_l4_t y0 y1 y2 y3 y4 y5 y6 y7 y8 y10 y11 y12 y13 y14 y15 y16 s.1 s.2).sem) (y9, y17)

noncomputable def sl05Tick_l13_t (y0 : Nat) (y1 : Nat) (y2 : Nat) (y3 : List Nat) (y4 : List Nat) (y5 : Nat) (y6 : Int) (y8 : Nat) (y9 : Nat) (y10 : Nat) (y11 : Nat) (y12 : Nat) (y13 : Nat) (y15 : List Nat) (y7 : Int) (y14 : List Nat) : Tr ((Int × List Nat) ⊕ (Nat × Nat × Nat × Nat × Nat × Nat × List Nat × List Nat)) :=
  .br (decide ((y7 : Int) < y6)) (.br (decide ((IntKind.wrap .i64 (y7 + 1) : Int) < (((List.length y15 : Nat) : Int)))) (.br (decide (0 ≤ (IntKind.wrap .i64 (y7 + 1) : Int)) && decide ((IntKind.wrap .i64 (y7 + 1) : Int) < ((List.length y15 : Nat) : Int))) (.br (decide (0 ≤ (y7 : Int)) && decide ((y7 : Int) < ((List.length y3 : Nat) : Int))) (.br (decide (0 ≤ (y7 : Int)) && decide ((y7 : Int) < ((List.length y15 : Nat) : Int))) (.br (decide (0 ≤ (y7 : Int)) && decide ((y7 : Int) < ((List.length y14 : Nat) : Int))) (.ok (.inl (IntKind.wrap .i64 (y7 + 1), List.set y14 (Int.toNat y7) (fadd .f32 (List.getD y3 (Int.toNat y7) 0) (fmul .f32 y5 (fdiv .f32 (fsub .f32 (List.getD y15 (Int.toNat y7) 0) (List.getD y15 (Int.toNat (IntKind.wrap .i64 (y7 + 1))) 0)) y0)))))) .bad) .bad) .bad) .bad) (.br (decide (0 ≤ (y7 : Int)) && decide ((y7 : Int) < ((List.length y3 : Nat) : Int))) (.br (decide (0 ≤ (y7 : Int)) && decide ((y7 : Int) < ((List.length y15 : Nat) : Int))) (.br (decide (0 ≤ (y7 : Int)) && decide ((y7 : Int) < ((List.length y14 : Nat) : Int))) (.ok (.inl (IntKind.wrap .i64 (y7 + 1), List.set y14 (Int.toNat y7) (fadd .f32 (List.getD y3 (Int.toNat y7) 0) (fmul .f32 y5 (fdiv .f32 (fsub .f32 (List.getD y15 (Int.toNat y7) 0) 0) y0)))))) .bad) .bad) .bad)) (.ok (.inr (y8, y9, y10, y11, y12, y13, y14, y15)))

noncomputable def sl05Tick_l13 (y0 : Nat) (y1 : Nat) (y2 : Nat) (y3 : List Nat) (y4 : List Nat) (y5 : Nat) (y6 : Int) (y7 : Int) (y8 : Nat) (y9 : Nat) (y10 : Nat) (y11 : Nat) (y12 : Nat) (y13 : Nat) (y14 : List Nat) (y15 : List Nat) : Option (Nat × Nat × Nat × Nat × Nat × Nat × List Nat × List Nat) := runL (fun s : Int × List Nat => (sl05Tick_l13_t y0 y1 y2 y3 y4 y5 y6 y8 y9 y10 y11 y12 y13 y15 s.1 s.2).sem) (y7, y14)

noncomputable def sl05Tick_o1 (v3 : Nat × (Nat × (Nat × (Nat × (Nat × (Nat × ((List Nat) × (List Nat)))))))) (v4 : Bool) : Tr ((Nat × Nat × Nat) ⊕ (Nat × Nat × Nat × List Nat × List Nat)) :=
  .br (!v4) (.ok (.inl (0, 0, 0))) (.ok (.inr (v3.2.2.2.1, v3.2.2.2.2.1, v3.2.2.2.2.2.1, v3.2.2.2.2.2.2.1, v3.2.2.2.2.2.2.2)))

noncomputable def sl05Tick_o2 (v3 : Nat × (Nat × (Nat × (Nat × (Nat × (Nat × ((List Nat) × (List Nat)))))))) : Tr ((Nat × Nat × Nat) ⊕ (Nat × Nat × Nat × List Nat × List Nat)) :=
  .br (osome (sl05Canal v3.2.2.2.1 v3.2.2.2.2.1 v3.2.2.2.2.2.1 v3.2.2.2.2.2.2.1 v3.2.2.2.2.2.2.2)) (sl05Tick_o1 v3 (oget (sl05Canal v3.2.2.2.1 v3.2.2.2.2.1 v3.2.2.2.2.2.1 v3.2.2.2.2.2.2.1 v3.2.2.2.2.2.2.2))) .bad

noncomputable def sl05Tick_o3 (v2 : Nat × (Nat × (Nat × ((List Nat) × ((List Nat) × (Nat × (Nat × (Nat × (Nat × (Nat × (Nat × (Nat × ((List Nat) × (List Nat)))))))))))))) : Tr ((Nat × Nat × Nat) ⊕ (Nat × Nat × Nat × List Nat × List Nat)) :=
  .br (osome (sl05Tick_l13 v2.1 v2.2.1 v2.2.2.1 v2.2.2.2.1 v2.2.2.2.2.1 v2.2.2.2.2.2.1 (((List.length v2.2.2.2.2.2.2.2.2.2.2.2.2.1 : Nat) : Int)) 0 v2.2.2.2.2.2.2.1 v2.2.2.2.2.2.2.2.1 v2.2.2.2.2.2.2.2.2.1 v2.2.2.2.2.2.2.2.2.2.1 v2.2.2.2.2.2.2.2.2.2.2.1 v2.2.2.2.2.2.2.2.2.2.2.2.1 v2.2.2.2.2.2.2.2.2.2.2.2.2.1 v2.2.2.2.2.2.2.2.2.2.2.2.2.2)) (sl05Tick_o2 (oget (sl05Tick_l13 v2.1 v2.2.1 v2.2.2.1 v2.2.2.2.1 v2.2.2.2.2.1 v2.2.2.2.2.2.1 (((List.length v2.2.2.2.2.2.2.2.2.2.2.2.2.1 : Nat) : Int)) 0 v2.2.2.2.2.2.2.1 v2.2.2.2.2.2.2.2.1 v2.2.2.2.2.2.2.2.2.1 v2.2.2.2.2.2.2.2.2.2.1 v2.2.2.2.2.2.2.2.2.2.2.1 v2.2.2.2.2.2.2.2.2.2.2.2.1 v2.2.2.2.2.2.2.2.2.2.2.2.2.1 v2.2.2.2.2.2.2.2.2.2.2.2.2.2))) .bad

noncomputable def sl05Tick_o4 (x0 : Nat) (x1 : Nat) (x2 : Nat) (x3 : List Nat) (x4 : List Nat) (x5 : Nat) (x6 : Nat) (v1 : Nat × (Nat × (Nat × ((List Nat) × (List Nat))))) : Tr ((Nat × Nat × Nat) ⊕ (Nat × Nat × Nat × List Nat × List Nat)) :=
  .br (osome (sl05Tick_l4 x0 x1 x2 x3 x4 x5 x6 (fmul .f32 (fmul .f32 x6 1092416963) x1) (((List.length v1.2.2.2.2 : Nat) : Int)) 0 0 0 0 v1.1 v1.2.1 v1.2.2.1 v1.2.2.2.1 v1.2.2.2.2)) (sl05Tick_o3 (oget (sl05Tick_l4 x0 x1 x2 x3 x4 x5 x6 (fmul .f32 (fmul .f32 x6 1092416963) x1) (((List.length v1.2.2.2.2 : Nat) : Int)) 0 0 0 0 v1.1 v1.2.1 v1.2.2.1 v1.2.2.2.1 v1.2.2.2.2))) .bad

noncomputable def sl05Tick_t (x0 : Nat) (x1 : Nat) (x2 : Nat) (x3 : List Nat) (x4 : List Nat) (x5 : Nat) (x6 : Nat) : Tr ((Nat × Nat × Nat) ⊕ (Nat × Nat × Nat × List Nat × List Nat)) :=
  .br (osome (sl05Own x0 x1 x2 x3 x4)) (sl05Tick_o4 x0 x1 x2 x3 x4 x5 x6 (oget (sl05Own x0 x1 x2 x3 x4))) .bad

noncomputable def sl05Tick (x0 : Nat) (x1 : Nat) (x2 : Nat) (x3 : List Nat) (x4 : List Nat) (x5 : Nat) (x6 : Nat) : Option ((Nat × Nat × Nat) ⊕ (Nat × Nat × Nat × List Nat × List Nat)) := (sl05Tick_t x0 x1 x2 x3 x4 x5 x6).sem

noncomputable def sStepCanal_t (x0 : Nat) (x1 : Nat) (x2 : Nat) (x3 : List Nat) (x4 : List Nat) (x5 : Nat) (x6 : Nat) : Tr ((Nat × Nat × Nat) ⊕ (Nat × Nat × Nat × List Nat × List Nat)) :=
  .br (osome (sl05Canal x0 x1 x2 x3 x4)) (.br (!(oget (sl05Canal x0 x1 x2 x3 x4))) (.ok (.inl (0, 0, 0))) (.br (! (isFin .f32 x5)) (.ok (.inl (0, 0, 0))) (.br (! (isLen x6)) (.ok (.inl (0, 0, 0))) (.br (osome (sl05Tick x0 x1 x2 x3 x4 x5 x6)) (.br (isL (oget (sl05Tick x0 x1 x2 x3 x4 x5 x6))) (.ok (.inl ((unL (oget (sl05Tick x0 x1 x2 x3 x4 x5 x6))).1, ((unL (oget (sl05Tick x0 x1 x2 x3 x4 x5 x6))).2).1, ((unL (oget (sl05Tick x0 x1 x2 x3 x4 x5 x6))).2).2))) (.ok (.inr ((unR (oget (sl05Tick x0 x1 x2 x3 x4 x5 x6))).1, ((unR (oget (sl05Tick x0 x1 x2 x3 x4 x5 x6))).2).1, (((unR (oget (sl05Tick x0 x1 x2 x3 x4 x5 x6))).2).2).1, ((((unR (oget (sl05Tick x0 x1 x2 x3 x4 x5 x6))).2).2).2).1, ((((unR (oget (sl05Tick x0 x1 x2 x3 x4 x5 x6))).2).2).2).2)))) .bad)))) .bad

noncomputable def sStepCanal (x0 : Nat) (x1 : Nat) (x2 : Nat) (x3 : List Nat) (x4 : List Nat) (x5 : Nat) (x6 : Nat) : Option ((Nat × Nat × Nat) ⊕ (Nat × Nat × Nat × List Nat × List Nat)) := (sStepCanal_t x0 x1 x2 x3 x4 x5 x6).sem

noncomputable def iareLengths_l2_t (y0 : List Nat) (y1 : Int) (y2 : Int) : Tr (Int ⊕ (Unit ⊕ Unit)) :=
  .br (decide ((y2 : Int) < y1)) (.br (decide (0 ≤ (y2 : Int)) && decide ((y2 : Int) < ((List.length y0 : Nat) : Int))) (.br (! (isLen (List.getD y0 (Int.toNat y2) 0))) (.ok (.inr (.inl ()))) (.ok (.inl (IntKind.wrap .i64 (y2 + 1))))) .bad) (.ok (.inr (.inr ())))

noncomputable def iareLengths_l2 (y0 : List Nat) (y1 : Int) (y2 : Int) : Option (Unit ⊕ Unit) := runL (fun s : Int => (iareLengths_l2_t y0 y1 s).sem) y2

noncomputable def iareLengths_t (x0 : List Nat) : Tr (Bool) :=
  .br (osome (iareLengths_l2 x0 (((List.length x0 : Nat) : Int)) 0)) (.br (isL (oget (iareLengths_l2 x0 (((List.length x0 : Nat) : Int)) 0))) (.ok false) (.ok true)) .bad

noncomputable def iareLengths (x0 : List Nat) : Option (Bool) := (iareLengths_t x0).sem

noncomputable def iwithin_t (x0 : Int) (x1 : Int) (x2 : Int) : Tr (Bool) :=
  .br (decide ((x1 : Int) ≤ x0)) (.ok (decide ((x0 : Int) ≤ x2))) (.ok false)

noncomputable def iwithin (x0 : Int) (x1 : Int) (x2 : Int) : Bool := (iwithin_t x0 x1 x2).val

noncomputable def iareFinite_1_t (x0 : Nat) : Tr (Bool) :=
  .ok (! (isFin .f32 x0))

noncomputable def iareFinite_1 (x0 : Nat) : Bool := (iareFinite_1_t x0).val

noncomputable def lIndexFunc_iareFinite_1_l2_t (y0 : List Nat) (y1 : Int) (y2 : Int) : Tr (Int ⊕ (Int ⊕ Unit)) :=
  .br (decide ((y2 : Int) < y1)) (.br (decide (0 ≤ (y2 : Int)) && decide ((y2 : Int) < ((List.length y0 : Nat) : Int))) (.br (iareFinite_1 (List.getD y0 (Int.toNat y2) 0)) (.ok (.inr (.inl y2))) (.ok (.inl (IntKind.wrap .i64 (y2 + 1))))) .bad) (.ok (.inr (.inr ())))

noncomputable def lIndexFunc_iareFinite_1_l2 (y0 : List Nat) (y1 : Int) (y2 : Int) : Option (Int ⊕ Unit) := runL (fun s : Int => (lIndexFunc_iareFinite_1_l2_t y0 y1 s).sem) y2

noncomputable def lIndexFunc_iareFinite_1_t (x0 : List Nat) : Tr (Int) :=
  .br (osome (lIndexFunc_iareFinite_1_l2 x0 (((List.length x0 : Nat) : Int)) 0)) (.br (isL (oget (lIndexFunc_iareFinite_1_l2 x0 (((List.length x0 : Nat) : Int)) 0))) (.ok (unL (oget (lIndexFunc_iareFinite_1_l2 x0 (((List.length x0 : Nat) : Int)) 0)))) (.ok (-1))) .bad

noncomputable def lIndexFunc_iareFinite_1 (x0 : List Nat) : Option (Int) := (lIndexFunc_iareFinite_1_t x0).sem

noncomputable def lContainsFunc_iareFinite_1_t (x0 : List Nat) : Tr (Bool) :=
  .br (osome (lIndexFunc_iareFinite_1 x0)) (.ok (decide (((oget (lIndexFunc_iareFinite_1 x0)) : Int) ≥ 0))) .bad

noncomputable def lContainsFunc_iareFinite_1 (x0 : List Nat) : Option (Bool) := (lContainsFunc_iareFinite_1_t x0).sem

noncomputable def iareFinite_t (x0 : List Nat) : Tr (Bool) :=
  .br (osome (lContainsFunc_iareFinite_1 x0)) (.ok (!(oget (lContainsFunc_iareFinite_1 x0)))) .bad

noncomputable def iareFinite (x0 : List Nat) : Option (Bool) := (iareFinite_t x0).sem

noncomputable def iValidCanal_t (x0 : Nat) (x1 : Nat) (x2 : Nat) (x3 : List Nat) (x4 : List Nat) : Tr (Bool) :=
  .br (osome (iareLengths [x0, x1])) (.br (oget (iareLengths [x0, x1])) (.br (isMass x2) (.br (iwithin (((List.length x3 : Nat) : Int)) 1 48) (.br ((((List.length x4 : Nat) : Int) : Int) == (((List.length x3 : Nat) : Int))) (.br (osome (iareFinite x3)) (.br (oget (iareFinite x3)) (.br (osome (iareFinite x4)) (.ok (oget (iareFinite x4))) .bad) (.ok false)) .bad) (.ok false)) (.ok false)) (.ok false)) (.ok false)) .bad

noncomputable def iValidCanal (x0 : Nat) (x1 : Nat) (x2 : Nat) (x3 : List Nat) (x4 : List Nat) : Option (Bool) := (iValidCanal_t x0 x1 x2 x3 x4).sem

noncomputable def lClone_t (x0 : List Nat) : Tr (List Nat) :=
  .br (! (List.isEmpty x0)) (.br false .bad (.br (decide ((List.length ([] : List Nat) + List.length x0) * 4 ≤ 140737488355328)) (.ok ([] ++ x0)) .bad)) .bad

noncomputable def lClone (x0 : List Nat) : Option (List Nat) := (lClone_t x0).sem

noncomputable def iCanal_cloned_t (x0 : Nat) (x1 : Nat) (x2 : Nat) (x3 : List Nat) (x4 : List Nat) : Tr (Nat × Nat × Nat × List Nat × List Nat) :=
  .br (osome (lClone x3)) (.br (osome (lClone x4)) (.ok (x0, x1, x2, (oget (lClone x3)), (oget (lClone x4)))) .bad) .bad

noncomputable def iCanal_cloned (x0 : Nat) (x1 : Nat) (x2 : Nat) (x3 : List Nat) (x4 : List Nat) : Option (Nat × Nat × Nat × List Nat × List Nat) := (iCanal_cloned_t x0 x1 x2 x3 x4).sem

noncomputable def itoldCanal_t (x0 : Nat) (x1 : Nat) (x2 : Nat) (x3 : List Nat) (x4 : List Nat) : Tr ((Nat × Nat × Nat × List Nat × List Nat) ⊕ (Nat × Nat × Nat × List Nat × List Nat)) :=
  .br (osome (iValidCanal x0 x1 x2 x3 x4)) (.br (!(oget (iValidCanal x0 x1 x2 x3 x4))) (.ok (.inl (0, 0, 0, x3, x4))) (.ok (.inr (x0, x1, x2, x3, x4)))) .bad

noncomputable def itoldCanal (x0 : Nat) (x1 : Nat) (x2 : Nat) (x3 : List Nat) (x4 : List Nat) : Option ((Nat × Nat × Nat × List Nat × List Nat) ⊕ (Nat × Nat × Nat × List Nat × List Nat)) := (itoldCanal_t x0 x1 x2 x3 x4).sem

noncomputable def iStepCanal_l5_t (y0 : Nat) (y2 : List Nat) (y3 : Int) (y5 : Nat) (y6 : Nat) (y7 : Nat) (y8 : List Nat) (y9 : List Nat) (y10 : Nat) (y11 : Nat) (y12 : Nat) (y13 : Nat) (y14 : Nat) (y15 : Nat) (y16 : List Nat) (y1 : Nat) (y4 : Int) (y17 : List Nat) : Tr ((Nat × Int × List Nat) ⊕ (Nat × Nat × Nat × Nat × List Nat × List Nat × Nat × Nat × Nat × Nat × Nat × Nat × List Nat × List Nat)) :=
  .br (decide ((y4 : Int) < y3)) (.br (decide (0 ≤ (y4 : Int)) && decide ((y4 : Int) < ((List.length y2 : Nat) : Int))) (.br (decide (0 ≤ (y4 : Int)) && decide ((y4 : Int) < ((List.length y8 : Nat) : Int))) (.br (decide (0 ≤ (y4 : Int)) && decide ((y4 : Int) < ((List.length y17 : Nat) : Int))) (.br (decide (0 ≤ (y4 : Int)) && decide ((y4 : Int) < ((List.length y8 : Nat) : Int))) (.ok (.inl (List.getD y8 (Int.toNat y4) 0, IntKind.wrap .i64 (y4 + 1), List.set y17 (Int.toNat y4) (fdiv .f32 (fsub .f32 (List.getD y2 (Int.toNat y4) 0) (fmul .f32 (fmul .f32 (fmul .f32 y0 1092416963) y6) (fdiv .f32 (fsub .f32 (List.getD y8 (Int.toNat y4) 0) y1) y5))) (fadd .f32 1065353216 (fmul .f32 y0 y7)))))) .bad) .bad) .bad) .bad) (.ok (.inr (y0, y5, y6, y7, y8, y9, y10, y11, y12, y13, y14, y15, y16, y17)))

noncomputable def iStepCanal_l5 (y0 : Nat) (y1 : Nat) (y2 : List Nat) (y3 : Int) (y4 : Int) (y5 : Nat) (y6 : Nat) (y7 : Nat) (y8 : List Nat) (y9 : List Nat) (y10 : Nat) (y11 : Nat) (y12 : Nat) (y13 : Nat) (y14 : Nat) (y15 : Nat) (y16 : List Nat) (y17 : List Nat) : Option (Nat × Nat × Nat × Nat × List Nat × List Nat × Nat × Nat × Nat × Nat × Nat × Nat × List Nat × List Nat) := runL (fun s : Nat × Int × List Nat => (iStepCanal_l5_t y0 y2 y3 y5 y6 y7 y8 y9 y10 y11 y12 y13 y14 y15 y16 s.1 s.2.1 s.2.2).sem) (y1, y4, y17)

noncomputable def iStepCanal_l12_t (y0 : Nat) (y1 : List Nat) (y2 : Int) (y4 : Nat) (y5 : Nat) (y6 : Nat) (y7 : List Nat) (y8 : List Nat) (y9 : Nat) (y10 : Nat) (y11 : Nat) (y12 : Nat) (y13 : Nat) (y14 : Nat) (y16 : List Nat) (y3 : Int) (y15 : List Nat) : Tr ((Int × List Nat) ⊕ (Nat × Nat × Nat × Nat × Nat × Nat × List Nat × List Nat)) :=
  .br (decide ((y3 : Int) < y2)) (.br (decide (0 ≤ (y3 : Int)) && decide ((y3 : Int) < ((List.length y1 : Nat) : Int))) (.br (decide ((IntKind.wrap .i64 (y3 + 1) : Int) < (((List.length y16 : Nat) : Int)))) (.br (decide (0 ≤ (IntKind.wrap .i64 (y3 + 1) : Int)) && decide ((IntKind.wrap .i64 (y3 + 1) : Int) < ((List.length y16 : Nat) : Int))) (.br (decide (0 ≤ (y3 : Int)) && decide ((y3 : Int) < ((List.length y16 : Nat) : Int))) (.br (decide (0 ≤ (y3 : Int)) && decide ((y3 : Int) < ((List.length y15 : Nat) : Int))) (.ok (.inl (IntKind.wrap .i64 (y3 + 1), List.set y15 (Int.toNat y3) (fadd .f32 (List.getD y1 (Int.toNat y3) 0) (fmul .f32 y0 (fdiv .f32 (fsub .f32 (List.getD y16 (Int.toNat y3) 0) (List.getD y16 (Int.toNat (IntKind.wrap .i64 (y3 + 1))) 0)) y4)))))) .bad) .bad) .bad) (.br (decide (0 ≤ (y3 : Int)) && decide ((y3 : Int) < ((List.length y16 : Nat) : Int))) (.br (decide (0 ≤ (y3 : Int)) && decide ((y3 : Int) < ((List.length y15 : Nat) : Int))) (.ok (.inl (IntKind.wrap .i64 (y3 + 1), List.set y15 (Int.toNat y3) (fadd .f32 (List.getD y1 (Int.toNat y3) 0) (fmul .f32 y0 (fdiv .f32 (fsub .f32 (List.getD y16 (Int.toNat y3) 0) 0) y4)))))) .bad) .bad)) .bad) (.ok (.inr (y9, y10, y11, y12, y13, y14, y15, y16)))

noncomputable def iStepCanal_l12 (y0 : Nat) (y1 : List Nat) (y2 : Int) (y3 : Int) (y4 : Nat) (y5 : Nat) (y6 : Nat) (y7 : List Nat) (y8 : List Nat) (y9 : Nat) (y10 : Nat) (y11 : Nat) (y12 : Nat) (y13 : Nat) (y14 : Nat) (y15 : List Nat) (y16 : List Nat) : Option (Nat × Nat × Nat × Nat × Nat × Nat × List Nat × List Nat) := runL (fun s : Int × List Nat => (iStepCanal_l12_t y0 y1 y2 y4 y5 y6 y7 y8 y9 y10 y11 y12 y13 y14 y16 s.1 s.2).sem) (y3, y15)

noncomputable def iStepCanal_o1 (v5 : (Nat × (Nat × (Nat × ((List Nat) × (List Nat))))) ⊕ (Nat × (Nat × (Nat × ((List Nat) × (List Nat)))))) : Tr ((Nat × Nat × Nat) ⊕ (Nat × Nat × Nat × List Nat × List Nat)) :=
  .br (isL v5) (.ok (.inl ((unL v5).1, ((unL v5).2).1, (((unL v5).2).2).1))) (.ok (.inr ((unR v5).1, ((unR v5).2).1, (((unR v5).2).2).1, ((((unR v5).2).2).2).1, ((((unR v5).2).2).2).2)))

noncomputable def iStepCanal_o2 (v4 : Nat × (Nat × (Nat × (Nat × (Nat × (Nat × ((List Nat) × (List Nat)))))))) : Tr ((Nat × Nat × Nat) ⊕ (Nat × Nat × Nat × List Nat × List Nat)) :=
  .br (osome (itoldCanal v4.2.2.2.1 v4.2.2.2.2.1 v4.2.2.2.2.2.1 v4.2.2.2.2.2.2.1 v4.2.2.2.2.2.2.2)) (iStepCanal_o1 (oget (itoldCanal v4.2.2.2.1 v4.2.2.2.2.1 v4.2.2.2.2.2.1 v4.2.2.2.2.2.2.1 v4.2.2.2.2.2.2.2))) .bad

noncomputable def iStepCanal_o3 (v3 : Nat × (Nat × (Nat × (Nat × ((List Nat) × ((List Nat) × (Nat × (Nat × (Nat × (Nat × (Nat × (Nat × ((List Nat) × (List Nat)))))))))))))) : Tr ((Nat × Nat × Nat) ⊕ (Nat × Nat × Nat × List Nat × List Nat)) :=
  .br (osome (iStepCanal_l12 v3.1 v3.2.2.2.2.1 (((List.length v3.2.2.2.2.1 : Nat) : Int)) 0 v3.2.1 v3.2.2.1 v3.2.2.2.1 v3.2.2.2.2.1 v3.2.2.2.2.2.1 v3.2.2.2.2.2.2.1 v3.2.2.2.2.2.2.2.1 v3.2.2.2.2.2.2.2.2.1 v3.2.2.2.2.2.2.2.2.2.1 v3.2.2.2.2.2.2.2.2.2.2.1 v3.2.2.2.2.2.2.2.2.2.2.2.1 v3.2.2.2.2.2.2.2.2.2.2.2.2.1 v3.2.2.2.2.2.2.2.2.2.2.2.2.2)) (iStepCanal_o2 (oget (iStepCanal_l12 v3.1 v3.2.2.2.2.1 (((List.length v3.2.2.2.2.1 : Nat) : Int)) 0 v3.2.1 v3.2.2.1 v3.2.2.2.1 v3.2.2.2.2.1 v3.2.2.2.2.2.1 v3.2.2.2.2.2.2.1 v3.2.2.2.2.2.2.2.1 v3.2.2.2.2.2.2.2.2.1 v3.2.2.2.2.2.2.2.2.2.1 v3.2.2.2.2.2.2.2.2.2.2.1 v3.2.2.2.2.2.2.2.2.2.2.2.1 v3.2.2.2.2.2.2.2.2.2.2.2.2.1 v3.2.2.2.2.2.2.2.2.2.2.2.2.2))) .bad

noncomputable def iStepCanal_o4 (x0 : Nat) (x1 : Nat) (x2 : Nat) (x3 : List Nat) (x4 : List Nat) (x5 : Nat) (x6 : Nat) (v2 : Nat × (Nat × (Nat × ((List Nat) × (List Nat))))) : Tr ((Nat × Nat × Nat) ⊕ (Nat × Nat × Nat × List Nat × List Nat)) :=
  .br (osome (iStepCanal_l5 x6 x5 x4 (((List.length x4 : Nat) : Int)) 0 x0 x1 x2 x3 x4 0 0 0 v2.1 v2.2.1 v2.2.2.1 v2.2.2.2.1 v2.2.2.2.2)) (iStepCanal_o3 (oget (iStepCanal_l5 x6 x5 x4 (((List.length x4 : Nat) : Int)) 0 x0 x1 x2 x3 x4 0 0 0 v2.1 v2.2.1 v2.2.2.1 v2.2.2.2.1 v2.2.2.2.2))) .bad

noncomputable def iStepCanal_o5 (x0 : Nat) (x1 : Nat) (x2 : Nat) (x3 : List Nat) (x4 : List Nat) (x5 : Nat) (x6 : Nat) (v1 : Bool) : Tr ((Nat × Nat × Nat) ⊕ (Nat × Nat × Nat × List Nat × List Nat)) :=
  .br (!v1) (.ok (.inl (0, 0, 0))) (.br (! (isFin .f32 x5)) (.ok (.inl (0, 0, 0))) (.br (! (isLen x6)) (.ok (.inl (0, 0, 0))) (.br (osome (iCanal_cloned x0 x1 x2 x3 x4)) (iStepCanal_o4 x0 x1 x2 x3 x4 x5 x6 (oget (iCanal_cloned x0 x1 x2 x3 x4))) .bad)))

noncomputable def iStepCanal_t (x0 : Nat) (x1 : Nat) (x2 : Nat) (x3 : List Nat) (x4 : List Nat) (x5 : Nat) (x6 : Nat) : Tr ((Nat × Nat × Nat) ⊕ (Nat × Nat × Nat × List Nat × List Nat)) :=
  .br (osome (iValidCanal x0 x1 x2 x3 x4)) (iStepCanal_o5 x0 x1 x2 x3 x4 x5 x6 (oget (iValidCanal x0 x1 x2 x3 x4))) .bad

noncomputable def iStepCanal (x0 : Nat) (x1 : Nat) (x2 : Nat) (x3 : List Nat) (x4 : List Nat) (x5 : Nat) (x6 : Nat) : Option ((Nat × Nat × Nat) ⊕ (Nat × Nat × Nat × List Nat × List Nat)) := (iStepCanal_t x0 x1 x2 x3 x4 x5 x6).sem

noncomputable def weqFloat32S_l4_t (y0 : List Nat) (y1 : List Nat) (y2 : Int) : Tr (Int ⊕ Unit) :=
  .br (decide ((y2 : Int) < (((List.length y0 : Nat) : Int)))) (.br (decide (0 ≤ (y2 : Int)) && decide ((y2 : Int) < ((List.length y0 : Nat) : Int))) (.br (decide (0 ≤ (y2 : Int)) && decide ((y2 : Int) < ((List.length y1 : Nat) : Int))) (.br (natEq (fup (List.getD y0 (Int.toNat y2) 0)) (fup (List.getD y1 (Int.toNat y2) 0))) (.ok (.inl (IntKind.wrap .i64 (y2 + 1)))) .bad) .bad) .bad) (.ok (.inr ()))

noncomputable def weqFloat32S_l4 (y0 : List Nat) (y1 : List Nat) (y2 : Int) : Option (Unit) := runL (fun s : Int => (weqFloat32S_l4_t y0 y1 s).sem) y2

noncomputable def weqFloat32S_t (x0 : List Nat) (x1 : List Nat) : Tr (Bool) :=
  .br ((((List.length x0 : Nat) : Int) : Int) != (((List.length x1 : Nat) : Int))) (.ok false) (.br (osome (weqFloat32S_l4 x0 x1 0)) (.ok true) .bad)

noncomputable def weqFloat32S (x0 : List Nat) (x1 : List Nat) : Option (Bool) := (weqFloat32S_t x0 x1).sem

noncomputable def weqCanal_t (x0 : Nat) (x1 : Nat) (x2 : Nat) (x3 : List Nat) (x4 : List Nat) (x5 : Nat) (x6 : Nat) (x7 : Nat) (x8 : List Nat) (x9 : List Nat) : Tr (Bool) :=
  .br (natEq (fup x0) (fup x5)) (.br (natEq (fup x1) (fup x6)) (.br (natEq (fup x2) (fup x7)) (.br (osome (weqFloat32S x3 x8)) (.br (!(oget (weqFloat32S x3 x8))) (.ok false) (.br (osome (weqFloat32S x4 x9)) (.br (!(oget (weqFloat32S x4 x9))) (.ok false) (.ok true)) .bad)) .bad) .bad) .bad) .bad

noncomputable def weqCanal (x0 : Nat) (x1 : Nat) (x2 : Nat) (x3 : List Nat) (x4 : List Nat) (x5 : Nat) (x6 : Nat) (x7 : Nat) (x8 : List Nat) (x9 : List Nat) : Option (Bool) := (weqCanal_t x0 x1 x2 x3 x4 x5 x6 x7 x8 x9).sem

noncomputable def wmarkFloat32S_l2_t  (y0 : Int) (y1 : Int) (y2 : List Nat) : Tr ((Int × Int × List Nat) ⊕ (Int × List Nat)) :=
  .br (decide ((y1 : Int) < (((List.length y2 : Nat) : Int)))) (.br (decide (0 ≤ (y1 : Int)) && decide ((y1 : Int) < ((List.length y2 : Nat) : Int))) (.ok (.inl (IntKind.wrap .i64 (y0 + 1), IntKind.wrap .i64 (y1 + 1), List.set y2 (Int.toNat y1) (FloatKind.nearest .f32 y0)))) .bad) (.ok (.inr (y0, y2)))

noncomputable def wmarkFloat32S_l2 (y0 : Int) (y1 : Int) (y2 : List Nat) : Option (Int × List Nat) := runL (fun s : Int × Int × List Nat => (wmarkFloat32S_l2_t  s.1 s.2.1 s.2.2).sem) (y0, y1, y2)

noncomputable def wmarkFloat32S_t (x0 : Int) (x1 : List Nat) : Tr (Int × List Nat) :=
  .br (osome (wmarkFloat32S_l2 x0 0 x1)) (.ok (oget (wmarkFloat32S_l2 x0 0 x1))) .bad

noncomputable def wmarkFloat32S (x0 : Int) (x1 : List Nat) : Option (Int × List Nat) := (wmarkFloat32S_t x0 x1).sem

noncomputable def wmarkCanal_t (x0 : Nat) (x1 : Nat) (x2 : Nat) (x3 : Int) (x4 : List Nat) (x5 : List Nat) : Tr (Int × List Nat × List Nat) :=
  .br (osome (wmarkFloat32S x3 x4)) (.br (osome (wmarkFloat32S (oget (wmarkFloat32S x3 x4)).1 x5)) (.ok ((oget (wmarkFloat32S (oget (wmarkFloat32S x3 x4)).1 x5)).1, (oget (wmarkFloat32S x3 x4)).2, (oget (wmarkFloat32S (oget (wmarkFloat32S x3 x4)).1 x5)).2)) .bad) .bad

noncomputable def wmarkCanal (x0 : Nat) (x1 : Nat) (x2 : Nat) (x3 : Int) (x4 : List Nat) (x5 : List Nat) : Option (Int × List Nat × List Nat) := (wmarkCanal_t x0 x1 x2 x3 x4 x5).sem

noncomputable def wheldFloat32S_l2_t (y0 : List Nat) (y1 : Int) (y2 : Int) : Tr ((Int × Int) ⊕ (Int ⊕ Int)) :=
  .br (decide ((y2 : Int) < (((List.length y0 : Nat) : Int)))) (.br (decide (0 ≤ (y2 : Int)) && decide ((y2 : Int) < ((List.length y0 : Nat) : Int))) (.br (! (feq .f32 (List.getD y0 (Int.toNat y2) 0) (FloatKind.nearest .f32 y1))) (.ok (.inr (.inl (-1)))) (.ok (.inl (IntKind.wrap .i64 (y1 + 1), IntKind.wrap .i64 (y2 + 1))))) .bad) (.ok (.inr (.inr y1)))

noncomputable def wheldFloat32S_l2 (y0 : List Nat) (y1 : Int) (y2 : Int) : Option (Int ⊕ Int) := runL (fun s : Int × Int => (wheldFloat32S_l2_t y0 s.1 s.2).sem) (y1, y2)

noncomputable def wheldFloat32S_t (x0 : List Nat) (x1 : Int) : Tr (Int) :=
  .br (osome (wheldFloat32S_l2 x0 x1 0)) (.br (isL (oget (wheldFloat32S_l2 x0 x1 0))) (.ok (unL (oget (wheldFloat32S_l2 x0 x1 0)))) (.ok (unR (oget (wheldFloat32S_l2 x0 x1 0))))) .bad

noncomputable def wheldFloat32S (x0 : List Nat) (x1 : Int) : Option (Int) := (wheldFloat32S_t x0 x1).sem

noncomputable def wheldCanal_t (x0 : Nat) (x1 : Nat) (x2 : Nat) (x3 : List Nat) (x4 : List Nat) (x5 : Int) : Tr (Int) :=
  .br (osome (wheldFloat32S x3 x5)) (.br (decide (((oget (wheldFloat32S x3 x5)) : Int) < 0)) (.ok (-1)) (.br (osome (wheldFloat32S x4 (oget (wheldFloat32S x3 x5)))) (.br (decide (((oget (wheldFloat32S x4 (oget (wheldFloat32S x3 x5)))) : Int) < 0)) (.ok (-1)) (.ok (oget (wheldFloat32S x4 (oget (wheldFloat32S x3 x5)))))) .bad)) .bad

noncomputable def wheldCanal (x0 : Nat) (x1 : Nat) (x2 : Nat) (x3 : List Nat) (x4 : List Nat) (x5 : Int) : Option (Int) := (wheldCanal_t x0 x1 x2 x3 x4 x5).sem

noncomputable def wmarkFloat32S_nil_l2_t (y0 : Int) (y1 : Int)  : Tr (Unit ⊕ Int) :=
  .br (decide ((y1 : Int) < 0)) .bad (.ok (.inr y0))

noncomputable def wmarkFloat32S_nil_l2 (y0 : Int) (y1 : Int) : Option (Int) := runL (fun s : Unit => (wmarkFloat32S_nil_l2_t y0 y1 ).sem) ()

noncomputable def wmarkFloat32S_nil_t (x0 : Int) : Tr (Int) :=
  .br (osome (wmarkFloat32S_nil_l2 x0 0)) (.ok (oget (wmarkFloat32S_nil_l2 x0 0))) .bad

noncomputable def wmarkFloat32S_nil (x0 : Int) : Option (Int) := (wmarkFloat32S_nil_t x0).sem

noncomputable def wmarkCanal_n1_t (x0 : Nat) (x1 : Nat) (x2 : Nat) (x3 : Int) : Tr (Int) :=
  .br (osome (wmarkFloat32S_nil x3)) (.br (osome (wmarkFloat32S_nil (oget (wmarkFloat32S_nil x3)))) (.ok (oget (wmarkFloat32S_nil (oget (wmarkFloat32S_nil x3))))) .bad) .bad

noncomputable def wmarkCanal_n1 (x0 : Nat) (x1 : Nat) (x2 : Nat) (x3 : Int) : Option (Int) := (wmarkCanal_n1_t x0 x1 x2 x3).sem

noncomputable def wFnExactStepCanal_o1 (v10 : Int) (v15 : Int) : Tr (Bool) :=
  .br (decide ((v15 : Int) < 0)) (.ok false) (.br ((v15 : Int) != v10) (.ok false) (.ok true))

noncomputable def wFnExactStepCanal_o2 (v4 : (Nat × (Nat × Nat)) ⊕ (Nat × (Nat × (Nat × ((List Nat) × (List Nat)))))) (v10 : Int) (v14 : Bool) : Tr (Bool) :=
  .br (!v14) (.ok false) (.br (! (false == false)) (.ok false) (.br (osome (wheldCanal ((unL v4).1) (((unL v4).2).1) (((unL v4).2).2) [] [] 1)) (wFnExactStepCanal_o1 v10 (oget (wheldCanal ((unL v4).1) (((unL v4).2).1) (((unL v4).2).2) [] [] 1))) .bad))

noncomputable def wFnExactStepCanal_o3 (v10 : Int) (v17 : Int) : Tr (Bool) :=
  .br (decide ((v17 : Int) < 0)) (.ok false) (.br ((v17 : Int) != v10) (.ok false) (.ok true))

noncomputable def wFnExactStepCanal_o4 (v4 : (Nat × (Nat × Nat)) ⊕ (Nat × (Nat × (Nat × ((List Nat) × (List Nat)))))) (v10 : Int) (v16 : Bool) : Tr (Bool) :=
  .br (!v16) (.ok false) (.br (! (true == false)) (.ok false) (.br (osome (wheldCanal ((unL v4).1) (((unL v4).2).1) (((unL v4).2).2) [] [] 1)) (wFnExactStepCanal_o3 v10 (oget (wheldCanal ((unL v4).1) (((unL v4).2).1) (((unL v4).2).2) [] [] 1))) .bad))

noncomputable def wFnExactStepCanal_o5 (v2 : (Nat × (Nat × Nat)) ⊕ (Nat × (Nat × (Nat × ((List Nat) × (List Nat)))))) (v4 : (Nat × (Nat × Nat)) ⊕ (Nat × (Nat × (Nat × ((List Nat) × (List Nat)))))) (v10 : Int) (v13 : (Nat × (Nat × Nat)) ⊕ (Nat × (Nat × (Nat × ((List Nat) × (List Nat)))))) : Tr (Bool) :=
  .br (isL v13) (.br (osome (weqCanal ((unL v13).1) (((unL v13).2).1) (((unL v13).2).2) [] [] ((unL v2).1) (((unL v2).2).1) (((unL v2).2).2) [] [])) (wFnExactStepCanal_o2 v4 v10 (oget (weqCanal ((unL v13).1) (((unL v13).2).1) (((unL v13).2).2) [] [] ((unL v2).1) (((unL v2).2).1) (((unL v2).2).2) [] []))) .bad) (.br (osome (weqCanal ((unR v13).1) (((unR v13).2).1) ((((unR v13).2).2).1) (((((unR v13).2).2).2).1) (((((unR v13).2).2).2).2) ((unL v2).1) (((unL v2).2).1) (((unL v2).2).2) [] [])) (wFnExactStepCanal_o4 v4 v10 (oget (weqCanal ((unR v13).1) (((unR v13).2).1) ((((unR v13).2).2).1) (((((unR v13).2).2).2).1) (((((unR v13).2).2).2).2) ((unL v2).1) (((unL v2).2).1) (((unL v2).2).2) [] []))) .bad)

noncomputable def wFnExactStepCanal_o6 (x5 : Nat) (x6 : Nat) (v2 : (Nat × (Nat × Nat)) ⊕ (Nat × (Nat × (Nat × ((List Nat) × (List Nat)))))) (v4 : (Nat × (Nat × Nat)) ⊕ (Nat × (Nat × (Nat × ((List Nat) × (List Nat)))))) (v10 : Int) (v12 : Nat × (Nat × (Nat × ((List Nat) × (List Nat))))) : Tr (Bool) :=
  .br (osome (iStepCanal v12.1 v12.2.1 v12.2.2.1 v12.2.2.2.1 v12.2.2.2.2 x5 x6)) (wFnExactStepCanal_o5 v2 v4 v10 (oget (iStepCanal v12.1 v12.2.1 v12.2.2.1 v12.2.2.2.1 v12.2.2.2.2 x5 x6))) .bad

noncomputable def wFnExactStepCanal_o7 (x0 : Nat) (x1 : Nat) (x2 : Nat) (x3 : List Nat) (x4 : List Nat) (x5 : Nat) (x6 : Nat) (v2 : (Nat × (Nat × Nat)) ⊕ (Nat × (Nat × (Nat × ((List Nat) × (List Nat)))))) (v4 : (Nat × (Nat × Nat)) ⊕ (Nat × (Nat × (Nat × ((List Nat) × (List Nat)))))) (v10 : Int) (v11 : Int) : Tr (Bool) :=
  .br (decide ((v11 : Int) < 0)) (.ok false) (.br ((v11 : Int) != v10) (.ok false) (.br (osome (wtoCanal x0 x1 x2 x3 x4)) (wFnExactStepCanal_o6 x5 x6 v2 v4 v10 (oget (wtoCanal x0 x1 x2 x3 x4))) .bad))

noncomputable def wFnExactStepCanal_o8 (x0 : Nat) (x1 : Nat) (x2 : Nat) (x3 : List Nat) (x4 : List Nat) (x5 : Nat) (x6 : Nat) (v2 : (Nat × (Nat × Nat)) ⊕ (Nat × (Nat × (Nat × ((List Nat) × (List Nat)))))) (v4 : (Nat × (Nat × Nat)) ⊕ (Nat × (Nat × (Nat × ((List Nat) × (List Nat)))))) (v10 : Int) : Tr (Bool) :=
  .br (osome (wheldCanal ((unL v4).1) (((unL v4).2).1) (((unL v4).2).2) [] [] 1)) (wFnExactStepCanal_o7 x0 x1 x2 x3 x4 x5 x6 v2 v4 v10 (oget (wheldCanal ((unL v4).1) (((unL v4).2).1) (((unL v4).2).2) [] [] 1))) .bad

noncomputable def wFnExactStepCanal_o9 (x0 : Nat) (x1 : Nat) (x2 : Nat) (x3 : List Nat) (x4 : List Nat) (x5 : Nat) (x6 : Nat) (v2 : (Nat × (Nat × Nat)) ⊕ (Nat × (Nat × (Nat × ((List Nat) × (List Nat)))))) (v4 : (Nat × (Nat × Nat)) ⊕ (Nat × (Nat × (Nat × ((List Nat) × (List Nat)))))) (v9 : Bool) : Tr (Bool) :=
  .br (!v9) (.ok false) (.br (! (false == false)) (.ok false) (.br (osome (wmarkCanal_n1 ((unL v4).1) (((unL v4).2).1) (((unL v4).2).2) 1)) (wFnExactStepCanal_o8 x0 x1 x2 x3 x4 x5 x6 v2 v4 (oget (wmarkCanal_n1 ((unL v4).1) (((unL v4).2).1) (((unL v4).2).2) 1))) .bad))

noncomputable def wFnExactStepCanal_o10 (x0 : Nat) (x1 : Nat) (x2 : Nat) (x3 : List Nat) (x4 : List Nat) (x5 : Nat) (x6 : Nat) (v2 : (Nat × (Nat × Nat)) ⊕ (Nat × (Nat × (Nat × ((List Nat) × (List Nat)))))) (v4 : (Nat × (Nat × Nat)) ⊕ (Nat × (Nat × (Nat × ((List Nat) × (List Nat)))))) (v8 : Int × ((List Nat) × (List Nat))) : Tr (Bool) :=
  .br (decide ((v8.1 : Int) < 0)) (.ok false) (.br (osome (weqCanal ((unL v4).1) (((unL v4).2).1) (((unL v4).2).2) [] [] ((unL v2).1) (((unL v2).2).1) (((unL v2).2).2) [] [])) (wFnExactStepCanal_o9 x0 x1 x2 x3 x4 x5 x6 v2 v4 (oget (weqCanal ((unL v4).1) (((unL v4).2).1) (((unL v4).2).2) [] [] ((unL v2).1) (((unL v2).2).1) (((unL v2).2).2) [] []))) .bad)

noncomputable def wFnExactStepCanal_o11 (x0 : Nat) (x1 : Nat) (x2 : Nat) (x3 : List Nat) (x4 : List Nat) (x5 : Nat) (x6 : Nat) (v2 : (Nat × (Nat × Nat)) ⊕ (Nat × (Nat × (Nat × ((List Nat) × (List Nat)))))) (v3 : Nat × (Nat × (Nat × ((List Nat) × (List Nat))))) (v4 : (Nat × (Nat × Nat)) ⊕ (Nat × (Nat × (Nat × ((List Nat) × (List Nat)))))) (v7 : Bool) : Tr (Bool) :=
  .br (!v7) (.ok false) (.br (osome (wmarkCanal v3.1 v3.2.1 v3.2.2.1 1 v3.2.2.2.1 v3.2.2.2.2)) (wFnExactStepCanal_o10 x0 x1 x2 x3 x4 x5 x6 v2 v4 (oget (wmarkCanal v3.1 v3.2.1 v3.2.2.1 1 v3.2.2.2.1 v3.2.2.2.2))) .bad)

noncomputable def wFnExactStepCanal_o12 (x0 : Nat) (x1 : Nat) (x2 : Nat) (x3 : List Nat) (x4 : List Nat) (x5 : Nat) (x6 : Nat) (v2 : (Nat × (Nat × Nat)) ⊕ (Nat × (Nat × (Nat × ((List Nat) × (List Nat)))))) (v3 : Nat × (Nat × (Nat × ((List Nat) × (List Nat))))) (v4 : (Nat × (Nat × Nat)) ⊕ (Nat × (Nat × (Nat × ((List Nat) × (List Nat)))))) (v6 : Nat × (Nat × (Nat × ((List Nat) × (List Nat))))) : Tr (Bool) :=
  .br (osome (weqCanal v3.1 v3.2.1 v3.2.2.1 v3.2.2.2.1 v3.2.2.2.2 v6.1 v6.2.1 v6.2.2.1 v6.2.2.2.1 v6.2.2.2.2)) (wFnExactStepCanal_o11 x0 x1 x2 x3 x4 x5 x6 v2 v3 v4 (oget (weqCanal v3.1 v3.2.1 v3.2.2.1 v3.2.2.2.1 v3.2.2.2.2 v6.1 v6.2.1 v6.2.2.1 v6.2.2.2.1 v6.2.2.2.2))) .bad

noncomputable def wFnExactStepCanal_o13 (x0 : Nat) (x1 : Nat) (x2 : Nat) (x3 : List Nat) (x4 : List Nat) (x5 : Nat) (x6 : Nat) (v2 : (Nat × (Nat × Nat)) ⊕ (Nat × (Nat × (Nat × ((List Nat) × (List Nat)))))) (v3 : Nat × (Nat × (Nat × ((List Nat) × (List Nat))))) (v4 : (Nat × (Nat × Nat)) ⊕ (Nat × (Nat × (Nat × ((List Nat) × (List Nat)))))) (v5 : Bool) : Tr (Bool) :=
  .br (!v5) (.ok false) (.br (! (false == false)) (.ok false) (.br (osome (wtoCanal x0 x1 x2 x3 x4)) (wFnExactStepCanal_o12 x0 x1 x2 x3 x4 x5 x6 v2 v3 v4 (oget (wtoCanal x0 x1 x2 x3 x4))) .bad))

noncomputable def wFnExactStepCanal_o14 (v23 : Int × ((List Nat) × (List Nat))) (v28 : Int) : Tr (Bool) :=
  .br (decide ((v28 : Int) < 0)) (.ok false) (.br ((v28 : Int) != v23.1) (.ok false) (.ok true))

noncomputable def wFnExactStepCanal_o15 (v4 : (Nat × (Nat × Nat)) ⊕ (Nat × (Nat × (Nat × ((List Nat) × (List Nat)))))) (v23 : Int × ((List Nat) × (List Nat))) (v27 : Bool) : Tr (Bool) :=
  .br (!v27) (.ok false) (.br (! (false == false)) (.ok false) (.br (osome (wheldCanal ((unR v4).1) (((unR v4).2).1) ((((unR v4).2).2).1) v23.2.1 v23.2.2 1)) (wFnExactStepCanal_o14 v23 (oget (wheldCanal ((unR v4).1) (((unR v4).2).1) ((((unR v4).2).2).1) v23.2.1 v23.2.2 1))) .bad))

noncomputable def wFnExactStepCanal_o16 (v23 : Int × ((List Nat) × (List Nat))) (v30 : Int) : Tr (Bool) :=
  .br (decide ((v30 : Int) < 0)) (.ok false) (.br ((v30 : Int) != v23.1) (.ok false) (.ok true))

noncomputable def wFnExactStepCanal_o17 (v4 : (Nat × (Nat × Nat)) ⊕ (Nat × (Nat × (Nat × ((List Nat) × (List Nat)))))) (v23 : Int × ((List Nat) × (List Nat))) (v29 : Bool) : Tr (Bool) :=
  .br (!v29) (.ok false) (.br (! (true == false)) (.ok false) (.br (osome (wheldCanal ((unR v4).1) (((unR v4).2).1) ((((unR v4).2).2).1) v23.2.1 v23.2.2 1)) (wFnExactStepCanal_o16 v23 (oget (wheldCanal ((unR v4).1) (((unR v4).2).1) ((((unR v4).2).2).1) v23.2.1 v23.2.2 1))) .bad))

noncomputable def wFnExactStepCanal_o18 (v2 : (Nat × (Nat × Nat)) ⊕ (Nat × (Nat × (Nat × ((List Nat) × (List Nat)))))) (v4 : (Nat × (Nat × Nat)) ⊕ (Nat × (Nat × (Nat × ((List Nat) × (List Nat)))))) (v23 : Int × ((List Nat) × (List Nat))) (v26 : (Nat × (Nat × Nat)) ⊕ (Nat × (Nat × (Nat × ((List Nat) × (List Nat)))))) : Tr (Bool) :=
  .br (isL v26) (.br (osome (weqCanal ((unL v26).1) (((unL v26).2).1) (((unL v26).2).2) [] [] ((unL v2).1) (((unL v2).2).1) (((unL v2).2).2) [] [])) (wFnExactStepCanal_o15 v4 v23 (oget (weqCanal ((unL v26).1) (((unL v26).2).1) (((unL v26).2).2) [] [] ((unL v2).1) (((unL v2).2).1) (((unL v2).2).2) [] []))) .bad) (.br (osome (weqCanal ((unR v26).1) (((unR v26).2).1) ((((unR v26).2).2).1) (((((unR v26).2).2).2).1) (((((unR v26).2).2).2).2) ((unL v2).1) (((unL v2).2).1) (((unL v2).2).2) [] [])) (wFnExactStepCanal_o17 v4 v23 (oget (weqCanal ((unR v26).1) (((unR v26).2).1) ((((unR v26).2).2).1) (((((unR v26).2).2).2).1) (((((unR v26).2).2).2).2) ((unL v2).1) (((unL v2).2).1) (((unL v2).2).2) [] []))) .bad)

noncomputable def wFnExactStepCanal_o19 (x5 : Nat) (x6 : Nat) (v2 : (Nat × (Nat × Nat)) ⊕ (Nat × (Nat × (Nat × ((List Nat) × (List Nat)))))) (v4 : (Nat × (Nat × Nat)) ⊕ (Nat × (Nat × (Nat × ((List Nat) × (List Nat)))))) (v23 : Int × ((List Nat) × (List Nat))) (v25 : Nat × (Nat × (Nat × ((List Nat) × (List Nat))))) : Tr (Bool) :=
  .br (osome (iStepCanal v25.1 v25.2.1 v25.2.2.1 v25.2.2.2.1 v25.2.2.2.2 x5 x6)) (wFnExactStepCanal_o18 v2 v4 v23 (oget (iStepCanal v25.1 v25.2.1 v25.2.2.1 v25.2.2.2.1 v25.2.2.2.2 x5 x6))) .bad

noncomputable def wFnExactStepCanal_o20 (x0 : Nat) (x1 : Nat) (x2 : Nat) (x3 : List Nat) (x4 : List Nat) (x5 : Nat) (x6 : Nat) (v2 : (Nat × (Nat × Nat)) ⊕ (Nat × (Nat × (Nat × ((List Nat) × (List Nat)))))) (v4 : (Nat × (Nat × Nat)) ⊕ (Nat × (Nat × (Nat × ((List Nat) × (List Nat)))))) (v23 : Int × ((List Nat) × (List Nat))) (v24 : Int) : Tr (Bool) :=
  .br (decide ((v24 : Int) < 0)) (.ok false) (.br ((v24 : Int) != v23.1) (.ok false) (.br (osome (wtoCanal x0 x1 x2 x3 x4)) (wFnExactStepCanal_o19 x5 x6 v2 v4 v23 (oget (wtoCanal x0 x1 x2 x3 x4))) .bad))

noncomputable def wFnExactStepCanal_o21 (x0 : Nat) (x1 : Nat) (x2 : Nat) (x3 : List Nat) (x4 : List Nat) (x5 : Nat) (x6 : Nat) (v2 : (Nat × (Nat × Nat)) ⊕ (Nat × (Nat × (Nat × ((List Nat) × (List Nat)))))) (v4 : (Nat × (Nat × Nat)) ⊕ (Nat × (Nat × (Nat × ((List Nat) × (List Nat)))))) (v23 : Int × ((List Nat) × (List Nat))) : Tr (Bool) :=
  .br (osome (wheldCanal ((unR v4).1) (((unR v4).2).1) ((((unR v4).2).2).1) v23.2.1 v23.2.2 1)) (wFnExactStepCanal_o20 x0 x1 x2 x3 x4 x5 x6 v2 v4 v23 (oget (wheldCanal ((unR v4).1) (((unR v4).2).1) ((((unR v4).2).2).1) v23.2.1 v23.2.2 1))) .bad

noncomputable def wFnExactStepCanal_o22 (x0 : Nat) (x1 : Nat) (x2 : Nat) (x3 : List Nat) (x4 : List Nat) (x5 : Nat) (x6 : Nat) (v2 : (Nat × (Nat × Nat)) ⊕ (Nat × (Nat × (Nat × ((List Nat) × (List Nat)))))) (v4 : (Nat × (Nat × Nat)) ⊕ (Nat × (Nat × (Nat × ((List Nat) × (List Nat)))))) (v22 : Bool) : Tr (Bool) :=
  .br (!v22) (.ok false) (.br (! (true == false)) (.ok false) (.br (osome (wmarkCanal ((unR v4).1) (((unR v4).2).1) ((((unR v4).2).2).1) 1 (((((unR v4).2).2).2).1) (((((unR v4).2).2).2).2))) (wFnExactStepCanal_o21 x0 x1 x2 x3 x4 x5 x6 v2 v4 (oget (wmarkCanal ((unR v4).1) (((unR v4).2).1) ((((unR v4).2).2).1) 1 (((((unR v4).2).2).2).1) (((((unR v4).2).2).2).2)))) .bad))

noncomputable def wFnExactStepCanal_o23 (x0 : Nat) (x1 : Nat) (x2 : Nat) (x3 : List Nat) (x4 : List Nat) (x5 : Nat) (x6 : Nat) (v2 : (Nat × (Nat × Nat)) ⊕ (Nat × (Nat × (Nat × ((List Nat) × (List Nat)))))) (v4 : (Nat × (Nat × Nat)) ⊕ (Nat × (Nat × (Nat × ((List Nat) × (List Nat)))))) (v21 : Int × ((List Nat) × (List Nat))) : Tr (Bool) :=
  .br (decide ((v21.1 : Int) < 0)) (.ok false) (.br (osome (weqCanal ((unR v4).1) (((unR v4).2).1) ((((unR v4).2).2).1) (((((unR v4).2).2).2).1) (((((unR v4).2).2).2).2) ((unL v2).1) (((unL v2).2).1) (((unL v2).2).2) [] [])) (wFnExactStepCanal_o22 x0 x1 x2 x3 x4 x5 x6 v2 v4 (oget (weqCanal ((unR v4).1) (((unR v4).2).1) ((((unR v4).2).2).1) (((((unR v4).2).2).2).1) (((((unR v4).2).2).2).2) ((unL v2).1) (((unL v2).2).1) (((unL v2).2).2) [] []))) .bad)

noncomputable def wFnExactStepCanal_o24 (x0 : Nat) (x1 : Nat) (x2 : Nat) (x3 : List Nat) (x4 : List Nat) (x5 : Nat) (x6 : Nat) (v2 : (Nat × (Nat × Nat)) ⊕ (Nat × (Nat × (Nat × ((List Nat) × (List Nat)))))) (v3 : Nat × (Nat × (Nat × ((List Nat) × (List Nat))))) (v4 : (Nat × (Nat × Nat)) ⊕ (Nat × (Nat × (Nat × ((List Nat) × (List Nat)))))) (v20 : Bool) : Tr (Bool) :=
  .br (!v20) (.ok false) (.br (osome (wmarkCanal v3.1 v3.2.1 v3.2.2.1 1 v3.2.2.2.1 v3.2.2.2.2)) (wFnExactStepCanal_o23 x0 x1 x2 x3 x4 x5 x6 v2 v4 (oget (wmarkCanal v3.1 v3.2.1 v3.2.2.1 1 v3.2.2.2.1 v3.2.2.2.2))) .bad)

noncomputable def wFnExactStepCanal_o25 (x0 : Nat) (x1 : Nat) (x2 : Nat) (x3 : List Nat) (x4 : List Nat) (x5 : Nat) (x6 : Nat) (v2 : (Nat × (Nat × Nat)) ⊕ (Nat × (Nat × (Nat × ((List Nat) × (List Nat)))))) (v3 : Nat × (Nat × (Nat × ((List Nat) × (List Nat))))) (v4 : (Nat × (Nat × Nat)) ⊕ (Nat × (Nat × (Nat × ((List Nat) × (List Nat)))))) (v19 : Nat × (Nat × (Nat × ((List Nat) × (List Nat))))) : Tr (Bool) :=
  .br (osome (weqCanal v3.1 v3.2.1 v3.2.2.1 v3.2.2.2.1 v3.2.2.2.2 v19.1 v19.2.1 v19.2.2.1 v19.2.2.2.1 v19.2.2.2.2)) (wFnExactStepCanal_o24 x0 x1 x2 x3 x4 x5 x6 v2 v3 v4 (oget (weqCanal v3.1 v3.2.1 v3.2.2.1 v3.2.2.2.1 v3.2.2.2.2 v19.1 v19.2.1 v19.2.2.1 v19.2.2.2.1 v19.2.2.2.2))) .bad

noncomputable def wFnExactStepCanal_o26 (x0 : Nat) (x1 : Nat) (x2 : Nat) (x3 : List Nat) (x4 : List Nat) (x5 : Nat) (x6 : Nat) (v2 : (Nat × (Nat × Nat)) ⊕ (Nat × (Nat × (Nat × ((List Nat) × (List Nat)))))) (v3 : Nat × (Nat × (Nat × ((List Nat) × (List Nat))))) (v4 : (Nat × (Nat × Nat)) ⊕ (Nat × (Nat × (Nat × ((List Nat) × (List Nat)))))) (v18 : Bool) : Tr (Bool) :=
  .br (!v18) (.ok false) (.br (! (true == false)) (.ok false) (.br (osome (wtoCanal x0 x1 x2 x3 x4)) (wFnExactStepCanal_o25 x0 x1 x2 x3 x4 x5 x6 v2 v3 v4 (oget (wtoCanal x0 x1 x2 x3 x4))) .bad))

noncomputable def wFnExactStepCanal_o27 (x0 : Nat) (x1 : Nat) (x2 : Nat) (x3 : List Nat) (x4 : List Nat) (x5 : Nat) (x6 : Nat) (v2 : (Nat × (Nat × Nat)) ⊕ (Nat × (Nat × (Nat × ((List Nat) × (List Nat)))))) (v3 : Nat × (Nat × (Nat × ((List Nat) × (List Nat))))) (v4 : (Nat × (Nat × Nat)) ⊕ (Nat × (Nat × (Nat × ((List Nat) × (List Nat)))))) : Tr (Bool) :=
  .br (isL v4) (.br (osome (weqCanal ((unL v4).1) (((unL v4).2).1) (((unL v4).2).2) [] [] ((unL v2).1) (((unL v2).2).1) (((unL v2).2).2) [] [])) (wFnExactStepCanal_o13 x0 x1 x2 x3 x4 x5 x6 v2 v3 v4 (oget (weqCanal ((unL v4).1) (((unL v4).2).1) (((unL v4).2).2) [] [] ((unL v2).1) (((unL v2).2).1) (((unL v2).2).2) [] []))) .bad) (.br (osome (weqCanal ((unR v4).1) (((unR v4).2).1) ((((unR v4).2).2).1) (((((unR v4).2).2).2).1) (((((unR v4).2).2).2).2) ((unL v2).1) (((unL v2).2).1) (((unL v2).2).2) [] [])) (wFnExactStepCanal_o26 x0 x1 x2 x3 x4 x5 x6 v2 v3 v4 (oget (weqCanal ((unR v4).1) (((unR v4).2).1) ((((unR v4).2).2).1) (((((unR v4).2).2).2).1) (((((unR v4).2).2).2).2) ((unL v2).1) (((unL v2).2).1) (((unL v2).2).2) [] []))) .bad)

noncomputable def wFnExactStepCanal_o28 (x0 : Nat) (x1 : Nat) (x2 : Nat) (x3 : List Nat) (x4 : List Nat) (x5 : Nat) (x6 : Nat) (v2 : (Nat × (Nat × Nat)) ⊕ (Nat × (Nat × (Nat × ((List Nat) × (List Nat)))))) (v3 : Nat × (Nat × (Nat × ((List Nat) × (List Nat))))) : Tr (Bool) :=
  .br (osome (iStepCanal v3.1 v3.2.1 v3.2.2.1 v3.2.2.2.1 v3.2.2.2.2 x5 x6)) (wFnExactStepCanal_o27 x0 x1 x2 x3 x4 x5 x6 v2 v3 (oget (iStepCanal v3.1 v3.2.1 v3.2.2.1 v3.2.2.2.1 v3.2.2.2.2 x5 x6))) .bad

noncomputable def wFnExactStepCanal_o29 (v38 : Int) (v43 : Int) : Tr (Bool) :=
  .br (decide ((v43 : Int) < 0)) (.ok false) (.br ((v43 : Int) != v38) (.ok false) (.ok true))

noncomputable def wFnExactStepCanal_o30 (v32 : (Nat × (Nat × Nat)) ⊕ (Nat × (Nat × (Nat × ((List Nat) × (List Nat)))))) (v38 : Int) (v42 : Bool) : Tr (Bool) :=
  .br (!v42) (.ok false) (.br (! (false == true)) (.ok false) (.br (osome (wheldCanal ((unL v32).1) (((unL v32).2).1) (((unL v32).2).2) [] [] 1)) (wFnExactStepCanal_o29 v38 (oget (wheldCanal ((unL v32).1) (((unL v32).2).1) (((unL v32).2).2) [] [] 1))) .bad))

noncomputable def wFnExactStepCanal_o31 (v38 : Int) (v45 : Int) : Tr (Bool) :=
  .br (decide ((v45 : Int) < 0)) (.ok false) (.br ((v45 : Int) != v38) (.ok false) (.ok true))

noncomputable def wFnExactStepCanal_o32 (v32 : (Nat × (Nat × Nat)) ⊕ (Nat × (Nat × (Nat × ((List Nat) × (List Nat)))))) (v38 : Int) (v44 : Bool) : Tr (Bool) :=
  .br (!v44) (.ok false) (.br (! (true == true)) (.ok false) (.br (osome (wheldCanal ((unL v32).1) (((unL v32).2).1) (((unL v32).2).2) [] [] 1)) (wFnExactStepCanal_o31 v38 (oget (wheldCanal ((unL v32).1) (((unL v32).2).1) (((unL v32).2).2) [] [] 1))) .bad))

noncomputable def wFnExactStepCanal_o33 (v2 : (Nat × (Nat × Nat)) ⊕ (Nat × (Nat × (Nat × ((List Nat) × (List Nat)))))) (v32 : (Nat × (Nat × Nat)) ⊕ (Nat × (Nat × (Nat × ((List Nat) × (List Nat)))))) (v38 : Int) (v41 : (Nat × (Nat × Nat)) ⊕ (Nat × (Nat × (Nat × ((List Nat) × (List Nat)))))) : Tr (Bool) :=
  .br (isL v41) (.br (osome (weqCanal ((unL v41).1) (((unL v41).2).1) (((unL v41).2).2) [] [] ((unR v2).1) (((unR v2).2).1) ((((unR v2).2).2).1) (((((unR v2).2).2).2).1) (((((unR v2).2).2).2).2))) (wFnExactStepCanal_o30 v32 v38 (oget (weqCanal ((unL v41).1) (((unL v41).2).1) (((unL v41).2).2) [] [] ((unR v2).1) (((unR v2).2).1) ((((unR v2).2).2).1) (((((unR v2).2).2).2).1) (((((unR v2).2).2).2).2)))) .bad) (.br (osome (weqCanal ((unR v41).1) (((unR v41).2).1) ((((unR v41).2).2).1) (((((unR v41).2).2).2).1) (((((unR v41).2).2).2).2) ((unR v2).1) (((unR v2).2).1) ((((unR v2).2).2).1) (((((unR v2).2).2).2).1) (((((unR v2).2).2).2).2))) (wFnExactStepCanal_o32 v32 v38 (oget (weqCanal ((unR v41).1) (((unR v41).2).1) ((((unR v41).2).2).1) (((((unR v41).2).2).2).1) (((((unR v41).2).2).2).2) ((unR v2).1) (((unR v2).2).1) ((((unR v2).2).2).1) (((((unR v2).2).2).2).1) (((((unR v2).2).2).2).2)))) .bad)

noncomputable def wFnExactStepCanal_o34 (x5 : Nat) (x6 : Nat) (v2 : (Nat × (Nat × Nat)) ⊕ (Nat × (Nat × (Nat × ((List Nat) × (List Nat)))))) (v32 : (Nat × (Nat × Nat)) ⊕ (Nat × (Nat × (Nat × ((List Nat) × (List Nat)))))) (v38 : Int) (v40 : Nat × (Nat × (Nat × ((List Nat) × (List Nat))))) : Tr (Bool) :=
  .br (osome (iStepCanal v40.1 v40.2.1 v40.2.2.1 v40.2.2.2.1 v40.2.2.2.2 x5 x6)) (wFnExactStepCanal_o33 v2 v32 v38 (oget (iStepCanal v40.1 v40.2.1 v40.2.2.1 v40.2.2.2.1 v40.2.2.2.2 x5 x6))) .bad

noncomputable def wFnExactStepCanal_o35 (x0 : Nat) (x1 : Nat) (x2 : Nat) (x3 : List Nat) (x4 : List Nat) (x5 : Nat) (x6 : Nat) (v2 : (Nat × (Nat × Nat)) ⊕ (Nat × (Nat × (Nat × ((List Nat) × (List Nat)))))) (v32 : (Nat × (Nat × Nat)) ⊕ (Nat × (Nat × (Nat × ((List Nat) × (List Nat)))))) (v38 : Int) (v39 : Int) : Tr (Bool) :=
  .br (decide ((v39 : Int) < 0)) (.ok false) (.br ((v39 : Int) != v38) (.ok false) (.br (osome (wtoCanal x0 x1 x2 x3 x4)) (wFnExactStepCanal_o34 x5 x6 v2 v32 v38 (oget (wtoCanal x0 x1 x2 x3 x4))) .bad))

noncomputable def wFnExactStepCanal_o36 (x0 : Nat) (x1 : Nat) (x2 : Nat) (x3 : List Nat) (x4 : List Nat) (x5 : Nat) (x6 : Nat) (v2 : (Nat × (Nat × Nat)) ⊕ (Nat × (Nat × (Nat × ((List Nat) × (List Nat)))))) (v32 : (Nat × (Nat × Nat)) ⊕ (Nat × (Nat × (Nat × ((List Nat) × (List Nat)))))) (v38 : Int) : Tr (Bool) :=
  .br (osome (wheldCanal ((unL v32).1) (((unL v32).2).1) (((unL v32).2).2) [] [] 1)) (wFnExactStepCanal_o35 x0 x1 x2 x3 x4 x5 x6 v2 v32 v38 (oget (wheldCanal ((unL v32).1) (((unL v32).2).1) (((unL v32).2).2) [] [] 1))) .bad

noncomputable def wFnExactStepCanal_o37 (x0 : Nat) (x1 : Nat) (x2 : Nat) (x3 : List Nat) (x4 : List Nat) (x5 : Nat) (x6 : Nat) (v2 : (Nat × (Nat × Nat)) ⊕ (Nat × (Nat × (Nat × ((List Nat) × (List Nat)))))) (v32 : (Nat × (Nat × Nat)) ⊕ (Nat × (Nat × (Nat × ((List Nat) × (List Nat)))))) (v37 : Bool) : Tr (Bool) :=
  .br (!v37) (.ok false) (.br (! (false == true)) (.ok false) (.br (osome (wmarkCanal_n1 ((unL v32).1) (((unL v32).2).1) (((unL v32).2).2) 1)) (wFnExactStepCanal_o36 x0 x1 x2 x3 x4 x5 x6 v2 v32 (oget (wmarkCanal_n1 ((unL v32).1) (((unL v32).2).1) (((unL v32).2).2) 1))) .bad))

noncomputable def wFnExactStepCanal_o38 (x0 : Nat) (x1 : Nat) (x2 : Nat) (x3 : List Nat) (x4 : List Nat) (x5 : Nat) (x6 : Nat) (v2 : (Nat × (Nat × Nat)) ⊕ (Nat × (Nat × (Nat × ((List Nat) × (List Nat)))))) (v32 : (Nat × (Nat × Nat)) ⊕ (Nat × (Nat × (Nat × ((List Nat) × (List Nat)))))) (v36 : Int × ((List Nat) × (List Nat))) : Tr (Bool) :=
  .br (decide ((v36.1 : Int) < 0)) (.ok false) (.br (osome (weqCanal ((unL v32).1) (((unL v32).2).1) (((unL v32).2).2) [] [] ((unR v2).1) (((unR v2).2).1) ((((unR v2).2).2).1) (((((unR v2).2).2).2).1) (((((unR v2).2).2).2).2))) (wFnExactStepCanal_o37 x0 x1 x2 x3 x4 x5 x6 v2 v32 (oget (weqCanal ((unL v32).1) (((unL v32).2).1) (((unL v32).2).2) [] [] ((unR v2).1) (((unR v2).2).1) ((((unR v2).2).2).1) (((((unR v2).2).2).2).1) (((((unR v2).2).2).2).2)))) .bad)

noncomputable def wFnExactStepCanal_o39 (x0 : Nat) (x1 : Nat) (x2 : Nat) (x3 : List Nat) (x4 : List Nat) (x5 : Nat) (x6 : Nat) (v2 : (Nat × (Nat × Nat)) ⊕ (Nat × (Nat × (Nat × ((List Nat) × (List Nat)))))) (v31 : Nat × (Nat × (Nat × ((List Nat) × (List Nat))))) (v32 : (Nat × (Nat × Nat)) ⊕ (Nat × (Nat × (Nat × ((List Nat) × (List Nat)))))) (v35 : Bool) : Tr (Bool) :=
  .br (!v35) (.ok false) (.br (osome (wmarkCanal v31.1 v31.2.1 v31.2.2.1 1 v31.2.2.2.1 v31.2.2.2.2)) (wFnExactStepCanal_o38 x0 x1 x2 x3 x4 x5 x6 v2 v32 (oget (wmarkCanal v31.1 v31.2.1 v31.2.2.1 1 v31.2.2.2.1 v31.2.2.2.2))) .bad)

noncomputable def wFnExactStepCanal_o40 (x0 : Nat) (x1 : Nat) (x2 : Nat) (x3 : List Nat) (x4 : List Nat) (x5 : Nat) (x6 : Nat) (v2 : (Nat × (Nat × Nat)) ⊕ (Nat × (Nat × (Nat × ((List Nat) × (List Nat)))))) (v31 : Nat × (Nat × (Nat × ((List Nat) × (List Nat))))) (v32 : (Nat × (Nat × Nat)) ⊕ (Nat × (Nat × (Nat × ((List Nat) × (List Nat)))))) (v34 : Nat × (Nat × (Nat × ((List Nat) × (List Nat))))) : Tr (Bool) :=
  .br (osome (weqCanal v31.1 v31.2.1 v31.2.2.1 v31.2.2.2.1 v31.2.2.2.2 v34.1 v34.2.1 v34.2.2.1 v34.2.2.2.1 v34.2.2.2.2)) (wFnExactStepCanal_o39 x0 x1 x2 x3 x4 x5 x6 v2 v31 v32 (oget (weqCanal v31.1 v31.2.1 v31.2.2.1 v31.2.2.2.1 v31.2.2.2.2 v34.1 v34.2.1 v34.2.2.1 v34.2.2.2.1 v34.2.2.2.2))) .bad

noncomputable def wFnExactStepCanal_o41 (x0 : Nat) (x1 : Nat) (x2 : Nat) (x3 : List Nat) (x4 : List Nat) (x5 : Nat) (x6 : Nat) (v2 : (Nat × (Nat × Nat)) ⊕ (Nat × (Nat × (Nat × ((List Nat) × (List Nat)))))) (v31 : Nat × (Nat × (Nat × ((List Nat) × (List Nat))))) (v32 : (Nat × (Nat × Nat)) ⊕ (Nat × (Nat × (Nat × ((List Nat) × (List Nat)))))) (v33 : Bool) : Tr (Bool) :=
  .br (!v33) (.ok false) (.br (! (false == true)) (.ok false) (.br (osome (wtoCanal x0 x1 x2 x3 x4)) (wFnExactStepCanal_o40 x0 x1 x2 x3 x4 x5 x6 v2 v31 v32 (oget (wtoCanal x0 x1 x2 x3 x4))) .bad))

noncomputable def wFnExactStepCanal_o42 (v51 : Int × ((List Nat) × (List Nat))) (v56 : Int) : Tr (Bool) :=
  .br (decide ((v56 : Int) < 0)) (.ok false) (.br ((v56 : Int) != v51.1) (.ok false) (.ok true))

noncomputable def wFnExactStepCanal_o43 (v32 : (Nat × (Nat × Nat)) ⊕ (Nat × (Nat × (Nat × ((List Nat) × (List Nat)))))) (v51 : Int × ((List Nat) × (List Nat))) (v55 : Bool) : Tr (Bool) :=
  .br (!v55) (.ok false) (.br (! (false == true)) (.ok false) (.br (osome (wheldCanal ((unR v32).1) (((unR v32).2).1) ((((unR v32).2).2).1) v51.2.1 v51.2.2 1)) (wFnExactStepCanal_o42 v51 (oget (wheldCanal ((unR v32).1) (((unR v32).2).1) ((((unR v32).2).2).1) v51.2.1 v51.2.2 1))) .bad))

noncomputable def wFnExactStepCanal_o44 (v51 : Int × ((List Nat) × (List Nat))) (v58 : Int) : Tr (Bool) :=
  .br (decide ((v58 : Int) < 0)) (.ok false) (.br ((v58 : Int) != v51.1) (.ok false) (.ok true))

noncomputable def wFnExactStepCanal_o45 (v32 : (Nat × (Nat × Nat)) ⊕ (Nat × (Nat × (Nat × ((List Nat) × (List Nat)))))) (v51 : Int × ((List Nat) × (List Nat))) (v57 : Bool) : Tr (Bool) :=
  .br (!v57) (.ok false) (.br (! (true == true)) (.ok false) (.br (osome (wheldCanal ((unR v32).1) (((unR v32).2).1) ((((unR v32).2).2).1) v51.2.1 v51.2.2 1)) (wFnExactStepCanal_o44 v51 (oget (wheldCanal ((unR v32).1) (((unR v32).2).1) ((((unR v32).2).2).1) v51.2.1 v51.2.2 1))) .bad))

noncomputable def wFnExactStepCanal_o46 (v2 : (Nat × (Nat × Nat)) ⊕ (Nat × (Nat × (Nat × ((List Nat) × (List Nat)))))) (v32 : (Nat × (Nat × Nat)) ⊕ (Nat × (Nat × (Nat × ((List Nat) × (List Nat)))))) (v51 : Int × ((List Nat) × (List Nat))) (v54 : (Nat × (Nat × Nat)) ⊕ (Nat × (Nat × (Nat × ((List Nat) × (List Nat)))))) : Tr (Bool) :=
  .br (isL v54) (.br (osome (weqCanal ((unL v54).1) (((unL v54).2).1) (((unL v54).2).2) [] [] ((unR v2).1) (((unR v2).2).1) ((((unR v2).2).2).1) (((((unR v2).2).2).2).1) (((((unR v2).2).2).2).2))) (wFnExactStepCanal_o43 v32 v51 (oget (weqCanal ((unL v54).1) (((unL v54).2).1) (((unL v54).2).2) [] [] ((unR v2).1) (((unR v2).2).1) ((((unR v2).2).2).1) (((((unR v2).2).2).2).1) (((((unR v2).2).2).2).2)))) .bad) (.br (osome (weqCanal ((unR v54).1) (((unR v54).2).1) ((((unR v54).2).2).1) (((((unR v54).2).2).2).1) (((((unR v54).2).2).2).2) ((unR v2).1) (((unR v2).2).1) ((((unR v2).2).2).1) (((((unR v2).2).2).2).1) (((((unR v2).2).2).2).2))) (wFnExactStepCanal_o45 v32 v51 (oget (weqCanal ((unR v54).1) (((unR v54).2).1) ((((unR v54).2).2).1) (((((unR v54).2).2).2).1) (((((unR v54).2).2).2).2) ((unR v2).1) (((unR v2).2).1) ((((unR v2).2).2).1) (((((unR v2).2).2).2).1) (((((unR v2).2).2).2).2)))) .bad)

noncomputable def wFnExactStepCanal_o47 (x5 : Nat) (x6 : Nat) (v2 : (Nat × (Nat × Nat)) ⊕ (Nat × (Nat × (Nat × ((List Nat) × (List Nat)))))) (v32 : (Nat × (Nat × Nat)) ⊕ (Nat × (Nat × (Nat × ((List Nat) × (List Nat)))))) (v51 : Int × ((List Nat) × (List Nat))) (v53 : Nat × (Nat × (Nat × ((List Nat) × (List Nat))))) : Tr (Bool) :=
  .br (osome (iStepCanal v53.1 v53.2.1 v53.2.2.1 v53.2.2.2.1 v53.2.2.2.2 x5 x6)) (wFnExactStepCanal_o46 v2 v32 v51 (oget (iStepCanal v53.1 v53.2.1 v53.2.2.1 v53.2.2.2.1 v53.2.2.2.2 x5 x6))) .bad

noncomputable def wFnExactStepCanal_o48 (x0 : Nat) (x1 : Nat) (x2 : Nat) (x3 : List Nat) (x4 : List Nat) (x5 : Nat) (x6 : Nat) (v2 : (Nat × (Nat × Nat)) ⊕ (Nat × (Nat × (Nat × ((List Nat) × (List Nat)))))) (v32 : (Nat × (Nat × Nat)) ⊕ (Nat × (Nat × (Nat × ((List Nat) × (List Nat)))))) (v51 : Int × ((List Nat) × (List Nat))) (v52 : Int) : Tr (Bool) :=
  .br (decide ((v52 : Int) < 0)) (.ok false) (.br ((v52 : Int) != v51.1) (.ok false) (.br (osome (wtoCanal x0 x1 x2 x3 x4)) (wFnExactStepCanal_o47 x5 x6 v2 v32 v51 (oget (wtoCanal x0 x1 x2 x3 x4))) .bad))

noncomputable def wFnExactStepCanal_o49 (x0 : Nat) (x1 : Nat) (x2 : Nat) (x3 : List Nat) (x4 : List Nat) (x5 : Nat) (x6 : Nat) (v2 : (Nat × (Nat × Nat)) ⊕ (Nat × (Nat × (Nat × ((List Nat) × (List Nat)))))) (v32 : (Nat × (Nat × Nat)) ⊕ (Nat × (Nat × (Nat × ((List Nat) × (List Nat)))))) (v51 : Int × ((List Nat) × (List Nat))) : Tr (Bool) :=
  .br (osome (wheldCanal ((unR v32).1) (((unR v32).2).1) ((((unR v32).2).2).1) v51.2.1 v51.2.2 1)) (wFnExactStepCanal_o48 x0 x1 x2 x3 x4 x5 x6 v2 v32 v51 (oget (wheldCanal ((unR v32).1) (((unR v32).2).1) ((((unR v32).2).2).1) v51.2.1 v51.2.2 1))) .bad

noncomputable def wFnExactStepCanal_o50 (x0 : Nat) (x1 : Nat) (x2 : Nat) (x3 : List Nat) (x4 : List Nat) (x5 : Nat) (x6 : Nat) (v2 : (Nat × (Nat × Nat)) ⊕ (Nat × (Nat × (Nat × ((List Nat) × (List Nat)))))) (v32 : (Nat × (Nat × Nat)) ⊕ (Nat × (Nat × (Nat × ((List Nat) × (List Nat)))))) (v50 : Bool) : Tr (Bool) :=
  .br (!v50) (.ok false) (.br (! (true == true)) (.ok false) (.br (osome (wmarkCanal ((unR v32).1) (((unR v32).2).1) ((((unR v32).2).2).1) 1 (((((unR v32).2).2).2).1) (((((unR v32).2).2).2).2))) (wFnExactStepCanal_o49 x0 x1 x2 x3 x4 x5 x6 v2 v32 (oget (wmarkCanal ((unR v32).1) (((unR v32).2).1) ((((unR v32).2).2).1) 1 (((((unR v32).2).2).2).1) (((((unR v32).2).2).2).2)))) .bad))

noncomputable def wFnExactStepCanal_o51 (x0 : Nat) (x1 : Nat) (x2 : Nat) (x3 : List Nat) (x4 : List Nat) (x5 : Nat) (x6 : Nat) (v2 : (Nat × (Nat × Nat)) ⊕ (Nat × (Nat × (Nat × ((List Nat) × (List Nat)))))) (v32 : (Nat × (Nat × Nat)) ⊕ (Nat × (Nat × (Nat × ((List Nat) × (List Nat)))))) (v49 : Int × ((List Nat) × (List Nat))) : Tr (Bool) :=
  .br (decide ((v49.1 : Int) < 0)) (.ok false) (.br (osome (weqCanal ((unR v32).1) (((unR v32).2).1) ((((unR v32).2).2).1) (((((unR v32).2).2).2).1) (((((unR v32).2).2).2).2) ((unR v2).1) (((unR v2).2).1) ((((unR v2).2).2).1) (((((unR v2).2).2).2).1) (((((unR v2).2).2).2).2))) (wFnExactStepCanal_o50 x0 x1 x2 x3 x4 x5 x6 v2 v32 (oget (weqCanal ((unR v32).1) (((unR v32).2).1) ((((unR v32).2).2).1) (((((unR v32).2).2).2).1) (((((unR v32).2).2).2).2) ((unR v2).1) (((unR v2).2).1) ((((unR v2).2).2).1) (((((unR v2).2).2).2).1) (((((unR v2).2).2).2).2)))) .bad)

noncomputable def wFnExactStepCanal_o52 (x0 : Nat) (x1 : Nat) (x2 : Nat) (x3 : List Nat) (x4 : List Nat) (x5 : Nat) (x6 : Nat) (v2 : (Nat × (Nat × Nat)) ⊕ (Nat × (Nat × (Nat × ((List Nat) × (List Nat)))))) (v31 : Nat × (Nat × (Nat × ((List Nat) × (List Nat))))) (v32 : (Nat × (Nat × Nat)) ⊕ (Nat × (Nat × (Nat × ((List Nat) × (List Nat)))))) (v48 : Bool) : Tr (Bool) :=
  .br (!v48) (.ok false) (.br (osome (wmarkCanal v31.1 v31.2.1 v31.2.2.1 1 v31.2.2.2.1 v31.2.2.2.2)) (wFnExactStepCanal_o51 x0 x1 x2 x3 x4 x5 x6 v2 v32 (oget (wmarkCanal v31.1 v31.2.1 v31.2.2.1 1 v31.2.2.2.1 v31.2.2.2.2))) .bad)

noncomputable def wFnExactStepCanal_o53 (x0 : Nat) (x1 : Nat) (x2 : Nat) (x3 : List Nat) (x4 : List Nat) (x5 : Nat) (x6 : Nat) (v2 : (Nat × (Nat × Nat)) ⊕ (Nat × (Nat × (Nat × ((List Nat) × (List Nat)))))) (v31 : Nat × (Nat × (Nat × ((List Nat) × (List Nat))))) (v32 : (Nat × (Nat × Nat)) ⊕ (Nat × (Nat × (Nat × ((List Nat) × (List Nat)))))) (v47 : Nat × (Nat × (Nat × ((List Nat) × (List Nat))))) : Tr (Bool) :=
  .br (osome (weqCanal v31.1 v31.2.1 v31.2.2.1 v31.2.2.2.1 v31.2.2.2.2 v47.1 v47.2.1 v47.2.2.1 v47.2.2.2.1 v47.2.2.2.2)) (wFnExactStepCanal_o52 x0 x1 x2 x3 x4 x5 x6 v2 v31 v32 (oget (weqCanal v31.1 v31.2.1 v31.2.2.1 v31.2.2.2.1 v31.2.2.2.2 v47.1 v47.2.1 v47.2.2.1 v47.2.2.2.1 v47.2.2.2.2))) .bad

noncomputable def wFnExactStepCanal_o54 (x0 : Nat) (x1 : Nat) (x2 : Nat) (x3 : List Nat) (x4 : List Nat) (x5 : Nat) (x6 : Nat) (v2 : (Nat × (Nat × Nat)) ⊕ (Nat × (Nat × (Nat × ((List Nat) × (List Nat)))))) (v31 : Nat × (Nat × (Nat × ((List Nat) × (List Nat))))) (v32 : (Nat × (Nat × Nat)) ⊕ (Nat × (Nat × (Nat × ((List Nat) × (List Nat)))))) (v46 : Bool) : Tr (Bool) :=
  .br (!v46) (.ok false) (.br (! (true == true)) (.ok false) (.br (osome (wtoCanal x0 x1 x2 x3 x4)) (wFnExactStepCanal_o53 x0 x1 x2 x3 x4 x5 x6 v2 v31 v32 (oget (wtoCanal x0 x1 x2 x3 x4))) .bad))

noncomputable def wFnExactStepCanal_o55 (x0 : Nat) (x1 : Nat) (x2 : Nat) (x3 : List Nat) (x4 : List Nat) (x5 : Nat) (x6 : Nat) (v2 : (Nat × (Nat × Nat)) ⊕ (Nat × (Nat × (Nat × ((List Nat) × (List Nat)))))) (v31 : Nat × (Nat × (Nat × ((List Nat) × (List Nat))))) (v32 : (Nat × (Nat × Nat)) ⊕ (Nat × (Nat × (Nat × ((List Nat) × (List Nat)))))) : Tr (Bool) :=
  .br (isL v32) (.br (osome (weqCanal ((unL v32).1) (((unL v32).2).1) (((unL v32).2).2) [] [] ((unR v2).1) (((unR v2).2).1) ((((unR v2).2).2).1) (((((unR v2).2).2).2).1) (((((unR v2).2).2).2).2))) (wFnExactStepCanal_o41 x0 x1 x2 x3 x4 x5 x6 v2 v31 v32 (oget (weqCanal ((unL v32).1) (((unL v32).2).1) (((unL v32).2).2) [] [] ((unR v2).1) (((unR v2).2).1) ((((unR v2).2).2).1) (((((unR v2).2).2).2).1) (((((unR v2).2).2).2).2)))) .bad) (.br (osome (weqCanal ((unR v32).1) (((unR v32).2).1) ((((unR v32).2).2).1) (((((unR v32).2).2).2).1) (((((unR v32).2).2).2).2) ((unR v2).1) (((unR v2).2).1) ((((unR v2).2).2).1) (((((unR v2).2).2).2).1) (((((unR v2).2).2).2).2))) (wFnExactStepCanal_o54 x0 x1 x2 x3 x4 x5 x6 v2 v31 v32 (oget (weqCanal ((unR v32).1) (((unR v32).2).1) ((((unR v32).2).2).1) (((((unR v32).2).2).2).1) (((((unR v32).2).2).2).2) ((unR v2).1) (((unR v2).2).1) ((((unR v2).2).2).1) (((((unR v2).2).2).2).1) (((((unR v2).2).2).2).2)))) .bad)

noncomputable def wFnExactStepCanal_o56 (x0 : Nat) (x1 : Nat) (x2 : Nat) (x3 : List Nat) (x4 : List Nat) (x5 : Nat) (x6 : Nat) (v2 : (Nat × (Nat × Nat)) ⊕ (Nat × (Nat × (Nat × ((List Nat) × (List Nat)))))) (v31 : Nat × (Nat × (Nat × ((List Nat) × (List Nat))))) : Tr (Bool) :=
  .br (osome (iStepCanal v31.1 v31.2.1 v31.2.2.1 v31.2.2.2.1 v31.2.2.2.2 x5 x6)) (wFnExactStepCanal_o55 x0 x1 x2 x3 x4 x5 x6 v2 v31 (oget (iStepCanal v31.1 v31.2.1 v31.2.2.1 v31.2.2.2.1 v31.2.2.2.2 x5 x6))) .bad

noncomputable def wFnExactStepCanal_o57 (x0 : Nat) (x1 : Nat) (x2 : Nat) (x3 : List Nat) (x4 : List Nat) (x5 : Nat) (x6 : Nat) (v2 : (Nat × (Nat × Nat)) ⊕ (Nat × (Nat × (Nat × ((List Nat) × (List Nat)))))) : Tr (Bool) :=
  .br (isL v2) (.br (osome (wtoCanal x0 x1 x2 x3 x4)) (wFnExactStepCanal_o28 x0 x1 x2 x3 x4 x5 x6 v2 (oget (wtoCanal x0 x1 x2 x3 x4))) .bad) (.br (osome (wtoCanal x0 x1 x2 x3 x4)) (wFnExactStepCanal_o56 x0 x1 x2 x3 x4 x5 x6 v2 (oget (wtoCanal x0 x1 x2 x3 x4))) .bad)

noncomputable def wFnExactStepCanal_o58 (x0 : Nat) (x1 : Nat) (x2 : Nat) (x3 : List Nat) (x4 : List Nat) (x5 : Nat) (x6 : Nat) (v1 : Nat × (Nat × (Nat × ((List Nat) × (List Nat))))) : Tr (Bool) :=
  .br (osome (sStepCanal v1.1 v1.2.1 v1.2.2.1 v1.2.2.2.1 v1.2.2.2.2 x5 x6)) (wFnExactStepCanal_o57 x0 x1 x2 x3 x4 x5 x6 (oget (sStepCanal v1.1 v1.2.1 v1.2.2.1 v1.2.2.2.1 v1.2.2.2.2 x5 x6))) .bad

noncomputable def wFnExactStepCanal_t (x0 : Nat) (x1 : Nat) (x2 : Nat) (x3 : List Nat) (x4 : List Nat) (x5 : Nat) (x6 : Nat) : Tr (Bool) :=
  .br (decide ((wszCanal x0 x1 x2 x3 x4 1048576 : Int) < 0)) (.ok true) (.br (osome (wtoCanal x0 x1 x2 x3 x4)) (wFnExactStepCanal_o58 x0 x1 x2 x3 x4 x5 x6 (oget (wtoCanal x0 x1 x2 x3 x4))) .bad)

noncomputable def wFnExactStepCanal (x0 : Nat) (x1 : Nat) (x2 : Nat) (x3 : List Nat) (x4 : List Nat) (x5 : Nat) (x6 : Nat) : Option (Bool) := (wFnExactStepCanal_t x0 x1 x2 x3 x4 x5 x6).sem

noncomputable def sRunCanal_l6_t (y0 : List Nat) (y1 : Nat) (y2 : Int) (y4 : Nat) (y5 : Nat) (y6 : Nat) (y3 : Int) (y7 : Nat) (y8 : Nat) (y9 : Nat) (y10 : List Nat) (y11 : List Nat) (y12 : List Nat) : Tr ((Int × Nat × Nat × Nat × List Nat × List Nat × List Nat) ⊕ ((Nat × Nat × Nat) ⊕ (Nat × Nat × Nat × Nat × Nat × Nat × List Nat × List Nat × List Nat))) :=
  .br (decide ((y3 : Int) < y2)) (.br (decide (0 ≤ (y3 : Int)) && decide ((y3 : Int) < ((List.length y0 : Nat) : Int))) (.br (osome (sl05Tick y7 y8 y9 y10 y11 (List.getD y0 (Int.toNat y3) 0) y1)) (.br (isL (oget (sl05Tick y7 y8 y9 y10 y11 (List.getD y0 (Int.toNat y3) 0) y1))) (.ok (.inr (.inl (0, 0, 0)))) (.br (decide (0 ≤ (IntKind.wrap .i64 ((((List.length (((((unR (oget (sl05Tick y7 y8 y9 y10 y11 (List.getD y0 (Int.toNat y3) 0) y1))).2).2).2).1) : Nat) : Int)) - 1) : Int)) && decide ((IntKind.wrap .i64 ((((List.length (((((unR (oget (sl05Tick y7 y8 y9 y10 y11 (List.getD y0 (Int.toNat y3) 0) y1))).2).2).2).1) : Nat) : Int)) - 1) : Int) < ((List.length (((((unR (oget (sl05Tick y7 y8 y9 y10 y11 (List.getD y0 (Int.toNat y3) 0) y1))).2).2).2).1) : Nat) : Int))) (.br (decide ((List.length y12 + List.length [List.getD (((((unR (oget (sl05Tick y7 y8 y9 y10 y11 (List.getD y0 (Int.toNat y3) 0) y1))).2).2).2).1) (Int.toNat (IntKind.wrap .i64 ((((List.length (((((unR (oget (sl05Tick y7 y8 y9 y10 y11 (List.getD y0 (Int.toNat y3) 0) y1))).2).2).2).1) : Nat) : Int)) - 1))) 0]) * 4 ≤ 140737488355328)) (.ok (.inl (IntKind.wrap .i64 (y3 + 1), (unR (oget (sl05Tick y7 y8 y9 y10 y11 (List.getD y0 (Int.toNat y3) 0) y1))).1, ((unR (oget (sl05Tick y7 y8 y9 y10 y11 (List.getD y0 (Int.toNat y3) 0) y1))).2).1, (((unR (oget (sl05Tick y7 y8 y9 y10 y11 (List.getD y0 (Int.toNat y3) 0) y1))).2).2).1, ((((unR (oget (sl05Tick y7 y8 y9 y10 y11 (List.getD y0 (Int.toNat y3) 0) y1))).2).2).2).1, ((((unR (oget (sl05Tick y7 y8 y9 y10 y11 (List.getD y0 (Int.toNat y3) 0) y1))).2).2).2).2, y12 ++ [List.getD (((((unR (oget (sl05Tick y7 y8 y9 y10 y11 (List.getD y0 (Int.toNat y3) 0) y1))).2).2).2).1) (Int.toNat (IntKind.wrap .i64 ((((List.length (((((unR (oget (sl05Tick y7 y8 y9 y10 y11 (List.getD y0 (Int.toNat y3) 0) y1))).2).2).2).1) : Nat) : Int)) - 1))) 0]))) .bad) .bad)) .bad) .bad) (.ok (.inr (.inr (y4, y5, y6, y7, y8, y9, y10, y11, y12))))

noncomputable def sRunCanal_l6 (y0 : List Nat) (y1 : Nat) (y2 : Int) (y3 : Int) (y4 : Nat) (y5 : Nat) (y6 : Nat) (y7 : Nat) (y8 : Nat) (y9 : Nat) (y10 : List Nat) (y11 : List Nat) (y12 : List Nat) : Option ((Nat × Nat × Nat) ⊕ (Nat × Nat × Nat × Nat × Nat × Nat × List Nat × List Nat × List Nat)) := runL (fun s : Int × Nat × Nat × Nat × List Nat × List Nat × List Nat => (sRunCanal_l6_t y0 y1 y2 y4 y5 y6 s.1 s.2.1 s.2.2.1 s.2.2.2.1 s.2.2.2.2.1 s.2.2.2.2.2.1 s.2.2.2.2.2.2).sem) (y3, y7, y8, y9, y10, y11, y12)

noncomputable def sRunCanal_t (x0 : Nat) (x1 : Nat) (x2 : Nat) (x3 : List Nat) (x4 : List Nat) (x5 : List Nat) (x6 : Nat) : Tr ((Nat × Nat × Nat) ⊕ (Nat × Nat × Nat × List Nat × List Nat × List Nat)) :=
  .br (osome (sl05Canal x0 x1 x2 x3 x4)) (.br (!(oget (sl05Canal x0 x1 x2 x3 x4))) (.ok (.inl (0, 0, 0))) (.br (decide ((((List.length x5 : Nat) : Int) : Int) > 128)) (.ok (.inl (0, 0, 0))) (.br (osome (sl02Finite x5)) (.br (!(oget (sl02Finite x5))) (.ok (.inl (0, 0, 0))) (.br (! (isLen x6)) (.ok (.inl (0, 0, 0))) (.br (osome (sl05Own x0 x1 x2 x3 x4)) (.br (osome (sRunCanal_l6 x5 x6 (((List.length x5 : Nat) : Int)) 0 0 0 0 (oget (sl05Own x0 x1 x2 x3 x4)).1 (oget (sl05Own x0 x1 x2 x3 x4)).2.1 (oget (sl05Own x0 x1 x2 x3 x4)).2.2.1 (oget (sl05Own x0 x1 x2 x3 x4)).2.2.2.1 (oget (sl05Own x0 x1 x2 x3 x4)).2.2.2.2 [])) (.br (isL (oget (sRunCanal_l6 x5 x6 (((List.length x5 : Nat) : Int)) 0 0 0 0 (oget (sl05Own x0 x1 x2 x3 x4)).1 (oget (sl05Own x0 x1 x2 x3 x4)).2.1 (oget (sl05Own x0 x1 x2 x3 x4)).2.2.1 (oget (sl05Own x0 x1 x2 x3 x4)).2.2.2.1 (oget (sl05Own x0 x1 x2 x3 x4)).2.2.2.2 []))) (.ok (.inl ((unL (oget (sRunCanal_l6 x5 x6 (((List.length x5 : Nat) : Int)) 0 0 0 0 (oget (sl05Own x0 x1 x2 x3 x4)).1 (oget (sl05Own x0 x1 x2 x3 x4)).2.1 (oget (sl05Own x0 x1 x2 x3 x4)).2.2.1 (oget (sl05Own x0 x1 x2 x3 x4)).2.2.2.1 (oget (sl05Own x0 x1 x2 x3 x4)).2.2.2.2 []))).1, ((unL (oget (sRunCanal_l6 x5 x6 (((List.length x5 : Nat) : Int)) 0 0 0 0 (oget (sl05Own x0 x1 x2 x3 x4)).1 (oget (sl05Own x0 x1 x2 x3 x4)).2.1 (oget (sl05Own x0 x1 x2 x3 x4)).2.2.1 (oget (sl05Own x0 x1 x2 x3 x4)).2.2.2.1 (oget (sl05Own x0 x1 x2 x3 x4)).2.2.2.2 []))).2).1, ((unL (oget (sRunCanal_l6 x5 x6 (((List.length x5 : Nat) : Int)) 0 0 0 0 (oget (sl05Own x0 x1 x2 x3 x4)).1 (oget (sl05Own x0 x1 x2 x3 x4)).2.1 (oget (sl05Own x0 x1 x2 x3 x4)).2.2.1 (oget (sl05Own x0 x1 x2 x3 x4)).2.2.2.1 (oget (sl05Own x0 x1 x2 x3 x4)).2.2.2.2 []))).2).2))) (.ok (.inr (((((unR (oget (sRunCanal_l6 x5 x6 (((List.length x5 : Nat) : Int)) 0 0 0 0 (oget (sl05Own x0 x1 x2 x3 x4)).1 (oget (sl05Own x0 x1 x2 x3 x4)).2.1 (oget (sl05Own x0 x1 x2 x3 x4)).2.2.1 (oget (sl05Own x0 x1 x2 x3 x4)).2.2.2.1 (oget (sl05Own x0 x1 x2 x3 x4)).2.2.2.2 []))).2).2).2).1, (((((unR (oget (sRunCanal_l6 x5 x6 (((List.length x5 : Nat) : Int)) 0 0 0 0 (oget (sl05Own x0 x1 x2 x3 x4)).1 (oget (sl05Own x0 x1 x2 x3 x4)).2.1 (oget (sl05Own x0 x1 x2 x3 x4)).2.2.1 (oget (sl05Own x0 x1 x2 x3 x4)).2.2.2.1 (oget (sl05Own x0 x1 x2 x3 x4)).2.2.2.2 []))).2).2).2).2).1, ((((((unR (oget (sRunCanal_l6 x5 x6 (((List.length x5 : Nat) : Int)) 0 0 0 0 (oget (sl05Own x0 x1 x2 x3 x4)).1 (oget (sl05Own x0 x1 x2 x3 x4)).2.1 (oget (sl05Own x0 x1 x2 x3 x4)).2.2.1 (oget (sl05Own x0 x1 x2 x3 x4)).2.2.2.1 (oget (sl05Own x0 x1 x2 x3 x4)).2.2.2.2 []))).2).2).2).2).2).1, (((((((unR (oget (sRunCanal_l6 x5 x6 (((List.length x5 : Nat) : Int)) 0 0 0 0 (oget (sl05Own x0 x1 x2 x3 x4)).1 (oget (sl05Own x0 x1 x2 x3 x4)).2.1 (oget (sl05Own x0 x1 x2 x3 x4)).2.2.1 (oget (sl05Own x0 x1 x2 x3 x4)).2.2.2.1 (oget (sl05Own x0 x1 x2 x3 x4)).2.2.2.2 []))).2).2).2).2).2).2).1, ((((((((unR (oget (sRunCanal_l6 x5 x6 (((List.length x5 : Nat) : Int)) 0 0 0 0 (oget (sl05Own x0 x1 x2 x3 x4)).1 (oget (sl05Own x0 x1 x2 x3 x4)).2.1 (oget (sl05Own x0 x1 x2 x3 x4)).2.2.1 (oget (sl05Own x0 x1 x2 x3 x4)).2.2.2.1 (oget (sl05Own x0 x1 x2 x3 x4)).2.2.2.2 []))).2).2).2).2).2).2).2).1, ((((((((unR (oget (sRunCanal_l6 x5 x6 (((List.length x5 : Nat) : Int)) 0 0 0 0 (oget (sl05Own x0 x1 x2 x3 x4)).1 (oget (sl05Own x0 x1 x2 x3 x4)).2.1 (oget (sl05Own x0 x1 x2 x3 x4)).2.2.1 (oget (sl05Own x0 x1 x2 x3 x4)).2.2.2.1 (oget (sl05Own x0 x1 x2 x3 x4)).2.2.2.2 []))).2).2).2).2).2).2).2).2)))) .bad) .bad))) .bad))) .bad

noncomputable def sRunCanal (x0 : Nat) (x1 : Nat) (x2 : Nat) (x3 : List Nat) (x4 : List Nat) (x5 : List Nat) (x6 : Nat) : Option ((Nat × Nat × Nat) ⊕ (Nat × Nat × Nat × List Nat × List Nat × List Nat)) := (sRunCanal_t x0 x1 x2 x3 x4 x5 x6).sem

noncomputable def iRunCanal_l6_t (y0 : Nat) (y1 : List Nat) (y2 : Int) (y9 : Nat) (y10 : Nat) (y11 : Nat) (y3 : Int) (y4 : Nat) (y5 : Nat) (y6 : Nat) (y7 : List Nat) (y8 : List Nat) (y12 : List Nat) : Tr ((Int × Nat × Nat × Nat × List Nat × List Nat × List Nat) ⊕ ((Nat × Nat × Nat) ⊕ (Nat × Nat × Nat × List Nat × List Nat × Nat × Nat × Nat × List Nat))) :=
  .br (decide ((y3 : Int) < y2)) (.br (decide (0 ≤ (y3 : Int)) && decide ((y3 : Int) < ((List.length y1 : Nat) : Int))) (.br (osome (iStepCanal y4 y5 y6 y7 y8 (List.getD y1 (Int.toNat y3) 0) y0)) (.br (isL (oget (iStepCanal y4 y5 y6 y7 y8 (List.getD y1 (Int.toNat y3) 0) y0))) (.ok (.inr (.inl (0, 0, 0)))) (.br (decide (0 ≤ (IntKind.wrap .i64 ((((List.length (((((unR (oget (iStepCanal y4 y5 y6 y7 y8 (List.getD y1 (Int.toNat y3) 0) y0))).2).2).2).1) : Nat) : Int)) - 1) : Int)) && decide ((IntKind.wrap .i64 ((((List.length (((((unR (oget (iStepCanal y4 y5 y6 y7 y8 (List.getD y1 (Int.toNat y3) 0) y0))).2).2).2).1) : Nat) : Int)) - 1) : Int) < ((List.length (((((unR (oget (iStepCanal y4 y5 y6 y7 y8 (List.getD y1 (Int.toNat y3) 0) y0))).2).2).2).1) : Nat) : Int))) (.br (decide ((List.length y12 + List.length [List.getD (((((unR (oget (iStepCanal y4 y5 y6 y7 y8 (List.getD y1 (Int.toNat y3) 0) y0))).2).2).2).1) (Int.toNat (IntKind.wrap .i64 ((((List.length (((((unR (oget (iStepCanal y4 y5 y6 y7 y8 (List.getD y1 (Int.toNat y3) 0) y0))).2).2).2).1) : Nat) : Int)) - 1))) 0]) * 4 ≤ 140737488355328)) (.ok (.inl (IntKind.wrap .i64 (y3 + 1), (unR (oget (iStepCanal y4 y5 y6 y7 y8 (List.getD y1 (Int.toNat y3) 0) y0))).1, ((unR (oget (iStepCanal y4 y5 y6 y7 y8 (List.getD y1 (Int.toNat y3) 0) y0))).2).1, (((unR (oget (iStepCanal y4 y5 y6 y7 y8 (List.getD y1 (Int.toNat y3) 0) y0))).2).2).1, ((((unR (oget (iStepCanal y4 y5 y6 y7 y8 (List.getD y1 (Int.toNat y3) 0) y0))).2).2).2).1, ((((unR (oget (iStepCanal y4 y5 y6 y7 y8 (List.getD y1 (Int.toNat y3) 0) y0))).2).2).2).2, y12 ++ [List.getD (((((unR (oget (iStepCanal y4 y5 y6 y7 y8 (List.getD y1 (Int.toNat y3) 0) y0))).2).2).2).1) (Int.toNat (IntKind.wrap .i64 ((((List.length (((((unR (oget (iStepCanal y4 y5 y6 y7 y8 (List.getD y1 (Int.toNat y3) 0) y0))).2).2).2).1) : Nat) : Int)) - 1))) 0]))) .bad) .bad)) .bad) .bad) (.ok (.inr (.inr (y4, y5, y6, y7, y8, y9, y10, y11, y12))))

noncomputable def iRunCanal_l6 (y0 : Nat) (y1 : List Nat) (y2 : Int) (y3 : Int) (y4 : Nat) (y5 : Nat) (y6 : Nat) (y7 : List Nat) (y8 : List Nat) (y9 : Nat) (y10 : Nat) (y11 : Nat) (y12 : List Nat) : Option ((Nat × Nat × Nat) ⊕ (Nat × Nat × Nat × List Nat × List Nat × Nat × Nat × Nat × List Nat)) := runL (fun s : Int × Nat × Nat × Nat × List Nat × List Nat × List Nat => (iRunCanal_l6_t y0 y1 y2 y9 y10 y11 s.1 s.2.1 s.2.2.1 s.2.2.2.1 s.2.2.2.2.1 s.2.2.2.2.2.1 s.2.2.2.2.2.2).sem) (y3, y4, y5, y6, y7, y8, y12)

noncomputable def iRunCanal_t (x0 : Nat) (x1 : Nat) (x2 : Nat) (x3 : List Nat) (x4 : List Nat) (x5 : List Nat) (x6 : Nat) : Tr ((Nat × Nat × Nat) ⊕ (Nat × Nat × Nat × List Nat × List Nat × List Nat)) :=
  .br (osome (iValidCanal x0 x1 x2 x3 x4)) (.br (!(oget (iValidCanal x0 x1 x2 x3 x4))) (.ok (.inl (0, 0, 0))) (.br (decide ((((List.length x5 : Nat) : Int) : Int) > 128)) (.ok (.inl (0, 0, 0))) (.br (osome (iareFinite x5)) (.br (!(oget (iareFinite x5))) (.ok (.inl (0, 0, 0))) (.br (! (isLen x6)) (.ok (.inl (0, 0, 0))) (.br (osome (iCanal_cloned x0 x1 x2 x3 x4)) (.br (osome (iRunCanal_l6 x6 x5 (((List.length x5 : Nat) : Int)) 0 (oget (iCanal_cloned x0 x1 x2 x3 x4)).1 (oget (iCanal_cloned x0 x1 x2 x3 x4)).2.1 (oget (iCanal_cloned x0 x1 x2 x3 x4)).2.2.1 (oget (iCanal_cloned x0 x1 x2 x3 x4)).2.2.2.1 (oget (iCanal_cloned x0 x1 x2 x3 x4)).2.2.2.2 0 0 0 [])) (.br (isL (oget (iRunCanal_l6 x6 x5 (((List.length x5 : Nat) : Int)) 0 (oget (iCanal_cloned x0 x1 x2 x3 x4)).1 (oget (iCanal_cloned x0 x1 x2 x3 x4)).2.1 (oget (iCanal_cloned x0 x1 x2 x3 x4)).2.2.1 (oget (iCanal_cloned x0 x1 x2 x3 x4)).2.2.2.1 (oget (iCanal_cloned x0 x1 x2 x3 x4)).2.2.2.2 0 0 0 []))) (.ok (.inl ((unL (oget (iRunCanal_l6 x6 x5 (((List.length x5 : Nat) : Int)) 0 (oget (iCanal_cloned x0 x1 x2 x3 x4)).1 (oget (iCanal_cloned x0 x1 x2 x3 x4)).2.1 (oget (iCanal_cloned x0 x1 x2 x3 x4)).2.2.1 (oget (iCanal_cloned x0 x1 x2 x3 x4)).2.2.2.1 (oget (iCanal_cloned x0 x1 x2 x3 x4)).2.2.2.2 0 0 0 []))).1, ((unL (oget (iRunCanal_l6 x6 x5 (((List.length x5 : Nat) : Int)) 0 (oget (iCanal_cloned x0 x1 x2 x3 x4)).1 (oget (iCanal_cloned x0 x1 x2 x3 x4)).2.1 (oget (iCanal_cloned x0 x1 x2 x3 x4)).2.2.1 (oget (iCanal_cloned x0 x1 x2 x3 x4)).2.2.2.1 (oget (iCanal_cloned x0 x1 x2 x3 x4)).2.2.2.2 0 0 0 []))).2).1, ((unL (oget (iRunCanal_l6 x6 x5 (((List.length x5 : Nat) : Int)) 0 (oget (iCanal_cloned x0 x1 x2 x3 x4)).1 (oget (iCanal_cloned x0 x1 x2 x3 x4)).2.1 (oget (iCanal_cloned x0 x1 x2 x3 x4)).2.2.1 (oget (iCanal_cloned x0 x1 x2 x3 x4)).2.2.2.1 (oget (iCanal_cloned x0 x1 x2 x3 x4)).2.2.2.2 0 0 0 []))).2).2))) (.ok (.inr ((unR (oget (iRunCanal_l6 x6 x5 (((List.length x5 : Nat) : Int)) 0 (oget (iCanal_cloned x0 x1 x2 x3 x4)).1 (oget (iCanal_cloned x0 x1 x2 x3 x4)).2.1 (oget (iCanal_cloned x0 x1 x2 x3 x4)).2.2.1 (oget (iCanal_cloned x0 x1 x2 x3 x4)).2.2.2.1 (oget (iCanal_cloned x0 x1 x2 x3 x4)).2.2.2.2 0 0 0 []))).1, ((unR (oget (iRunCanal_l6 x6 x5 (((List.length x5 : Nat) : Int)) 0 (oget (iCanal_cloned x0 x1 x2 x3 x4)).1 (oget (iCanal_cloned x0 x1 x2 x3 x4)).2.1 (oget (iCanal_cloned x0 x1 x2 x3 x4)).2.2.1 (oget (iCanal_cloned x0 x1 x2 x3 x4)).2.2.2.1 (oget (iCanal_cloned x0 x1 x2 x3 x4)).2.2.2.2 0 0 0 []))).2).1, (((unR (oget (iRunCanal_l6 x6 x5 (((List.length x5 : Nat) : Int)) 0 (oget (iCanal_cloned x0 x1 x2 x3 x4)).1 (oget (iCanal_cloned x0 x1 x2 x3 x4)).2.1 (oget (iCanal_cloned x0 x1 x2 x3 x4)).2.2.1 (oget (iCanal_cloned x0 x1 x2 x3 x4)).2.2.2.1 (oget (iCanal_cloned x0 x1 x2 x3 x4)).2.2.2.2 0 0 0 []))).2).2).1, ((((unR (oget (iRunCanal_l6 x6 x5 (((List.length x5 : Nat) : Int)) 0 (oget (iCanal_cloned x0 x1 x2 x3 x4)).1 (oget (iCanal_cloned x0 x1 x2 x3 x4)).2.1 (oget (iCanal_cloned x0 x1 x2 x3 x4)).2.2.1 (oget (iCanal_cloned x0 x1 x2 x3 x4)).2.2.2.1 (oget (iCanal_cloned x0 x1 x2 x3 x4)).2.2.2.2 0 0 0 []))).2).2).2).1, (((((unR (oget (iRunCanal_l6 x6 x5 (((List.length x5 : Nat) : Int)) 0 (oget (iCanal_cloned x0 x1 x2 x3 x4)).1 (oget (iCanal_cloned x0 x1 x2 x3 x4)).2.1 (oget (iCanal_cloned x0 x1 x2 x3 x4)).2.2.1 (oget (iCanal_cloned x0 x1 x2 x3 x4)).2.2.2.1 (oget (iCanal_cloned x0 x1 x2 x3 x4)).2.2.2.2 0 0 0 []))).2).2).2).2).1, ((((((((unR (oget (iRunCanal_l6 x6 x5 (((List.length x5 : Nat) : Int)) 0 (oget (iCanal_cloned x0 x1 x2 x3 x4)).1 (oget (iCanal_cloned x0 x1 x2 x3 x4)).2.1 (oget (iCanal_cloned x0 x1 x2 x3 x4)).2.2.1 (oget (iCanal_cloned x0 x1 x2 x3 x4)).2.2.2.1 (oget (iCanal_cloned x0 x1 x2 x3 x4)).2.2.2.2 0 0 0 []))).2).2).2).2).2).2).2).2)))) .bad) .bad))) .bad))) .bad

noncomputable def iRunCanal (x0 : Nat) (x1 : Nat) (x2 : Nat) (x3 : List Nat) (x4 : List Nat) (x5 : List Nat) (x6 : Nat) : Option ((Nat × Nat × Nat) ⊕ (Nat × Nat × Nat × List Nat × List Nat × List Nat)) := (iRunCanal_t x0 x1 x2 x3 x4 x5 x6).sem

noncomputable def wFnExactRunCanal_o1 (v18 : Int) (v27 : Int) : Tr (Bool) :=
  .br (decide ((v27 : Int) < 0)) (.ok false) (.br ((v27 : Int) != v18) (.ok false) (.ok true))

noncomputable def wFnExactRunCanal_o2 (v18 : Int) (v26 : Int) : Tr (Bool) :=
  .br (decide ((v26 : Int) < 0)) (.ok false) (.br (osome (wheldFloat32S [] v26)) (wFnExactRunCanal_o1 v18 (oget (wheldFloat32S [] v26))) .bad)

noncomputable def wFnExactRunCanal_o3 (v6 : (Nat × (Nat × Nat)) ⊕ (Nat × (Nat × (Nat × ((List Nat) × ((List Nat) × (List Nat))))))) (v18 : Int) (v25 : Bool) : Tr (Bool) :=
  .br (!v25) (.ok false) (.br (! (false == false)) (.ok false) (.br (osome (wheldCanal ((unL v6).1) (((unL v6).2).1) (((unL v6).2).2) [] [] 1)) (wFnExactRunCanal_o2 v18 (oget (wheldCanal ((unL v6).1) (((unL v6).2).1) (((unL v6).2).2) [] [] 1))) .bad))

noncomputable def wFnExactRunCanal_o4 (v6 : (Nat × (Nat × Nat)) ⊕ (Nat × (Nat × (Nat × ((List Nat) × ((List Nat) × (List Nat))))))) (v18 : Int) (v24 : Bool) : Tr (Bool) :=
  .br (!v24) (.ok false) (.br (osome (weqFloat32S [] [])) (wFnExactRunCanal_o3 v6 v18 (oget (weqFloat32S [] []))) .bad)

noncomputable def wFnExactRunCanal_o5 (v18 : Int) (v31 : Int) : Tr (Bool) :=
  .br (decide ((v31 : Int) < 0)) (.ok false) (.br ((v31 : Int) != v18) (.ok false) (.ok true))

noncomputable def wFnExactRunCanal_o6 (v18 : Int) (v30 : Int) : Tr (Bool) :=
  .br (decide ((v30 : Int) < 0)) (.ok false) (.br (osome (wheldFloat32S [] v30)) (wFnExactRunCanal_o5 v18 (oget (wheldFloat32S [] v30))) .bad)

noncomputable def wFnExactRunCanal_o7 (v6 : (Nat × (Nat × Nat)) ⊕ (Nat × (Nat × (Nat × ((List Nat) × ((List Nat) × (List Nat))))))) (v18 : Int) (v29 : Bool) : Tr (Bool) :=
  .br (!v29) (.ok false) (.br (! (true == false)) (.ok false) (.br (osome (wheldCanal ((unL v6).1) (((unL v6).2).1) (((unL v6).2).2) [] [] 1)) (wFnExactRunCanal_o6 v18 (oget (wheldCanal ((unL v6).1) (((unL v6).2).1) (((unL v6).2).2) [] [] 1))) .bad))

noncomputable def wFnExactRunCanal_o8 (v6 : (Nat × (Nat × Nat)) ⊕ (Nat × (Nat × (Nat × ((List Nat) × ((List Nat) × (List Nat))))))) (v18 : Int) (v23 : (Nat × (Nat × Nat)) ⊕ (Nat × (Nat × (Nat × ((List Nat) × ((List Nat) × (List Nat))))))) (v28 : Bool) : Tr (Bool) :=
  .br (!v28) (.ok false) (.br (osome (weqFloat32S ((((((unR v23).2).2).2).2).2) [])) (wFnExactRunCanal_o7 v6 v18 (oget (weqFloat32S ((((((unR v23).2).2).2).2).2) []))) .bad)

noncomputable def wFnExactRunCanal_o9 (v3 : (Nat × (Nat × Nat)) ⊕ (Nat × (Nat × (Nat × ((List Nat) × ((List Nat) × (List Nat))))))) (v6 : (Nat × (Nat × Nat)) ⊕ (Nat × (Nat × (Nat × ((List Nat) × ((List Nat) × (List Nat))))))) (v18 : Int) (v23 : (Nat × (Nat × Nat)) ⊕ (Nat × (Nat × (Nat × ((List Nat) × ((List Nat) × (List Nat))))))) : Tr (Bool) :=
  .br (isL v23) (.br (osome (weqCanal ((unL v23).1) (((unL v23).2).1) (((unL v23).2).2) [] [] ((unL v3).1) (((unL v3).2).1) (((unL v3).2).2) [] [])) (wFnExactRunCanal_o4 v6 v18 (oget (weqCanal ((unL v23).1) (((unL v23).2).1) (((unL v23).2).2) [] [] ((unL v3).1) (((unL v3).2).1) (((unL v3).2).2) [] []))) .bad) (.br (osome (weqCanal ((unR v23).1) (((unR v23).2).1) ((((unR v23).2).2).1) (((((unR v23).2).2).2).1) ((((((unR v23).2).2).2).2).1) ((unL v3).1) (((unL v3).2).1) (((unL v3).2).2) [] [])) (wFnExactRunCanal_o8 v6 v18 v23 (oget (weqCanal ((unR v23).1) (((unR v23).2).1) ((((unR v23).2).2).1) (((((unR v23).2).2).2).1) ((((((unR v23).2).2).2).2).1) ((unL v3).1) (((unL v3).2).1) (((unL v3).2).2) [] []))) .bad)

noncomputable def wFnExactRunCanal_o10 (x6 : Nat) (v3 : (Nat × (Nat × Nat)) ⊕ (Nat × (Nat × (Nat × ((List Nat) × ((List Nat) × (List Nat))))))) (v6 : (Nat × (Nat × Nat)) ⊕ (Nat × (Nat × (Nat × ((List Nat) × ((List Nat) × (List Nat))))))) (v18 : Int) (v21 : Nat × (Nat × (Nat × ((List Nat) × (List Nat))))) (v22 : List Nat) : Tr (Bool) :=
  .br (osome (iRunCanal v21.1 v21.2.1 v21.2.2.1 v21.2.2.2.1 v21.2.2.2.2 v22 x6)) (wFnExactRunCanal_o9 v3 v6 v18 (oget (iRunCanal v21.1 v21.2.1 v21.2.2.1 v21.2.2.2.1 v21.2.2.2.2 v22 x6))) .bad

noncomputable def wFnExactRunCanal_o11 (x5 : List Nat) (x6 : Nat) (v3 : (Nat × (Nat × Nat)) ⊕ (Nat × (Nat × (Nat × ((List Nat) × ((List Nat) × (List Nat))))))) (v6 : (Nat × (Nat × Nat)) ⊕ (Nat × (Nat × (Nat × ((List Nat) × ((List Nat) × (List Nat))))))) (v18 : Int) (v21 : Nat × (Nat × (Nat × ((List Nat) × (List Nat))))) : Tr (Bool) :=
  .br (osome (wtoFloat32S x5)) (wFnExactRunCanal_o10 x6 v3 v6 v18 v21 (oget (wtoFloat32S x5))) .bad

noncomputable def wFnExactRunCanal_o12 (x0 : Nat) (x1 : Nat) (x2 : Nat) (x3 : List Nat) (x4 : List Nat) (x5 : List Nat) (x6 : Nat) (v3 : (Nat × (Nat × Nat)) ⊕ (Nat × (Nat × (Nat × ((List Nat) × ((List Nat) × (List Nat))))))) (v6 : (Nat × (Nat × Nat)) ⊕ (Nat × (Nat × (Nat × ((List Nat) × ((List Nat) × (List Nat))))))) (v18 : Int) (v20 : Int) : Tr (Bool) :=
  .br (decide ((v20 : Int) < 0)) (.ok false) (.br ((v20 : Int) != v18) (.ok false) (.br (osome (wtoCanal x0 x1 x2 x3 x4)) (wFnExactRunCanal_o11 x5 x6 v3 v6 v18 (oget (wtoCanal x0 x1 x2 x3 x4))) .bad))

noncomputable def wFnExactRunCanal_o13 (x0 : Nat) (x1 : Nat) (x2 : Nat) (x3 : List Nat) (x4 : List Nat) (x5 : List Nat) (x6 : Nat) (v3 : (Nat × (Nat × Nat)) ⊕ (Nat × (Nat × (Nat × ((List Nat) × ((List Nat) × (List Nat))))))) (v6 : (Nat × (Nat × Nat)) ⊕ (Nat × (Nat × (Nat × ((List Nat) × ((List Nat) × (List Nat))))))) (v18 : Int) (v19 : Int) : Tr (Bool) :=
  .br (decide ((v19 : Int) < 0)) (.ok false) (.br (osome (wheldFloat32S [] v19)) (wFnExactRunCanal_o12 x0 x1 x2 x3 x4 x5 x6 v3 v6 v18 (oget (wheldFloat32S [] v19))) .bad)

noncomputable def wFnExactRunCanal_o14 (x0 : Nat) (x1 : Nat) (x2 : Nat) (x3 : List Nat) (x4 : List Nat) (x5 : List Nat) (x6 : Nat) (v3 : (Nat × (Nat × Nat)) ⊕ (Nat × (Nat × (Nat × ((List Nat) × ((List Nat) × (List Nat))))))) (v6 : (Nat × (Nat × Nat)) ⊕ (Nat × (Nat × (Nat × ((List Nat) × ((List Nat) × (List Nat))))))) (v18 : Int) : Tr (Bool) :=
  .br (osome (wheldCanal ((unL v6).1) (((unL v6).2).1) (((unL v6).2).2) [] [] 1)) (wFnExactRunCanal_o13 x0 x1 x2 x3 x4 x5 x6 v3 v6 v18 (oget (wheldCanal ((unL v6).1) (((unL v6).2).1) (((unL v6).2).2) [] [] 1))) .bad

noncomputable def wFnExactRunCanal_o15 (x0 : Nat) (x1 : Nat) (x2 : Nat) (x3 : List Nat) (x4 : List Nat) (x5 : List Nat) (x6 : Nat) (v3 : (Nat × (Nat × Nat)) ⊕ (Nat × (Nat × (Nat × ((List Nat) × ((List Nat) × (List Nat))))))) (v6 : (Nat × (Nat × Nat)) ⊕ (Nat × (Nat × (Nat × ((List Nat) × ((List Nat) × (List Nat))))))) (v17 : Int) : Tr (Bool) :=
  .br (osome (wmarkFloat32S_nil v17)) (wFnExactRunCanal_o14 x0 x1 x2 x3 x4 x5 x6 v3 v6 (oget (wmarkFloat32S_nil v17))) .bad

noncomputable def wFnExactRunCanal_o16 (x0 : Nat) (x1 : Nat) (x2 : Nat) (x3 : List Nat) (x4 : List Nat) (x5 : List Nat) (x6 : Nat) (v3 : (Nat × (Nat × Nat)) ⊕ (Nat × (Nat × (Nat × ((List Nat) × ((List Nat) × (List Nat))))))) (v6 : (Nat × (Nat × Nat)) ⊕ (Nat × (Nat × (Nat × ((List Nat) × ((List Nat) × (List Nat))))))) (v16 : Bool) : Tr (Bool) :=
  .br (!v16) (.ok false) (.br (! (false == false)) (.ok false) (.br (osome (wmarkCanal_n1 ((unL v6).1) (((unL v6).2).1) (((unL v6).2).2) 1)) (wFnExactRunCanal_o15 x0 x1 x2 x3 x4 x5 x6 v3 v6 (oget (wmarkCanal_n1 ((unL v6).1) (((unL v6).2).1) (((unL v6).2).2) 1))) .bad))

noncomputable def wFnExactRunCanal_o17 (x0 : Nat) (x1 : Nat) (x2 : Nat) (x3 : List Nat) (x4 : List Nat) (x5 : List Nat) (x6 : Nat) (v3 : (Nat × (Nat × Nat)) ⊕ (Nat × (Nat × (Nat × ((List Nat) × ((List Nat) × (List Nat))))))) (v6 : (Nat × (Nat × Nat)) ⊕ (Nat × (Nat × (Nat × ((List Nat) × ((List Nat) × (List Nat))))))) (v15 : Bool) : Tr (Bool) :=
  .br (!v15) (.ok false) (.br (osome (weqFloat32S [] [])) (wFnExactRunCanal_o16 x0 x1 x2 x3 x4 x5 x6 v3 v6 (oget (weqFloat32S [] []))) .bad)

noncomputable def wFnExactRunCanal_o18 (x0 : Nat) (x1 : Nat) (x2 : Nat) (x3 : List Nat) (x4 : List Nat) (x5 : List Nat) (x6 : Nat) (v3 : (Nat × (Nat × Nat)) ⊕ (Nat × (Nat × (Nat × ((List Nat) × ((List Nat) × (List Nat))))))) (v6 : (Nat × (Nat × Nat)) ⊕ (Nat × (Nat × (Nat × ((List Nat) × ((List Nat) × (List Nat))))))) (v14 : Int × (List Nat)) : Tr (Bool) :=
  .br (decide ((v14.1 : Int) < 0)) (.ok false) (.br (osome (weqCanal ((unL v6).1) (((unL v6).2).1) (((unL v6).2).2) [] [] ((unL v3).1) (((unL v3).2).1) (((unL v3).2).2) [] [])) (wFnExactRunCanal_o17 x0 x1 x2 x3 x4 x5 x6 v3 v6 (oget (weqCanal ((unL v6).1) (((unL v6).2).1) (((unL v6).2).2) [] [] ((unL v3).1) (((unL v3).2).1) (((unL v3).2).2) [] []))) .bad)

noncomputable def wFnExactRunCanal_o19 (x0 : Nat) (x1 : Nat) (x2 : Nat) (x3 : List Nat) (x4 : List Nat) (x5 : List Nat) (x6 : Nat) (v3 : (Nat × (Nat × Nat)) ⊕ (Nat × (Nat × (Nat × ((List Nat) × ((List Nat) × (List Nat))))))) (v5 : List Nat) (v6 : (Nat × (Nat × Nat)) ⊕ (Nat × (Nat × (Nat × ((List Nat) × ((List Nat) × (List Nat))))))) (v13 : Int × ((List Nat) × (List Nat))) : Tr (Bool) :=
  .br (osome (wmarkFloat32S v13.1 v5)) (wFnExactRunCanal_o18 x0 x1 x2 x3 x4 x5 x6 v3 v6 (oget (wmarkFloat32S v13.1 v5))) .bad

noncomputable def wFnExactRunCanal_o20 (x0 : Nat) (x1 : Nat) (x2 : Nat) (x3 : List Nat) (x4 : List Nat) (x5 : List Nat) (x6 : Nat) (v3 : (Nat × (Nat × Nat)) ⊕ (Nat × (Nat × (Nat × ((List Nat) × ((List Nat) × (List Nat))))))) (v4 : Nat × (Nat × (Nat × ((List Nat) × (List Nat))))) (v5 : List Nat) (v6 : (Nat × (Nat × Nat)) ⊕ (Nat × (Nat × (Nat × ((List Nat) × ((List Nat) × (List Nat))))))) (v12 : Bool) : Tr (Bool) :=
  .br (!v12) (.ok false) (.br (osome (wmarkCanal v4.1 v4.2.1 v4.2.2.1 1 v4.2.2.2.1 v4.2.2.2.2)) (wFnExactRunCanal_o19 x0 x1 x2 x3 x4 x5 x6 v3 v5 v6 (oget (wmarkCanal v4.1 v4.2.1 v4.2.2.1 1 v4.2.2.2.1 v4.2.2.2.2))) .bad)

noncomputable def wFnExactRunCanal_o21 (x0 : Nat) (x1 : Nat) (x2 : Nat) (x3 : List Nat) (x4 : List Nat) (x5 : List Nat) (x6 : Nat) (v3 : (Nat × (Nat × Nat)) ⊕ (Nat × (Nat × (Nat × ((List Nat) × ((List Nat) × (List Nat))))))) (v4 : Nat × (Nat × (Nat × ((List Nat) × (List Nat))))) (v5 : List Nat) (v6 : (Nat × (Nat × Nat)) ⊕ (Nat × (Nat × (Nat × ((List Nat) × ((List Nat) × (List Nat))))))) (v11 : List Nat) : Tr (Bool) :=
  .br (osome (weqFloat32S v5 v11)) (wFnExactRunCanal_o20 x0 x1 x2 x3 x4 x5 x6 v3 v4 v5 v6 (oget (weqFloat32S v5 v11))) .bad

noncomputable def wFnExactRunCanal_o22 (x0 : Nat) (x1 : Nat) (x2 : Nat) (x3 : List Nat) (x4 : List Nat) (x5 : List Nat) (x6 : Nat) (v3 : (Nat × (Nat × Nat)) ⊕ (Nat × (Nat × (Nat × ((List Nat) × ((List Nat) × (List Nat))))))) (v4 : Nat × (Nat × (Nat × ((List Nat) × (List Nat))))) (v5 : List Nat) (v6 : (Nat × (Nat × Nat)) ⊕ (Nat × (Nat × (Nat × ((List Nat) × ((List Nat) × (List Nat))))))) (v10 : Bool) : Tr (Bool) :=
  .br (!v10) (.ok false) (.br (osome (wtoFloat32S x5)) (wFnExactRunCanal_o21 x0 x1 x2 x3 x4 x5 x6 v3 v4 v5 v6 (oget (wtoFloat32S x5))) .bad)

noncomputable def wFnExactRunCanal_o23 (x0 : Nat) (x1 : Nat) (x2 : Nat) (x3 : List Nat) (x4 : List Nat) (x5 : List Nat) (x6 : Nat) (v3 : (Nat × (Nat × Nat)) ⊕ (Nat × (Nat × (Nat × ((List Nat) × ((List Nat) × (List Nat))))))) (v4 : Nat × (Nat × (Nat × ((List Nat) × (List Nat))))) (v5 : List Nat) (v6 : (Nat × (Nat × Nat)) ⊕ (Nat × (Nat × (Nat × ((List Nat) × ((List Nat) × (List Nat))))))) (v9 : Nat × (Nat × (Nat × ((List Nat) × (List Nat))))) : Tr (Bool) :=
  .br (osome (weqCanal v4.1 v4.2.1 v4.2.2.1 v4.2.2.2.1 v4.2.2.2.2 v9.1 v9.2.1 v9.2.2.1 v9.2.2.2.1 v9.2.2.2.2)) (wFnExactRunCanal_o22 x0 x1 x2 x3 x4 x5 x6 v3 v4 v5 v6 (oget (weqCanal v4.1 v4.2.1 v4.2.2.1 v4.2.2.2.1 v4.2.2.2.2 v9.1 v9.2.1 v9.2.2.1 v9.2.2.2.1 v9.2.2.2.2))) .bad

noncomputable def wFnExactRunCanal_o24 (x0 : Nat) (x1 : Nat) (x2 : Nat) (x3 : List Nat) (x4 : List Nat) (x5 : List Nat) (x6 : Nat) (v3 : (Nat × (Nat × Nat)) ⊕ (Nat × (Nat × (Nat × ((List Nat) × ((List Nat) × (List Nat))))))) (v4 : Nat × (Nat × (Nat × ((List Nat) × (List Nat))))) (v5 : List Nat) (v6 : (Nat × (Nat × Nat)) ⊕ (Nat × (Nat × (Nat × ((List Nat) × ((List Nat) × (List Nat))))))) (v8 : Bool) : Tr (Bool) :=
  .br (!v8) (.ok false) (.br (! (false == false)) (.ok false) (.br (osome (wtoCanal x0 x1 x2 x3 x4)) (wFnExactRunCanal_o23 x0 x1 x2 x3 x4 x5 x6 v3 v4 v5 v6 (oget (wtoCanal x0 x1 x2 x3 x4))) .bad))

noncomputable def wFnExactRunCanal_o25 (x0 : Nat) (x1 : Nat) (x2 : Nat) (x3 : List Nat) (x4 : List Nat) (x5 : List Nat) (x6 : Nat) (v3 : (Nat × (Nat × Nat)) ⊕ (Nat × (Nat × (Nat × ((List Nat) × ((List Nat) × (List Nat))))))) (v4 : Nat × (Nat × (Nat × ((List Nat) × (List Nat))))) (v5 : List Nat) (v6 : (Nat × (Nat × Nat)) ⊕ (Nat × (Nat × (Nat × ((List Nat) × ((List Nat) × (List Nat))))))) (v7 : Bool) : Tr (Bool) :=
  .br (!v7) (.ok false) (.br (osome (weqFloat32S [] [])) (wFnExactRunCanal_o24 x0 x1 x2 x3 x4 x5 x6 v3 v4 v5 v6 (oget (weqFloat32S [] []))) .bad)

noncomputable def wFnExactRunCanal_o26 (v43 : Int × (List Nat)) (v52 : Int) : Tr (Bool) :=
  .br (decide ((v52 : Int) < 0)) (.ok false) (.br ((v52 : Int) != v43.1) (.ok false) (.ok true))

noncomputable def wFnExactRunCanal_o27 (v43 : Int × (List Nat)) (v51 : Int) : Tr (Bool) :=
  .br (decide ((v51 : Int) < 0)) (.ok false) (.br (osome (wheldFloat32S v43.2 v51)) (wFnExactRunCanal_o26 v43 (oget (wheldFloat32S v43.2 v51))) .bad)

noncomputable def wFnExactRunCanal_o28 (v6 : (Nat × (Nat × Nat)) ⊕ (Nat × (Nat × (Nat × ((List Nat) × ((List Nat) × (List Nat))))))) (v42 : Int × ((List Nat) × (List Nat))) (v43 : Int × (List Nat)) (v50 : Bool) : Tr (Bool) :=
  .br (!v50) (.ok false) (.br (! (false == false)) (.ok false) (.br (osome (wheldCanal ((unR v6).1) (((unR v6).2).1) ((((unR v6).2).2).1) v42.2.1 v42.2.2 1)) (wFnExactRunCanal_o27 v43 (oget (wheldCanal ((unR v6).1) (((unR v6).2).1) ((((unR v6).2).2).1) v42.2.1 v42.2.2 1))) .bad))

noncomputable def wFnExactRunCanal_o29 (v6 : (Nat × (Nat × Nat)) ⊕ (Nat × (Nat × (Nat × ((List Nat) × ((List Nat) × (List Nat))))))) (v42 : Int × ((List Nat) × (List Nat))) (v43 : Int × (List Nat)) (v49 : Bool) : Tr (Bool) :=
  .br (!v49) (.ok false) (.br (osome (weqFloat32S [] [])) (wFnExactRunCanal_o28 v6 v42 v43 (oget (weqFloat32S [] []))) .bad)

noncomputable def wFnExactRunCanal_o30 (v43 : Int × (List Nat)) (v56 : Int) : Tr (Bool) :=
  .br (decide ((v56 : Int) < 0)) (.ok false) (.br ((v56 : Int) != v43.1) (.ok false) (.ok true))

noncomputable def wFnExactRunCanal_o31 (v43 : Int × (List Nat)) (v55 : Int) : Tr (Bool) :=
  .br (decide ((v55 : Int) < 0)) (.ok false) (.br (osome (wheldFloat32S v43.2 v55)) (wFnExactRunCanal_o30 v43 (oget (wheldFloat32S v43.2 v55))) .bad)

noncomputable def wFnExactRunCanal_o32 (v6 : (Nat × (Nat × Nat)) ⊕ (Nat × (Nat × (Nat × ((List Nat) × ((List Nat) × (List Nat))))))) (v42 : Int × ((List Nat) × (List Nat))) (v43 : Int × (List Nat)) (v54 : Bool) : Tr (Bool) :=
  .br (!v54) (.ok false) (.br (! (true == false)) (.ok false) (.br (osome (wheldCanal ((unR v6).1) (((unR v6).2).1) ((((unR v6).2).2).1) v42.2.1 v42.2.2 1)) (wFnExactRunCanal_o31 v43 (oget (wheldCanal ((unR v6).1) (((unR v6).2).1) ((((unR v6).2).2).1) v42.2.1 v42.2.2 1))) .bad))

noncomputable def wFnExactRunCanal_o33 (v6 : (Nat × (Nat × Nat)) ⊕ (Nat × (Nat × (Nat × ((List Nat) × ((List Nat) × (List Nat))))))) (v42 : Int × ((List Nat) × (List Nat))) (v43 : Int × (List Nat)) (v48 : (Nat × (Nat × Nat)) ⊕ (Nat × (Nat × (Nat × ((List Nat) × ((List Nat) × (List Nat))))))) (v53 : Bool) : Tr (Bool) :=
  .br (!v53) (.ok false) (.br (osome (weqFloat32S ((((((unR v48).2).2).2).2).2) [])) (wFnExactRunCanal_o32 v6 v42 v43 (oget (weqFloat32S ((((((unR v48).2).2).2).2).2) []))) .bad)

noncomputable def wFnExactRunCanal_o34 (v3 : (Nat × (Nat × Nat)) ⊕ (Nat × (Nat × (Nat × ((List Nat) × ((List Nat) × (List Nat))))))) (v6 : (Nat × (Nat × Nat)) ⊕ (Nat × (Nat × (Nat × ((List Nat) × ((List Nat) × (List Nat))))))) (v42 : Int × ((List Nat) × (List Nat))) (v43 : Int × (List Nat)) (v48 : (Nat × (Nat × Nat)) ⊕ (Nat × (Nat × (Nat × ((List Nat) × ((List Nat) × (List Nat))))))) : Tr (Bool) :=
  .br (isL v48) (.br (osome (weqCanal ((unL v48).1) (((unL v48).2).1) (((unL v48).2).2) [] [] ((unL v3).1) (((unL v3).2).1) (((unL v3).2).2) [] [])) (wFnExactRunCanal_o29 v6 v42 v43 (oget (weqCanal ((unL v48).1) (((unL v48).2).1) (((unL v48).2).2) [] [] ((unL v3).1) (((unL v3).2).1) (((unL v3).2).2) [] []))) .bad) (.br (osome (weqCanal ((unR v48).1) (((unR v48).2).1) ((((unR v48).2).2).1) (((((unR v48).2).2).2).1) ((((((unR v48).2).2).2).2).1) ((unL v3).1) (((unL v3).2).1) (((unL v3).2).2) [] [])) (wFnExactRunCanal_o33 v6 v42 v43 v48 (oget (weqCanal ((unR v48).1) (((unR v48).2).1) ((((unR v48).2).2).1) (((((unR v48).2).2).2).1) ((((((unR v48).2).2).2).2).1) ((unL v3).1) (((unL v3).2).1) (((unL v3).2).2) [] []))) .bad)

noncomputable def wFnExactRunCanal_o35 (x6 : Nat) (v3 : (Nat × (Nat × Nat)) ⊕ (Nat × (Nat × (Nat × ((List Nat) × ((List Nat) × (List Nat))))))) (v6 : (Nat × (Nat × Nat)) ⊕ (Nat × (Nat × (Nat × ((List Nat) × ((List Nat) × (List Nat))))))) (v42 : Int × ((List Nat) × (List Nat))) (v43 : Int × (List Nat)) (v46 : Nat × (Nat × (Nat × ((List Nat) × (List Nat))))) (v47 : List Nat) : Tr (Bool) :=
  .br (osome (iRunCanal v46.1 v46.2.1 v46.2.2.1 v46.2.2.2.1 v46.2.2.2.2 v47 x6)) (wFnExactRunCanal_o34 v3 v6 v42 v43 (oget (iRunCanal v46.1 v46.2.1 v46.2.2.1 v46.2.2.2.1 v46.2.2.2.2 v47 x6))) .bad

noncomputable def wFnExactRunCanal_o36 (x5 : List Nat) (x6 : Nat) (v3 : (Nat × (Nat × Nat)) ⊕ (Nat × (Nat × (Nat × ((List Nat) × ((List Nat) × (List Nat))))))) (v6 : (Nat × (Nat × Nat)) ⊕ (Nat × (Nat × (Nat × ((List Nat) × ((List Nat) × (List Nat))))))) (v42 : Int × ((List Nat) × (List Nat))) (v43 : Int × (List Nat)) (v46 : Nat × (Nat × (Nat × ((List Nat) × (List Nat))))) : Tr (Bool) :=
  .br (osome (wtoFloat32S x5)) (wFnExactRunCanal_o35 x6 v3 v6 v42 v43 v46 (oget (wtoFloat32S x5))) .bad

noncomputable def wFnExactRunCanal_o37 (x0 : Nat) (x1 : Nat) (x2 : Nat) (x3 : List Nat) (x4 : List Nat) (x5 : List Nat) (x6 : Nat) (v3 : (Nat × (Nat × Nat)) ⊕ (Nat × (Nat × (Nat × ((List Nat) × ((List Nat) × (List Nat))))))) (v6 : (Nat × (Nat × Nat)) ⊕ (Nat × (Nat × (Nat × ((List Nat) × ((List Nat) × (List Nat))))))) (v42 : Int × ((List Nat) × (List Nat))) (v43 : Int × (List Nat)) (v45 : Int) : Tr (Bool) :=
  .br (decide ((v45 : Int) < 0)) (.ok false) (.br ((v45 : Int) != v43.1) (.ok false) (.br (osome (wtoCanal x0 x1 x2 x3 x4)) (wFnExactRunCanal_o36 x5 x6 v3 v6 v42 v43 (oget (wtoCanal x0 x1 x2 x3 x4))) .bad))

noncomputable def wFnExactRunCanal_o38 (x0 : Nat) (x1 : Nat) (x2 : Nat) (x3 : List Nat) (x4 : List Nat) (x5 : List Nat) (x6 : Nat) (v3 : (Nat × (Nat × Nat)) ⊕ (Nat × (Nat × (Nat × ((List Nat) × ((List Nat) × (List Nat))))))) (v6 : (Nat × (Nat × Nat)) ⊕ (Nat × (Nat × (Nat × ((List Nat) × ((List Nat) × (List Nat))))))) (v42 : Int × ((List Nat) × (List Nat))) (v43 : Int × (List Nat)) (v44 : Int) : Tr (Bool) :=
  .br (decide ((v44 : Int) < 0)) (.ok false) (.br (osome (wheldFloat32S v43.2 v44)) (wFnExactRunCanal_o37 x0 x1 x2 x3 x4 x5 x6 v3 v6 v42 v43 (oget (wheldFloat32S v43.2 v44))) .bad)

noncomputable def wFnExactRunCanal_o39 (x0 : Nat) (x1 : Nat) (x2 : Nat) (x3 : List Nat) (x4 : List Nat) (x5 : List Nat) (x6 : Nat) (v3 : (Nat × (Nat × Nat)) ⊕ (Nat × (Nat × (Nat × ((List Nat) × ((List Nat) × (List Nat))))))) (v6 : (Nat × (Nat × Nat)) ⊕ (Nat × (Nat × (Nat × ((List Nat) × ((List Nat) × (List Nat))))))) (v42 : Int × ((List Nat) × (List Nat))) (v43 : Int × (List Nat)) : Tr (Bool) :=
  .br (osome (wheldCanal ((unR v6).1) (((unR v6).2).1) ((((unR v6).2).2).1) v42.2.1 v42.2.2 1)) (wFnExactRunCanal_o38 x0 x1 x2 x3 x4 x5 x6 v3 v6 v42 v43 (oget (wheldCanal ((unR v6).1) (((unR v6).2).1) ((((unR v6).2).2).1) v42.2.1 v42.2.2 1))) .bad

noncomputable def wFnExactRunCanal_o40 (x0 : Nat) (x1 : Nat) (x2 : Nat) (x3 : List Nat) (x4 : List Nat) (x5 : List Nat) (x6 : Nat) (v3 : (Nat × (Nat × Nat)) ⊕ (Nat × (Nat × (Nat × ((List Nat) × ((List Nat) × (List Nat))))))) (v6 : (Nat × (Nat × Nat)) ⊕ (Nat × (Nat × (Nat × ((List Nat) × ((List Nat) × (List Nat))))))) (v42 : Int × ((List Nat) × (List Nat))) : Tr (Bool) :=
  .br (osome (wmarkFloat32S v42.1 ((((((unR v6).2).2).2).2).2))) (wFnExactRunCanal_o39 x0 x1 x2 x3 x4 x5 x6 v3 v6 v42 (oget (wmarkFloat32S v42.1 ((((((unR v6).2).2).2).2).2)))) .bad

noncomputable def wFnExactRunCanal_o41 (x0 : Nat) (x1 : Nat) (x2 : Nat) (x3 : List Nat) (x4 : List Nat) (x5 : List Nat) (x6 : Nat) (v3 : (Nat × (Nat × Nat)) ⊕ (Nat × (Nat × (Nat × ((List Nat) × ((List Nat) × (List Nat))))))) (v6 : (Nat × (Nat × Nat)) ⊕ (Nat × (Nat × (Nat × ((List Nat) × ((List Nat) × (List Nat))))))) (v41 : Bool) : Tr (Bool) :=
  .br (!v41) (.ok false) (.br (! (true == false)) (.ok false) (.br (osome (wmarkCanal ((unR v6).1) (((unR v6).2).1) ((((unR v6).2).2).1) 1 (((((unR v6).2).2).2).1) ((((((unR v6).2).2).2).2).1))) (wFnExactRunCanal_o40 x0 x1 x2 x3 x4 x5 x6 v3 v6 (oget (wmarkCanal ((unR v6).1) (((unR v6).2).1) ((((unR v6).2).2).1) 1 (((((unR v6).2).2).2).1) ((((((unR v6).2).2).2).2).1)))) .bad))

noncomputable def wFnExactRunCanal_o42 (x0 : Nat) (x1 : Nat) (x2 : Nat) (x3 : List Nat) (x4 : List Nat) (x5 : List Nat) (x6 : Nat) (v3 : (Nat × (Nat × Nat)) ⊕ (Nat × (Nat × (Nat × ((List Nat) × ((List Nat) × (List Nat))))))) (v6 : (Nat × (Nat × Nat)) ⊕ (Nat × (Nat × (Nat × ((List Nat) × ((List Nat) × (List Nat))))))) (v40 : Bool) : Tr (Bool) :=
  .br (!v40) (.ok false) (.br (osome (weqFloat32S ((((((unR v6).2).2).2).2).2) [])) (wFnExactRunCanal_o41 x0 x1 x2 x3 x4 x5 x6 v3 v6 (oget (weqFloat32S ((((((unR v6).2).2).2).2).2) []))) .bad)

noncomputable def wFnExactRunCanal_o43 (x0 : Nat) (x1 : Nat) (x2 : Nat) (x3 : List Nat) (x4 : List Nat) (x5 : List Nat) (x6 : Nat) (v3 : (Nat × (Nat × Nat)) ⊕ (Nat × (Nat × (Nat × ((List Nat) × ((List Nat) × (List Nat))))))) (v6 : (Nat × (Nat × Nat)) ⊕ (Nat × (Nat × (Nat × ((List Nat) × ((List Nat) × (List Nat))))))) (v39 : Int × (List Nat)) : Tr (Bool) :=
  .br (decide ((v39.1 : Int) < 0)) (.ok false) (.br (osome (weqCanal ((unR v6).1) (((unR v6).2).1) ((((unR v6).2).2).1) (((((unR v6).2).2).2).1) ((((((unR v6).2).2).2).2).1) ((unL v3).1) (((unL v3).2).1) (((unL v3).2).2) [] [])) (wFnExactRunCanal_o42 x0 x1 x2 x3 x4 x5 x6 v3 v6 (oget (weqCanal ((unR v6).1) (((unR v6).2).1) ((((unR v6).2).2).1) (((((unR v6).2).2).2).1) ((((((unR v6).2).2).2).2).1) ((unL v3).1) (((unL v3).2).1) (((unL v3).2).2) [] []))) .bad)

noncomputable def wFnExactRunCanal_o44 (x0 : Nat) (x1 : Nat) (x2 : Nat) (x3 : List Nat) (x4 : List Nat) (x5 : List Nat) (x6 : Nat) (v3 : (Nat × (Nat × Nat)) ⊕ (Nat × (Nat × (Nat × ((List Nat) × ((List Nat) × (List Nat))))))) (v5 : List Nat) (v6 : (Nat × (Nat × Nat)) ⊕ (Nat × (Nat × (Nat × ((List Nat) × ((List Nat) × (List Nat))))))) (v38 : Int × ((List Nat) × (List Nat))) : Tr (Bool) :=
  .br (osome (wmarkFloat32S v38.1 v5)) (wFnExactRunCanal_o43 x0 x1 x2 x3 x4 x5 x6 v3 v6 (oget (wmarkFloat32S v38.1 v5))) .bad

noncomputable def wFnExactRunCanal_o45 (x0 : Nat) (x1 : Nat) (x2 : Nat) (x3 : List Nat) (x4 : List Nat) (x5 : List Nat) (x6 : Nat) (v3 : (Nat × (Nat × Nat)) ⊕ (Nat × (Nat × (Nat × ((List Nat) × ((List Nat) × (List Nat))))))) (v4 : Nat × (Nat × (Nat × ((List Nat) × (List Nat))))) (v5 : List Nat) (v6 : (Nat × (Nat × Nat)) ⊕ (Nat × (Nat × (Nat × ((List Nat) × ((List Nat) × (List Nat))))))) (v37 : Bool) : Tr (Bool) :=
  .br (!v37) (.ok false) (.br (osome (wmarkCanal v4.1 v4.2.1 v4.2.2.1 1 v4.2.2.2.1 v4.2.2.2.2)) (wFnExactRunCanal_o44 x0 x1 x2 x3 x4 x5 x6 v3 v5 v6 (oget (wmarkCanal v4.1 v4.2.1 v4.2.2.1 1 v4.2.2.2.1 v4.2.2.2.2))) .bad)

noncomputable def wFnExactRunCanal_o46 (x0 : Nat) (x1 : Nat) (x2 : Nat) (x3 : List Nat) (x4 : List Nat) (x5 : List Nat) (x6 : Nat) (v3 : (Nat × (Nat × Nat)) ⊕ (Nat × (Nat × (Nat × ((List Nat) × ((List Nat) × (List Nat))))))) (v4 : Nat × (Nat × (Nat × ((List Nat) × (List Nat))))) (v5 : List Nat) (v6 : (Nat × (Nat × Nat)) ⊕ (Nat × (Nat × (Nat × ((List Nat) × ((List Nat) × (List Nat))))))) (v36 : List Nat) : Tr (Bool) :=
  .br (osome (weqFloat32S v5 v36)) (wFnExactRunCanal_o45 x0 x1 x2 x3 x4 x5 x6 v3 v4 v5 v6 (oget (weqFloat32S v5 v36))) .bad

noncomputable def wFnExactRunCanal_o47 (x0 : Nat) (x1 : Nat) (x2 : Nat) (x3 : List Nat) (x4 : List Nat) (x5 : List Nat) (x6 : Nat) (v3 : (Nat × (Nat × Nat)) ⊕ (Nat × (Nat × (Nat × ((List Nat) × ((List Nat) × (List Nat))))))) (v4 : Nat × (Nat × (Nat × ((List Nat) × (List Nat))))) (v5 : List Nat) (v6 : (Nat × (Nat × Nat)) ⊕ (Nat × (Nat × (Nat × ((List Nat) × ((List Nat) × (List Nat))))))) (v35 : Bool) : Tr (Bool) :=
  .br (!v35) (.ok false) (.br (osome (wtoFloat32S x5)) (wFnExactRunCanal_o46 x0 x1 x2 x3 x4 x5 x6 v3 v4 v5 v6 (oget (wtoFloat32S x5))) .bad)

noncomputable def wFnExactRunCanal_o48 (x0 : Nat) (x1 : Nat) (x2 : Nat) (x3 : List Nat) (x4 : List Nat) (x5 : List Nat) (x6 : Nat) (v3 : (Nat × (Nat × Nat)) ⊕ (Nat × (Nat × (Nat × ((List Nat) × ((List Nat) × (List Nat))))))) (v4 : Nat × (Nat × (Nat × ((List Nat) × (List Nat))))) (v5 : List Nat) (v6 : (Nat × (Nat × Nat)) ⊕ (Nat × (Nat × (Nat × ((List Nat) × ((List Nat) × (List Nat))))))) (v34 : Nat × (Nat × (Nat × ((List Nat) × (List Nat))))) : Tr (Bool) :=
  .br (osome (weqCanal v4.1 v4.2.1 v4.2.2.1 v4.2.2.2.1 v4.2.2.2.2 v34.1 v34.2.1 v34.2.2.1 v34.2.2.2.1 v34.2.2.2.2)) (wFnExactRunCanal_o47 x0 x1 x2 x3 x4 x5 x6 v3 v4 v5 v6 (oget (weqCanal v4.1 v4.2.1 v4.2.2.1 v4.2.2.2.1 v4.2.2.2.2 v34.1 v34.2.1 v34.2.2.1 v34.2.2.2.1 v34.2.2.2.2))) .bad

noncomputable def wFnExactRunCanal_o49 (x0 : Nat) (x1 : Nat) (x2 : Nat) (x3 : List Nat) (x4 : List Nat) (x5 : List Nat) (x6 : Nat) (v3 : (Nat × (Nat × Nat)) ⊕ (Nat × (Nat × (Nat × ((List Nat) × ((List Nat) × (List Nat))))))) (v4 : Nat × (Nat × (Nat × ((List Nat) × (List Nat))))) (v5 : List Nat) (v6 : (Nat × (Nat × Nat)) ⊕ (Nat × (Nat × (Nat × ((List Nat) × ((List Nat) × (List Nat))))))) (v33 : Bool) : Tr (Bool) :=
  .br (!v33) (.ok false) (.br (! (true == false)) (.ok false) (.br (osome (wtoCanal x0 x1 x2 x3 x4)) (wFnExactRunCanal_o48 x0 x1 x2 x3 x4 x5 x6 v3 v4 v5 v6 (oget (wtoCanal x0 x1 x2 x3 x4))) .bad))

noncomputable def wFnExactRunCanal_o50 (x0 : Nat) (x1 : Nat) (x2 : Nat) (x3 : List Nat) (x4 : List Nat) (x5 : List Nat) (x6 : Nat) (v3 : (Nat × (Nat × Nat)) ⊕ (Nat × (Nat × (Nat × ((List Nat) × ((List Nat) × (List Nat))))))) (v4 : Nat × (Nat × (Nat × ((List Nat) × (List Nat))))) (v5 : List Nat) (v6 : (Nat × (Nat × Nat)) ⊕ (Nat × (Nat × (Nat × ((List Nat) × ((List Nat) × (List Nat))))))) (v32 : Bool) : Tr (Bool) :=
  .br (!v32) (.ok false) (.br (osome (weqFloat32S ((((((unR v6).2).2).2).2).2) [])) (wFnExactRunCanal_o49 x0 x1 x2 x3 x4 x5 x6 v3 v4 v5 v6 (oget (weqFloat32S ((((((unR v6).2).2).2).2).2) []))) .bad)

noncomputable def wFnExactRunCanal_o51 (x0 : Nat) (x1 : Nat) (x2 : Nat) (x3 : List Nat) (x4 : List Nat) (x5 : List Nat) (x6 : Nat) (v3 : (Nat × (Nat × Nat)) ⊕ (Nat × (Nat × (Nat × ((List Nat) × ((List Nat) × (List Nat))))))) (v4 : Nat × (Nat × (Nat × ((List Nat) × (List Nat))))) (v5 : List Nat) (v6 : (Nat × (Nat × Nat)) ⊕ (Nat × (Nat × (Nat × ((List Nat) × ((List Nat) × (List Nat))))))) : Tr (Bool) :=
  .br (isL v6) (.br (osome (weqCanal ((unL v6).1) (((unL v6).2).1) (((unL v6).2).2) [] [] ((unL v3).1) (((unL v3).2).1) (((unL v3).2).2) [] [])) (wFnExactRunCanal_o25 x0 x1 x2 x3 x4 x5 x6 v3 v4 v5 v6 (oget (weqCanal ((unL v6).1) (((unL v6).2).1) (((unL v6).2).2) [] [] ((unL v3).1) (((unL v3).2).1) (((unL v3).2).2) [] []))) .bad) (.br (osome (weqCanal ((unR v6).1) (((unR v6).2).1) ((((unR v6).2).2).1) (((((unR v6).2).2).2).1) ((((((unR v6).2).2).2).2).1) ((unL v3).1) (((unL v3).2).1) (((unL v3).2).2) [] [])) (wFnExactRunCanal_o50 x0 x1 x2 x3 x4 x5 x6 v3 v4 v5 v6 (oget (weqCanal ((unR v6).1) (((unR v6).2).1) ((((unR v6).2).2).1) (((((unR v6).2).2).2).1) ((((((unR v6).2).2).2).2).1) ((unL v3).1) (((unL v3).2).1) (((unL v3).2).2) [] []))) .bad)

noncomputable def wFnExactRunCanal_o52 (x0 : Nat) (x1 : Nat) (x2 : Nat) (x3 : List Nat) (x4 : List Nat) (x5 : List Nat) (x6 : Nat) (v3 : (Nat × (Nat × Nat)) ⊕ (Nat × (Nat × (Nat × ((List Nat) × ((List Nat) × (List Nat))))))) (v4 : Nat × (Nat × (Nat × ((List Nat) × (List Nat))))) (v5 : List Nat) : Tr (Bool) :=
  .br (osome (iRunCanal v4.1 v4.2.1 v4.2.2.1 v4.2.2.2.1 v4.2.2.2.2 v5 x6)) (wFnExactRunCanal_o51 x0 x1 x2 x3 x4 x5 x6 v3 v4 v5 (oget (iRunCanal v4.1 v4.2.1 v4.2.2.1 v4.2.2.2.1 v4.2.2.2.2 v5 x6))) .bad

noncomputable def wFnExactRunCanal_o53 (x0 : Nat) (x1 : Nat) (x2 : Nat) (x3 : List Nat) (x4 : List Nat) (x5 : List Nat) (x6 : Nat) (v3 : (Nat × (Nat × Nat)) ⊕ (Nat × (Nat × (Nat × ((List Nat) × ((List Nat) × (List Nat))))))) (v4 : Nat × (Nat × (Nat × ((List Nat) × (List Nat))))) : Tr (Bool) :=
  .br (osome (wtoFloat32S x5)) (wFnExactRunCanal_o52 x0 x1 x2 x3 x4 x5 x6 v3 v4 (oget (wtoFloat32S x5))) .bad

noncomputable def wFnExactRunCanal_o54 (v71 : Int) (v80 : Int) : Tr (Bool) :=
  .br (decide ((v80 : Int) < 0)) (.ok false) (.br ((v80 : Int) != v71) (.ok false) (.ok true))

noncomputable def wFnExactRunCanal_o55 (v71 : Int) (v79 : Int) : Tr (Bool) :=
  .br (decide ((v79 : Int) < 0)) (.ok false) (.br (osome (wheldFloat32S [] v79)) (wFnExactRunCanal_o54 v71 (oget (wheldFloat32S [] v79))) .bad)

noncomputable def wFnExactRunCanal_o56 (v59 : (Nat × (Nat × Nat)) ⊕ (Nat × (Nat × (Nat × ((List Nat) × ((List Nat) × (List Nat))))))) (v71 : Int) (v78 : Bool) : Tr (Bool) :=
  .br (!v78) (.ok false) (.br (! (false == true)) (.ok false) (.br (osome (wheldCanal ((unL v59).1) (((unL v59).2).1) (((unL v59).2).2) [] [] 1)) (wFnExactRunCanal_o55 v71 (oget (wheldCanal ((unL v59).1) (((unL v59).2).1) (((unL v59).2).2) [] [] 1))) .bad))

noncomputable def wFnExactRunCanal_o57 (v3 : (Nat × (Nat × Nat)) ⊕ (Nat × (Nat × (Nat × ((List Nat) × ((List Nat) × (List Nat))))))) (v59 : (Nat × (Nat × Nat)) ⊕ (Nat × (Nat × (Nat × ((List Nat) × ((List Nat) × (List Nat))))))) (v71 : Int) (v77 : Bool) : Tr (Bool) :=
  .br (!v77) (.ok false) (.br (osome (weqFloat32S [] ((((((unR v3).2).2).2).2).2))) (wFnExactRunCanal_o56 v59 v71 (oget (weqFloat32S [] ((((((unR v3).2).2).2).2).2)))) .bad)

noncomputable def wFnExactRunCanal_o58 (v71 : Int) (v84 : Int) : Tr (Bool) :=
  .br (decide ((v84 : Int) < 0)) (.ok false) (.br ((v84 : Int) != v71) (.ok false) (.ok true))

noncomputable def wFnExactRunCanal_o59 (v71 : Int) (v83 : Int) : Tr (Bool) :=
  .br (decide ((v83 : Int) < 0)) (.ok false) (.br (osome (wheldFloat32S [] v83)) (wFnExactRunCanal_o58 v71 (oget (wheldFloat32S [] v83))) .bad)

noncomputable def wFnExactRunCanal_o60 (v59 : (Nat × (Nat × Nat)) ⊕ (Nat × (Nat × (Nat × ((List Nat) × ((List Nat) × (List Nat))))))) (v71 : Int) (v82 : Bool) : Tr (Bool) :=
  .br (!v82) (.ok false) (.br (! (true == true)) (.ok false) (.br (osome (wheldCanal ((unL v59).1) (((unL v59).2).1) (((unL v59).2).2) [] [] 1)) (wFnExactRunCanal_o59 v71 (oget (wheldCanal ((unL v59).1) (((unL v59).2).1) (((unL v59).2).2) [] [] 1))) .bad))

noncomputable def wFnExactRunCanal_o61 (v3 : (Nat × (Nat × Nat)) ⊕ (Nat × (Nat × (Nat × ((List Nat) × ((List Nat) × (List Nat))))))) (v59 : (Nat × (Nat × Nat)) ⊕ (Nat × (Nat × (Nat × ((List Nat) × ((List Nat) × (List Nat))))))) (v71 : Int) (v76 : (Nat × (Nat × Nat)) ⊕ (Nat × (Nat × (Nat × ((List Nat) × ((List Nat) × (List Nat))))))) (v81 : Bool) : Tr (Bool) :=
  .br (!v81) (.ok false) (.br (osome (weqFloat32S ((((((unR v76).2).2).2).2).2) ((((((unR v3).2).2).2).2).2))) (wFnExactRunCanal_o60 v59 v71 (oget (weqFloat32S ((((((unR v76).2).2).2).2).2) ((((((unR v3).2).2).2).2).2)))) .bad)

noncomputable def wFnExactRunCanal_o62 (v3 : (Nat × (Nat × Nat)) ⊕ (Nat × (Nat × (Nat × ((List Nat) × ((List Nat) × (List Nat))))))) (v59 : (Nat × (Nat × Nat)) ⊕ (Nat × (Nat × (Nat × ((List Nat) × ((List Nat) × (List Nat))))))) (v71 : Int) (v76 : (Nat × (Nat × Nat)) ⊕ (Nat × (Nat × (Nat × ((List Nat) × ((List Nat) × (List Nat))))))) : Tr (Bool) :=
  .br (isL v76) (.br (osome (weqCanal ((unL v76).1) (((unL v76).2).1) (((unL v76).2).2) [] [] ((unR v3).1) (((unR v3).2).1) ((((unR v3).2).2).1) (((((unR v3).2).2).2).1) ((((((unR v3).2).2).2).2).1))) (wFnExactRunCanal_o57 v3 v59 v71 (oget (weqCanal ((unL v76).1) (((unL v76).2).1) (((unL v76).2).2) [] [] ((unR v3).1) (((unR v3).2).1) ((((unR v3).2).2).1) (((((unR v3).2).2).2).1) ((((((unR v3).2).2).2).2).1)))) .bad) (.br (osome (weqCanal ((unR v76).1) (((unR v76).2).1) ((((unR v76).2).2).1) (((((unR v76).2).2).2).1) ((((((unR v76).2).2).2).2).1) ((unR v3).1) (((unR v3).2).1) ((((unR v3).2).2).1) (((((unR v3).2).2).2).1) ((((((unR v3).2).2).2).2).1))) (wFnExactRunCanal_o61 v3 v59 v71 v76 (oget (weqCanal ((unR v76).1) (((unR v76).2).1) ((((unR v76).2).2).1) (((((unR v76).2).2).2).1) ((((((unR v76).2).2).2).2).1) ((unR v3).1) (((unR v3).2).1) ((((unR v3).2).2).1) (((((unR v3).2).2).2).1) ((((((unR v3).2).2).2).2).1)))) .bad)

noncomputable def wFnExactRunCanal_o63 (x6 : Nat) (v3 : (Nat × (Nat × Nat)) ⊕ (Nat × (Nat × (Nat × ((List Nat) × ((List Nat) × (List Nat))))))) (v59 : (Nat × (Nat × Nat)) ⊕ (Nat × (Nat × (Nat × ((List Nat) × ((List Nat) × (List Nat))))))) (v71 : Int) (v74 : Nat × (Nat × (Nat × ((List Nat) × (List Nat))))) (v75 : List Nat) : Tr (Bool) :=
  .br (osome (iRunCanal v74.1 v74.2.1 v74.2.2.1 v74.2.2.2.1 v74.2.2.2.2 v75 x6)) (wFnExactRunCanal_o62 v3 v59 v71 (oget (iRunCanal v74.1 v74.2.1 v74.2.2.1 v74.2.2.2.1 v74.2.2.2.2 v75 x6))) .bad

noncomputable def wFnExactRunCanal_o64 (x5 : List Nat) (x6 : Nat) (v3 : (Nat × (Nat × Nat)) ⊕ (Nat × (Nat × (Nat × ((List Nat) × ((List Nat) × (List Nat))))))) (v59 : (Nat × (Nat × Nat)) ⊕ (Nat × (Nat × (Nat × ((List Nat) × ((List Nat) × (List Nat))))))) (v71 : Int) (v74 : Nat × (Nat × (Nat × ((List Nat) × (List Nat))))) : Tr (Bool) :=
  .br (osome (wtoFloat32S x5)) (wFnExactRunCanal_o63 x6 v3 v59 v71 v74 (oget (wtoFloat32S x5))) .bad

noncomputable def wFnExactRunCanal_o65 (x0 : Nat) (x1 : Nat) (x2 : Nat) (x3 : List Nat) (x4 : List Nat) (x5 : List Nat) (x6 : Nat) (v3 : (Nat × (Nat × Nat)) ⊕ (Nat × (Nat × (Nat × ((List Nat) × ((List Nat) × (List Nat))))))) (v59 : (Nat × (Nat × Nat)) ⊕ (Nat × (Nat × (Nat × ((List Nat) × ((List Nat) × (List Nat))))))) (v71 : Int) (v73 : Int) : Tr (Bool) :=
  .br (decide ((v73 : Int) < 0)) (.ok false) (.br ((v73 : Int) != v71) (.ok false) (.br (osome (wtoCanal x0 x1 x2 x3 x4)) (wFnExactRunCanal_o64 x5 x6 v3 v59 v71 (oget (wtoCanal x0 x1 x2 x3 x4))) .bad))

noncomputable def wFnExactRunCanal_o66 (x0 : Nat) (x1 : Nat) (x2 : Nat) (x3 : List Nat) (x4 : List Nat) (x5 : List Nat) (x6 : Nat) (v3 : (Nat × (Nat × Nat)) ⊕ (Nat × (Nat × (Nat × ((List Nat) × ((List Nat) × (List Nat))))))) (v59 : (Nat × (Nat × Nat)) ⊕ (Nat × (Nat × (Nat × ((List Nat) × ((List Nat) × (List Nat))))))) (v71 : Int) (v72 : Int) : Tr (Bool) :=
  .br (decide ((v72 : Int) < 0)) (.ok false) (.br (osome (wheldFloat32S [] v72)) (wFnExactRunCanal_o65 x0 x1 x2 x3 x4 x5 x6 v3 v59 v71 (oget (wheldFloat32S [] v72))) .bad)

noncomputable def wFnExactRunCanal_o67 (x0 : Nat) (x1 : Nat) (x2 : Nat) (x3 : List Nat) (x4 : List Nat) (x5 : List Nat) (x6 : Nat) (v3 : (Nat × (Nat × Nat)) ⊕ (Nat × (Nat × (Nat × ((List Nat) × ((List Nat) × (List Nat))))))) (v59 : (Nat × (Nat × Nat)) ⊕ (Nat × (Nat × (Nat × ((List Nat) × ((List Nat) × (List Nat))))))) (v71 : Int) : Tr (Bool) :=
  .br (osome (wheldCanal ((unL v59).1) (((unL v59).2).1) (((unL v59).2).2) [] [] 1)) (wFnExactRunCanal_o66 x0 x1 x2 x3 x4 x5 x6 v3 v59 v71 (oget (wheldCanal ((unL v59).1) (((unL v59).2).1) (((unL v59).2).2) [] [] 1))) .bad

noncomputable def wFnExactRunCanal_o68 (x0 : Nat) (x1 : Nat) (x2 : Nat) (x3 : List Nat) (x4 : List Nat) (x5 : List Nat) (x6 : Nat) (v3 : (Nat × (Nat × Nat)) ⊕ (Nat × (Nat × (Nat × ((List Nat) × ((List Nat) × (List Nat))))))) (v59 : (Nat × (Nat × Nat)) ⊕ (Nat × (Nat × (Nat × ((List Nat) × ((List Nat) × (List Nat))))))) (v70 : Int) : Tr (Bool) :=
  .br (osome (wmarkFloat32S_nil v70)) (wFnExactRunCanal_o67 x0 x1 x2 x3 x4 x5 x6 v3 v59 (oget (wmarkFloat32S_nil v70))) .bad

noncomputable def wFnExactRunCanal_o69 (x0 : Nat) (x1 : Nat) (x2 : Nat) (x3 : List Nat) (x4 : List Nat) (x5 : List Nat) (x6 : Nat) (v3 : (Nat × (Nat × Nat)) ⊕ (Nat × (Nat × (Nat × ((List Nat) × ((List Nat) × (List Nat))))))) (v59 : (Nat × (Nat × Nat)) ⊕ (Nat × (Nat × (Nat × ((List Nat) × ((List Nat) × (List Nat))))))) (v69 : Bool) : Tr (Bool) :=
  .br (!v69) (.ok false) (.br (! (false == true)) (.ok false) (.br (osome (wmarkCanal_n1 ((unL v59).1) (((unL v59).2).1) (((unL v59).2).2) 1)) (wFnExactRunCanal_o68 x0 x1 x2 x3 x4 x5 x6 v3 v59 (oget (wmarkCanal_n1 ((unL v59).1) (((unL v59).2).1) (((unL v59).2).2) 1))) .bad))

noncomputable def wFnExactRunCanal_o70 (x0 : Nat) (x1 : Nat) (x2 : Nat) (x3 : List Nat) (x4 : List Nat) (x5 : List Nat) (x6 : Nat) (v3 : (Nat × (Nat × Nat)) ⊕ (Nat × (Nat × (Nat × ((List Nat) × ((List Nat) × (List Nat))))))) (v59 : (Nat × (Nat × Nat)) ⊕ (Nat × (Nat × (Nat × ((List Nat) × ((List Nat) × (List Nat))))))) (v68 : Bool) : Tr (Bool) :=
  .br (!v68) (.ok false) (.br (osome (weqFloat32S [] ((((((unR v3).2).2).2).2).2))) (wFnExactRunCanal_o69 x0 x1 x2 x3 x4 x5 x6 v3 v59 (oget (weqFloat32S [] ((((((unR v3).2).2).2).2).2)))) .bad)

noncomputable def wFnExactRunCanal_o71 (x0 : Nat) (x1 : Nat) (x2 : Nat) (x3 : List Nat) (x4 : List Nat) (x5 : List Nat) (x6 : Nat) (v3 : (Nat × (Nat × Nat)) ⊕ (Nat × (Nat × (Nat × ((List Nat) × ((List Nat) × (List Nat))))))) (v59 : (Nat × (Nat × Nat)) ⊕ (Nat × (Nat × (Nat × ((List Nat) × ((List Nat) × (List Nat))))))) (v67 : Int × (List Nat)) : Tr (Bool) :=
  .br (decide ((v67.1 : Int) < 0)) (.ok false) (.br (osome (weqCanal ((unL v59).1) (((unL v59).2).1) (((unL v59).2).2) [] [] ((unR v3).1) (((unR v3).2).1) ((((unR v3).2).2).1) (((((unR v3).2).2).2).1) ((((((unR v3).2).2).2).2).1))) (wFnExactRunCanal_o70 x0 x1 x2 x3 x4 x5 x6 v3 v59 (oget (weqCanal ((unL v59).1) (((unL v59).2).1) (((unL v59).2).2) [] [] ((unR v3).1) (((unR v3).2).1) ((((unR v3).2).2).1) (((((unR v3).2).2).2).1) ((((((unR v3).2).2).2).2).1)))) .bad)

noncomputable def wFnExactRunCanal_o72 (x0 : Nat) (x1 : Nat) (x2 : Nat) (x3 : List Nat) (x4 : List Nat) (x5 : List Nat) (x6 : Nat) (v3 : (Nat × (Nat × Nat)) ⊕ (Nat × (Nat × (Nat × ((List Nat) × ((List Nat) × (List Nat))))))) (v58 : List Nat) (v59 : (Nat × (Nat × Nat)) ⊕ (Nat × (Nat × (Nat × ((List Nat) × ((List Nat) × (List Nat))))))) (v66 : Int × ((List Nat) × (List Nat))) : Tr (Bool) :=
  .br (osome (wmarkFloat32S v66.1 v58)) (wFnExactRunCanal_o71 x0 x1 x2 x3 x4 x5 x6 v3 v59 (oget (wmarkFloat32S v66.1 v58))) .bad

noncomputable def wFnExactRunCanal_o73 (x0 : Nat) (x1 : Nat) (x2 : Nat) (x3 : List Nat) (x4 : List Nat) (x5 : List Nat) (x6 : Nat) (v3 : (Nat × (Nat × Nat)) ⊕ (Nat × (Nat × (Nat × ((List Nat) × ((List Nat) × (List Nat))))))) (v57 : Nat × (Nat × (Nat × ((List Nat) × (List Nat))))) (v58 : List Nat) (v59 : (Nat × (Nat × Nat)) ⊕ (Nat × (Nat × (Nat × ((List Nat) × ((List Nat) × (List Nat))))))) (v65 : Bool) : Tr (Bool) :=
  .br (!v65) (.ok false) (.br (osome (wmarkCanal v57.1 v57.2.1 v57.2.2.1 1 v57.2.2.2.1 v57.2.2.2.2)) (wFnExactRunCanal_o72 x0 x1 x2 x3 x4 x5 x6 v3 v58 v59 (oget (wmarkCanal v57.1 v57.2.1 v57.2.2.1 1 v57.2.2.2.1 v57.2.2.2.2))) .bad)

noncomputable def wFnExactRunCanal_o74 (x0 : Nat) (x1 : Nat) (x2 : Nat) (x3 : List Nat) (x4 : List Nat) (x5 : List Nat) (x6 : Nat) (v3 : (Nat × (Nat × Nat)) ⊕ (Nat × (Nat × (Nat × ((List Nat) × ((List Nat) × (List Nat))))))) (v57 : Nat × (Nat × (Nat × ((List Nat) × (List Nat))))) (v58 : List Nat) (v59 : (Nat × (Nat × Nat)) ⊕ (Nat × (Nat × (Nat × ((List Nat) × ((List Nat) × (List Nat))))))) (v64 : List Nat) : Tr (Bool) :=
  .br (osome (weqFloat32S v58 v64)) (wFnExactRunCanal_o73 x0 x1 x2 x3 x4 x5 x6 v3 v57 v58 v59 (oget (weqFloat32S v58 v64))) .bad

noncomputable def wFnExactRunCanal_o75 (x0 : Nat) (x1 : Nat) (x2 : Nat) (x3 : List Nat) (x4 : List Nat) (x5 : List Nat) (x6 : Nat) (v3 : (Nat × (Nat × Nat)) ⊕ (Nat × (Nat × (Nat × ((List Nat) × ((List Nat) × (List Nat))))))) (v57 : Nat × (Nat × (Nat × ((List Nat) × (List Nat))))) (v58 : List Nat) (v59 : (Nat × (Nat × Nat)) ⊕ (Nat × (Nat × (Nat × ((List Nat) × ((List Nat) × (List Nat))))))) (v63 : Bool) : Tr (Bool) :=
  .br (!v63) (.ok false) (.br (osome (wtoFloat32S x5)) (wFnExactRunCanal_o74 x0 x1 x2 x3 x4 x5 x6 v3 v57 v58 v59 (oget (wtoFloat32S x5))) .bad)

noncomputable def wFnExactRunCanal_o76 (x0 : Nat) (x1 : Nat) (x2 : Nat) (x3 : List Nat) (x4 : List Nat) (x5 : List Nat) (x6 : Nat) (v3 : (Nat × (Nat × Nat)) ⊕ (Nat × (Nat × (Nat × ((List Nat) × ((List Nat) × (List Nat))))))) (v57 : Nat × (Nat × (Nat × ((List Nat) × (List Nat))))) (v58 : List Nat) (v59 : (Nat × (Nat × Nat)) ⊕ (Nat × (Nat × (Nat × ((List Nat) × ((List Nat) × (List Nat))))))) (v62 : Nat × (Nat × (Nat × ((List Nat) × (List Nat))))) : Tr (Bool) :=
  .br (osome (weqCanal v57.1 v57.2.1 v57.2.2.1 v57.2.2.2.1 v57.2.2.2.2 v62.1 v62.2.1 v62.2.2.1 v62.2.2.2.1 v62.2.2.2.2)) (wFnExactRunCanal_o75 x0 x1 x2 x3 x4 x5 x6 v3 v57 v58 v59 (oget (weqCanal v57.1 v57.2.1 v57.2.2.1 v57.2.2.2.1 v57.2.2.2.2 v62.1 v62.2.1 v62.2.2.1 v62.2.2.2.1 v62.2.2.2.2))) .bad

noncomputable def wFnExactRunCanal_o77 (x0 : Nat) (x1 : Nat) (x2 : Nat) (x3 : List Nat) (x4 : List Nat) (x5 : List Nat) (x6 : Nat) (v3 : (Nat × (Nat × Nat)) ⊕ (Nat × (Nat × (Nat × ((List Nat) × ((List Nat) × (List Nat))))))) (v57 : Nat × (Nat × (Nat × ((List Nat) × (List Nat))))) (v58 : List Nat) (v59 : (Nat × (Nat × Nat)) ⊕ (Nat × (Nat × (Nat × ((List Nat) × ((List Nat) × (List Nat))))))) (v61 : Bool) : Tr (Bool) :=
  .br (!v61) (.ok false) (.br (! (false == true)) (.ok false) (.br (osome (wtoCanal x0 x1 x2 x3 x4)) (wFnExactRunCanal_o76 x0 x1 x2 x3 x4 x5 x6 v3 v57 v58 v59 (oget (wtoCanal x0 x1 x2 x3 x4))) .bad))

noncomputable def wFnExactRunCanal_o78 (x0 : Nat) (x1 : Nat) (x2 : Nat) (x3 : List Nat) (x4 : List Nat) (x5 : List Nat) (x6 : Nat) (v3 : (Nat × (Nat × Nat)) ⊕ (Nat × (Nat × (Nat × ((List Nat) × ((List Nat) × (List Nat))))))) (v57 : Nat × (Nat × (Nat × ((List Nat) × (List Nat))))) (v58 : List Nat) (v59 : (Nat × (Nat × Nat)) ⊕ (Nat × (Nat × (Nat × ((List Nat) × ((List Nat) × (List Nat))))))) (v60 : Bool) : Tr (Bool) :=
  .br (!v60) (.ok false) (.br (osome (weqFloat32S [] ((((((unR v3).2).2).2).2).2))) (wFnExactRunCanal_o77 x0 x1 x2 x3 x4 x5 x6 v3 v57 v58 v59 (oget (weqFloat32S [] ((((((unR v3).2).2).2).2).2)))) .bad)

noncomputable def wFnExactRunCanal_o79 (v96 : Int × (List Nat)) (v105 : Int) : Tr (Bool) :=
  .br (decide ((v105 : Int) < 0)) (.ok false) (.br ((v105 : Int) != v96.1) (.ok false) (.ok true))

noncomputable def wFnExactRunCanal_o80 (v96 : Int × (List Nat)) (v104 : Int) : Tr (Bool) :=
  .br (decide ((v104 : Int) < 0)) (.ok false) (.br (osome (wheldFloat32S v96.2 v104)) (wFnExactRunCanal_o79 v96 (oget (wheldFloat32S v96.2 v104))) .bad)

noncomputable def wFnExactRunCanal_o81 (v59 : (Nat × (Nat × Nat)) ⊕ (Nat × (Nat × (Nat × ((List Nat) × ((List Nat) × (List Nat))))))) (v95 : Int × ((List Nat) × (List Nat))) (v96 : Int × (List Nat)) (v103 : Bool) : Tr (Bool) :=
  .br (!v103) (.ok false) (.br (! (false == true)) (.ok false) (.br (osome (wheldCanal ((unR v59).1) (((unR v59).2).1) ((((unR v59).2).2).1) v95.2.1 v95.2.2 1)) (wFnExactRunCanal_o80 v96 (oget (wheldCanal ((unR v59).1) (((unR v59).2).1) ((((unR v59).2).2).1) v95.2.1 v95.2.2 1))) .bad))

noncomputable def wFnExactRunCanal_o82 (v3 : (Nat × (Nat × Nat)) ⊕ (Nat × (Nat × (Nat × ((List Nat) × ((List Nat) × (List Nat))))))) (v59 : (Nat × (Nat × Nat)) ⊕ (Nat × (Nat × (Nat × ((List Nat) × ((List Nat) × (List Nat))))))) (v95 : Int × ((List Nat) × (List Nat))) (v96 : Int × (List Nat)) (v102 : Bool) : Tr (Bool) :=
  .br (!v102) (.ok false) (.br (osome (weqFloat32S [] ((((((unR v3).2).2).2).2).2))) (wFnExactRunCanal_o81 v59 v95 v96 (oget (weqFloat32S [] ((((((unR v3).2).2).2).2).2)))) .bad)

noncomputable def wFnExactRunCanal_o83 (v96 : Int × (List Nat)) (v109 : Int) : Tr (Bool) :=
  .br (decide ((v109 : Int) < 0)) (.ok false) (.br ((v109 : Int) != v96.1) (.ok false) (.ok true))

noncomputable def wFnExactRunCanal_o84 (v96 : Int × (List Nat)) (v108 : Int) : Tr (Bool) :=
  .br (decide ((v108 : Int) < 0)) (.ok false) (.br (osome (wheldFloat32S v96.2 v108)) (wFnExactRunCanal_o83 v96 (oget (wheldFloat32S v96.2 v108))) .bad)

noncomputable def wFnExactRunCanal_o85 (v59 : (Nat × (Nat × Nat)) ⊕ (Nat × (Nat × (Nat × ((List Nat) × ((List Nat) × (List Nat))))))) (v95 : Int × ((List Nat) × (List Nat))) (v96 : Int × (List Nat)) (v107 : Bool) : Tr (Bool) :=
  .br (!v107) (.ok false) (.br (! (true == true)) (.ok false) (.br (osome (wheldCanal ((unR v59).1) (((unR v59).2).1) ((((unR v59).2).2).1) v95.2.1 v95.2.2 1)) (wFnExactRunCanal_o84 v96 (oget (wheldCanal ((unR v59).1) (((unR v59).2).1) ((((unR v59).2).2).1) v95.2.1 v95.2.2 1))) .bad))

noncomputable def wFnExactRunCanal_o86 (v3 : (Nat × (Nat × Nat)) ⊕ (Nat × (Nat × (Nat × ((List Nat) × ((List Nat) × (List Nat))))))) (v59 : (Nat × (Nat × Nat)) ⊕ (Nat × (Nat × (Nat × ((List Nat) × ((List Nat) × (List Nat))))))) (v95 : Int × ((List Nat) × (List Nat))) (v96 : Int × (List Nat)) (v101 : (Nat × (Nat × Nat)) ⊕ (Nat × (Nat × (Nat × ((List Nat) × ((List Nat) × (List Nat))))))) (v106 : Bool) : Tr (Bool) :=
  .br (!v106) (.ok false) (.br (osome (weqFloat32S ((((((unR v101).2).2).2).2).2) ((((((unR v3).2).2).2).2).2))) (wFnExactRunCanal_o85 v59 v95 v96 (oget (weqFloat32S ((((((unR v101).2).2).2).2).2) ((((((unR v3).2).2).2).2).2)))) .bad)

noncomputable def wFnExactRunCanal_o87 (v3 : (Nat × (Nat × Nat)) ⊕ (Nat × (Nat × (Nat × ((List Nat) × ((List Nat) × (List Nat))))))) (v59 : (Nat × (Nat × Nat)) ⊕ (Nat × (Nat × (Nat × ((List Nat) × ((List Nat) × (List Nat))))))) (v95 : Int × ((List Nat) × (List Nat))) (v96 : Int × (List Nat)) (v101 : (Nat × (Nat × Nat)) ⊕ (Nat × (Nat × (Nat × ((List Nat) × ((List Nat) × (List Nat))))))) : Tr (Bool) :=
  .br (isL v101) (.br (osome (weqCanal ((unL v101).1) (((unL v101).2).1) (((unL v101).2).2) [] [] ((unR v3).1) (((unR v3).2).1) ((((unR v3).2).2).1) (((((unR v3).2).2).2).1) ((((((unR v3).2).2).2).2).1))) (wFnExactRunCanal_o82 v3 v59 v95 v96 (oget (weqCanal ((unL v101).1) (((unL v101).2).1) (((unL v101).2).2) [] [] ((unR v3).1) (((unR v3).2).1) ((((unR v3).2).2).1) (((((unR v3).2).2).2).1) ((((((unR v3).2).2).2).2).1)))) .bad) (.br (osome (weqCanal ((unR v101).1) (((unR v101).2).1) ((((unR v101).2).2).1) (((((unR v101).2).2).2).1) ((((((unR v101).2).2).2).2).1) ((unR v3).1) (((unR v3).2).1) ((((unR v3).2).2).1) (((((unR v3).2).2).2).1) ((((((unR v3).2).2).2).2).1))) (wFnExactRunCanal_o86 v3 v59 v95 v96 v101 (oget (weqCanal ((unR v101).1) (((unR v101).2).1) ((((unR v101).2).2).1) (((((unR v101).2).2).2).1) ((((((unR v101).2).2).2).2).1) ((unR v3).1) (((unR v3).2).1) ((((unR v3).2).2).1) (((((unR v3).2).2).2).1) ((((((unR v3).2).2).2).2).1)))) .bad)

noncomputable def wFnExactRunCanal_o88 (x6 : Nat) (v3 : (Nat × (Nat × Nat)) ⊕ (Nat × (Nat × (Nat × ((List Nat) × ((List Nat) × (List Nat))))))) (v59 : (Nat × (Nat × Nat)) ⊕ (Nat × (Nat × (Nat × ((List Nat) × ((List Nat) × (List Nat))))))) (v95 : Int × ((List Nat) × (List Nat))) (v96 : Int × (List Nat)) (v99 : Nat × (Nat × (Nat × ((List Nat) × (List Nat))))) (v100 : List Nat) : Tr (Bool) :=
  .br (osome (iRunCanal v99.1 v99.2.1 v99.2.2.1 v99.2.2.2.1 v99.2.2.2.2 v100 x6)) (wFnExactRunCanal_o87 v3 v59 v95 v96 (oget (iRunCanal v99.1 v99.2.1 v99.2.2.1 v99.2.2.2.1 v99.2.2.2.2 v100 x6))) .bad

noncomputable def wFnExactRunCanal_o89 (x5 : List Nat) (x6 : Nat) (v3 : (Nat × (Nat × Nat)) ⊕ (Nat × (Nat × (Nat × ((List Nat) × ((List Nat) × (List Nat))))))) (v59 : (Nat × (Nat × Nat)) ⊕ (Nat × (Nat × (Nat × ((List Nat) × ((List Nat) × (List Nat))))))) (v95 : Int × ((List Nat) × (List Nat))) (v96 : Int × (List Nat)) (v99 : Nat × (Nat × (Nat × ((List Nat) × (List Nat))))) : Tr (Bool) :=
  .br (osome (wtoFloat32S x5)) (wFnExactRunCanal_o88 x6 v3 v59 v95 v96 v99 (oget (wtoFloat32S x5))) .bad

noncomputable def wFnExactRunCanal_o90 (x0 : Nat) (x1 : Nat) (x2 : Nat) (x3 : List Nat) (x4 : List Nat) (x5 : List Nat) (x6 : Nat) (v3 : (Nat × (Nat × Nat)) ⊕ (Nat × (Nat × (Nat × ((List Nat) × ((List Nat) × (List Nat))))))) (v59 : (Nat × (Nat × Nat)) ⊕ (Nat × (Nat × (Nat × ((List Nat) × ((List Nat) × (List Nat))))))) (v95 : Int × ((List Nat) × (List Nat))) (v96 : Int × (List Nat)) (v98 : Int) : Tr (Bool) :=
  .br (decide ((v98 : Int) < 0)) (.ok false) (.br ((v98 : Int) != v96.1) (.ok false) (.br (osome (wtoCanal x0 x1 x2 x3 x4)) (wFnExactRunCanal_o89 x5 x6 v3 v59 v95 v96 (oget (wtoCanal x0 x1 x2 x3 x4))) .bad))

noncomputable def wFnExactRunCanal_o91 (x0 : Nat) (x1 : Nat) (x2 : Nat) (x3 : List Nat) (x4 : List Nat) (x5 : List Nat) (x6 : Nat) (v3 : (Nat × (Nat × Nat)) ⊕ (Nat × (Nat × (Nat × ((List Nat) × ((List Nat) × (List Nat))))))) (v59 : (Nat × (Nat × Nat)) ⊕ (Nat × (Nat × (Nat × ((List Nat) × ((List Nat) × (List Nat))))))) (v95 : Int × ((List Nat) × (List Nat))) (v96 : Int × (List Nat)) (v97 : Int) : Tr (Bool) :=
  .br (decide ((v97 : Int) < 0)) (.ok false) (.br (osome (wheldFloat32S v96.2 v97)) (wFnExactRunCanal_o90 x0 x1 x2 x3 x4 x5 x6 v3 v59 v95 v96 (oget (wheldFloat32S v96.2 v97))) .bad)

noncomputable def wFnExactRunCanal_o92 (x0 : Nat) (x1 : Nat) (x2 : Nat) (x3 : List Nat) (x4 : List Nat) (x5 : List Nat) (x6 : Nat) (v3 : (Nat × (Nat × Nat)) ⊕ (Nat × (Nat × (Nat × ((List Nat) × ((List Nat) × (List Nat))))))) (v59 : (Nat × (Nat × Nat)) ⊕ (Nat × (Nat × (Nat × ((List Nat) × ((List Nat) × (List Nat))))))) (v95 : Int × ((List Nat) × (List Nat))) (v96 : Int × (List Nat)) : Tr (Bool) :=
  .br (osome (wheldCanal ((unR v59).1) (((unR v59).2).1) ((((unR v59).2).2).1) v95.2.1 v95.2.2 1)) (wFnExactRunCanal_o91 x0 x1 x2 x3 x4 x5 x6 v3 v59 v95 v96 (oget (wheldCanal ((unR v59).1) (((unR v59).2).1) ((((unR v59).2).2).1) v95.2.1 v95.2.2 1))) .bad

noncomputable def wFnExactRunCanal_o93 (x0 : Nat) (x1 : Nat) (x2 : Nat) (x3 : List Nat) (x4 : List Nat) (x5 : List Nat) (x6 : Nat) (v3 : (Nat × (Nat × Nat)) ⊕ (Nat × (Nat × (Nat × ((List Nat) × ((List Nat) × (List Nat))))))) (v59 : (Nat × (Nat × Nat)) ⊕ (Nat × (Nat × (Nat × ((List Nat) × ((List Nat) × (List Nat))))))) (v95 : Int × ((List Nat) × (List Nat))) : Tr (Bool) :=
  .br (osome (wmarkFloat32S v95.1 ((((((unR v59).2).2).2).2).2))) (wFnExactRunCanal_o92 x0 x1 x2 x3 x4 x5 x6 v3 v59 v95 (oget (wmarkFloat32S v95.1 ((((((unR v59).2).2).2).2).2)))) .bad

noncomputable def wFnExactRunCanal_o94 (x0 : Nat) (x1 : Nat) (x2 : Nat) (x3 : List Nat) (x4 : List Nat) (x5 : List Nat) (x6 : Nat) (v3 : (Nat × (Nat × Nat)) ⊕ (Nat × (Nat × (Nat × ((List Nat) × ((List Nat) × (List Nat))))))) (v59 : (Nat × (Nat × Nat)) ⊕ (Nat × (Nat × (Nat × ((List Nat) × ((List Nat) × (List Nat))))))) (v94 : Bool) : Tr (Bool) :=
  .br (!v94) (.ok false) (.br (! (true == true)) (.ok false) (.br (osome (wmarkCanal ((unR v59).1) (((unR v59).2).1) ((((unR v59).2).2).1) 1 (((((unR v59).2).2).2).1) ((((((unR v59).2).2).2).2).1))) (wFnExactRunCanal_o93 x0 x1 x2 x3 x4 x5 x6 v3 v59 (oget (wmarkCanal ((unR v59).1) (((unR v59).2).1) ((((unR v59).2).2).1) 1 (((((unR v59).2).2).2).1) ((((((unR v59).2).2).2).2).1)))) .bad))

noncomputable def wFnExactRunCanal_o95 (x0 : Nat) (x1 : Nat) (x2 : Nat) (x3 : List Nat) (x4 : List Nat) (x5 : List Nat) (x6 : Nat) (v3 : (Nat × (Nat × Nat)) ⊕ (Nat × (Nat × (Nat × ((List Nat) × ((List Nat) × (List Nat))))))) (v59 : (Nat × (Nat × Nat)) ⊕ (Nat × (Nat × (Nat × ((List Nat) × ((List Nat) × (List Nat))))))) (v93 : Bool) : Tr (Bool) :=
  .br (!v93) (.ok false) (.br (osome (weqFloat32S ((((((unR v59).2).2).2).2).2) ((((((unR v3).2).2).2).2).2))) (wFnExactRunCanal_o94 x0 x1 x2 x3 x4 x5 x6 v3 v59 (oget (weqFloat32S ((((((unR v59).2).2).2).2).2) ((((((unR v3).2).2).2).2).2)))) .bad)

noncomputable def wFnExactRunCanal_o96 (x0 : Nat) (x1 : Nat) (x2 : Nat) (x3 : List Nat) (x4 : List Nat) (x5 : List Nat) (x6 : Nat) (v3 : (Nat × (Nat × Nat)) ⊕ (Nat × (Nat × (Nat × ((List Nat) × ((List Nat) × (List Nat))))))) (v59 : (Nat × (Nat × Nat)) ⊕ (Nat × (Nat × (Nat × ((List Nat) × ((List Nat) × (List Nat))))))) (v92 : Int × (List Nat)) : Tr (Bool) :=
  .br (decide ((v92.1 : Int) < 0)) (.ok false) (.br (osome (weqCanal ((unR v59).1) (((unR v59).2).1) ((((unR v59).2).2).1) (((((unR v59).2).2).2).1) ((((((unR v59).2).2).2).2).1) ((unR v3).1) (((unR v3).2).1) ((((unR v3).2).2).1) (((((unR v3).2).2).2).1) ((((((unR v3).2).2).2).2).1))) (wFnExactRunCanal_o95 x0 x1 x2 x3 x4 x5 x6 v3 v59 (oget (weqCanal ((unR v59).1) (((unR v59).2).1) ((((unR v59).2).2).1) (((((unR v59).2).2).2).1) ((((((unR v59).2).2).2).2).1) ((unR v3).1) (((unR v3).2).1) ((((unR v3).2).2).1) (((((unR v3).2).2).2).1) ((((((unR v3).2).2).2).2).1)))) .bad)

noncomputable def wFnExactRunCanal_o97 (x0 : Nat) (x1 : Nat) (x2 : Nat) (x3 : List Nat) (x4 : List Nat) (x5 : List Nat) (x6 : Nat) (v3 : (Nat × (Nat × Nat)) ⊕ (Nat × (Nat × (Nat × ((List Nat) × ((List Nat) × (List Nat))))))) (v58 : List Nat) (v59 : (Nat × (Nat × Nat)) ⊕ (Nat × (Nat × (Nat × ((List Nat) × ((List Nat) × (List Nat))))))) (v91 : Int × ((List Nat) × (List Nat))) : Tr (Bool) :=
  .br (osome (wmarkFloat32S v91.1 v58)) (wFnExactRunCanal_o96 x0 x1 x2 x3 x4 x5 x6 v3 v59 (oget (wmarkFloat32S v91.1 v58))) .bad

noncomputable def wFnExactRunCanal_o98 (x0 : Nat) (x1 : Nat) (x2 : Nat) (x3 : List Nat) (x4 : List Nat) (x5 : List Nat) (x6 : Nat) (v3 : (Nat × (Nat × Nat)) ⊕ (Nat × (Nat × (Nat × ((List Nat) × ((List Nat) × (List Nat))))))) (v57 : Nat × (Nat × (Nat × ((List Nat) × (List Nat))))) (v58 : List Nat) (v59 : (Nat × (Nat × Nat)) ⊕ (Nat × (Nat × (Nat × ((List Nat) × ((List Nat) × (List Nat))))))) (v90 : Bool) : Tr (Bool) :=
  .br (!v90) (.ok false) (.br (osome (wmarkCanal v57.1 v57.2.1 v57.2.2.1 1 v57.2.2.2.1 v57.2.2.2.2)) (wFnExactRunCanal_o97 x0 x1 x2 x3 x4 x5 x6 v3 v58 v59 (oget (wmarkCanal v57.1 v57.2.1 v57.2.2.1 1 v57.2.2.2.1 v57.2.2.2.2))) .bad)

noncomputable def wFnExactRunCanal_o99 (x0 : Nat) (x1 : Nat) (x2 : Nat) (x3 : List Nat) (x4 : List Nat) (x5 : List Nat) (x6 : Nat) (v3 : (Nat × (Nat × Nat)) ⊕ (Nat × (Nat × (Nat × ((List Nat) × ((List Nat) × (List Nat))))))) (v57 : Nat × (Nat × (Nat × ((List Nat) × (List Nat))))) (v58 : List Nat) (v59 : (Nat × (Nat × Nat)) ⊕ (Nat × (Nat × (Nat × ((List Nat) × ((List Nat) × (List Nat))))))) (v89 : List Nat) : Tr (Bool) :=
  .br (osome (weqFloat32S v58 v89)) (wFnExactRunCanal_o98 x0 x1 x2 x3 x4 x5 x6 v3 v57 v58 v59 (oget (weqFloat32S v58 v89))) .bad

noncomputable def wFnExactRunCanal_o100 (x0 : Nat) (x1 : Nat) (x2 : Nat) (x3 : List Nat) (x4 : List Nat) (x5 : List Nat) (x6 : Nat) (v3 : (Nat × (Nat × Nat)) ⊕ (Nat × (Nat × (Nat × ((List Nat) × ((List Nat) × (List Nat))))))) (v57 : Nat × (Nat × (Nat × ((List Nat) × (List Nat))))) (v58 : List Nat) (v59 : (Nat × (Nat × Nat)) ⊕ (Nat × (Nat × (Nat × ((List Nat) × ((List Nat) × (List Nat))))))) (v88 : Bool) : Tr (Bool) :=
  .br (!v88) (.ok false) (.br (osome (wtoFloat32S x5)) (wFnExactRunCanal_o99 x0 x1 x2 x3 x4 x5 x6 v3 v57 v58 v59 (oget (wtoFloat32S x5))) .bad)

noncomputable def wFnExactRunCanal_o101 (x0 : Nat) (x1 : Nat) (x2 : Nat) (x3 : List Nat) (x4 : List Nat) (x5 : List Nat) (x6 : Nat) (v3 : (Nat × (Nat × Nat)) ⊕ (Nat × (Nat × (Nat × ((List Nat) × ((List Nat) × (List Nat))))))) (v57 : Nat × (Nat × (Nat × ((List Nat) × (List Nat))))) (v58 : List Nat) (v59 : (Nat × (Nat × Nat)) ⊕ (Nat × (Nat × (Nat × ((List Nat) × ((List Nat) × (List Nat))))))) (v87 : Nat × (Nat × (Nat × ((List Nat) × (List Nat))))) : Tr (Bool) :=
  .br (osome (weqCanal v57.1 v57.2.1 v57.2.2.1 v57.2.2.2.1 v57.2.2.2.2 v87.1 v87.2.1 v87.2.2.1 v87.2.2.2.1 v87.2.2.2.2)) (wFnExactRunCanal_o100 x0 x1 x2 x3 x4 x5 x6 v3 v57 v58 v59 (oget (weqCanal v57.1 v57.2.1 v57.2.2.1 v57.2.2.2.1 v57.2.2.2.2 v87.1 v87.2.1 v87.2.2.1 v87.2.2.2.1 v87.2.2.2.2))) .bad

noncomputable def wFnExactRunCanal_o102 (x0 : Nat) (x1 : Nat) (x2 : Nat) (x3 : List Nat) (x4 : List Nat) (x5 : List Nat) (x6 : Nat) (v3 : (Nat × (Nat × Nat)) ⊕ (Nat × (Nat × (Nat × ((List Nat) × ((List Nat) × (List Nat))))))) (v57 : Nat × (Nat × (Nat × ((List Nat) × (List Nat))))) (v58 : List Nat) (v59 : (Nat × (Nat × Nat)) ⊕ (Nat × (Nat × (Nat × ((List Nat) × ((List Nat) × (List Nat))))))) (v86 : Bool) : Tr (Bool) :=
  .br (!v86) (.ok false) (.br (! (true == true)) (.ok false) (.br (osome (wtoCanal x0 x1 x2 x3 x4)) (wFnExactRunCanal_o101 x0 x1 x2 x3 x4 x5 x6 v3 v57 v58 v59 (oget (wtoCanal x0 x1 x2 x3 x4))) .bad))

noncomputable def wFnExactRunCanal_o103 (x0 : Nat) (x1 : Nat) (x2 : Nat) (x3 : List Nat) (x4 : List Nat) (x5 : List Nat) (x6 : Nat) (v3 : (Nat × (Nat × Nat)) ⊕ (Nat × (Nat × (Nat × ((List Nat) × ((List Nat) × (List Nat))))))) (v57 : Nat × (Nat × (Nat × ((List Nat) × (List Nat))))) (v58 : List Nat) (v59 : (Nat × (Nat × Nat)) ⊕ (Nat × (Nat × (Nat × ((List Nat) × ((List Nat) × (List Nat))))))) (v85 : Bool) : Tr (Bool) :=
  .br (!v85) (.ok false) (.br (osome (weqFloat32S ((((((unR v59).2).2).2).2).2) ((((((unR v3).2).2).2).2).2))) (wFnExactRunCanal_o102 x0 x1 x2 x3 x4 x5 x6 v3 v57 v58 v59 (oget (weqFloat32S ((((((unR v59).2).2).2).2).2) ((((((unR v3).2).2).2).2).2)))) .bad)

noncomputable def wFnExactRunCanal_o104 (x0 : Nat) (x1 : Nat) (x2 : Nat) (x3 : List Nat) (x4 : List Nat) (x5 : List Nat) (x6 : Nat) (v3 : (Nat × (Nat × Nat)) ⊕ (Nat × (Nat × (Nat × ((List Nat) × ((List Nat) × (List Nat))))))) (v57 : Nat × (Nat × (Nat × ((List Nat) × (List Nat))))) (v58 : List Nat) (v59 : (Nat × (Nat × Nat)) ⊕ (Nat × (Nat × (Nat × ((List Nat) × ((List Nat) × (List Nat))))))) : Tr (Bool) :=
  .br (isL v59) (.br (osome (weqCanal ((unL v59).1) (((unL v59).2).1) (((unL v59).2).2) [] [] ((unR v3).1) (((unR v3).2).1) ((((unR v3).2).2).1) (((((unR v3).2).2).2).1) ((((((unR v3).2).2).2).2).1))) (wFnExactRunCanal_o78 x0 x1 x2 x3 x4 x5 x6 v3 v57 v58 v59 (oget (weqCanal ((unL v59).1) (((unL v59).2).1) (((unL v59).2).2) [] [] ((unR v3).1) (((unR v3).2).1) ((((unR v3).2).2).1) (((((unR v3).2).2).2).1) ((((((unR v3).2).2).2).2).1)))) .bad) (.br (osome (weqCanal ((unR v59).1) (((unR v59).2).1) ((((unR v59).2).2).1) (((((unR v59).2).2).2).1) ((((((unR v59).2).2).2).2).1) ((unR v3).1) (((unR v3).2).1) ((((unR v3).2).2).1) (((((unR v3).2).2).2).1) ((((((unR v3).2).2).2).2).1))) (wFnExactRunCanal_o103 x0 x1 x2 x3 x4 x5 x6 v3 v57 v58 v59 (oget (weqCanal ((unR v59).1) (((unR v59).2).1) ((((unR v59).2).2).1) (((((unR v59).2).2).2).1) ((((((unR v59).2).2).2).2).1) ((unR v3).1) (((unR v3).2).1) ((((unR v3).2).2).1) (((((unR v3).2).2).2).1) ((((((unR v3).2).2).2).2).1)))) .bad)

noncomputable def wFnExactRunCanal_o105 (x0 : Nat) (x1 : Nat) (x2 : Nat) (x3 : List Nat) (x4 : List Nat) (x5 : List Nat) (x6 : Nat) (v3 : (Nat × (Nat × Nat)) ⊕ (Nat × (Nat × (Nat × ((List Nat) × ((List Nat) × (List Nat))))))) (v57 : Nat × (Nat × (Nat × ((List Nat) × (List Nat))))) (v58 : List Nat) : Tr (Bool) :=
  .br (osome (iRunCanal v57.1 v57.2.1 v57.2.2.1 v57.2.2.2.1 v57.2.2.2.2 v58 x6)) (wFnExactRunCanal_o104 x0 x1 x2 x3 x4 x5 x6 v3 v57 v58 (oget (iRunCanal v57.1 v57.2.1 v57.2.2.1 v57.2.2.2.1 v57.2.2.2.2 v58 x6))) .bad

noncomputable def wFnExactRunCanal_o106 (x0 : Nat) (x1 : Nat) (x2 : Nat) (x3 : List Nat) (x4 : List Nat) (x5 : List Nat) (x6 : Nat) (v3 : (Nat × (Nat × Nat)) ⊕ (Nat × (Nat × (Nat × ((List Nat) × ((List Nat) × (List Nat))))))) (v57 : Nat × (Nat × (Nat × ((List Nat) × (List Nat))))) : Tr (Bool) :=
  .br (osome (wtoFloat32S x5)) (wFnExactRunCanal_o105 x0 x1 x2 x3 x4 x5 x6 v3 v57 (oget (wtoFloat32S x5))) .bad

noncomputable def wFnExactRunCanal_o107 (x0 : Nat) (x1 : Nat) (x2 : Nat) (x3 : List Nat) (x4 : List Nat) (x5 : List Nat) (x6 : Nat) (v3 : (Nat × (Nat × Nat)) ⊕ (Nat × (Nat × (Nat × ((List Nat) × ((List Nat) × (List Nat))))))) : Tr (Bool) :=
  .br (isL v3) (.br (osome (wtoCanal x0 x1 x2 x3 x4)) (wFnExactRunCanal_o53 x0 x1 x2 x3 x4 x5 x6 v3 (oget (wtoCanal x0 x1 x2 x3 x4))) .bad) (.br (osome (wtoCanal x0 x1 x2 x3 x4)) (wFnExactRunCanal_o106 x0 x1 x2 x3 x4 x5 x6 v3 (oget (wtoCanal x0 x1 x2 x3 x4))) .bad)

noncomputable def wFnExactRunCanal_o108 (x0 : Nat) (x1 : Nat) (x2 : Nat) (x3 : List Nat) (x4 : List Nat) (x5 : List Nat) (x6 : Nat) (v1 : Nat × (Nat × (Nat × ((List Nat) × (List Nat))))) (v2 : List Nat) : Tr (Bool) :=
  .br (osome (sRunCanal v1.1 v1.2.1 v1.2.2.1 v1.2.2.2.1 v1.2.2.2.2 v2 x6)) (wFnExactRunCanal_o107 x0 x1 x2 x3 x4 x5 x6 (oget (sRunCanal v1.1 v1.2.1 v1.2.2.1 v1.2.2.2.1 v1.2.2.2.2 v2 x6))) .bad

noncomputable def wFnExactRunCanal_o109 (x0 : Nat) (x1 : Nat) (x2 : Nat) (x3 : List Nat) (x4 : List Nat) (x5 : List Nat) (x6 : Nat) (v1 : Nat × (Nat × (Nat × ((List Nat) × (List Nat))))) : Tr (Bool) :=
  .br (osome (wtoFloat32S x5)) (wFnExactRunCanal_o108 x0 x1 x2 x3 x4 x5 x6 v1 (oget (wtoFloat32S x5))) .bad

noncomputable def wFnExactRunCanal_t (x0 : Nat) (x1 : Nat) (x2 : Nat) (x3 : List Nat) (x4 : List Nat) (x5 : List Nat) (x6 : Nat) : Tr (Bool) :=
  .br (decide ((((List.length x5 : Nat) : Int) : Int) > 1048576)) (.ok true) (.br (decide ((wszCanal x0 x1 x2 x3 x4 1048576 : Int) < 0)) (.ok true) (.br (osome (wtoCanal x0 x1 x2 x3 x4)) (wFnExactRunCanal_o109 x0 x1 x2 x3 x4 x5 x6 (oget (wtoCanal x0 x1 x2 x3 x4))) .bad))

noncomputable def wFnExactRunCanal (x0 : Nat) (x1 : Nat) (x2 : Nat) (x3 : List Nat) (x4 : List Nat) (x5 : List Nat) (x6 : Nat) : Option (Bool) := (wFnExactRunCanal_t x0 x1 x2 x3 x4 x5 x6).sem
end Go.Proofs.Ytikmeahdcipanaa
