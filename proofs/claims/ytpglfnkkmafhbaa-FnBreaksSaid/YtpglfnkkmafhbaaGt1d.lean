/- Functions, as plain functions. Plain functions. -/
import Derived.Test.YtpglfnkkmafhbaaDa
set_option linter.unusedVariables false
set_option linter.unusedSimpArgs false
set_option linter.constructorNameAsVariable false
namespace Go.Proofs.Ytpglfnkkmafhbaa
open Go.RowKit
set_option maxRecDepth 100000
noncomputable def wb10Long_t (x0 : List Int) (x1 : List Int) : Tr (Bool) :=
  .br (decide ((((List.length x0 : Nat) : Int) : Int) > 1048576)) (.ok true) (.ok (decide ((((List.length x1 : Nat) : Int) : Int) > 1048576)))

noncomputable def wb10Long (x0 : List Int) (x1 : List Int) : Bool := (wb10Long_t x0 x1).val

noncomputable def wb10At_t (x0 : List Int) (x1 : Int) (x2 : Int) : Tr (Int) :=
  .br (decide ((x2 : Int) ≤ 1)) (.ok 0) (.br (decide ((x1 : Int) < (((List.length x0 : Nat) : Int)))) (.br (decide (0 ≤ (x1 : Int)) && decide ((x1 : Int) < ((List.length x0 : Nat) : Int))) (.br (decide (x2 ≠ (0 : Int))) (.ok (Int.tmod (IntKind.wrap .i64 (List.getD x0 (Int.toNat x1) 0)) x2)) .bad) .bad) (.br (decide (x2 ≠ (0 : Int))) (.ok (Int.tmod (IntKind.wrap .i64 ((IntKind.wrap .i64 (x1 * 37)) + 11)) x2)) .bad))

noncomputable def wb10At (x0 : List Int) (x1 : Int) (x2 : Int) : Option (Int) := (wb10At_t x0 x1 x2).sem

noncomputable def iareLengths_l2_t (y0 : List Nat) (y1 : Int) (y2 : Int) : Tr (Int ⊕ (Unit ⊕ Unit)) :=
  .br (decide ((y2 : Int) < y1)) (.br (decide (0 ≤ (y2 : Int)) && decide ((y2 : Int) < ((List.length y0 : Nat) : Int))) (.br (! (isLen (List.getD y0 (Int.toNat y2) 0))) (.ok (.inr (.inl ()))) (.ok (.inl (IntKind.wrap .i64 (y2 + 1))))) .bad) (.ok (.inr (.inr ())))

noncomputable def iareLengths_l2 (y0 : List Nat) (y1 : Int) (y2 : Int) : Option (Unit ⊕ Unit) := runL (fun s : Int => (iareLengths_l2_t y0 y1 s).sem) y2

noncomputable def iareLengths_t (x0 : List Nat) : Tr (Bool) :=
  .br (osome (iareLengths_l2 x0 (((List.length x0 : Nat) : Int)) 0)) (.br (isL (oget (iareLengths_l2 x0 (((List.length x0 : Nat) : Int)) 0))) (.ok false) (.ok true)) .bad

noncomputable def iareLengths (x0 : List Nat) : Option (Bool) := (iareLengths_t x0).sem

noncomputable def ibroken_t (x0 : Nat) (x1 : Nat) (x2 : Nat) : Tr (Nat × Nat) :=
  .br (fle .f32 (fdiv .f32 x1 x2) (fneg .f32 (froot (fmul .f32 1092416963 x0)))) (.ok (x0, 0)) (.br (fge .f32 (fdiv .f32 x1 x2) (fmul .f32 1073741824 (froot (fmul .f32 1092416963 x0)))) (.ok (0, 0)) (.ok (fdiv .f32 (fmul .f32 (fsub .f32 (fmul .f32 1073741824 (froot (fmul .f32 1092416963 x0))) (fdiv .f32 x1 x2)) (fsub .f32 (fmul .f32 1073741824 (froot (fmul .f32 1092416963 x0))) (fdiv .f32 x1 x2))) 1118868603, fdiv .f32 (fmul .f32 1073741824 (fadd .f32 (froot (fmul .f32 1092416963 x0)) (fdiv .f32 x1 x2))) 1077936128)))

noncomputable def ibroken (x0 : Nat) (x1 : Nat) (x2 : Nat) : Nat × Nat := (ibroken_t x0 x1 x2).val

noncomputable def ifinite32_t (x0 : Nat) : Tr (Nat × Bool) :=
  .br (! (isFin .f32 x0)) (.ok (0, false)) (.ok (x0, true))

noncomputable def ifinite32 (x0 : Nat) : Nat × Bool := (ifinite32_t x0).val

noncomputable def iBreakDepth_t (x0 : Nat) (x1 : Nat) (x2 : Nat) : Tr (Nat × Bool) :=
  .br (osome (iareLengths [x0, x2])) (.br (!(oget (iareLengths [x0, x2]))) (.ok (0, false)) (.br (! (isFin .f32 x1)) (.ok (0, false)) (.ok ((ifinite32 ((ibroken x0 x1 x2).1)).1, (ifinite32 ((ibroken x0 x1 x2).1)).2)))) .bad

noncomputable def iBreakDepth (x0 : Nat) (x1 : Nat) (x2 : Nat) : Option (Nat × Bool) := (iBreakDepth_t x0 x1 x2).sem

noncomputable def iBreakFlow_t (x0 : Nat) (x1 : Nat) (x2 : Nat) : Tr (Nat × Bool) :=
  .br (osome (iareLengths [x0, x2])) (.br (!(oget (iareLengths [x0, x2]))) (.ok (0, false)) (.br (! (isFin .f32 x1)) (.ok (0, false)) (.ok ((ifinite32 (fmul .f32 ((ibroken x0 x1 x2).1) ((ibroken x0 x1 x2).2))).1, (ifinite32 (fmul .f32 ((ibroken x0 x1 x2).1) ((ibroken x0 x1 x2).2))).2)))) .bad

noncomputable def iBreakFlow (x0 : Nat) (x1 : Nat) (x2 : Nat) : Option (Nat × Bool) := (iBreakFlow_t x0 x1 x2).sem

noncomputable def wb10Gap_t (x0 : Nat) (x1 : Nat) : Tr (Nat) :=
  .br (flt .f64 x0 x1) (.ok (fsub .f64 x1 x0)) (.ok (fsub .f64 x0 x1))

noncomputable def wb10Gap (x0 : Nat) (x1 : Nat) : Nat := (wb10Gap_t x0 x1).val

noncomputable def wFnBreaks_o1 (v1 : Int) (v4 : Nat × Bool) (v5 : Nat × Bool) (v6 : Nat × Bool) (v7 : Nat × Bool) (v8 : Nat × Bool) (v9 : Nat × Bool) (v10 : Nat × Bool) : Tr (Bool) :=
  .br v4.2 (.br v5.2 (.br v6.2 (.br v7.2 (.br v8.2 (.br v9.2 (.br v10.2 (.br (fge .f32 v4.1 0) (.br (fle .f64 (fup v4.1) (fmul .f64 (fup (fdiv .f32 (FloatKind.nearest .f32 (IntKind.wrap .i64 (1 + v1))) 1082130432)) 4607186922399644778)) (.br (fle .f64 (fup v5.1) (fadd .f64 (fup v4.1) 4562254508917369340)) (.br (fge .f32 v6.1 3129152111) (.br (flt .f64 (wb10Gap (fmul .f64 (fup v7.1) 4621256167635550208) (fmul .f64 (fup (fdiv .f32 (FloatKind.nearest .f32 (IntKind.wrap .i64 (1 + v1))) 1082130432)) 4616189618054758400)) (fmul .f64 4576918229304087675 (fup (fdiv .f32 (FloatKind.nearest .f32 (IntKind.wrap .i64 (1 + v1))) 1082130432)))) (.br (feq .f32 v8.1 (fdiv .f32 (FloatKind.nearest .f32 (IntKind.wrap .i64 (1 + v1))) 1082130432)) (.br (feq .f32 v9.1 0) (.ok (feq .f32 v10.1 0)) (.ok false)) (.ok false)) (.ok false)) (.ok false)) (.ok false)) (.ok false)) (.ok false)) (.ok false)) (.ok false)) (.ok false)) (.ok false)) (.ok false)) (.ok false)) (.ok false)

noncomputable def wFnBreaks_o2 (v1 : Int) (v2 : Int) (v4 : Nat × Bool) (v5 : Nat × Bool) (v6 : Nat × Bool) (v7 : Nat × Bool) (v8 : Nat × Bool) (v9 : Nat × Bool) : Tr (Bool) :=
  .br (osome (iBreakFlow (fdiv .f32 (FloatKind.nearest .f32 (IntKind.wrap .i64 (1 + v1))) 1082130432) 1148846080 (fdiv .f32 (FloatKind.nearest .f32 (IntKind.wrap .i64 (1 + v2))) 1082130432))) (wFnBreaks_o1 v1 v4 v5 v6 v7 v8 v9 (oget (iBreakFlow (fdiv .f32 (FloatKind.nearest .f32 (IntKind.wrap .i64 (1 + v1))) 1082130432) 1148846080 (fdiv .f32 (FloatKind.nearest .f32 (IntKind.wrap .i64 (1 + v2))) 1082130432)))) .bad

noncomputable def wFnBreaks_o3 (v1 : Int) (v2 : Int) (v4 : Nat × Bool) (v5 : Nat × Bool) (v6 : Nat × Bool) (v7 : Nat × Bool) (v8 : Nat × Bool) : Tr (Bool) :=
  .br (osome (iBreakDepth (fdiv .f32 (FloatKind.nearest .f32 (IntKind.wrap .i64 (1 + v1))) 1082130432) 1148846080 (fdiv .f32 (FloatKind.nearest .f32 (IntKind.wrap .i64 (1 + v2))) 1082130432))) (wFnBreaks_o2 v1 v2 v4 v5 v6 v7 v8 (oget (iBreakDepth (fdiv .f32 (FloatKind.nearest .f32 (IntKind.wrap .i64 (1 + v1))) 1082130432) 1148846080 (fdiv .f32 (FloatKind.nearest .f32 (IntKind.wrap .i64 (1 + v2))) 1082130432)))) .bad

noncomputable def wFnBreaks_o4 (v1 : Int) (v2 : Int) (v4 : Nat × Bool) (v5 : Nat × Bool) (v6 : Nat × Bool) (v7 : Nat × Bool) : Tr (Bool) :=
  .br (osome (iBreakDepth (fdiv .f32 (FloatKind.nearest .f32 (IntKind.wrap .i64 (1 + v1))) 1082130432) 3296329728 (fdiv .f32 (FloatKind.nearest .f32 (IntKind.wrap .i64 (1 + v2))) 1082130432))) (wFnBreaks_o3 v1 v2 v4 v5 v6 v7 (oget (iBreakDepth (fdiv .f32 (FloatKind.nearest .f32 (IntKind.wrap .i64 (1 + v1))) 1082130432) 3296329728 (fdiv .f32 (FloatKind.nearest .f32 (IntKind.wrap .i64 (1 + v2))) 1082130432)))) .bad

noncomputable def wFnBreaks_o5 (v1 : Int) (v2 : Int) (v4 : Nat × Bool) (v5 : Nat × Bool) (v6 : Nat × Bool) : Tr (Bool) :=
  .br (osome (iBreakDepth (fdiv .f32 (FloatKind.nearest .f32 (IntKind.wrap .i64 (1 + v1))) 1082130432) 0 (fdiv .f32 (FloatKind.nearest .f32 (IntKind.wrap .i64 (1 + v2))) 1082130432))) (wFnBreaks_o4 v1 v2 v4 v5 v6 (oget (iBreakDepth (fdiv .f32 (FloatKind.nearest .f32 (IntKind.wrap .i64 (1 + v1))) 1082130432) 0 (fdiv .f32 (FloatKind.nearest .f32 (IntKind.wrap .i64 (1 + v2))) 1082130432)))) .bad

noncomputable def wFnBreaks_o6 (v1 : Int) (v2 : Int) (v3 : Int) (v4 : Nat × Bool) (v5 : Nat × Bool) : Tr (Bool) :=
  .br (osome (iBreakFlow (fdiv .f32 (FloatKind.nearest .f32 (IntKind.wrap .i64 (1 + v1))) 1082130432) (fdiv .f32 (FloatKind.nearest .f32 (IntKind.wrap .i64 (v3 - 64))) 1082130432) (fdiv .f32 (FloatKind.nearest .f32 (IntKind.wrap .i64 (1 + v2))) 1082130432))) (wFnBreaks_o5 v1 v2 v4 v5 (oget (iBreakFlow (fdiv .f32 (FloatKind.nearest .f32 (IntKind.wrap .i64 (1 + v1))) 1082130432) (fdiv .f32 (FloatKind.nearest .f32 (IntKind.wrap .i64 (v3 - 64))) 1082130432) (fdiv .f32 (FloatKind.nearest .f32 (IntKind.wrap .i64 (1 + v2))) 1082130432)))) .bad

noncomputable def wFnBreaks_o7 (v1 : Int) (v2 : Int) (v3 : Int) (v4 : Nat × Bool) : Tr (Bool) :=
  .br (osome (iBreakDepth (fdiv .f32 (FloatKind.nearest .f32 (IntKind.wrap .i64 (1 + v1))) 1082130432) (fadd .f32 (fdiv .f32 (FloatKind.nearest .f32 (IntKind.wrap .i64 (v3 - 64))) 1082130432) 1056964608) (fdiv .f32 (FloatKind.nearest .f32 (IntKind.wrap .i64 (1 + v2))) 1082130432))) (wFnBreaks_o6 v1 v2 v3 v4 (oget (iBreakDepth (fdiv .f32 (FloatKind.nearest .f32 (IntKind.wrap .i64 (1 + v1))) 1082130432) (fadd .f32 (fdiv .f32 (FloatKind.nearest .f32 (IntKind.wrap .i64 (v3 - 64))) 1082130432) 1056964608) (fdiv .f32 (FloatKind.nearest .f32 (IntKind.wrap .i64 (1 + v2))) 1082130432)))) .bad

noncomputable def wFnBreaks_o8 (v1 : Int) (v2 : Int) (v3 : Int) : Tr (Bool) :=
  .br (osome (iBreakDepth (fdiv .f32 (FloatKind.nearest .f32 (IntKind.wrap .i64 (1 + v1))) 1082130432) (fdiv .f32 (FloatKind.nearest .f32 (IntKind.wrap .i64 (v3 - 64))) 1082130432) (fdiv .f32 (FloatKind.nearest .f32 (IntKind.wrap .i64 (1 + v2))) 1082130432))) (wFnBreaks_o7 v1 v2 v3 (oget (iBreakDepth (fdiv .f32 (FloatKind.nearest .f32 (IntKind.wrap .i64 (1 + v1))) 1082130432) (fdiv .f32 (FloatKind.nearest .f32 (IntKind.wrap .i64 (v3 - 64))) 1082130432) (fdiv .f32 (FloatKind.nearest .f32 (IntKind.wrap .i64 (1 + v2))) 1082130432)))) .bad

noncomputable def wFnBreaks_o9 (x1 : List Int) (v1 : Int) (v2 : Int) : Tr (Bool) :=
  .br (osome (wb10At x1 0 129)) (wFnBreaks_o8 v1 v2 (oget (wb10At x1 0 129))) .bad

noncomputable def wFnBreaks_o10 (x0 : List Int) (x1 : List Int) (v1 : Int) : Tr (Bool) :=
  .br (osome (wb10At x0 1 16)) (wFnBreaks_o9 x1 v1 (oget (wb10At x0 1 16))) .bad

noncomputable def wFnBreaks_t (x0 : List Int) (x1 : List Int) : Tr (Bool) :=
  .br (wb10Long x0 x1) (.ok true) (.br (osome (wb10At x0 0 16)) (wFnBreaks_o10 x0 x1 (oget (wb10At x0 0 16))) .bad)

noncomputable def wFnBreaks (x0 : List Int) (x1 : List Int) : Option (Bool) := (wFnBreaks_t x0 x1).sem
end Go.Proofs.Ytpglfnkkmafhbaa
