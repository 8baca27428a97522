/- Functions, as plain functions. Plain functions. -/
import Derived.Test.YtpglfnkkmafhbaaDa
set_option linter.unusedVariables false
set_option linter.unusedSimpArgs false
set_option linter.constructorNameAsVariable false
namespace Go.Proofs.Ytpglfnkkmafhbaa
open Go.RowKit
set_option maxRecDepth 100000
noncomputable def wb10Long_t (x0 : List Int) (x1 : List Int) : Tr (Bool) :=
  .br (decide ((((List.length x0 : Nat) : Int) : Int) > 1048576)) (.ok true) (.ok (decide ((((List.length x1 : Nat) : Int) : Int) > 1048576)))

noncomputable def wb10Long (x0 : List Int) (x1 : List Int) : Bool := (wb10Long_t x0 x1).val

noncomputable def sl00From_t (x0 : List Int) : Tr (List Int × Int × Int) :=
  .ok (x0, 0, 0)

noncomputable def sl00From (x0 : List Int) : List Int × Int × Int := (sl00From_t x0).val

noncomputable def sl00Src_next_t (x0 : List Int) (x1 : Int) (x2 : Int) : Tr (Int × List Int × Int × Int) :=
  .br (decide ((x1 : Int) < (((List.length x0 : Nat) : Int)))) (.br (decide (0 ≤ (x1 : Int)) && decide ((x1 : Int) < ((List.length x0 : Nat) : Int))) (.br (decide ((IntKind.wrap .i64 (x1 + 1) : Int) ≤ (((List.length x0 : Nat) : Int)))) (.ok (IntKind.wrap .i64 (List.getD x0 (Int.toNat x1) 0), x0, IntKind.wrap .i64 (x1 + 1), IntKind.wrap .u64 ((IntKind.wrap .u64 ((IntKind.wrap .u64 (x2 * 6364136223846793005)) + (IntKind.wrap .u64 (IntKind.wrap .i64 (List.getD x0 (Int.toNat x1) 0))))) + 1442695040888963407))) (.br (decide ((0 : Int) ≤ 40)) (.ok (IntKind.wrap .i64 (iand .u64 (ishr .u64 (IntKind.wrap .u64 ((IntKind.wrap .u64 ((IntKind.wrap .u64 (x2 * 6364136223846793005)) + (IntKind.wrap .u64 (IntKind.wrap .i64 (List.getD x0 (Int.toNat x1) 0))))) + 1442695040888963407)) 40) 255), x0, IntKind.wrap .i64 (x1 + 1), IntKind.wrap .u64 ((IntKind.wrap .u64 ((IntKind.wrap .u64 (x2 * 6364136223846793005)) + (IntKind.wrap .u64 (IntKind.wrap .i64 (List.getD x0 (Int.toNat x1) 0))))) + 1442695040888963407))) .bad)) .bad) (.br (decide ((IntKind.wrap .i64 (x1 + 1) : Int) ≤ (((List.length x0 : Nat) : Int)))) (.ok (0, x0, IntKind.wrap .i64 (x1 + 1), IntKind.wrap .u64 ((IntKind.wrap .u64 ((IntKind.wrap .u64 (x2 * 6364136223846793005)) + (IntKind.wrap .u64 0))) + 1442695040888963407))) (.br (decide ((0 : Int) ≤ 40)) (.ok (IntKind.wrap .i64 (iand .u64 (ishr .u64 (IntKind.wrap .u64 ((IntKind.wrap .u64 ((IntKind.wrap .u64 (x2 * 6364136223846793005)) + (IntKind.wrap .u64 0))) + 1442695040888963407)) 40) 255), x0, IntKind.wrap .i64 (x1 + 1), IntKind.wrap .u64 ((IntKind.wrap .u64 ((IntKind.wrap .u64 (x2 * 6364136223846793005)) + (IntKind.wrap .u64 0))) + 1442695040888963407))) .bad))

noncomputable def sl00Src_next (x0 : List Int) (x1 : Int) (x2 : Int) : Option (Int × List Int × Int × Int) := (sl00Src_next_t x0 x1 x2).sem

noncomputable def sl00Src_pick_t (x0 : Int) (x1 : List Int) (x2 : Int) (x3 : Int) : Tr (Int × List Int × Int × Int) :=
  .br (decide ((x0 : Int) ≤ 1)) (.ok (0, x1, x2, x3)) (.br (osome (sl00Src_next x1 x2 x3)) (.br (decide ((x0 : Int) > 200)) (.br (osome (sl00Src_next (oget (sl00Src_next x1 x2 x3)).2.1 (oget (sl00Src_next x1 x2 x3)).2.2.1 (oget (sl00Src_next x1 x2 x3)).2.2.2)) (.br (decide (x0 ≠ (0 : Int))) (.ok (Int.tmod (IntKind.wrap .i64 ((IntKind.wrap .i64 ((oget (sl00Src_next x1 x2 x3)).1 * 256)) + (oget (sl00Src_next (oget (sl00Src_next x1 x2 x3)).2.1 (oget (sl00Src_next x1 x2 x3)).2.2.1 (oget (sl00Src_next x1 x2 x3)).2.2.2)).1)) x0, (oget (sl00Src_next (oget (sl00Src_next x1 x2 x3)).2.1 (oget (sl00Src_next x1 x2 x3)).2.2.1 (oget (sl00Src_next x1 x2 x3)).2.2.2)).2.1, (oget (sl00Src_next (oget (sl00Src_next x1 x2 x3)).2.1 (oget (sl00Src_next x1 x2 x3)).2.2.1 (oget (sl00Src_next x1 x2 x3)).2.2.2)).2.2.1, (oget (sl00Src_next (oget (sl00Src_next x1 x2 x3)).2.1 (oget (sl00Src_next x1 x2 x3)).2.2.1 (oget (sl00Src_next x1 x2 x3)).2.2.2)).2.2.2)) .bad) .bad) (.br (decide (x0 ≠ (0 : Int))) (.ok (Int.tmod (oget (sl00Src_next x1 x2 x3)).1 x0, (oget (sl00Src_next x1 x2 x3)).2.1, (oget (sl00Src_next x1 x2 x3)).2.2.1, (oget (sl00Src_next x1 x2 x3)).2.2.2)) .bad)) .bad)

noncomputable def sl00Src_pick (x0 : Int) (x1 : List Int) (x2 : Int) (x3 : Int) : Option (Int × List Int × Int × Int) := (sl00Src_pick_t x0 x1 x2 x3).sem

noncomputable def sB10Lake_l6_t0 (y0 : Nat) (y1 : Nat) (y2 : Int) (y3 : List Int) (y4 : Int) (y5 : Int) : Tr (((Nat × Nat × Int × List Int × Int × Int) ⊕ (Nat × Nat × Int × List Int × Int × Int × List Nat) ⊕ (Nat × Nat × Int × List Int × Int × Int × List Nat) ⊕ (Nat × Nat × Int × List Int × Int × Int × List Nat × List Nat)) ⊕ (Unit ⊕ (List Nat) ⊕ (List Nat) ⊕ (List Nat × List Nat))) :=
  .br (decide ((y2 : Int) > 0)) (.br (List.isEmpty [y0]) (.br (List.isEmpty [y1]) (.br (osome (sl00Src_pick 8 y3 y4 y5)) (.br (osome (sl00Src_pick 5 (oget (sl00Src_pick 8 y3 y4 y5)).2.1 (oget (sl00Src_pick 8 y3 y4 y5)).2.2.1 (oget (sl00Src_pick 8 y3 y4 y5)).2.2.2)) (.ok (.inl (.inl (fadd .f32 y0 (fdiv .f32 (FloatKind.nearest .f32 (IntKind.wrap .i64 (1 + (oget (sl00Src_pick 8 y3 y4 y5)).1))) 1073741824), fadd .f32 y1 (fdiv .f32 (FloatKind.nearest .f32 (oget (sl00Src_pick 5 (oget (sl00Src_pick 8 y3 y4 y5)).2.1 (oget (sl00Src_pick 8 y3 y4 y5)).2.2.1 (oget (sl00Src_pick 8 y3 y4 y5)).2.2.2)).1) 1073741824), IntKind.wrap .i64 (y2 - 1), (oget (sl00Src_pick 5 (oget (sl00Src_pick 8 y3 y4 y5)).2.1 (oget (sl00Src_pick 8 y3 y4 y5)).2.2.1 (oget (sl00Src_pick 8 y3 y4 y5)).2.2.2)).2.1, (oget (sl00Src_pick 5 (oget (sl00Src_pick 8 y3 y4 y5)).2.1 (oget (sl00Src_pick 8 y3 y4 y5)).2.2.1 (oget (sl00Src_pick 8 y3 y4 y5)).2.2.2)).2.2.1, (oget (sl00Src_pick 5 (oget (sl00Src_pick 8 y3 y4 y5)).2.1 (oget (sl00Src_pick 8 y3 y4 y5)).2.2.1 (oget (sl00Src_pick 8 y3 y4 y5)).2.2.2)).2.2.2)))) .bad) .bad) (.br (decide (List.length [y1] * 4 ≤ 140737488355328)) (.br (osome (sl00Src_pick 8 y3 y4 y5)) (.br (osome (sl00Src_pick 5 (oget (sl00Src_pick 8 y3 y4 y5)).2.1 (oget (sl00Src_pick 8 y3 y4 y5)).2.2.1 (oget (sl00Src_pick 8 y3 y4 y5)).2.2.2)) (.ok (.inl (.inr (.inl (fadd .f32 y0 (fdiv .f32 (FloatKind.nearest .f32 (IntKind.wrap .i64 (1 + (oget (sl00Src_pick 8 y3 y4 y5)).1))) 1073741824), fadd .f32 y1 (fdiv .f32 (FloatKind.nearest .f32 (oget (sl00Src_pick 5 (oget (sl00Src_pick 8 y3 y4 y5)).2.1 (oget (sl00Src_pick 8 y3 y4 y5)).2.2.1 (oget (sl00Src_pick 8 y3 y4 y5)).2.2.2)).1) 1073741824), IntKind.wrap .i64 (y2 - 1), (oget (sl00Src_pick 5 (oget (sl00Src_pick 8 y3 y4 y5)).2.1 (oget (sl00Src_pick 8 y3 y4 y5)).2.2.1 (oget (sl00Src_pick 8 y3 y4 y5)).2.2.2)).2.1, (oget (sl00Src_pick 5 (oget (sl00Src_pick 8 y3 y4 y5)).2.1 (oget (sl00Src_pick 8 y3 y4 y5)).2.2.1 (oget (sl00Src_pick 8 y3 y4 y5)).2.2.2)).2.2.1, (oget (sl00Src_pick 5 (oget (sl00Src_pick 8 y3 y4 y5)).2.1 (oget (sl00Src_pick 8 y3 y4 y5)).2.2.1 (oget (sl00Src_pick 8 y3 y4 y5)).2.2.2)).2.2.2, [y1]))))) .bad) .bad) .bad)) (.br (decide (List.length [y0] * 4 ≤ 140737488355328)) (.br (List.isEmpty [y1]) (.br (osome (sl00Src_pick 8 y3 y4 y5)) (.br (osome (sl00Src_pick 5 (oget (sl00Src_pick 8 y3 y4 y5)).2.1 (oget (sl00Src_pick 8 y3 y4 y5)).2.2.1 (oget (sl00Src_pick 8 y3 y4 y5)).2.2.2)) (.ok (.inl (.inr (.inr (.inl (fadd .f32 y0 (fdiv .f32 (FloatKind.nearest .f32 (IntKind.wrap .i64 (1 + (oget (sl00Src_pick 8 y3 y4 y5)).1))) 1073741824), fadd .f32 y1 (fdiv .f32 (FloatKind.nearest .f32 (oget (sl00Src_pick 5 (oget (sl00Src_pick 8 y3 y4 y5)).2.1 (oget (sl00Src_pick 8 y3 y4 y5)).2.2.1 (oget (sl00Src_pick 8 y3 y4 y5)).2.2.2)).1) 1073741824), IntKind.wrap .i64 (y2 - 1), (oget (sl00Src_pick 5 (oget (sl00Src_pick 8 y3 y4 y5)).2.1 (oget (sl00Src_pick 8 y3 y4 y5)).2.2.1 (oget (sl00Src_pick 8 y3 y4 y5)).2.2.2)).2.1, (oget (sl00Src_pick 5 (oget (sl00Src_pick 8 y3 y4 y5)).2.1 (oget (sl00Src_pick 8 y3 y4 y5)).2.2.1 (oget (sl00Src_pick 8 y3 y4 y5)).2.2.2)).2.2.1, (oget (sl00Src_pick 5 (oget (sl00Src_pick 8 y3 y4 y5)).2.1 (oget (sl00Src_pick 8 y3 y4 y5)).2.2.1 (oget (sl00Src_pick 8 y3 y4 y5)).2.2.2)).2.2.2, [y0])))))) .bad) .bad) (.br (decide (List.length [y1] * 4 ≤ 140737488355328)) (.br (osome (sl00Src_pick 8 y3 y4 y5)) (.br (osome (sl00Src_pick 5 (oget (sl00Src_pick 8 y3 y4 y5)).2.1 (oget (sl00Src_pick 8 y3 y4 y5)).2.2.1 (oget (sl00Src_pick 8 y3 y4 y5)).2.2.2)) (.ok (.inl (.inr (.inr (.inr (fadd .f32 y0 (fdiv .f32 (FloatKind.nearest .f32 (IntKind.wrap .i64 (1 + (oget (sl00Src_pick 8 y3 y4 y5)).1))) 1073741824), fadd .f32 y1 (fdiv .f32 (FloatKind.nearest .f32 (oget (sl00Src_pick 5 (oget (sl00Src_pick 8 y3 y4 y5)).2.1 (oget (sl00Src_pick 8 y3 y4 y5)).2.2.1 (oget (sl00Src_pick 8 y3 y4 y5)).2.2.2)).1) 1073741824), IntKind.wrap .i64 (y2 - 1), (oget (sl00Src_pick 5 (oget (sl00Src_pick 8 y3 y4 y5)).2.1 (oget (sl00Src_pick 8 y3 y4 y5)).2.2.1 (oget (sl00Src_pick 8 y3 y4 y5)).2.2.2)).2.1, (oget (sl00Src_pick 5 (oget (sl00Src_pick 8 y3 y4 y5)).2.1 (oget (sl00Src_pick 8 y3 y4 y5)).2.2.1 (oget (sl00Src_pick 8 y3 y4 y5)).2.2.2)).2.2.1, (oget (sl00Src_pick 5 (oget (sl00Src_pick 8 y3 y4 y5)).2.1 (oget (sl00Src_pick 8 y3 y4 y5)).2.2.1 (oget (sl00Src_pick 8 y3 y4 y5)).2.2.2)).2.2.2, [y0], [y1])))))) .bad) .bad) .bad)) .bad)) (.ok (.inr (.inl ())))

noncomputable def sB10Lake_l6_t1 (y0 : Nat) (y1 : Nat) (y2 : Int) (y3 : List Int) (y4 : Int) (y5 : Int) (y6 : List Nat) : Tr (((Nat × Nat × Int × List Int × Int × Int) ⊕ (Nat × Nat × Int × List Int × Int × Int × List Nat) ⊕ (Nat × Nat × Int × List Int × Int × Int × List Nat) ⊕ (Nat × Nat × Int × List Int × Int × Int × List Nat × List Nat)) ⊕ (Unit ⊕ (List Nat) ⊕ (List Nat) ⊕ (List Nat × List Nat))) :=
  .br (decide ((y2 : Int) > 0)) (.br (List.isEmpty [y0]) (.br (decide ((List.length y6 + List.length [y1]) * 4 ≤ 140737488355328)) (.br (osome (sl00Src_pick 8 y3 y4 y5)) (.br (osome (sl00Src_pick 5 (oget (sl00Src_pick 8 y3 y4 y5)).2.1 (oget (sl00Src_pick 8 y3 y4 y5)).2.2.1 (oget (sl00Src_pick 8 y3 y4 y5)).2.2.2)) (.ok (.inl (.inr (.inl (fadd .f32 y0 (fdiv .f32 (FloatKind.nearest .f32 (IntKind.wrap .i64 (1 + (oget (sl00Src_pick 8 y3 y4 y5)).1))) 1073741824), fadd .f32 y1 (fdiv .f32 (FloatKind.nearest .f32 (oget (sl00Src_pick 5 (oget (sl00Src_pick 8 y3 y4 y5)).2.1 (oget (sl00Src_pick 8 y3 y4 y5)).2.2.1 (oget (sl00Src_pick 8 y3 y4 y5)).2.2.2)).1) 1073741824), IntKind.wrap .i64 (y2 - 1), (oget (sl00Src_pick 5 (oget (sl00Src_pick 8 y3 y4 y5)).2.1 (oget (sl00Src_pick 8 y3 y4 y5)).2.2.1 (oget (sl00Src_pick 8 y3 y4 y5)).2.2.2)).2.1, (oget (sl00Src_pick 5 (oget (sl00Src_pick 8 y3 y4 y5)).2.1 (oget (sl00Src_pick 8 y3 y4 y5)).2.2.1 (oget (sl00Src_pick 8 y3 y4 y5)).2.2.2)).2.2.1, (oget (sl00Src_pick 5 (oget (sl00Src_pick 8 y3 y4 y5)).2.1 (oget (sl00Src_pick 8 y3 y4 y5)).2.2.1 (oget (sl00Src_pick 8 y3 y4 y5)).2.2.2)).2.2.2, y6 ++ [y1]))))) .bad) .bad) .bad) (.br (decide (List.length [y0] * 4 ≤ 140737488355328)) (.br (decide ((List.length y6 + List.length [y1]) * 4 ≤ 140737488355328)) (.br (osome (sl00Src_pick 8 y3 y4 y5)) (.br (osome (sl00Src_pick 5 (oget (sl00Src_pick 8 y3 y4 y5)).2.1 (oget (sl00Src_pick 8 y3 y4 y5)).2.2.1 (oget (sl00Src_pick 8 y3 y4 y5)).2.2.2)) (.ok (.inl (.inr (.inr (.inr (fadd .f32 y0 (fdiv .f32 (FloatKind.nearest .f32 (IntKind.wrap .i64 (1 + (oget (sl00Src_pick 8 y3 y4 y5)).1))) 1073741824), fadd .f32 y1 (fdiv .f32 (FloatKind.nearest .f32 (oget (sl00Src_pick 5 (oget (sl00Src_pick 8 y3 y4 y5)).2.1 (oget (sl00Src_pick 8 y3 y4 y5)).2.2.1 (oget (sl00Src_pick 8 y3 y4 y5)).2.2.2)).1) 1073741824), IntKind.wrap .i64 (y2 - 1), (oget (sl00Src_pick 5 (oget (sl00Src_pick 8 y3 y4 y5)).2.1 (oget (sl00Src_pick 8 y3 y4 y5)).2.2.1 (oget (sl00Src_pick 8 y3 y4 y5)).2.2.2)).2.1, (oget (sl00Src_pick 5 (oget (sl00Src_pick 8 y3 y4 y5)).2.1 (oget (sl00Src_pick 8 y3 y4 y5)).2.2.1 (oget (sl00Src_pick 8 y3 y4 y5)).2.2.2)).2.2.1, (oget (sl00Src_pick 5 (oget (sl00Src_pick 8 y3 y4 y5)).2.1 (oget (sl00Src_pick 8 y3 y4 y5)).2.2.1 (oget (sl00Src_pick 8 y3 y4 y5)).2.2.2)).2.2.2, [y0], y6 ++ [y1])))))) .bad) .bad) .bad) .bad)) (.ok (.inr (.inr (.inl y6))))

noncomputable def sB10Lake_l6_t2 (y0 : Nat) (y1 : Nat) (y2 : Int) (y3 : List Int) (y4 : Int) (y5 : Int) (y6 : List Nat) : Tr (((Nat × Nat × Int × List Int × Int × Int) ⊕ (Nat × Nat × Int × List Int × Int × Int × List Nat) ⊕ (Nat × Nat × Int × List Int × Int × Int × List Nat) ⊕ (Nat × Nat × Int × List Int × Int × Int × List Nat × List Nat)) ⊕ (Unit ⊕ (List Nat) ⊕ (List Nat) ⊕ (List Nat × List Nat))) :=
  .br (decide ((y2 : Int) > 0)) (.br (decide ((List.length y6 + List.length [y0]) * 4 ≤ 140737488355328)) (.br (List.isEmpty [y1]) (.br (osome (sl00Src_pick 8 y3 y4 y5)) (.br (osome (sl00Src_pick 5 (oget (sl00Src_pick 8 y3 y4 y5)).2.1 (oget (sl00Src_pick 8 y3 y4 y5)).2.2.1 (oget (sl00Src_pick 8 y3 y4 y5)).2.2.2)) (.ok (.inl (.inr (.inr (.inl (fadd .f32 y0 (fdiv .f32 (FloatKind.nearest .f32 (IntKind.wrap .i64 (1 + (oget (sl00Src_pick 8 y3 y4 y5)).1))) 1073741824), fadd .f32 y1 (fdiv .f32 (FloatKind.nearest .f32 (oget (sl00Src_pick 5 (oget (sl00Src_pick 8 y3 y4 y5)).2.1 (oget (sl00Src_pick 8 y3 y4 y5)).2.2.1 (oget (sl00Src_pick 8 y3 y4 y5)).2.2.2)).1) 1073741824), IntKind.wrap .i64 (y2 - 1), (oget (sl00Src_pick 5 (oget (sl00Src_pick 8 y3 y4 y5)).2.1 (oget (sl00Src_pick 8 y3 y4 y5)).2.2.1 (oget (sl00Src_pick 8 y3 y4 y5)).2.2.2)).2.1, (oget (sl00Src_pick 5 (oget (sl00Src_pick 8 y3 y4 y5)).2.1 (oget (sl00Src_pick 8 y3 y4 y5)).2.2.1 (oget (sl00Src_pick 8 y3 y4 y5)).2.2.2)).2.2.1, (oget (sl00Src_pick 5 (oget (sl00Src_pick 8 y3 y4 y5)).2.1 (oget (sl00Src_pick 8 y3 y4 y5)).2.2.1 (oget (sl00Src_pick 8 y3 y4 y5)).2.2.2)).2.2.2, y6 ++ [y0])))))) .bad) .bad) (.br (decide (List.length [y1] * 4 ≤ 140737488355328)) (.br (osome (sl00Src_pick 8 y3 y4 y5)) (.br (osome (sl00Src_pick 5 (oget (sl00Src_pick 8 y3 y4 y5)).2.1 (oget (sl00Src_pick 8 y3 y4 y5)).2.2.1 (oget (sl00Src_pick 8 y3 y4 y5)).2.2.2)) (.ok (.inl (.inr (.inr (.inr (fadd .f32 y0 (fdiv .f32 (FloatKind.nearest .f32 (IntKind.wrap .i64 (1 + (oget (sl00Src_pick 8 y3 y4 y5)).1))) 1073741824), fadd .f32 y1 (fdiv .f32 (FloatKind.nearest .f32 (oget (sl00Src_pick 5 (oget (sl00Src_pick 8 y3 y4 y5)).2.1 (oget (sl00Src_pick 8 y3 y4 y5)).2.2.1 (oget (sl00Src_pick 8 y3 y4 y5)).2.2.2)).1) 1073741824), IntKind.wrap .i64 (y2 - 1), (oget (sl00Src_pick 5 (oget (sl00Src_pick 8 y3 y4 y5)).2.1 (oget (sl00Src_pick 8 y3 y4 y5)).2.2.1 (oget (sl00Src_pick 8 y3 y4 y5)).2.2.2)).2.1, (oget (sl00Src_pick 5 (oget (sl00Src_pick 8 y3 y4 y5)).2.1 (oget (sl00Src_pick 8 y3 y4 y5)).2.2.1 (oget (sl00Src_pick 8 y3 y4 y5)).2.2.2)).2.2.1, (oget (sl00Src_pick 5 (oget (sl00Src_pick 8 y3 y4 y5)).2.1 (oget (sl00Src_pick 8 y3 y4 y5)).2.2.1 (oget (sl00Src_pick 8 y3 y4 y5)).2.2.2)).2.2.2, y6 ++ [y0], [y1])))))) .bad) .bad) .bad)) .bad) (.ok (.inr (.inr (.inr (.inl y6)))))

noncomputable def sB10Lake_l6_t3 (y0 : Nat) (y1 : Nat) (y2 : Int) (y3 : List Int) (y4 : Int) (y5 : Int) (y6 : List Nat) (y7 : List Nat) : Tr (((Nat × Nat × Int × List Int × Int × Int) ⊕ (Nat × Nat × Int × List Int × Int × Int × List Nat) ⊕ (Nat × Nat × Int × List Int × Int × Int × List Nat) ⊕ (Nat × Nat × Int × List Int × Int × Int × List Nat × List Nat)) ⊕ (Unit ⊕ (List Nat) ⊕ (List Nat) ⊕ (List Nat × List Nat))) :=
  .br (decide ((y2 : Int) > 0)) (.br (decide ((List.length y6 + List.length [y0]) * 4 ≤ 140737488355328)) (.br (decide ((List.length y7 + List.length [y1]) * 4 ≤ 140737488355328)) (.br (osome (sl00Src_pick 8 y3 y4 y5)) (.br (osome (sl00Src_pick 5 (oget (sl00Src_pick 8 y3 y4 y5)).2.1 (oget (sl00Src_pick 8 y3 y4 y5)).2.2.1 (oget (sl00Src_pick 8 y3 y4 y5)).2.2.2)) (.ok (.inl (.inr (.inr (.inr (fadd .f32 y0 (fdiv .f32 (FloatKind.nearest .f32 (IntKind.wrap .i64 (1 + (oget (sl00Src_pick 8 y3 y4 y5)).1))) 1073741824), fadd .f32 y1 (fdiv .f32 (FloatKind.nearest .f32 (oget (sl00Src_pick 5 (oget (sl00Src_pick 8 y3 y4 y5)).2.1 (oget (sl00Src_pick 8 y3 y4 y5)).2.2.1 (oget (sl00Src_pick 8 y3 y4 y5)).2.2.2)).1) 1073741824), IntKind.wrap .i64 (y2 - 1), (oget (sl00Src_pick 5 (oget (sl00Src_pick 8 y3 y4 y5)).2.1 (oget (sl00Src_pick 8 y3 y4 y5)).2.2.1 (oget (sl00Src_pick 8 y3 y4 y5)).2.2.2)).2.1, (oget (sl00Src_pick 5 (oget (sl00Src_pick 8 y3 y4 y5)).2.1 (oget (sl00Src_pick 8 y3 y4 y5)).2.2.1 (oget (sl00Src_pick 8 y3 y4 y5)).2.2.2)).2.2.1, (oget (sl00Src_pick 5 (oget (sl00Src_pick 8 y3 y4 y5)).2.1 (oget (sl00Src_pick 8 y3 y4 y5)).2.2.1 (oget (sl00Src_pick 8 y3 y4 y5)).2.2.2)).2.2.2, y6 ++ [y0], y7 ++ [y1])))))) .bad) .bad) .bad) .bad) (.ok (.inr (.inr (.inr (.inr (y6, y7))))))

noncomputable def sB10Lake_l6_s : ((Nat × Nat × Int × List Int × Int × Int) ⊕ (Nat × Nat × Int × List Int × Int × Int × List Nat) ⊕ (Nat × Nat × Int × List Int × Int × Int × List Nat) ⊕ (Nat × Nat × Int × List Int × Int × Int × List Nat × List Nat)) → Option (((Nat × Nat × Int × List Int × Int × Int) ⊕ (Nat × Nat × Int × List Int × Int × Int × List Nat) ⊕ (Nat × Nat × Int × List Int × Int × Int × List Nat) ⊕ (Nat × Nat × Int × List Int × Int × Int × List Nat × List Nat)) ⊕ (Unit ⊕ (List Nat) ⊕ (List Nat) ⊕ (List Nat × List Nat)))
  | (.inl y) => (sB10Lake_l6_t0 y.1 y.2.1 y.2.2.1 y.2.2.2.1 y.2.2.2.2.1 y.2.2.2.2.2).sem
  | (.inr (.inl y)) => (sB10Lake_l6_t1 y.1 y.2.1 y.2.2.1 y.2.2.2.1 y.2.2.2.2.1 y.2.2.2.2.2.1 y.2.2.2.2.2.2).sem
  | (.inr (.inr (.inl y))) => (sB10Lake_l6_t2 y.1 y.2.1 y.2.2.1 y.2.2.2.1 y.2.2.2.2.1 y.2.2.2.2.2.1 y.2.2.2.2.2.2).sem
  | (.inr (.inr (.inr y))) => (sB10Lake_l6_t3 y.1 y.2.1 y.2.2.1 y.2.2.2.1 y.2.2.2.2.1 y.2.2.2.2.2.1 y.2.2.2.2.2.2.1 y.2.2.2.2.2.2.2).sem

noncomputable def sB10Lake_l6 (x : (Nat × Nat × Int × List Int × Int × Int) ⊕ (Nat × Nat × Int × List Int × Int × Int × List Nat) ⊕ (Nat × Nat × Int × List Int × Int × Int × List Nat) ⊕ (Nat × Nat × Int × List Int × Int × Int × List Nat × List Nat)) : Option (Unit ⊕ (List Nat) ⊕ (List Nat) ⊕ (List Nat × List Nat)) := runL sB10Lake_l6_s x

noncomputable def sB10Lake_o1 (v3 : Unit ⊕ ((List Nat) ⊕ ((List Nat) ⊕ ((List Nat) × (List Nat))))) : Tr (Unit ⊕ (List Nat) ⊕ (List Nat) ⊕ (List Nat × List Nat)) :=
  .br (isL v3) (.ok (.inl ())) (.br (isL (unR v3)) (.ok (.inr (.inl (unL (unR v3))))) (.br (isL (unR (unR v3))) (.ok (.inr (.inr (.inl (unL (unR (unR v3))))))) (.ok (.inr (.inr (.inr ((unR (unR (unR v3))).1, (unR (unR (unR v3))).2)))))))

noncomputable def sB10Lake_o2 (v1 : Int × ((List Int) × (Int × Int))) (v2 : Int × ((List Int) × (Int × Int))) : Tr (Unit ⊕ (List Nat) ⊕ (List Nat) ⊕ (List Nat × List Nat)) :=
  .br (osome (sB10Lake_l6 (.inl ((fdiv .f32 (FloatKind.nearest .f32 v1.1) 1073741824, (0, (IntKind.wrap .i64 (2 + v2.1), v2.2))))))) (sB10Lake_o1 (oget (sB10Lake_l6 (.inl ((fdiv .f32 (FloatKind.nearest .f32 v1.1) 1073741824, (0, (IntKind.wrap .i64 (2 + v2.1), v2.2)))))))) .bad

noncomputable def sB10Lake_o3 (v1 : Int × ((List Int) × (Int × Int))) : Tr (Unit ⊕ (List Nat) ⊕ (List Nat) ⊕ (List Nat × List Nat)) :=
  .br (osome (sl00Src_pick 4 v1.2.1 v1.2.2.1 v1.2.2.2)) (sB10Lake_o2 v1 (oget (sl00Src_pick 4 v1.2.1 v1.2.2.1 v1.2.2.2))) .bad

noncomputable def sB10Lake_t (x0 : List Int) : Tr (Unit ⊕ (List Nat) ⊕ (List Nat) ⊕ (List Nat × List Nat)) :=
  .br (osome (sl00Src_pick 5 ((sl00From x0).1) (((sl00From x0).2).1) (((sl00From x0).2).2))) (sB10Lake_o3 (oget (sl00Src_pick 5 ((sl00From x0).1) (((sl00From x0).2).1) (((sl00From x0).2).2)))) .bad

noncomputable def sB10Lake (x0 : List Int) : Option (Unit ⊕ (List Nat) ⊕ (List Nat) ⊕ (List Nat × List Nat)) := (sB10Lake_t x0).sem

noncomputable def wb10At_t (x0 : List Int) (x1 : Int) (x2 : Int) : Tr (Int) :=
  .br (decide ((x2 : Int) ≤ 1)) (.ok 0) (.br (decide ((x1 : Int) < (((List.length x0 : Nat) : Int)))) (.br (decide (0 ≤ (x1 : Int)) && decide ((x1 : Int) < ((List.length x0 : Nat) : Int))) (.br (decide (x2 ≠ (0 : Int))) (.ok (Int.tmod (IntKind.wrap .i64 (List.getD x0 (Int.toNat x1) 0)) x2)) .bad) .bad) (.br (decide (x2 ≠ (0 : Int))) (.ok (Int.tmod (IntKind.wrap .i64 ((IntKind.wrap .i64 (x1 * 37)) + 11)) x2)) .bad))

noncomputable def wb10At (x0 : List Int) (x1 : Int) (x2 : Int) : Option (Int) := (wb10At_t x0 x1 x2).sem

noncomputable def iwithin_t (x0 : Int) (x1 : Int) (x2 : Int) : Tr (Bool) :=
  .br (decide ((x1 : Int) ≤ x0)) (.ok (decide ((x0 : Int) ≤ x2))) (.ok false)

noncomputable def iwithin (x0 : Int) (x1 : Int) (x2 : Int) : Bool := (iwithin_t x0 x1 x2).val

noncomputable def iareMasses_1_t (x0 : Nat) : Tr (Bool) :=
  .ok (! (isMass x0))

noncomputable def iareMasses_1 (x0 : Nat) : Bool := (iareMasses_1_t x0).val

noncomputable def lIndexFunc_iareMasses_1_l2_t (y0 : List Nat) (y1 : Int) (y2 : Int) : Tr (Int ⊕ (Int ⊕ Unit)) :=
  .br (decide ((y2 : Int) < y1)) (.br (decide (0 ≤ (y2 : Int)) && decide ((y2 : Int) < ((List.length y0 : Nat) : Int))) (.br (iareMasses_1 (List.getD y0 (Int.toNat y2) 0)) (.ok (.inr (.inl y2))) (.ok (.inl (IntKind.wrap .i64 (y2 + 1))))) .bad) (.ok (.inr (.inr ())))

noncomputable def lIndexFunc_iareMasses_1_l2 (y0 : List Nat) (y1 : Int) (y2 : Int) : Option (Int ⊕ Unit) := runL (fun s : Int => (lIndexFunc_iareMasses_1_l2_t y0 y1 s).sem) y2

noncomputable def lIndexFunc_iareMasses_1_t (x0 : List Nat) : Tr (Int) :=
  .br (osome (lIndexFunc_iareMasses_1_l2 x0 (((List.length x0 : Nat) : Int)) 0)) (.br (isL (oget (lIndexFunc_iareMasses_1_l2 x0 (((List.length x0 : Nat) : Int)) 0))) (.ok (unL (oget (lIndexFunc_iareMasses_1_l2 x0 (((List.length x0 : Nat) : Int)) 0)))) (.ok (-1))) .bad

noncomputable def lIndexFunc_iareMasses_1 (x0 : List Nat) : Option (Int) := (lIndexFunc_iareMasses_1_t x0).sem

noncomputable def lContainsFunc_iareMasses_1_t (x0 : List Nat) : Tr (Bool) :=
  .br (osome (lIndexFunc_iareMasses_1 x0)) (.ok (decide (((oget (lIndexFunc_iareMasses_1 x0)) : Int) ≥ 0))) .bad

noncomputable def lContainsFunc_iareMasses_1 (x0 : List Nat) : Option (Bool) := (lContainsFunc_iareMasses_1_t x0).sem

noncomputable def iareMasses_t (x0 : List Nat) : Tr (Bool) :=
  .br (osome (lContainsFunc_iareMasses_1 x0)) (.ok (!(oget (lContainsFunc_iareMasses_1 x0)))) .bad

noncomputable def iareMasses (x0 : List Nat) : Option (Bool) := (iareMasses_t x0).sem

noncomputable def iValidLake_l4_t (y1 : List Nat) (y2 : List Nat) (y0 : Int) : Tr (Int ⊕ (Unit ⊕ Unit)) :=
  .br (decide ((y0 : Int) < (((List.length y1 : Nat) : Int)))) (.br (decide (0 ≤ (y0 : Int)) && decide ((y0 : Int) < ((List.length y1 : Nat) : Int))) (.br (decide (0 ≤ (IntKind.wrap .i64 (y0 - 1) : Int)) && decide ((IntKind.wrap .i64 (y0 - 1) : Int) < ((List.length y1 : Nat) : Int))) (.br (! (fgt .f32 (List.getD y1 (Int.toNat y0) 0) (List.getD y1 (Int.toNat (IntKind.wrap .i64 (y0 - 1))) 0))) (.ok (.inr (.inl ()))) (.br (decide (0 ≤ (y0 : Int)) && decide ((y0 : Int) < ((List.length y2 : Nat) : Int))) (.br (decide (0 ≤ (IntKind.wrap .i64 (y0 - 1) : Int)) && decide ((IntKind.wrap .i64 (y0 - 1) : Int) < ((List.length y2 : Nat) : Int))) (.br (flt .f32 (List.getD y2 (Int.toNat y0) 0) (List.getD y2 (Int.toNat (IntKind.wrap .i64 (y0 - 1))) 0)) (.ok (.inr (.inl ()))) (.ok (.inl (IntKind.wrap .i64 (y0 + 1))))) .bad) .bad)) .bad) .bad) (.ok (.inr (.inr ())))

noncomputable def iValidLake_l4 (y0 : Int) (y1 : List Nat) (y2 : List Nat) : Option (Unit ⊕ Unit) := runL (fun s : Int => (iValidLake_l4_t y1 y2 s).sem) y0

noncomputable def iValidLake_t (x0 : List Nat) (x1 : List Nat) : Tr (Bool) :=
  .br (! (iwithin (((List.length x0 : Nat) : Int)) 2 16)) (.ok false) (.br ((((List.length x1 : Nat) : Int) : Int) != (((List.length x0 : Nat) : Int))) (.ok false) (.br (osome (iareMasses x0)) (.br (!(oget (iareMasses x0))) (.ok false) (.br (osome (iareMasses x1)) (.br (!(oget (iareMasses x1))) (.ok false) (.br (osome (iValidLake_l4 1 x0 x1)) (.br (isL (oget (iValidLake_l4 1 x0 x1))) (.ok false) (.ok true)) .bad)) .bad)) .bad))

noncomputable def iValidLake (x0 : List Nat) (x1 : List Nat) : Option (Bool) := (iValidLake_t x0 x1).sem

noncomputable def iLake_out_1_t (x0 : Nat) (x1 : Nat) : Tr (Bool) :=
  .ok (fge .f32 x0 x1)

noncomputable def iLake_out_1 (x0 : Nat) (x1 : Nat) : Bool := (iLake_out_1_t x0 x1).val

noncomputable def lIndexFunc_iLake_out_1_l2_t (y0 : List Nat) (y1 : Nat) (y2 : Int) (y3 : Int) : Tr (Int ⊕ (Int ⊕ Unit)) :=
  .br (decide ((y3 : Int) < y2)) (.br (decide (0 ≤ (y3 : Int)) && decide ((y3 : Int) < ((List.length y0 : Nat) : Int))) (.br (iLake_out_1 (List.getD y0 (Int.toNat y3) 0) y1) (.ok (.inr (.inl y3))) (.ok (.inl (IntKind.wrap .i64 (y3 + 1))))) .bad) (.ok (.inr (.inr ())))

noncomputable def lIndexFunc_iLake_out_1_l2 (y0 : List Nat) (y1 : Nat) (y2 : Int) (y3 : Int) : Option (Int ⊕ Unit) := runL (fun s : Int => (lIndexFunc_iLake_out_1_l2_t y0 y1 y2 s).sem) y3

noncomputable def lIndexFunc_iLake_out_1_t (x0 : List Nat) (x1 : Nat) : Tr (Int) :=
  .br (osome (lIndexFunc_iLake_out_1_l2 x0 x1 (((List.length x0 : Nat) : Int)) 0)) (.br (isL (oget (lIndexFunc_iLake_out_1_l2 x0 x1 (((List.length x0 : Nat) : Int)) 0))) (.ok (unL (oget (lIndexFunc_iLake_out_1_l2 x0 x1 (((List.length x0 : Nat) : Int)) 0)))) (.ok (-1))) .bad

noncomputable def lIndexFunc_iLake_out_1 (x0 : List Nat) (x1 : Nat) : Option (Int) := (lIndexFunc_iLake_out_1_t x0 x1).sem

noncomputable def iLake_out_t (x0 : List Nat) (x1 : List Nat) (x2 : Nat) : Tr (Nat) :=
  .br (decide (0 ≤ (0 : Int)) && decide ((0 : Int) < ((List.length x0 : Nat) : Int))) (.br (fle .f32 x2 (List.getD x0 (Int.toNat 0) 0)) (.br (decide (0 ≤ (0 : Int)) && decide ((0 : Int) < ((List.length x1 : Nat) : Int))) (.ok (List.getD x1 (Int.toNat 0) 0)) .bad) (.br (decide (0 ≤ (IntKind.wrap .i64 ((((List.length x0 : Nat) : Int)) - 1) : Int)) && decide ((IntKind.wrap .i64 ((((List.length x0 : Nat) : Int)) - 1) : Int) < ((List.length x0 : Nat) : Int))) (.br (fge .f32 x2 (List.getD x0 (Int.toNat (IntKind.wrap .i64 ((((List.length x0 : Nat) : Int)) - 1))) 0)) (.br (decide (0 ≤ (IntKind.wrap .i64 ((((List.length x0 : Nat) : Int)) - 1) : Int)) && decide ((IntKind.wrap .i64 ((((List.length x0 : Nat) : Int)) - 1) : Int) < ((List.length x1 : Nat) : Int))) (.ok (List.getD x1 (Int.toNat (IntKind.wrap .i64 ((((List.length x0 : Nat) : Int)) - 1))) 0)) .bad) (.br (osome (lIndexFunc_iLake_out_1 x0 x2)) (.br (decide (0 ≤ (IntKind.wrap .i64 ((oget (lIndexFunc_iLake_out_1 x0 x2)) - 1) : Int)) && decide ((IntKind.wrap .i64 ((oget (lIndexFunc_iLake_out_1 x0 x2)) - 1) : Int) < ((List.length x1 : Nat) : Int))) (.br (decide (0 ≤ (IntKind.wrap .i64 ((oget (lIndexFunc_iLake_out_1 x0 x2)) - 1) : Int)) && decide ((IntKind.wrap .i64 ((oget (lIndexFunc_iLake_out_1 x0 x2)) - 1) : Int) < ((List.length x0 : Nat) : Int))) (.br (decide (0 ≤ ((oget (lIndexFunc_iLake_out_1 x0 x2)) : Int)) && decide (((oget (lIndexFunc_iLake_out_1 x0 x2)) : Int) < ((List.length x0 : Nat) : Int))) (.br (decide (0 ≤ (IntKind.wrap .i64 ((oget (lIndexFunc_iLake_out_1 x0 x2)) - 1) : Int)) && decide ((IntKind.wrap .i64 ((oget (lIndexFunc_iLake_out_1 x0 x2)) - 1) : Int) < ((List.length x0 : Nat) : Int))) (.br (decide (0 ≤ ((oget (lIndexFunc_iLake_out_1 x0 x2)) : Int)) && decide (((oget (lIndexFunc_iLake_out_1 x0 x2)) : Int) < ((List.length x1 : Nat) : Int))) (.br (decide (0 ≤ (IntKind.wrap .i64 ((oget (lIndexFunc_iLake_out_1 x0 x2)) - 1) : Int)) && decide ((IntKind.wrap .i64 ((oget (lIndexFunc_iLake_out_1 x0 x2)) - 1) : Int) < ((List.length x1 : Nat) : Int))) (.ok (fadd .f32 (List.getD x1 (Int.toNat (IntKind.wrap .i64 ((oget (lIndexFunc_iLake_out_1 x0 x2)) - 1))) 0) (fmul .f32 (fdiv .f32 (fsub .f32 x2 (List.getD x0 (Int.toNat (IntKind.wrap .i64 ((oget (lIndexFunc_iLake_out_1 x0 x2)) - 1))) 0)) (fsub .f32 (List.getD x0 (Int.toNat (oget (lIndexFunc_iLake_out_1 x0 x2))) 0) (List.getD x0 (Int.toNat (IntKind.wrap .i64 ((oget (lIndexFunc_iLake_out_1 x0 x2)) - 1))) 0))) (fsub .f32 (List.getD x1 (Int.toNat (oget (lIndexFunc_iLake_out_1 x0 x2))) 0) (List.getD x1 (Int.toNat (IntKind.wrap .i64 ((oget (lIndexFunc_iLake_out_1 x0 x2)) - 1))) 0))))) .bad) .bad) .bad) .bad) .bad) .bad) .bad)) .bad)) .bad

noncomputable def iLake_out (x0 : List Nat) (x1 : List Nat) (x2 : Nat) : Option (Nat) := (iLake_out_t x0 x1 x2).sem

noncomputable def ifinite32_t (x0 : Nat) : Tr (Nat × Bool) :=
  .br (! (isFin .f32 x0)) (.ok (0, false)) (.ok (x0, true))

noncomputable def ifinite32 (x0 : Nat) : Nat × Bool := (ifinite32_t x0).val

noncomputable def iLakeOut_t (x0 : List Nat) (x1 : List Nat) (x2 : Nat) : Tr (Nat × Bool) :=
  .br (osome (iValidLake x0 x1)) (.br (!(oget (iValidLake x0 x1))) (.ok (0, false)) (.br (! (isFin .f32 x2)) (.ok (0, false)) (.br (osome (iLake_out x0 x1 x2)) (.ok ((ifinite32 (oget (iLake_out x0 x1 x2))).1, (ifinite32 (oget (iLake_out x0 x1 x2))).2)) .bad))) .bad

noncomputable def iLakeOut (x0 : List Nat) (x1 : List Nat) (x2 : Nat) : Option (Nat × Bool) := (iLakeOut_t x0 x1 x2).sem

noncomputable def iLake_isStore_t (x0 : List Nat) (x1 : List Nat) (x2 : Nat) : Tr (Bool) :=
  .br (osome (iValidLake x0 x1)) (.br (oget (iValidLake x0 x1)) (.br (decide (0 ≤ (0 : Int)) && decide ((0 : Int) < ((List.length x0 : Nat) : Int))) (.br (fge .f32 x2 (List.getD x0 (Int.toNat 0) 0)) (.br (decide (0 ≤ (IntKind.wrap .i64 ((((List.length x0 : Nat) : Int)) - 1) : Int)) && decide ((IntKind.wrap .i64 ((((List.length x0 : Nat) : Int)) - 1) : Int) < ((List.length x0 : Nat) : Int))) (.ok (fle .f32 x2 (List.getD x0 (Int.toNat (IntKind.wrap .i64 ((((List.length x0 : Nat) : Int)) - 1))) 0))) .bad) (.ok false)) .bad) (.ok false)) .bad

noncomputable def iLake_isStore (x0 : List Nat) (x1 : List Nat) (x2 : Nat) : Option (Bool) := (iLake_isStore_t x0 x1 x2).sem

noncomputable def iStepLake_1_t (x0 : Nat) (x1 : Nat) (x2 : List Nat) (x3 : List Nat) (x4 : Nat) : Tr (Bool) :=
  .br (osome (iLake_out x2 x3 x0)) (.ok (fgt .f32 (fadd .f32 x0 (fmul .f32 x1 (oget (iLake_out x2 x3 x0)))) x4)) .bad

noncomputable def iStepLake_1 (x0 : Nat) (x1 : Nat) (x2 : List Nat) (x3 : List Nat) (x4 : Nat) : Option (Bool) := (iStepLake_1_t x0 x1 x2 x3 x4).sem

noncomputable def ihalve_iStepLake_1_l2_t (y2 : Nat) (y3 : List Nat) (y4 : List Nat) (y5 : Nat) (y0 : Nat) (y1 : Nat) (y6 : Int) : Tr ((Nat × Nat × Int) ⊕ (Nat × Nat)) :=
  .br (decide ((y6 : Int) < 40)) (.br (osome (iStepLake_1 (fmul .f32 1056964608 (fadd .f32 y0 y1)) y2 y3 y4 y5)) (.br (oget (iStepLake_1 (fmul .f32 1056964608 (fadd .f32 y0 y1)) y2 y3 y4 y5)) (.ok (.inl (y0, fmul .f32 1056964608 (fadd .f32 y0 y1), IntKind.wrap .i64 (y6 + 1)))) (.ok (.inl (fmul .f32 1056964608 (fadd .f32 y0 y1), y1, IntKind.wrap .i64 (y6 + 1))))) .bad) (.ok (.inr (y0, y1)))

noncomputable def ihalve_iStepLake_1_l2 (y0 : Nat) (y1 : Nat) (y2 : Nat) (y3 : List Nat) (y4 : List Nat) (y5 : Nat) (y6 : Int) : Option (Nat × Nat) := runL (fun s : Nat × Nat × Int => (ihalve_iStepLake_1_l2_t y2 y3 y4 y5 s.1 s.2.1 s.2.2).sem) (y0, y1, y6)

noncomputable def ihalve_iStepLake_1_t (x0 : Nat) (x1 : Nat) (x2 : Nat) (x3 : List Nat) (x4 : List Nat) (x5 : Nat) : Tr (Nat × Nat) :=
  .br (osome (ihalve_iStepLake_1_l2 x0 x1 x2 x3 x4 x5 0)) (.ok (oget (ihalve_iStepLake_1_l2 x0 x1 x2 x3 x4 x5 0))) .bad

noncomputable def ihalve_iStepLake_1 (x0 : Nat) (x1 : Nat) (x2 : Nat) (x3 : List Nat) (x4 : List Nat) (x5 : Nat) : Option (Nat × Nat) := (ihalve_iStepLake_1_t x0 x1 x2 x3 x4 x5).sem

noncomputable def iStepLake_t (x0 : List Nat) (x1 : List Nat) (x2 : Nat) (x3 : Nat) (x4 : Nat) (x5 : Nat) : Tr (Nat × Bool) :=
  .br (osome (iLake_isStore x0 x1 x2)) (.br (!(oget (iLake_isStore x0 x1 x2))) (.ok (0, false)) (.br (osome (iareMasses [x3, x4])) (.br (!(oget (iareMasses [x3, x4]))) (.ok (0, false)) (.br (! (isLen x5)) (.ok (0, false)) (.br (osome (iLake_out x0 x1 x2)) (.br (decide (0 ≤ (0 : Int)) && decide ((0 : Int) < ((List.length x0 : Nat) : Int))) (.br (decide (0 ≤ (IntKind.wrap .i64 ((((List.length x0 : Nat) : Int)) - 1) : Int)) && decide ((IntKind.wrap .i64 ((((List.length x0 : Nat) : Int)) - 1) : Int) < ((List.length x0 : Nat) : Int))) (.br (osome (ihalve_iStepLake_1 (List.getD x0 (Int.toNat 0) 0) (List.getD x0 (Int.toNat (IntKind.wrap .i64 ((((List.length x0 : Nat) : Int)) - 1))) 0) (fmul .f32 1056964608 x5) x0 x1 (fadd .f32 (fsub .f32 x2 (fmul .f32 (fmul .f32 1056964608 x5) (oget (iLake_out x0 x1 x2)))) (fmul .f32 (fmul .f32 1056964608 x5) (fadd .f32 x3 x4))))) (.ok ((ifinite32 (oget (ihalve_iStepLake_1 (List.getD x0 (Int.toNat 0) 0) (List.getD x0 (Int.toNat (IntKind.wrap .i64 ((((List.length x0 : Nat) : Int)) - 1))) 0) (fmul .f32 1056964608 x5) x0 x1 (fadd .f32 (fsub .f32 x2 (fmul .f32 (fmul .f32 1056964608 x5) (oget (iLake_out x0 x1 x2)))) (fmul .f32 (fmul .f32 1056964608 x5) (fadd .f32 x3 x4))))).1).1, (ifinite32 (oget (ihalve_iStepLake_1 (List.getD x0 (Int.toNat 0) 0) (List.getD x0 (Int.toNat (IntKind.wrap .i64 ((((List.length x0 : Nat) : Int)) - 1))) 0) (fmul .f32 1056964608 x5) x0 x1 (fadd .f32 (fsub .f32 x2 (fmul .f32 (fmul .f32 1056964608 x5) (oget (iLake_out x0 x1 x2)))) (fmul .f32 (fmul .f32 1056964608 x5) (fadd .f32 x3 x4))))).1).2)) .bad) .bad) .bad) .bad))) .bad)) .bad

noncomputable def iStepLake (x0 : List Nat) (x1 : List Nat) (x2 : Nat) (x3 : Nat) (x4 : Nat) (x5 : Nat) : Option (Nat × Bool) := (iStepLake_t x0 x1 x2 x3 x4 x5).sem

noncomputable def lEqualFunc_iSameNumber_l4_t (y0 : List Nat) (y1 : List Nat) (y2 : Int) (y3 : Int) : Tr (Int ⊕ (Unit ⊕ Unit)) :=
  .br (decide ((y3 : Int) < y2)) (.br (decide (0 ≤ (y3 : Int)) && decide ((y3 : Int) < ((List.length y1 : Nat) : Int))) (.br (decide (0 ≤ (y3 : Int)) && decide ((y3 : Int) < ((List.length y0 : Nat) : Int))) (.br (! (natEq (List.getD y1 (Int.toNat y3) 0) (List.getD y0 (Int.toNat y3) 0))) (.ok (.inr (.inl ()))) (.ok (.inl (IntKind.wrap .i64 (y3 + 1))))) .bad) .bad) (.ok (.inr (.inr ())))

noncomputable def lEqualFunc_iSameNumber_l4 (y0 : List Nat) (y1 : List Nat) (y2 : Int) (y3 : Int) : Option (Unit ⊕ Unit) := runL (fun s : Int => (lEqualFunc_iSameNumber_l4_t y0 y1 y2 s).sem) y3

noncomputable def lEqualFunc_iSameNumber_t (x0 : List Nat) (x1 : List Nat) : Tr (Bool) :=
  .br ((((List.length x0 : Nat) : Int) : Int) != (((List.length x1 : Nat) : Int))) (.ok false) (.br (osome (lEqualFunc_iSameNumber_l4 x1 x0 (((List.length x0 : Nat) : Int)) 0)) (.br (isL (oget (lEqualFunc_iSameNumber_l4 x1 x0 (((List.length x0 : Nat) : Int)) 0))) (.ok false) (.ok true)) .bad)

noncomputable def lEqualFunc_iSameNumber (x0 : List Nat) (x1 : List Nat) : Option (Bool) := (lEqualFunc_iSameNumber_t x0 x1).sem

noncomputable def isameNumbers_t (x0 : List Nat) (x1 : List Nat) : Tr (Bool) :=
  .br (osome (lEqualFunc_iSameNumber x0 x1)) (.ok (oget (lEqualFunc_iSameNumber x0 x1))) .bad

noncomputable def isameNumbers (x0 : List Nat) (x1 : List Nat) : Option (Bool) := (isameNumbers_t x0 x1).sem

noncomputable def iSameLake_t (x0 : List Nat) (x1 : List Nat) (x2 : List Nat) (x3 : List Nat) : Tr (Bool) :=
  .br (osome (isameNumbers x0 x2)) (.br (oget (isameNumbers x0 x2)) (.br (osome (isameNumbers x1 x3)) (.ok (oget (isameNumbers x1 x3))) .bad) (.ok false)) .bad

noncomputable def iSameLake (x0 : List Nat) (x1 : List Nat) (x2 : List Nat) (x3 : List Nat) : Option (Bool) := (iSameLake_t x0 x1 x2 x3).sem

noncomputable def wb10Gap_t (x0 : Nat) (x1 : Nat) : Tr (Nat) :=
  .br (flt .f64 x0 x1) (.ok (fsub .f64 x1 x0)) (.ok (fsub .f64 x0 x1))

noncomputable def wb10Gap (x0 : Nat) (x1 : Nat) : Nat := (wb10Gap_t x0 x1).val

noncomputable def sB10Rain_l3_t  (y0 : Int) (y1 : List Int) (y2 : Int) (y3 : Int) (y4 : List Nat) : Tr ((Int × List Int × Int × Int × List Nat) ⊕ (List Nat)) :=
  .br (decide ((y0 : Int) > 0)) (.br (osome (sl00Src_pick 9 y1 y2 y3)) (.br (decide ((List.length y4 + List.length [fdiv .f32 (FloatKind.nearest .f32 (oget (sl00Src_pick 9 y1 y2 y3)).1) 1082130432]) * 4 ≤ 140737488355328)) (.ok (.inl (IntKind.wrap .i64 (y0 - 1), (oget (sl00Src_pick 9 y1 y2 y3)).2.1, (oget (sl00Src_pick 9 y1 y2 y3)).2.2.1, (oget (sl00Src_pick 9 y1 y2 y3)).2.2.2, y4 ++ [fdiv .f32 (FloatKind.nearest .f32 (oget (sl00Src_pick 9 y1 y2 y3)).1) 1082130432]))) .bad) .bad) (.ok (.inr y4))

noncomputable def sB10Rain_l3 (y0 : Int) (y1 : List Int) (y2 : Int) (y3 : Int) (y4 : List Nat) : Option (List Nat) := runL (fun s : Int × List Int × Int × Int × List Nat => (sB10Rain_l3_t  s.1 s.2.1 s.2.2.1 s.2.2.2.1 s.2.2.2.2).sem) (y0, y1, y2, y3, y4)

noncomputable def sB10Rain_t (x0 : List Int) (x1 : Int) : Tr (List Nat) :=
  .br (osome (sB10Rain_l3 x1 ((sl00From x0).1) (((sl00From x0).2).1) (((sl00From x0).2).2) [])) (.ok (oget (sB10Rain_l3 x1 ((sl00From x0).1) (((sl00From x0).2).1) (((sl00From x0).2).2) []))) .bad

noncomputable def sB10Rain (x0 : List Int) (x1 : Int) : Option (List Nat) := (sB10Rain_t x0 x1).sem

noncomputable def iareFinite_1_t (x0 : Nat) : Tr (Bool) :=
  .ok (! (isFin .f32 x0))

noncomputable def iareFinite_1 (x0 : Nat) : Bool := (iareFinite_1_t x0).val

noncomputable def lIndexFunc_iareFinite_1_l2_t (y0 : List Nat) (y1 : Int) (y2 : Int) : Tr (Int ⊕ (Int ⊕ Unit)) :=
  .br (decide ((y2 : Int) < y1)) (.br (decide (0 ≤ (y2 : Int)) && decide ((y2 : Int) < ((List.length y0 : Nat) : Int))) (.br (iareFinite_1 (List.getD y0 (Int.toNat y2) 0)) (.ok (.inr (.inl y2))) (.ok (.inl (IntKind.wrap .i64 (y2 + 1))))) .bad) (.ok (.inr (.inr ())))

noncomputable def lIndexFunc_iareFinite_1_l2 (y0 : List Nat) (y1 : Int) (y2 : Int) : Option (Int ⊕ Unit) := runL (fun s : Int => (lIndexFunc_iareFinite_1_l2_t y0 y1 s).sem) y2

noncomputable def lIndexFunc_iareFinite_1_t (x0 : List Nat) : Tr (Int) :=
  .br (osome (lIndexFunc_iareFinite_1_l2 x0 (((List.length x0 : Nat) : Int)) 0)) (.br (isL (oget (lIndexFunc_iareFinite_1_l2 x0 (((List.length x0 : Nat) : Int)) 0))) (.ok (unL (oget (lIndexFunc_iareFinite_1_l2 x0 (((List.length x0 : Nat) : Int)) 0)))) (.ok (-1))) .bad

noncomputable def lIndexFunc_iareFinite_1 (x0 : List Nat) : Option (Int) := (lIndexFunc_iareFinite_1_t x0).sem

noncomputable def lContainsFunc_iareFinite_1_t (x0 : List Nat) : Tr (Bool) :=
  .br (osome (lIndexFunc_iareFinite_1 x0)) (.ok (decide (((oget (lIndexFunc_iareFinite_1 x0)) : Int) ≥ 0))) .bad

noncomputable def lContainsFunc_iareFinite_1 (x0 : List Nat) : Option (Bool) := (lContainsFunc_iareFinite_1_t x0).sem

noncomputable def iareFinite_t (x0 : List Nat) : Tr (Bool) :=
  .br (osome (lContainsFunc_iareFinite_1 x0)) (.ok (!(oget (lContainsFunc_iareFinite_1 x0)))) .bad

noncomputable def iareFinite (x0 : List Nat) : Option (Bool) := (iareFinite_t x0).sem

noncomputable def iareIns_t (x0 : List Nat) : Tr (Bool) :=
  .br (iwithin (((List.length x0 : Nat) : Int)) 1 128) (.br (osome (iareFinite x0)) (.ok (oget (iareFinite x0))) .bad) (.ok false)

noncomputable def iareIns (x0 : List Nat) : Option (Bool) := (iareIns_t x0).sem

noncomputable def iRouteLake_l5_t (y1 : List Nat) (y2 : Nat) (y3 : Int) (y5 : List Nat) (y6 : List Nat) (y0 : Nat) (y4 : Int) (y7 : List Nat) (y8 : List Nat) : Tr ((Nat × Int × List Nat × List Nat) ⊕ (Unit ⊕ (List Nat × List Nat))) :=
  .br (decide ((y4 : Int) < y3)) (.br (decide ((y4 : Int) > 0)) (.br (decide (0 ≤ (IntKind.wrap .i64 (y4 - 1) : Int)) && decide ((IntKind.wrap .i64 (y4 - 1) : Int) < ((List.length y1 : Nat) : Int))) (.br (decide (0 ≤ (y4 : Int)) && decide ((y4 : Int) < ((List.length y1 : Nat) : Int))) (.br (osome (iStepLake y5 y6 y0 (List.getD y1 (Int.toNat (IntKind.wrap .i64 (y4 - 1))) 0) (List.getD y1 (Int.toNat y4) 0) y2)) (.br (!(oget (iStepLake y5 y6 y0 (List.getD y1 (Int.toNat (IntKind.wrap .i64 (y4 - 1))) 0) (List.getD y1 (Int.toNat y4) 0) y2)).2) (.ok (.inr (.inl ()))) (.br (osome (iLakeOut y5 y6 (oget (iStepLake y5 y6 y0 (List.getD y1 (Int.toNat (IntKind.wrap .i64 (y4 - 1))) 0) (List.getD y1 (Int.toNat y4) 0) y2)).1)) (.br (!(oget (iLakeOut y5 y6 (oget (iStepLake y5 y6 y0 (List.getD y1 (Int.toNat (IntKind.wrap .i64 (y4 - 1))) 0) (List.getD y1 (Int.toNat y4) 0) y2)).1)).2) (.ok (.inr (.inl ()))) (.br (decide ((List.length y7 + List.length [(oget (iStepLake y5 y6 y0 (List.getD y1 (Int.toNat (IntKind.wrap .i64 (y4 - 1))) 0) (List.getD y1 (Int.toNat y4) 0) y2)).1]) * 4 ≤ 140737488355328)) (.br (decide ((List.length y8 + List.length [(oget (iLakeOut y5 y6 (oget (iStepLake y5 y6 y0 (List.getD y1 (Int.toNat (IntKind.wrap .i64 (y4 - 1))) 0) (List.getD y1 (Int.toNat y4) 0) y2)).1)).1]) * 4 ≤ 140737488355328)) (.ok (.inl ((oget (iStepLake y5 y6 y0 (List.getD y1 (Int.toNat (IntKind.wrap .i64 (y4 - 1))) 0) (List.getD y1 (Int.toNat y4) 0) y2)).1, IntKind.wrap .i64 (y4 + 1), y7 ++ [(oget (iStepLake y5 y6 y0 (List.getD y1 (Int.toNat (IntKind.wrap .i64 (y4 - 1))) 0) (List.getD y1 (Int.toNat y4) 0) y2)).1], y8 ++ [(oget (iLakeOut y5 y6 (oget (iStepLake y5 y6 y0 (List.getD y1 (Int.toNat (IntKind.wrap .i64 (y4 - 1))) 0) (List.getD y1 (Int.toNat y4) 0) y2)).1)).1]))) .bad) .bad)) .bad)) .bad) .bad) .bad) (.br (osome (iLakeOut y5 y6 y0)) (.br (!(oget (iLakeOut y5 y6 y0)).2) (.ok (.inr (.inl ()))) (.br (decide ((List.length y7 + List.length [y0]) * 4 ≤ 140737488355328)) (.br (decide ((List.length y8 + List.length [(oget (iLakeOut y5 y6 y0)).1]) * 4 ≤ 140737488355328)) (.ok (.inl (y0, IntKind.wrap .i64 (y4 + 1), y7 ++ [y0], y8 ++ [(oget (iLakeOut y5 y6 y0)).1]))) .bad) .bad)) .bad)) (.ok (.inr (.inr (y7, y8))))

noncomputable def iRouteLake_l5 (y0 : Nat) (y1 : List Nat) (y2 : Nat) (y3 : Int) (y4 : Int) (y5 : List Nat) (y6 : List Nat) (y7 : List Nat) (y8 : List Nat) : Option (Unit ⊕ (List Nat × List Nat)) := runL (fun s : Nat × Int × List Nat × List Nat => (iRouteLake_l5_t y1 y2 y3 y5 y6 s.1 s.2.1 s.2.2.1 s.2.2.2).sem) (y0, y4, y7, y8)

noncomputable def iRouteLake_t (x0 : List Nat) (x1 : List Nat) (x2 : Nat) (x3 : List Nat) (x4 : Nat) : Tr (Unit ⊕ (List Nat × List Nat)) :=
  .br (osome (iLake_isStore x0 x1 x2)) (.br (!(oget (iLake_isStore x0 x1 x2))) (.ok (.inl ())) (.br (osome (iareIns x3)) (.br (!(oget (iareIns x3))) (.ok (.inl ())) (.br (osome (iareMasses x3)) (.br (!(oget (iareMasses x3))) (.ok (.inl ())) (.br (! (isLen x4)) (.ok (.inl ())) (.br (osome (iRouteLake_l5 x2 x3 x4 (((List.length x3 : Nat) : Int)) 0 x0 x1 [] [])) (.br (isL (oget (iRouteLake_l5 x2 x3 x4 (((List.length x3 : Nat) : Int)) 0 x0 x1 [] []))) (.ok (.inl ())) (.ok (.inr ((unR (oget (iRouteLake_l5 x2 x3 x4 (((List.length x3 : Nat) : Int)) 0 x0 x1 [] []))).1, (unR (oget (iRouteLake_l5 x2 x3 x4 (((List.length x3 : Nat) : Int)) 0 x0 x1 [] []))).2)))) .bad))) .bad)) .bad)) .bad

noncomputable def iRouteLake (x0 : List Nat) (x1 : List Nat) (x2 : Nat) (x3 : List Nat) (x4 : Nat) : Option (Unit ⊕ (List Nat × List Nat)) := (iRouteLake_t x0 x1 x2 x3 x4).sem

noncomputable def sSameNumber_t (x0 : Nat) (x1 : Nat) : Tr (Bool) :=
  .ok (natEq x0 x1)

noncomputable def sSameNumber (x0 : Nat) (x1 : Nat) : Bool := (sSameNumber_t x0 x1).val

noncomputable def wFnLakes_l26_t (y1 : Int) (y3 : List Nat) (y4 : List Nat) (y5 : List Nat) (y6 : List Nat) (y7 : List Nat) (y0 : Nat) (y2 : Int) : Tr ((Nat × Int) ⊕ (Unit ⊕ Unit)) :=
  .br (decide ((y2 : Int) < y1)) (.br (decide ((y2 : Int) > 0)) (.br (decide (0 ≤ (IntKind.wrap .i64 (y2 - 1) : Int)) && decide ((IntKind.wrap .i64 (y2 - 1) : Int) < ((List.length y5 : Nat) : Int))) (.br (decide (0 ≤ (y2 : Int)) && decide ((y2 : Int) < ((List.length y5 : Nat) : Int))) (.br (osome (iStepLake y3 y4 y0 (List.getD y5 (Int.toNat (IntKind.wrap .i64 (y2 - 1))) 0) (List.getD y5 (Int.toNat y2) 0) 1048576000)) (.br (!(oget (iStepLake y3 y4 y0 (List.getD y5 (Int.toNat (IntKind.wrap .i64 (y2 - 1))) 0) (List.getD y5 (Int.toNat y2) 0) 1048576000)).2) (.ok (.inr (.inl ()))) (.br (osome (iLakeOut y3 y4 (oget (iStepLake y3 y4 y0 (List.getD y5 (Int.toNat (IntKind.wrap .i64 (y2 - 1))) 0) (List.getD y5 (Int.toNat y2) 0) 1048576000)).1)) (.br (!(oget (iLakeOut y3 y4 (oget (iStepLake y3 y4 y0 (List.getD y5 (Int.toNat (IntKind.wrap .i64 (y2 - 1))) 0) (List.getD y5 (Int.toNat y2) 0) 1048576000)).1)).2) (.ok (.inr (.inl ()))) (.br (decide (0 ≤ (y2 : Int)) && decide ((y2 : Int) < ((List.length y6 : Nat) : Int))) (.br (! (sSameNumber (List.getD y6 (Int.toNat y2) 0) (oget (iStepLake y3 y4 y0 (List.getD y5 (Int.toNat (IntKind.wrap .i64 (y2 - 1))) 0) (List.getD y5 (Int.toNat y2) 0) 1048576000)).1)) (.ok (.inr (.inl ()))) (.br (decide (0 ≤ (y2 : Int)) && decide ((y2 : Int) < ((List.length y7 : Nat) : Int))) (.br (! (sSameNumber (List.getD y7 (Int.toNat y2) 0) (oget (iLakeOut y3 y4 (oget (iStepLake y3 y4 y0 (List.getD y5 (Int.toNat (IntKind.wrap .i64 (y2 - 1))) 0) (List.getD y5 (Int.toNat y2) 0) 1048576000)).1)).1)) (.ok (.inr (.inl ()))) (.ok (.inl ((oget (iStepLake y3 y4 y0 (List.getD y5 (Int.toNat (IntKind.wrap .i64 (y2 - 1))) 0) (List.getD y5 (Int.toNat y2) 0) 1048576000)).1, IntKind.wrap .i64 (y2 + 1))))) .bad)) .bad)) .bad)) .bad) .bad) .bad) (.br (osome (iLakeOut y3 y4 y0)) (.br (!(oget (iLakeOut y3 y4 y0)).2) (.ok (.inr (.inl ()))) (.br (decide (0 ≤ (y2 : Int)) && decide ((y2 : Int) < ((List.length y6 : Nat) : Int))) (.br (! (sSameNumber (List.getD y6 (Int.toNat y2) 0) y0)) (.ok (.inr (.inl ()))) (.br (decide (0 ≤ (y2 : Int)) && decide ((y2 : Int) < ((List.length y7 : Nat) : Int))) (.br (! (sSameNumber (List.getD y7 (Int.toNat y2) 0) (oget (iLakeOut y3 y4 y0)).1)) (.ok (.inr (.inl ()))) (.ok (.inl (y0, IntKind.wrap .i64 (y2 + 1))))) .bad)) .bad)) .bad)) (.ok (.inr (.inr ())))

noncomputable def wFnLakes_l26 (y0 : Nat) (y1 : Int) (y2 : Int) (y3 : List Nat) (y4 : List Nat) (y5 : List Nat) (y6 : List Nat) (y7 : List Nat) : Option (Unit ⊕ Unit) := runL (fun s : Nat × Int => (wFnLakes_l26_t y1 y3 y4 y5 y6 y7 s.1 s.2).sem) (y0, y2)

noncomputable def wFnLakes_o1 (v3 : Nat × Bool) (v4 : Nat × Bool) (v10 : Bool) : Tr (Bool) :=
  .br (!v10) (.ok false) (.br (flt .f32 v4.1 v3.1) (.ok false) .bad)

noncomputable def wFnLakes_o2 (v1 : Unit ⊕ ((List Nat) ⊕ ((List Nat) ⊕ ((List Nat) × (List Nat))))) (v3 : Nat × Bool) (v4 : Nat × Bool) (v9 : Bool) : Tr (Bool) :=
  .br (!v9) (.ok false) (.br (osome (iSameLake (unL (unR (unR v1))) [] (unL (unR (unR v1))) [])) (wFnLakes_o1 v3 v4 (oget (iSameLake (unL (unR (unR v1))) [] (unL (unR (unR v1))) []))) .bad)

noncomputable def wFnLakes_o3 (v1 : Unit ⊕ ((List Nat) ⊕ ((List Nat) ⊕ ((List Nat) × (List Nat))))) (v3 : Nat × Bool) (v4 : Nat × Bool) (v7 : Nat × Bool) (v8 : Nat × Bool) : Tr (Bool) :=
  .br (!v3.2) (.ok false) (.br (!v4.2) (.ok false) (.br (!v7.2) (.ok false) (.br (!v8.2) (.ok false) (.br (osome (iValidLake (unL (unR (unR v1))) [])) (wFnLakes_o2 v1 v3 v4 (oget (iValidLake (unL (unR (unR v1))) []))) .bad))))

noncomputable def wFnLakes_o4 (v1 : Unit ⊕ ((List Nat) ⊕ ((List Nat) ⊕ ((List Nat) × (List Nat))))) (v3 : Nat × Bool) (v4 : Nat × Bool) (v7 : Nat × Bool) : Tr (Bool) :=
  .br (osome (iLakeOut (unL (unR (unR v1))) [] v7.1)) (wFnLakes_o3 v1 v3 v4 v7 (oget (iLakeOut (unL (unR (unR v1))) [] v7.1))) .bad

noncomputable def wFnLakes_o5 (v1 : Unit ⊕ ((List Nat) ⊕ ((List Nat) ⊕ ((List Nat) × (List Nat))))) (v2 : Int) (v3 : Nat × Bool) (v4 : Nat × Bool) (v5 : Int) (v6 : Int) : Tr (Bool) :=
  .br (osome (iStepLake (unL (unR (unR v1))) [] (fadd .f32 (List.getD (unL (unR (unR v1))) (Int.toNat 0) 0) (fdiv .f32 (fmul .f32 (fsub .f32 (List.getD (unL (unR (unR v1))) (Int.toNat (IntKind.wrap .i64 ((((List.length (unL (unR (unR v1))) : Nat) : Int)) - 1))) 0) (List.getD (unL (unR (unR v1))) (Int.toNat 0) 0)) (FloatKind.nearest .f32 v2)) 1090519040)) (fdiv .f32 (FloatKind.nearest .f32 v5) 1082130432) (fdiv .f32 (FloatKind.nearest .f32 v6) 1082130432) 1048576000)) (wFnLakes_o4 v1 v3 v4 (oget (iStepLake (unL (unR (unR v1))) [] (fadd .f32 (List.getD (unL (unR (unR v1))) (Int.toNat 0) 0) (fdiv .f32 (fmul .f32 (fsub .f32 (List.getD (unL (unR (unR v1))) (Int.toNat (IntKind.wrap .i64 ((((List.length (unL (unR (unR v1))) : Nat) : Int)) - 1))) 0) (List.getD (unL (unR (unR v1))) (Int.toNat 0) 0)) (FloatKind.nearest .f32 v2)) 1090519040)) (fdiv .f32 (FloatKind.nearest .f32 v5) 1082130432) (fdiv .f32 (FloatKind.nearest .f32 v6) 1082130432) 1048576000))) .bad

noncomputable def wFnLakes_o6 (x1 : List Int) (v1 : Unit ⊕ ((List Nat) ⊕ ((List Nat) ⊕ ((List Nat) × (List Nat))))) (v2 : Int) (v3 : Nat × Bool) (v4 : Nat × Bool) (v5 : Int) : Tr (Bool) :=
  .br (osome (wb10At x1 2 9)) (wFnLakes_o5 v1 v2 v3 v4 v5 (oget (wb10At x1 2 9))) .bad

noncomputable def wFnLakes_o7 (x1 : List Int) (v1 : Unit ⊕ ((List Nat) ⊕ ((List Nat) ⊕ ((List Nat) × (List Nat))))) (v2 : Int) (v3 : Nat × Bool) (v4 : Nat × Bool) : Tr (Bool) :=
  .br (osome (wb10At x1 1 9)) (wFnLakes_o6 x1 v1 v2 v3 v4 (oget (wb10At x1 1 9))) .bad

noncomputable def wFnLakes_o8 (x1 : List Int) (v1 : Unit ⊕ ((List Nat) ⊕ ((List Nat) ⊕ ((List Nat) × (List Nat))))) (v2 : Int) (v3 : Nat × Bool) : Tr (Bool) :=
  .br (osome (iLakeOut (unL (unR (unR v1))) [] (fadd .f32 (fadd .f32 (List.getD (unL (unR (unR v1))) (Int.toNat 0) 0) (fdiv .f32 (fmul .f32 (fsub .f32 (List.getD (unL (unR (unR v1))) (Int.toNat (IntKind.wrap .i64 ((((List.length (unL (unR (unR v1))) : Nat) : Int)) - 1))) 0) (List.getD (unL (unR (unR v1))) (Int.toNat 0) 0)) (FloatKind.nearest .f32 v2)) 1090519040)) 1065353216))) (wFnLakes_o7 x1 v1 v2 v3 (oget (iLakeOut (unL (unR (unR v1))) [] (fadd .f32 (fadd .f32 (List.getD (unL (unR (unR v1))) (Int.toNat 0) 0) (fdiv .f32 (fmul .f32 (fsub .f32 (List.getD (unL (unR (unR v1))) (Int.toNat (IntKind.wrap .i64 ((((List.length (unL (unR (unR v1))) : Nat) : Int)) - 1))) 0) (List.getD (unL (unR (unR v1))) (Int.toNat 0) 0)) (FloatKind.nearest .f32 v2)) 1090519040)) 1065353216)))) .bad

noncomputable def wFnLakes_o9 (x1 : List Int) (v1 : Unit ⊕ ((List Nat) ⊕ ((List Nat) ⊕ ((List Nat) × (List Nat))))) (v2 : Int) : Tr (Bool) :=
  .br (osome (iLakeOut (unL (unR (unR v1))) [] (fadd .f32 (List.getD (unL (unR (unR v1))) (Int.toNat 0) 0) (fdiv .f32 (fmul .f32 (fsub .f32 (List.getD (unL (unR (unR v1))) (Int.toNat (IntKind.wrap .i64 ((((List.length (unL (unR (unR v1))) : Nat) : Int)) - 1))) 0) (List.getD (unL (unR (unR v1))) (Int.toNat 0) 0)) (FloatKind.nearest .f32 v2)) 1090519040)))) (wFnLakes_o8 x1 v1 v2 (oget (iLakeOut (unL (unR (unR v1))) [] (fadd .f32 (List.getD (unL (unR (unR v1))) (Int.toNat 0) 0) (fdiv .f32 (fmul .f32 (fsub .f32 (List.getD (unL (unR (unR v1))) (Int.toNat (IntKind.wrap .i64 ((((List.length (unL (unR (unR v1))) : Nat) : Int)) - 1))) 0) (List.getD (unL (unR (unR v1))) (Int.toNat 0) 0)) (FloatKind.nearest .f32 v2)) 1090519040))))) .bad

noncomputable def wFnLakes_o10 (v23 : Unit ⊕ Unit) : Tr (Bool) :=
  .br (isL v23) (.ok false) (.ok true)

noncomputable def wFnLakes_o11 (v1 : Unit ⊕ ((List Nat) ⊕ ((List Nat) ⊕ ((List Nat) × (List Nat))))) (v11 : Int) (v21 : List Nat) (v22 : Unit ⊕ ((List Nat) × (List Nat))) : Tr (Bool) :=
  .br (isL v22) (.ok false) (.br ((((List.length ((unR v22).1) : Nat) : Int) : Int) != (((List.length v21 : Nat) : Int))) (.ok false) (.br ((((List.length ((unR v22).2) : Nat) : Int) : Int) != (((List.length v21 : Nat) : Int))) (.ok false) (.br (decide (0 ≤ (0 : Int)) && decide ((0 : Int) < ((List.length ((unR v22).1) : Nat) : Int))) (.br (! (feq .f32 (List.getD ((unR v22).1) (Int.toNat 0) 0) (fadd .f32 (List.getD ((unR (unR (unR v1))).1) (Int.toNat 0) 0) (fdiv .f32 (fmul .f32 (fsub .f32 (List.getD ((unR (unR (unR v1))).1) (Int.toNat (IntKind.wrap .i64 ((((List.length ((unR (unR (unR v1))).1) : Nat) : Int)) - 1))) 0) (List.getD ((unR (unR (unR v1))).1) (Int.toNat 0) 0)) (FloatKind.nearest .f32 v11)) 1090519040)))) (.ok false) (.br (osome (wFnLakes_l26 (fadd .f32 (List.getD ((unR (unR (unR v1))).1) (Int.toNat 0) 0) (fdiv .f32 (fmul .f32 (fsub .f32 (List.getD ((unR (unR (unR v1))).1) (Int.toNat (IntKind.wrap .i64 ((((List.length ((unR (unR (unR v1))).1) : Nat) : Int)) - 1))) 0) (List.getD ((unR (unR (unR v1))).1) (Int.toNat 0) 0)) (FloatKind.nearest .f32 v11)) 1090519040)) (((List.length v21 : Nat) : Int)) 0 ((unR (unR (unR v1))).1) ((unR (unR (unR v1))).2) v21 ((unR v22).1) ((unR v22).2))) (wFnLakes_o10 (oget (wFnLakes_l26 (fadd .f32 (List.getD ((unR (unR (unR v1))).1) (Int.toNat 0) 0) (fdiv .f32 (fmul .f32 (fsub .f32 (List.getD ((unR (unR (unR v1))).1) (Int.toNat (IntKind.wrap .i64 ((((List.length ((unR (unR (unR v1))).1) : Nat) : Int)) - 1))) 0) (List.getD ((unR (unR (unR v1))).1) (Int.toNat 0) 0)) (FloatKind.nearest .f32 v11)) 1090519040)) (((List.length v21 : Nat) : Int)) 0 ((unR (unR (unR v1))).1) ((unR (unR (unR v1))).2) v21 ((unR v22).1) ((unR v22).2)))) .bad)) .bad)))

noncomputable def wFnLakes_o12 (v1 : Unit ⊕ ((List Nat) ⊕ ((List Nat) ⊕ ((List Nat) × (List Nat))))) (v11 : Int) (v21 : List Nat) : Tr (Bool) :=
  .br (osome (iRouteLake ((unR (unR (unR v1))).1) ((unR (unR (unR v1))).2) (fadd .f32 (List.getD ((unR (unR (unR v1))).1) (Int.toNat 0) 0) (fdiv .f32 (fmul .f32 (fsub .f32 (List.getD ((unR (unR (unR v1))).1) (Int.toNat (IntKind.wrap .i64 ((((List.length ((unR (unR (unR v1))).1) : Nat) : Int)) - 1))) 0) (List.getD ((unR (unR (unR v1))).1) (Int.toNat 0) 0)) (FloatKind.nearest .f32 v11)) 1090519040)) v21 1048576000)) (wFnLakes_o11 v1 v11 v21 (oget (iRouteLake ((unR (unR (unR v1))).1) ((unR (unR (unR v1))).2) (fadd .f32 (List.getD ((unR (unR (unR v1))).1) (Int.toNat 0) 0) (fdiv .f32 (fmul .f32 (fsub .f32 (List.getD ((unR (unR (unR v1))).1) (Int.toNat (IntKind.wrap .i64 ((((List.length ((unR (unR (unR v1))).1) : Nat) : Int)) - 1))) 0) (List.getD ((unR (unR (unR v1))).1) (Int.toNat 0) 0)) (FloatKind.nearest .f32 v11)) 1090519040)) v21 1048576000))) .bad

noncomputable def wFnLakes_o13 (x1 : List Int) (v1 : Unit ⊕ ((List Nat) ⊕ ((List Nat) ⊕ ((List Nat) × (List Nat))))) (v11 : Int) (v20 : Int) : Tr (Bool) :=
  .br (osome (sB10Rain x1 (IntKind.wrap .i64 (1 + v20)))) (wFnLakes_o12 v1 v11 (oget (sB10Rain x1 (IntKind.wrap .i64 (1 + v20))))) .bad

noncomputable def wFnLakes_o14 (v27 : Unit ⊕ Unit) : Tr (Bool) :=
  .br (isL v27) (.ok false) (.ok true)

noncomputable def wFnLakes_o15 (v1 : Unit ⊕ ((List Nat) ⊕ ((List Nat) ⊕ ((List Nat) × (List Nat))))) (v11 : Int) (v25 : List Nat) (v26 : Unit ⊕ ((List Nat) × (List Nat))) : Tr (Bool) :=
  .br (isL v26) (.ok false) (.br ((((List.length ((unR v26).1) : Nat) : Int) : Int) != (((List.length v25 : Nat) : Int))) (.ok false) (.br ((((List.length ((unR v26).2) : Nat) : Int) : Int) != (((List.length v25 : Nat) : Int))) (.ok false) (.br (decide (0 ≤ (0 : Int)) && decide ((0 : Int) < ((List.length ((unR v26).1) : Nat) : Int))) (.br (! (feq .f32 (List.getD ((unR v26).1) (Int.toNat 0) 0) (fadd .f32 (List.getD ((unR (unR (unR v1))).1) (Int.toNat 0) 0) (fdiv .f32 (fmul .f32 (fsub .f32 (List.getD ((unR (unR (unR v1))).1) (Int.toNat (IntKind.wrap .i64 ((((List.length ((unR (unR (unR v1))).1) : Nat) : Int)) - 1))) 0) (List.getD ((unR (unR (unR v1))).1) (Int.toNat 0) 0)) (FloatKind.nearest .f32 v11)) 1090519040)))) (.ok false) (.br (osome (wFnLakes_l26 (fadd .f32 (List.getD ((unR (unR (unR v1))).1) (Int.toNat 0) 0) (fdiv .f32 (fmul .f32 (fsub .f32 (List.getD ((unR (unR (unR v1))).1) (Int.toNat (IntKind.wrap .i64 ((((List.length ((unR (unR (unR v1))).1) : Nat) : Int)) - 1))) 0) (List.getD ((unR (unR (unR v1))).1) (Int.toNat 0) 0)) (FloatKind.nearest .f32 v11)) 1090519040)) (((List.length v25 : Nat) : Int)) 0 ((unR (unR (unR v1))).1) ((unR (unR (unR v1))).2) v25 ((unR v26).1) ((unR v26).2))) (wFnLakes_o14 (oget (wFnLakes_l26 (fadd .f32 (List.getD ((unR (unR (unR v1))).1) (Int.toNat 0) 0) (fdiv .f32 (fmul .f32 (fsub .f32 (List.getD ((unR (unR (unR v1))).1) (Int.toNat (IntKind.wrap .i64 ((((List.length ((unR (unR (unR v1))).1) : Nat) : Int)) - 1))) 0) (List.getD ((unR (unR (unR v1))).1) (Int.toNat 0) 0)) (FloatKind.nearest .f32 v11)) 1090519040)) (((List.length v25 : Nat) : Int)) 0 ((unR (unR (unR v1))).1) ((unR (unR (unR v1))).2) v25 ((unR v26).1) ((unR v26).2)))) .bad)) .bad)))

noncomputable def wFnLakes_o16 (v1 : Unit ⊕ ((List Nat) ⊕ ((List Nat) ⊕ ((List Nat) × (List Nat))))) (v11 : Int) (v25 : List Nat) : Tr (Bool) :=
  .br (osome (iRouteLake ((unR (unR (unR v1))).1) ((unR (unR (unR v1))).2) (fadd .f32 (List.getD ((unR (unR (unR v1))).1) (Int.toNat 0) 0) (fdiv .f32 (fmul .f32 (fsub .f32 (List.getD ((unR (unR (unR v1))).1) (Int.toNat (IntKind.wrap .i64 ((((List.length ((unR (unR (unR v1))).1) : Nat) : Int)) - 1))) 0) (List.getD ((unR (unR (unR v1))).1) (Int.toNat 0) 0)) (FloatKind.nearest .f32 v11)) 1090519040)) v25 1048576000)) (wFnLakes_o15 v1 v11 v25 (oget (iRouteLake ((unR (unR (unR v1))).1) ((unR (unR (unR v1))).2) (fadd .f32 (List.getD ((unR (unR (unR v1))).1) (Int.toNat 0) 0) (fdiv .f32 (fmul .f32 (fsub .f32 (List.getD ((unR (unR (unR v1))).1) (Int.toNat (IntKind.wrap .i64 ((((List.length ((unR (unR (unR v1))).1) : Nat) : Int)) - 1))) 0) (List.getD ((unR (unR (unR v1))).1) (Int.toNat 0) 0)) (FloatKind.nearest .f32 v11)) 1090519040)) v25 1048576000))) .bad

noncomputable def wFnLakes_o17 (x1 : List Int) (v1 : Unit ⊕ ((List Nat) ⊕ ((List Nat) ⊕ ((List Nat) × (List Nat))))) (v11 : Int) (v24 : Int) : Tr (Bool) :=
  .br (osome (sB10Rain x1 (IntKind.wrap .i64 (1 + v24)))) (wFnLakes_o16 v1 v11 (oget (sB10Rain x1 (IntKind.wrap .i64 (1 + v24))))) .bad

noncomputable def wFnLakes_o18 (v31 : Unit ⊕ Unit) : Tr (Bool) :=
  .br (isL v31) (.ok false) (.ok true)

noncomputable def wFnLakes_o19 (v1 : Unit ⊕ ((List Nat) ⊕ ((List Nat) ⊕ ((List Nat) × (List Nat))))) (v11 : Int) (v29 : List Nat) (v30 : Unit ⊕ ((List Nat) × (List Nat))) : Tr (Bool) :=
  .br (isL v30) (.ok false) (.br ((((List.length ((unR v30).1) : Nat) : Int) : Int) != (((List.length v29 : Nat) : Int))) (.ok false) (.br ((((List.length ((unR v30).2) : Nat) : Int) : Int) != (((List.length v29 : Nat) : Int))) (.ok false) (.br (decide (0 ≤ (0 : Int)) && decide ((0 : Int) < ((List.length ((unR v30).1) : Nat) : Int))) (.br (! (feq .f32 (List.getD ((unR v30).1) (Int.toNat 0) 0) (fadd .f32 (List.getD ((unR (unR (unR v1))).1) (Int.toNat 0) 0) (fdiv .f32 (fmul .f32 (fsub .f32 (List.getD ((unR (unR (unR v1))).1) (Int.toNat (IntKind.wrap .i64 ((((List.length ((unR (unR (unR v1))).1) : Nat) : Int)) - 1))) 0) (List.getD ((unR (unR (unR v1))).1) (Int.toNat 0) 0)) (FloatKind.nearest .f32 v11)) 1090519040)))) (.ok false) (.br (osome (wFnLakes_l26 (fadd .f32 (List.getD ((unR (unR (unR v1))).1) (Int.toNat 0) 0) (fdiv .f32 (fmul .f32 (fsub .f32 (List.getD ((unR (unR (unR v1))).1) (Int.toNat (IntKind.wrap .i64 ((((List.length ((unR (unR (unR v1))).1) : Nat) : Int)) - 1))) 0) (List.getD ((unR (unR (unR v1))).1) (Int.toNat 0) 0)) (FloatKind.nearest .f32 v11)) 1090519040)) (((List.length v29 : Nat) : Int)) 0 ((unR (unR (unR v1))).1) ((unR (unR (unR v1))).2) v29 ((unR v30).1) ((unR v30).2))) (wFnLakes_o18 (oget (wFnLakes_l26 (fadd .f32 (List.getD ((unR (unR (unR v1))).1) (Int.toNat 0) 0) (fdiv .f32 (fmul .f32 (fsub .f32 (List.getD ((unR (unR (unR v1))).1) (Int.toNat (IntKind.wrap .i64 ((((List.length ((unR (unR (unR v1))).1) : Nat) : Int)) - 1))) 0) (List.getD ((unR (unR (unR v1))).1) (Int.toNat 0) 0)) (FloatKind.nearest .f32 v11)) 1090519040)) (((List.length v29 : Nat) : Int)) 0 ((unR (unR (unR v1))).1) ((unR (unR (unR v1))).2) v29 ((unR v30).1) ((unR v30).2)))) .bad)) .bad)))

noncomputable def wFnLakes_o20 (v1 : Unit ⊕ ((List Nat) ⊕ ((List Nat) ⊕ ((List Nat) × (List Nat))))) (v11 : Int) (v29 : List Nat) : Tr (Bool) :=
  .br (osome (iRouteLake ((unR (unR (unR v1))).1) ((unR (unR (unR v1))).2) (fadd .f32 (List.getD ((unR (unR (unR v1))).1) (Int.toNat 0) 0) (fdiv .f32 (fmul .f32 (fsub .f32 (List.getD ((unR (unR (unR v1))).1) (Int.toNat (IntKind.wrap .i64 ((((List.length ((unR (unR (unR v1))).1) : Nat) : Int)) - 1))) 0) (List.getD ((unR (unR (unR v1))).1) (Int.toNat 0) 0)) (FloatKind.nearest .f32 v11)) 1090519040)) v29 1048576000)) (wFnLakes_o19 v1 v11 v29 (oget (iRouteLake ((unR (unR (unR v1))).1) ((unR (unR (unR v1))).2) (fadd .f32 (List.getD ((unR (unR (unR v1))).1) (Int.toNat 0) 0) (fdiv .f32 (fmul .f32 (fsub .f32 (List.getD ((unR (unR (unR v1))).1) (Int.toNat (IntKind.wrap .i64 ((((List.length ((unR (unR (unR v1))).1) : Nat) : Int)) - 1))) 0) (List.getD ((unR (unR (unR v1))).1) (Int.toNat 0) 0)) (FloatKind.nearest .f32 v11)) 1090519040)) v29 1048576000))) .bad

noncomputable def wFnLakes_o21 (x1 : List Int) (v1 : Unit ⊕ ((List Nat) ⊕ ((List Nat) ⊕ ((List Nat) × (List Nat))))) (v11 : Int) (v28 : Int) : Tr (Bool) :=
  .br (osome (sB10Rain x1 (IntKind.wrap .i64 (1 + v28)))) (wFnLakes_o20 v1 v11 (oget (sB10Rain x1 (IntKind.wrap .i64 (1 + v28))))) .bad

noncomputable def wFnLakes_o22 (x1 : List Int) (v1 : Unit ⊕ ((List Nat) ⊕ ((List Nat) ⊕ ((List Nat) × (List Nat))))) (v11 : Int) (v12 : Nat × Bool) (v13 : Nat × Bool) (v14 : Int) (v15 : Int) (v16 : Nat × Bool) (v17 : Nat × Bool) (v19 : Bool) : Tr (Bool) :=
  .br (!v19) (.ok false) (.br (flt .f32 v13.1 v12.1) (.ok false) (.br (decide (0 ≤ (0 : Int)) && decide ((0 : Int) < ((List.length ((unR (unR (unR v1))).2) : Nat) : Int))) (.br (flt .f32 v12.1 (List.getD ((unR (unR (unR v1))).2) (Int.toNat 0) 0)) (.ok false) (.br (decide (0 ≤ (IntKind.wrap .i64 ((((List.length ((unR (unR (unR v1))).1) : Nat) : Int)) - 1) : Int)) && decide ((IntKind.wrap .i64 ((((List.length ((unR (unR (unR v1))).1) : Nat) : Int)) - 1) : Int) < ((List.length ((unR (unR (unR v1))).2) : Nat) : Int))) (.br (fgt .f32 v12.1 (List.getD ((unR (unR (unR v1))).2) (Int.toNat (IntKind.wrap .i64 ((((List.length ((unR (unR (unR v1))).1) : Nat) : Int)) - 1))) 0)) (.ok false) (.br (flt .f32 v16.1 (List.getD ((unR (unR (unR v1))).1) (Int.toNat 0) 0)) (.ok false) (.br (fgt .f32 v16.1 (List.getD ((unR (unR (unR v1))).1) (Int.toNat (IntKind.wrap .i64 ((((List.length ((unR (unR (unR v1))).1) : Nat) : Int)) - 1))) 0)) (.ok false) (.br (fgt .f64 (fup v16.1) (fadd .f64 (fup (List.getD ((unR (unR (unR v1))).1) (Int.toNat 0) 0)) 4576918229304087675)) (.br (flt .f64 (fup v16.1) (fsub .f64 (fup (List.getD ((unR (unR (unR v1))).1) (Int.toNat (IntKind.wrap .i64 ((((List.length ((unR (unR (unR v1))).1) : Nat) : Int)) - 1))) 0)) 4576918229304087675)) (.br (fgt .f64 (wb10Gap (fup v16.1) (fadd .f64 (fup (fadd .f32 (List.getD ((unR (unR (unR v1))).1) (Int.toNat 0) 0) (fdiv .f32 (fmul .f32 (fsub .f32 (List.getD ((unR (unR (unR v1))).1) (Int.toNat (IntKind.wrap .i64 ((((List.length ((unR (unR (unR v1))).1) : Nat) : Int)) - 1))) 0) (List.getD ((unR (unR (unR v1))).1) (Int.toNat 0) 0)) (FloatKind.nearest .f32 v11)) 1090519040))) (fmul .f64 4593671619917905920 (fsub .f64 (fsub .f64 (fadd .f64 (fup (fdiv .f32 (FloatKind.nearest .f32 v14) 1082130432)) (fup (fdiv .f32 (FloatKind.nearest .f32 v15) 1082130432))) (fup v12.1)) (fup v17.1))))) 4576918229304087675) (.ok false) (.br (osome (wb10At x1 3 8)) (wFnLakes_o13 x1 v1 v11 (oget (wb10At x1 3 8))) .bad)) (.br (osome (wb10At x1 3 8)) (wFnLakes_o17 x1 v1 v11 (oget (wb10At x1 3 8))) .bad)) (.br (osome (wb10At x1 3 8)) (wFnLakes_o21 x1 v1 v11 (oget (wb10At x1 3 8))) .bad))))) .bad)) .bad))

noncomputable def wFnLakes_o23 (x1 : List Int) (v1 : Unit ⊕ ((List Nat) ⊕ ((List Nat) ⊕ ((List Nat) × (List Nat))))) (v11 : Int) (v12 : Nat × Bool) (v13 : Nat × Bool) (v14 : Int) (v15 : Int) (v16 : Nat × Bool) (v17 : Nat × Bool) (v18 : Bool) : Tr (Bool) :=
  .br (!v18) (.ok false) (.br (osome (iSameLake ((unR (unR (unR v1))).1) ((unR (unR (unR v1))).2) ((unR (unR (unR v1))).1) ((unR (unR (unR v1))).2))) (wFnLakes_o22 x1 v1 v11 v12 v13 v14 v15 v16 v17 (oget (iSameLake ((unR (unR (unR v1))).1) ((unR (unR (unR v1))).2) ((unR (unR (unR v1))).1) ((unR (unR (unR v1))).2)))) .bad)

noncomputable def wFnLakes_o24 (x1 : List Int) (v1 : Unit ⊕ ((List Nat) ⊕ ((List Nat) ⊕ ((List Nat) × (List Nat))))) (v11 : Int) (v12 : Nat × Bool) (v13 : Nat × Bool) (v14 : Int) (v15 : Int) (v16 : Nat × Bool) (v17 : Nat × Bool) : Tr (Bool) :=
  .br (!v12.2) (.ok false) (.br (!v13.2) (.ok false) (.br (!v16.2) (.ok false) (.br (!v17.2) (.ok false) (.br (osome (iValidLake ((unR (unR (unR v1))).1) ((unR (unR (unR v1))).2))) (wFnLakes_o23 x1 v1 v11 v12 v13 v14 v15 v16 v17 (oget (iValidLake ((unR (unR (unR v1))).1) ((unR (unR (unR v1))).2)))) .bad))))

noncomputable def wFnLakes_o25 (x1 : List Int) (v1 : Unit ⊕ ((List Nat) ⊕ ((List Nat) ⊕ ((List Nat) × (List Nat))))) (v11 : Int) (v12 : Nat × Bool) (v13 : Nat × Bool) (v14 : Int) (v15 : Int) (v16 : Nat × Bool) : Tr (Bool) :=
  .br (osome (iLakeOut ((unR (unR (unR v1))).1) ((unR (unR (unR v1))).2) v16.1)) (wFnLakes_o24 x1 v1 v11 v12 v13 v14 v15 v16 (oget (iLakeOut ((unR (unR (unR v1))).1) ((unR (unR (unR v1))).2) v16.1))) .bad

noncomputable def wFnLakes_o26 (x1 : List Int) (v1 : Unit ⊕ ((List Nat) ⊕ ((List Nat) ⊕ ((List Nat) × (List Nat))))) (v11 : Int) (v12 : Nat × Bool) (v13 : Nat × Bool) (v14 : Int) (v15 : Int) : Tr (Bool) :=
  .br (osome (iStepLake ((unR (unR (unR v1))).1) ((unR (unR (unR v1))).2) (fadd .f32 (List.getD ((unR (unR (unR v1))).1) (Int.toNat 0) 0) (fdiv .f32 (fmul .f32 (fsub .f32 (List.getD ((unR (unR (unR v1))).1) (Int.toNat (IntKind.wrap .i64 ((((List.length ((unR (unR (unR v1))).1) : Nat) : Int)) - 1))) 0) (List.getD ((unR (unR (unR v1))).1) (Int.toNat 0) 0)) (FloatKind.nearest .f32 v11)) 1090519040)) (fdiv .f32 (FloatKind.nearest .f32 v14) 1082130432) (fdiv .f32 (FloatKind.nearest .f32 v15) 1082130432) 1048576000)) (wFnLakes_o25 x1 v1 v11 v12 v13 v14 v15 (oget (iStepLake ((unR (unR (unR v1))).1) ((unR (unR (unR v1))).2) (fadd .f32 (List.getD ((unR (unR (unR v1))).1) (Int.toNat 0) 0) (fdiv .f32 (fmul .f32 (fsub .f32 (List.getD ((unR (unR (unR v1))).1) (Int.toNat (IntKind.wrap .i64 ((((List.length ((unR (unR (unR v1))).1) : Nat) : Int)) - 1))) 0) (List.getD ((unR (unR (unR v1))).1) (Int.toNat 0) 0)) (FloatKind.nearest .f32 v11)) 1090519040)) (fdiv .f32 (FloatKind.nearest .f32 v14) 1082130432) (fdiv .f32 (FloatKind.nearest .f32 v15) 1082130432) 1048576000))) .bad

noncomputable def wFnLakes_o27 (x1 : List Int) (v1 : Unit ⊕ ((List Nat) ⊕ ((List Nat) ⊕ ((List Nat) × (List Nat))))) (v11 : Int) (v12 : Nat × Bool) (v13 : Nat × Bool) (v14 : Int) : Tr (Bool) :=
  .br (osome (wb10At x1 2 9)) (wFnLakes_o26 x1 v1 v11 v12 v13 v14 (oget (wb10At x1 2 9))) .bad

noncomputable def wFnLakes_o28 (x1 : List Int) (v1 : Unit ⊕ ((List Nat) ⊕ ((List Nat) ⊕ ((List Nat) × (List Nat))))) (v11 : Int) (v12 : Nat × Bool) (v13 : Nat × Bool) : Tr (Bool) :=
  .br (osome (wb10At x1 1 9)) (wFnLakes_o27 x1 v1 v11 v12 v13 (oget (wb10At x1 1 9))) .bad

noncomputable def wFnLakes_o29 (x1 : List Int) (v1 : Unit ⊕ ((List Nat) ⊕ ((List Nat) ⊕ ((List Nat) × (List Nat))))) (v11 : Int) (v12 : Nat × Bool) : Tr (Bool) :=
  .br (osome (iLakeOut ((unR (unR (unR v1))).1) ((unR (unR (unR v1))).2) (fadd .f32 (fadd .f32 (List.getD ((unR (unR (unR v1))).1) (Int.toNat 0) 0) (fdiv .f32 (fmul .f32 (fsub .f32 (List.getD ((unR (unR (unR v1))).1) (Int.toNat (IntKind.wrap .i64 ((((List.length ((unR (unR (unR v1))).1) : Nat) : Int)) - 1))) 0) (List.getD ((unR (unR (unR v1))).1) (Int.toNat 0) 0)) (FloatKind.nearest .f32 v11)) 1090519040)) 1065353216))) (wFnLakes_o28 x1 v1 v11 v12 (oget (iLakeOut ((unR (unR (unR v1))).1) ((unR (unR (unR v1))).2) (fadd .f32 (fadd .f32 (List.getD ((unR (unR (unR v1))).1) (Int.toNat 0) 0) (fdiv .f32 (fmul .f32 (fsub .f32 (List.getD ((unR (unR (unR v1))).1) (Int.toNat (IntKind.wrap .i64 ((((List.length ((unR (unR (unR v1))).1) : Nat) : Int)) - 1))) 0) (List.getD ((unR (unR (unR v1))).1) (Int.toNat 0) 0)) (FloatKind.nearest .f32 v11)) 1090519040)) 1065353216)))) .bad

noncomputable def wFnLakes_o30 (x1 : List Int) (v1 : Unit ⊕ ((List Nat) ⊕ ((List Nat) ⊕ ((List Nat) × (List Nat))))) (v11 : Int) : Tr (Bool) :=
  .br (osome (iLakeOut ((unR (unR (unR v1))).1) ((unR (unR (unR v1))).2) (fadd .f32 (List.getD ((unR (unR (unR v1))).1) (Int.toNat 0) 0) (fdiv .f32 (fmul .f32 (fsub .f32 (List.getD ((unR (unR (unR v1))).1) (Int.toNat (IntKind.wrap .i64 ((((List.length ((unR (unR (unR v1))).1) : Nat) : Int)) - 1))) 0) (List.getD ((unR (unR (unR v1))).1) (Int.toNat 0) 0)) (FloatKind.nearest .f32 v11)) 1090519040)))) (wFnLakes_o29 x1 v1 v11 (oget (iLakeOut ((unR (unR (unR v1))).1) ((unR (unR (unR v1))).2) (fadd .f32 (List.getD ((unR (unR (unR v1))).1) (Int.toNat 0) 0) (fdiv .f32 (fmul .f32 (fsub .f32 (List.getD ((unR (unR (unR v1))).1) (Int.toNat (IntKind.wrap .i64 ((((List.length ((unR (unR (unR v1))).1) : Nat) : Int)) - 1))) 0) (List.getD ((unR (unR (unR v1))).1) (Int.toNat 0) 0)) (FloatKind.nearest .f32 v11)) 1090519040))))) .bad

noncomputable def wFnLakes_o31 (x1 : List Int) (v1 : Unit ⊕ ((List Nat) ⊕ ((List Nat) ⊕ ((List Nat) × (List Nat))))) : Tr (Bool) :=
  .br (isL v1) .bad (.br (isL (unR v1)) .bad (.br (isL (unR (unR v1))) (.br (decide (0 ≤ (0 : Int)) && decide ((0 : Int) < ((List.length (unL (unR (unR v1))) : Nat) : Int))) (.br (decide (0 ≤ (IntKind.wrap .i64 ((((List.length (unL (unR (unR v1))) : Nat) : Int)) - 1) : Int)) && decide ((IntKind.wrap .i64 ((((List.length (unL (unR (unR v1))) : Nat) : Int)) - 1) : Int) < ((List.length (unL (unR (unR v1))) : Nat) : Int))) (.br (osome (wb10At x1 0 9)) (wFnLakes_o9 x1 v1 (oget (wb10At x1 0 9))) .bad) .bad) .bad) (.br (decide (0 ≤ (0 : Int)) && decide ((0 : Int) < ((List.length ((unR (unR (unR v1))).1) : Nat) : Int))) (.br (decide (0 ≤ (IntKind.wrap .i64 ((((List.length ((unR (unR (unR v1))).1) : Nat) : Int)) - 1) : Int)) && decide ((IntKind.wrap .i64 ((((List.length ((unR (unR (unR v1))).1) : Nat) : Int)) - 1) : Int) < ((List.length ((unR (unR (unR v1))).1) : Nat) : Int))) (.br (osome (wb10At x1 0 9)) (wFnLakes_o30 x1 v1 (oget (wb10At x1 0 9))) .bad) .bad) .bad)))

noncomputable def wFnLakes_t (x0 : List Int) (x1 : List Int) : Tr (Bool) :=
  .br (wb10Long x0 x1) (.ok true) (.br (osome (sB10Lake x0)) (wFnLakes_o31 x1 (oget (sB10Lake x0))) .bad)

noncomputable def wFnLakes (x0 : List Int) (x1 : List Int) : Option (Bool) := (wFnLakes_t x0 x1).sem
end Go.Proofs.Ytpglfnkkmafhbaa
