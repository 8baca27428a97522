/- Functions, as plain functions. Plain functions. -/
import Derived.Test.YtpglfnkkmafhbaaDa
set_option linter.unusedVariables false
set_option linter.unusedSimpArgs false
set_option linter.constructorNameAsVariable false
namespace Go.Proofs.Ytpglfnkkmafhbaa
open Go.RowKit
set_option maxRecDepth 100000
noncomputable def wb10Long_t (x0 : List Int) (x1 : List Int) : Tr (Bool) :=
  .br (decide ((((List.length x0 : Nat) : Int) : Int) > 1048576)) (.ok true) (.ok (decide ((((List.length x1 : Nat) : Int) : Int) > 1048576)))

noncomputable def wb10Long (x0 : List Int) (x1 : List Int) : Bool := (wb10Long_t x0 x1).val

noncomputable def wb10At_t (x0 : List Int) (x1 : Int) (x2 : Int) : Tr (Int) :=
  .br (decide ((x2 : Int) ≤ 1)) (.ok 0) (.br (decide ((x1 : Int) < (((List.length x0 : Nat) : Int)))) (.br (decide (0 ≤ (x1 : Int)) && decide ((x1 : Int) < ((List.length x0 : Nat) : Int))) (.br (decide (x2 ≠ (0 : Int))) (.ok (Int.tmod (IntKind.wrap .i64 (List.getD x0 (Int.toNat x1) 0)) x2)) .bad) .bad) (.br (decide (x2 ≠ (0 : Int))) (.ok (Int.tmod (IntKind.wrap .i64 ((IntKind.wrap .i64 (x1 * 37)) + 11)) x2)) .bad))

noncomputable def wb10At (x0 : List Int) (x1 : Int) (x2 : Int) : Option (Int) := (wb10At_t x0 x1 x2).sem

noncomputable def sl00From_t (x0 : List Int) : Tr (List Int × Int × Int) :=
  .ok (x0, 0, 0)

noncomputable def sl00From (x0 : List Int) : List Int × Int × Int := (sl00From_t x0).val

noncomputable def sl00Src_next_t (x0 : List Int) (x1 : Int) (x2 : Int) : Tr (Int × List Int × Int × Int) :=
  .br (decide ((x1 : Int) < (((List.length x0 : Nat) : Int)))) (.br (decide (0 ≤ (x1 : Int)) && decide ((x1 : Int) < ((List.length x0 : Nat) : Int))) (.br (decide ((IntKind.wrap .i64 (x1 + 1) : Int) ≤ (((List.length x0 : Nat) : Int)))) (.ok (IntKind.wrap .i64 (List.getD x0 (Int.toNat x1) 0), x0, IntKind.wrap .i64 (x1 + 1), IntKind.wrap .u64 ((IntKind.wrap .u64 ((IntKind.wrap .u64 (x2 * 6364136223846793005)) + (IntKind.wrap .u64 (IntKind.wrap .i64 (List.getD x0 (Int.toNat x1) 0))))) + 1442695040888963407))) (.br (decide ((0 : Int) ≤ 40)) (.ok (IntKind.wrap .i64 (iand .u64 (ishr .u64 (IntKind.wrap .u64 ((IntKind.wrap .u64 ((IntKind.wrap .u64 (x2 * 6364136223846793005)) + (IntKind.wrap .u64 (IntKind.wrap .i64 (List.getD x0 (Int.toNat x1) 0))))) + 1442695040888963407)) 40) 255), x0, IntKind.wrap .i64 (x1 + 1), IntKind.wrap .u64 ((IntKind.wrap .u64 ((IntKind.wrap .u64 (x2 * 6364136223846793005)) + (IntKind.wrap .u64 (IntKind.wrap .i64 (List.getD x0 (Int.toNat x1) 0))))) + 1442695040888963407))) .bad)) .bad) (.br (decide ((IntKind.wrap .i64 (x1 + 1) : Int) ≤ (((List.length x0 : Nat) : Int)))) (.ok (0, x0, IntKind.wrap .i64 (x1 + 1), IntKind.wrap .u64 ((IntKind.wrap .u64 ((IntKind.wrap .u64 (x2 * 6364136223846793005)) + (IntKind.wrap .u64 0))) + 1442695040888963407))) (.br (decide ((0 : Int) ≤ 40)) (.ok (IntKind.wrap .i64 (iand .u64 (ishr .u64 (IntKind.wrap .u64 ((IntKind.wrap .u64 ((IntKind.wrap .u64 (x2 * 6364136223846793005)) + (IntKind.wrap .u64 0))) + 1442695040888963407)) 40) 255), x0, IntKind.wrap .i64 (x1 + 1), IntKind.wrap .u64 ((IntKind.wrap .u64 ((IntKind.wrap .u64 (x2 * 6364136223846793005)) + (IntKind.wrap .u64 0))) + 1442695040888963407))) .bad))

noncomputable def sl00Src_next (x0 : List Int) (x1 : Int) (x2 : Int) : Option (Int × List Int × Int × Int) := (sl00Src_next_t x0 x1 x2).sem

noncomputable def sl00Src_pick_t (x0 : Int) (x1 : List Int) (x2 : Int) (x3 : Int) : Tr (Int × List Int × Int × Int) :=
  .br (decide ((x0 : Int) ≤ 1)) (.ok (0, x1, x2, x3)) (.br (osome (sl00Src_next x1 x2 x3)) (.br (decide ((x0 : Int) > 200)) (.br (osome (sl00Src_next (oget (sl00Src_next x1 x2 x3)).2.1 (oget (sl00Src_next x1 x2 x3)).2.2.1 (oget (sl00Src_next x1 x2 x3)).2.2.2)) (.br (decide (x0 ≠ (0 : Int))) (.ok (Int.tmod (IntKind.wrap .i64 ((IntKind.wrap .i64 ((oget (sl00Src_next x1 x2 x3)).1 * 256)) + (oget (sl00Src_next (oget (sl00Src_next x1 x2 x3)).2.1 (oget (sl00Src_next x1 x2 x3)).2.2.1 (oget (sl00Src_next x1 x2 x3)).2.2.2)).1)) x0, (oget (sl00Src_next (oget (sl00Src_next x1 x2 x3)).2.1 (oget (sl00Src_next x1 x2 x3)).2.2.1 (oget (sl00Src_next x1 x2 x3)).2.2.2)).2.1, (oget (sl00Src_next (oget (sl00Src_next x1 x2 x3)).2.1 (oget (sl00Src_next x1 x2 x3)).2.2.1 (oget (sl00Src_next x1 x2 x3)).2.2.2)).2.2.1, (oget (sl00Src_next (oget (sl00Src_next x1 x2 x3)).2.1 (oget (sl00Src_next x1 x2 x3)).2.2.1 (oget (sl00Src_next x1 x2 x3)).2.2.2)).2.2.2)) .bad) .bad) (.br (decide (x0 ≠ (0 : Int))) (.ok (Int.tmod (oget (sl00Src_next x1 x2 x3)).1 x0, (oget (sl00Src_next x1 x2 x3)).2.1, (oget (sl00Src_next x1 x2 x3)).2.2.1, (oget (sl00Src_next x1 x2 x3)).2.2.2)) .bad)) .bad)

noncomputable def sl00Src_pick (x0 : Int) (x1 : List Int) (x2 : Int) (x3 : Int) : Option (Int × List Int × Int × Int) := (sl00Src_pick_t x0 x1 x2 x3).sem

noncomputable def sB10Rain_l3_t  (y0 : Int) (y1 : List Int) (y2 : Int) (y3 : Int) (y4 : List Nat) : Tr ((Int × List Int × Int × Int × List Nat) ⊕ (List Nat)) :=
  .br (decide ((y0 : Int) > 0)) (.br (osome (sl00Src_pick 9 y1 y2 y3)) (.br (decide ((List.length y4 + List.length [fdiv .f32 (FloatKind.nearest .f32 (oget (sl00Src_pick 9 y1 y2 y3)).1) 1082130432]) * 4 ≤ 140737488355328)) (.ok (.inl (IntKind.wrap .i64 (y0 - 1), (oget (sl00Src_pick 9 y1 y2 y3)).2.1, (oget (sl00Src_pick 9 y1 y2 y3)).2.2.1, (oget (sl00Src_pick 9 y1 y2 y3)).2.2.2, y4 ++ [fdiv .f32 (FloatKind.nearest .f32 (oget (sl00Src_pick 9 y1 y2 y3)).1) 1082130432]))) .bad) .bad) (.ok (.inr y4))

noncomputable def sB10Rain_l3 (y0 : Int) (y1 : List Int) (y2 : Int) (y3 : Int) (y4 : List Nat) : Option (List Nat) := runL (fun s : Int × List Int × Int × Int × List Nat => (sB10Rain_l3_t  s.1 s.2.1 s.2.2.1 s.2.2.2.1 s.2.2.2.2).sem) (y0, y1, y2, y3, y4)

noncomputable def sB10Rain_t (x0 : List Int) (x1 : Int) : Tr (List Nat) :=
  .br (osome (sB10Rain_l3 x1 ((sl00From x0).1) (((sl00From x0).2).1) (((sl00From x0).2).2) [])) (.ok (oget (sB10Rain_l3 x1 ((sl00From x0).1) (((sl00From x0).2).1) (((sl00From x0).2).2) []))) .bad

noncomputable def sB10Rain (x0 : List Int) (x1 : Int) : Option (List Nat) := (sB10Rain_t x0 x1).sem

noncomputable def sl05Slope_l3_t (y0 : List Nat) (y1 : Nat) (y2 : Nat) (y3 : Nat) (y4 : Int) (y5 : Int) : Tr (Int ⊕ (Unit ⊕ (Nat × Nat × Nat × Int))) :=
  .br (decide ((y5 : Int) < y4)) (.br (decide ((y4 : Int) ≤ 48)) (.br (decide (0 ≤ (y5 : Int)) && decide ((y5 : Int) < ((List.length y0 : Nat) : Int))) (.br (! (isMass (List.getD y0 (Int.toNat y5) 0))) (.ok (.inr (.inl ()))) (.ok (.inl (IntKind.wrap .i64 (y5 + 1))))) .bad) (.ok (.inr (.inr (y1, y2, y3, y4))))) (.ok (.inr (.inr (y1, y2, y3, y4))))

noncomputable def sl05Slope_l3 (y0 : List Nat) (y1 : Nat) (y2 : Nat) (y3 : Nat) (y4 : Int) (y5 : Int) : Option (Unit ⊕ (Nat × Nat × Nat × Int)) := runL (fun s : Int => (sl05Slope_l3_t y0 y1 y2 y3 y4 s).sem) y5

noncomputable def sl05Slope_t (x0 : List Nat) (x1 : Nat) (x2 : Nat) (x3 : Nat) : Tr (Bool) :=
  .br (osome (sl05Slope_l3 x0 x1 x2 x3 (((List.length x0 : Nat) : Int)) 0)) (.br (isL (oget (sl05Slope_l3 x0 x1 x2 x3 (((List.length x0 : Nat) : Int)) 0))) (.ok false) (.br (decide (((((unR (oget (sl05Slope_l3 x0 x1 x2 x3 (((List.length x0 : Nat) : Int)) 0))).2).2).2 : Int) ≥ 1)) (.br (decide (((((unR (oget (sl05Slope_l3 x0 x1 x2 x3 (((List.length x0 : Nat) : Int)) 0))).2).2).2 : Int) ≤ 48)) (.br (isLen ((unR (oget (sl05Slope_l3 x0 x1 x2 x3 (((List.length x0 : Nat) : Int)) 0))).1)) (.br (isLen (((unR (oget (sl05Slope_l3 x0 x1 x2 x3 (((List.length x0 : Nat) : Int)) 0))).2).1)) (.ok (isLen ((((unR (oget (sl05Slope_l3 x0 x1 x2 x3 (((List.length x0 : Nat) : Int)) 0))).2).2).1))) (.ok false)) (.ok false)) (.ok false)) (.ok false))) .bad

noncomputable def sl05Slope (x0 : List Nat) (x1 : Nat) (x2 : Nat) (x3 : Nat) : Option (Bool) := (sl05Slope_t x0 x1 x2 x3).sem

noncomputable def sl02Finite_l2_t (y0 : List Nat) (y1 : Int) : Tr (Int ⊕ (Unit ⊕ Unit)) :=
  .br (decide ((y1 : Int) < (((List.length y0 : Nat) : Int)))) (.br (decide (0 ≤ (y1 : Int)) && decide ((y1 : Int) < ((List.length y0 : Nat) : Int))) (.br (! (isFin .f32 (List.getD y0 (Int.toNat y1) 0))) (.ok (.inr (.inl ()))) (.ok (.inl (IntKind.wrap .i64 (y1 + 1))))) .bad) (.ok (.inr (.inr ())))

noncomputable def sl02Finite_l2 (y0 : List Nat) (y1 : Int) : Option (Unit ⊕ Unit) := runL (fun s : Int => (sl02Finite_l2_t y0 s).sem) y1

noncomputable def sl02Finite_t (x0 : List Nat) : Tr (Bool) :=
  .br (osome (sl02Finite_l2 x0 0)) (.br (isL (oget (sl02Finite_l2 x0 0))) (.ok false) (.ok true)) .bad

noncomputable def sl02Finite (x0 : List Nat) : Option (Bool) := (sl02Finite_t x0).sem

noncomputable def sl05Ins_t (x0 : List Nat) : Tr (Bool) :=
  .br (decide ((((List.length x0 : Nat) : Int) : Int) ≥ 1)) (.br (decide ((((List.length x0 : Nat) : Int) : Int) ≤ 128)) (.br (osome (sl02Finite x0)) (.ok (oget (sl02Finite x0))) .bad) (.ok false)) (.ok false)

noncomputable def sl05Ins (x0 : List Nat) : Option (Bool) := (sl05Ins_t x0).sem

noncomputable def sl05Flow_t (x0 : Nat) (x1 : Nat) : Tr (Nat) :=
  .ok (fmul .f32 (fmul .f32 x0 x1) (froot x1))

noncomputable def sl05Flow (x0 : Nat) (x1 : Nat) : Nat := (sl05Flow_t x0 x1).val

noncomputable def sl05Wave_l4_t (y0 : List Nat) (y1 : Nat) (y2 : Nat) (y3 : Nat) (y4 : Nat) (y5 : Nat) (y6 : Int) (y7 : Int) (y8 : List Nat) : Tr ((Int × List Nat) ⊕ (Nat ⊕ (List Nat × Nat × Nat × List Nat))) :=
  .br (decide ((y7 : Int) < y6)) (.br (decide (0 ≤ (y7 : Int)) && decide ((y7 : Int) < ((List.length y0 : Nat) : Int))) (.br (fgt .f32 (fmul .f32 (fmul .f32 (fmul .f32 1069547520 y2) (froot (List.getD y0 (Int.toNat y7) 0))) y4) y3) (.ok (.inr (.inl 0))) (.br (decide (0 ≤ (y7 : Int)) && decide ((y7 : Int) < ((List.length y0 : Nat) : Int))) (.br (decide ((List.length y8 + List.length [sl05Flow y2 (List.getD y0 (Int.toNat y7) 0)]) * 4 ≤ 140737488355328)) (.ok (.inl (IntKind.wrap .i64 (y7 + 1), y8 ++ [sl05Flow y2 (List.getD y0 (Int.toNat y7) 0)]))) .bad) .bad)) .bad) (.ok (.inr (.inr (y0, y1, y5, y8))))

noncomputable def sl05Wave_l4 (y0 : List Nat) (y1 : Nat) (y2 : Nat) (y3 : Nat) (y4 : Nat) (y5 : Nat) (y6 : Int) (y7 : Int) (y8 : List Nat) : Option (Nat ⊕ (List Nat × Nat × Nat × List Nat)) := runL (fun s : Int × List Nat => (sl05Wave_l4_t y0 y1 y2 y3 y4 y5 y6 s.1 s.2).sem) (y7, y8)

noncomputable def sl05Wave_l12_t (y0 : List Nat) (y1 : Nat) (y2 : Nat) (y3 : Int) (y5 : List Nat) (y4 : Int) (y6 : List Nat) : Tr ((Int × List Nat) ⊕ (List Nat × List Nat)) :=
  .br (decide ((y4 : Int) < y3)) (.br (decide ((y4 : Int) > 0)) (.br (decide (0 ≤ (IntKind.wrap .i64 (y4 - 1) : Int)) && decide ((IntKind.wrap .i64 (y4 - 1) : Int) < ((List.length y5 : Nat) : Int))) (.br (decide (0 ≤ (y4 : Int)) && decide ((y4 : Int) < ((List.length y0 : Nat) : Int))) (.br (decide (0 ≤ (y4 : Int)) && decide ((y4 : Int) < ((List.length y5 : Nat) : Int))) (.br (flt .f32 (fadd .f32 (List.getD y0 (Int.toNat y4) 0) (fmul .f32 y2 (fsub .f32 (List.getD y5 (Int.toNat (IntKind.wrap .i64 (y4 - 1))) 0) (List.getD y5 (Int.toNat y4) 0)))) 0) (.br (decide ((List.length y6 + List.length [0]) * 4 ≤ 140737488355328)) (.ok (.inl (IntKind.wrap .i64 (y4 + 1), y6 ++ [0]))) .bad) (.br (decide ((List.length y6 + List.length [fadd .f32 (List.getD y0 (Int.toNat y4) 0) (fmul .f32 y2 (fsub .f32 (List.getD y5 (Int.toNat (IntKind.wrap .i64 (y4 - 1))) 0) (List.getD y5 (Int.toNat y4) 0)))]) * 4 ≤ 140737488355328)) (.ok (.inl (IntKind.wrap .i64 (y4 + 1), y6 ++ [fadd .f32 (List.getD y0 (Int.toNat y4) 0) (fmul .f32 y2 (fsub .f32 (List.getD y5 (Int.toNat (IntKind.wrap .i64 (y4 - 1))) 0) (List.getD y5 (Int.toNat y4) 0)))]))) .bad)) .bad) .bad) .bad) (.br (decide (0 ≤ (y4 : Int)) && decide ((y4 : Int) < ((List.length y0 : Nat) : Int))) (.br (decide (0 ≤ (y4 : Int)) && decide ((y4 : Int) < ((List.length y5 : Nat) : Int))) (.br (flt .f32 (fadd .f32 (List.getD y0 (Int.toNat y4) 0) (fmul .f32 y2 (fsub .f32 y1 (List.getD y5 (Int.toNat y4) 0)))) 0) (.br (decide ((List.length y6 + List.length [0]) * 4 ≤ 140737488355328)) (.ok (.inl (IntKind.wrap .i64 (y4 + 1), y6 ++ [0]))) .bad) (.br (decide ((List.length y6 + List.length [fadd .f32 (List.getD y0 (Int.toNat y4) 0) (fmul .f32 y2 (fsub .f32 y1 (List.getD y5 (Int.toNat y4) 0)))]) * 4 ≤ 140737488355328)) (.ok (.inl (IntKind.wrap .i64 (y4 + 1), y6 ++ [fadd .f32 (List.getD y0 (Int.toNat y4) 0) (fmul .f32 y2 (fsub .f32 y1 (List.getD y5 (Int.toNat y4) 0)))]))) .bad)) .bad) .bad)) (.ok (.inr (y5, y6)))

noncomputable def sl05Wave_l12 (y0 : List Nat) (y1 : Nat) (y2 : Nat) (y3 : Int) (y4 : Int) (y5 : List Nat) (y6 : List Nat) : Option (List Nat × List Nat) := runL (fun s : Int × List Nat => (sl05Wave_l12_t y0 y1 y2 y3 y5 s.1 s.2).sem) (y4, y6)

noncomputable def sl05Wave_o1 (v2 : (List Nat) × (List Nat)) (v3 : Bool) : Tr (Nat ⊕ (Nat × List Nat)) :=
  .br (!v3) (.ok (.inl 0)) (.br (! (isFin .f32 (List.getD v2.1 (Int.toNat (IntKind.wrap .i64 ((((List.length v2.1 : Nat) : Int)) - 1))) 0))) (.ok (.inl 0)) (.ok (.inr (List.getD v2.1 (Int.toNat (IntKind.wrap .i64 ((((List.length v2.1 : Nat) : Int)) - 1))) 0, v2.2))))

noncomputable def sl05Wave_o2 (v2 : (List Nat) × (List Nat)) : Tr (Nat ⊕ (Nat × List Nat)) :=
  .br (decide (0 ≤ (IntKind.wrap .i64 ((((List.length v2.1 : Nat) : Int)) - 1) : Int)) && decide ((IntKind.wrap .i64 ((((List.length v2.1 : Nat) : Int)) - 1) : Int) < ((List.length v2.1 : Nat) : Int))) (.br (osome (sl02Finite v2.2)) (sl05Wave_o1 v2 (oget (sl02Finite v2.2))) .bad) .bad

noncomputable def sl05Wave_o3 (v1 : Nat ⊕ ((List Nat) × (Nat × (Nat × (List Nat))))) : Tr (Nat ⊕ (Nat × List Nat)) :=
  .br (isL v1) (.ok (.inl (unL v1))) (.br (osome (sl05Wave_l12 ((unR v1).1) (((unR v1).2).1) ((((unR v1).2).2).1) (((List.length ((unR v1).1) : Nat) : Int)) 0 ((((unR v1).2).2).2) [])) (sl05Wave_o2 (oget (sl05Wave_l12 ((unR v1).1) (((unR v1).2).1) ((((unR v1).2).2).1) (((List.length ((unR v1).1) : Nat) : Int)) 0 ((((unR v1).2).2).2) []))) .bad)

noncomputable def sl05Wave_t (x0 : List Nat) (x1 : Nat) (x2 : Nat) (x3 : Nat) (x4 : Nat) : Tr (Nat ⊕ (Nat × List Nat)) :=
  .br (osome (sl05Wave_l4 x0 x1 x2 x3 x4 (fdiv .f32 x4 x3) (((List.length x0 : Nat) : Int)) 0 [])) (sl05Wave_o3 (oget (sl05Wave_l4 x0 x1 x2 x3 x4 (fdiv .f32 x4 x3) (((List.length x0 : Nat) : Int)) 0 []))) .bad

noncomputable def sl05Wave (x0 : List Nat) (x1 : Nat) (x2 : Nat) (x3 : Nat) (x4 : Nat) : Option (Nat ⊕ (Nat × List Nat)) := (sl05Wave_t x0 x1 x2 x3 x4).sem

noncomputable def sRunWave_l6_t (y0 : List Nat) (y1 : Nat) (y2 : Nat) (y3 : Nat) (y4 : Int) (y5 : Int) (y6 : List Nat) (y7 : List Nat) : Tr ((Int × List Nat × List Nat) ⊕ (Unit ⊕ (List Nat × List Nat))) :=
  .br (decide ((y5 : Int) < y4)) (.br (decide (0 ≤ (y5 : Int)) && decide ((y5 : Int) < ((List.length y0 : Nat) : Int))) (.br (! (isMass (List.getD y0 (Int.toNat y5) 0))) (.ok (.inr (.inl ()))) (.br (decide (0 ≤ (y5 : Int)) && decide ((y5 : Int) < ((List.length y0 : Nat) : Int))) (.br (osome (sl05Wave y6 (List.getD y0 (Int.toNat y5) 0) y1 y2 y3)) (.br (isL (oget (sl05Wave y6 (List.getD y0 (Int.toNat y5) 0) y1 y2 y3))) (.ok (.inr (.inl ()))) (.br (decide ((List.length y7 + List.length [(unR (oget (sl05Wave y6 (List.getD y0 (Int.toNat y5) 0) y1 y2 y3))).1]) * 4 ≤ 140737488355328)) (.ok (.inl (IntKind.wrap .i64 (y5 + 1), (unR (oget (sl05Wave y6 (List.getD y0 (Int.toNat y5) 0) y1 y2 y3))).2, y7 ++ [(unR (oget (sl05Wave y6 (List.getD y0 (Int.toNat y5) 0) y1 y2 y3))).1]))) .bad)) .bad) .bad)) .bad) (.ok (.inr (.inr (y6, y7))))

noncomputable def sRunWave_l6 (y0 : List Nat) (y1 : Nat) (y2 : Nat) (y3 : Nat) (y4 : Int) (y5 : Int) (y6 : List Nat) (y7 : List Nat) : Option (Unit ⊕ (List Nat × List Nat)) := runL (fun s : Int × List Nat × List Nat => (sRunWave_l6_t y0 y1 y2 y3 y4 s.1 s.2.1 s.2.2).sem) (y5, y6, y7)

noncomputable def sRunWave_t (x0 : List Nat) (x1 : List Nat) (x2 : Nat) (x3 : Nat) (x4 : Nat) : Tr (Unit ⊕ (List Nat × List Nat)) :=
  .br (osome (sl05Slope x0 x2 x3 x4)) (.br (!(oget (sl05Slope x0 x2 x3 x4))) (.ok (.inl ())) (.br (osome (sl05Ins x1)) (.br (!(oget (sl05Ins x1))) (.ok (.inl ())) (.br (decide ((List.length ([] : List Nat) + List.length x0) * 4 ≤ 140737488355328)) (.br (osome (sRunWave_l6 x1 x2 x3 x4 (((List.length x1 : Nat) : Int)) 0 ([] ++ x0) [])) (.br (isL (oget (sRunWave_l6 x1 x2 x3 x4 (((List.length x1 : Nat) : Int)) 0 ([] ++ x0) []))) (.ok (.inl ())) (.ok (.inr ((unR (oget (sRunWave_l6 x1 x2 x3 x4 (((List.length x1 : Nat) : Int)) 0 ([] ++ x0) []))).1, (unR (oget (sRunWave_l6 x1 x2 x3 x4 (((List.length x1 : Nat) : Int)) 0 ([] ++ x0) []))).2)))) .bad) .bad)) .bad)) .bad

noncomputable def sRunWave (x0 : List Nat) (x1 : List Nat) (x2 : Nat) (x3 : Nat) (x4 : Nat) : Option (Unit ⊕ (List Nat × List Nat)) := (sRunWave_t x0 x1 x2 x3 x4).sem

noncomputable def iwithin_t (x0 : Int) (x1 : Int) (x2 : Int) : Tr (Bool) :=
  .br (decide ((x1 : Int) ≤ x0)) (.ok (decide ((x0 : Int) ≤ x2))) (.ok false)

noncomputable def iwithin (x0 : Int) (x1 : Int) (x2 : Int) : Bool := (iwithin_t x0 x1 x2).val

noncomputable def iareMasses_1_t (x0 : Nat) : Tr (Bool) :=
  .ok (! (isMass x0))

noncomputable def iareMasses_1 (x0 : Nat) : Bool := (iareMasses_1_t x0).val

noncomputable def lIndexFunc_iareMasses_1_l2_t (y0 : List Nat) (y1 : Int) (y2 : Int) : Tr (Int ⊕ (Int ⊕ Unit)) :=
  .br (decide ((y2 : Int) < y1)) (.br (decide (0 ≤ (y2 : Int)) && decide ((y2 : Int) < ((List.length y0 : Nat) : Int))) (.br (iareMasses_1 (List.getD y0 (Int.toNat y2) 0)) (.ok (.inr (.inl y2))) (.ok (.inl (IntKind.wrap .i64 (y2 + 1))))) .bad) (.ok (.inr (.inr ())))

noncomputable def lIndexFunc_iareMasses_1_l2 (y0 : List Nat) (y1 : Int) (y2 : Int) : Option (Int ⊕ Unit) := runL (fun s : Int => (lIndexFunc_iareMasses_1_l2_t y0 y1 s).sem) y2

noncomputable def lIndexFunc_iareMasses_1_t (x0 : List Nat) : Tr (Int) :=
  .br (osome (lIndexFunc_iareMasses_1_l2 x0 (((List.length x0 : Nat) : Int)) 0)) (.br (isL (oget (lIndexFunc_iareMasses_1_l2 x0 (((List.length x0 : Nat) : Int)) 0))) (.ok (unL (oget (lIndexFunc_iareMasses_1_l2 x0 (((List.length x0 : Nat) : Int)) 0)))) (.ok (-1))) .bad

noncomputable def lIndexFunc_iareMasses_1 (x0 : List Nat) : Option (Int) := (lIndexFunc_iareMasses_1_t x0).sem

noncomputable def lContainsFunc_iareMasses_1_t (x0 : List Nat) : Tr (Bool) :=
  .br (osome (lIndexFunc_iareMasses_1 x0)) (.ok (decide (((oget (lIndexFunc_iareMasses_1 x0)) : Int) ≥ 0))) .bad

noncomputable def lContainsFunc_iareMasses_1 (x0 : List Nat) : Option (Bool) := (lContainsFunc_iareMasses_1_t x0).sem

noncomputable def iareMasses_t (x0 : List Nat) : Tr (Bool) :=
  .br (osome (lContainsFunc_iareMasses_1 x0)) (.ok (!(oget (lContainsFunc_iareMasses_1 x0)))) .bad

noncomputable def iareMasses (x0 : List Nat) : Option (Bool) := (iareMasses_t x0).sem

noncomputable def iareLengths_l2_t (y0 : List Nat) (y1 : Int) (y2 : Int) : Tr (Int ⊕ (Unit ⊕ Unit)) :=
  .br (decide ((y2 : Int) < y1)) (.br (decide (0 ≤ (y2 : Int)) && decide ((y2 : Int) < ((List.length y0 : Nat) : Int))) (.br (! (isLen (List.getD y0 (Int.toNat y2) 0))) (.ok (.inr (.inl ()))) (.ok (.inl (IntKind.wrap .i64 (y2 + 1))))) .bad) (.ok (.inr (.inr ())))

noncomputable def iareLengths_l2 (y0 : List Nat) (y1 : Int) (y2 : Int) : Option (Unit ⊕ Unit) := runL (fun s : Int => (iareLengths_l2_t y0 y1 s).sem) y2

noncomputable def iareLengths_t (x0 : List Nat) : Tr (Bool) :=
  .br (osome (iareLengths_l2 x0 (((List.length x0 : Nat) : Int)) 0)) (.br (isL (oget (iareLengths_l2 x0 (((List.length x0 : Nat) : Int)) 0))) (.ok false) (.ok true)) .bad

noncomputable def iareLengths (x0 : List Nat) : Option (Bool) := (iareLengths_t x0).sem

noncomputable def iisWave_t (x0 : List Nat) (x1 : Nat) (x2 : Nat) (x3 : Nat) : Tr (Bool) :=
  .br (iwithin (((List.length x0 : Nat) : Int)) 1 48) (.br (osome (iareMasses x0)) (.br (oget (iareMasses x0)) (.br (osome (iareLengths [x1, x2, x3])) (.ok (oget (iareLengths [x1, x2, x3]))) .bad) (.ok false)) .bad) (.ok false)

noncomputable def iisWave (x0 : List Nat) (x1 : Nat) (x2 : Nat) (x3 : Nat) : Option (Bool) := (iisWave_t x0 x1 x2 x3).sem

noncomputable def iareFinite_1_t (x0 : Nat) : Tr (Bool) :=
  .ok (! (isFin .f32 x0))

noncomputable def iareFinite_1 (x0 : Nat) : Bool := (iareFinite_1_t x0).val

noncomputable def lIndexFunc_iareFinite_1_l2_t (y0 : List Nat) (y1 : Int) (y2 : Int) : Tr (Int ⊕ (Int ⊕ Unit)) :=
  .br (decide ((y2 : Int) < y1)) (.br (decide (0 ≤ (y2 : Int)) && decide ((y2 : Int) < ((List.length y0 : Nat) : Int))) (.br (iareFinite_1 (List.getD y0 (Int.toNat y2) 0)) (.ok (.inr (.inl y2))) (.ok (.inl (IntKind.wrap .i64 (y2 + 1))))) .bad) (.ok (.inr (.inr ())))

noncomputable def lIndexFunc_iareFinite_1_l2 (y0 : List Nat) (y1 : Int) (y2 : Int) : Option (Int ⊕ Unit) := runL (fun s : Int => (lIndexFunc_iareFinite_1_l2_t y0 y1 s).sem) y2

noncomputable def lIndexFunc_iareFinite_1_t (x0 : List Nat) : Tr (Int) :=
  .br (osome (lIndexFunc_iareFinite_1_l2 x0 (((List.length x0 : Nat) : Int)) 0)) (.br (isL (oget (lIndexFunc_iareFinite_1_l2 x0 (((List.length x0 : Nat) : Int)) 0))) (.ok (unL (oget (lIndexFunc_iareFinite_1_l2 x0 (((List.length x0 : Nat) : Int)) 0)))) (.ok (-1))) .bad

noncomputable def lIndexFunc_iareFinite_1 (x0 : List Nat) : Option (Int) := (lIndexFunc_iareFinite_1_t x0).sem

noncomputable def lContainsFunc_iareFinite_1_t (x0 : List Nat) : Tr (Bool) :=
  .br (osome (lIndexFunc_iareFinite_1 x0)) (.ok (decide (((oget (lIndexFunc_iareFinite_1 x0)) : Int) ≥ 0))) .bad

noncomputable def lContainsFunc_iareFinite_1 (x0 : List Nat) : Option (Bool) := (lContainsFunc_iareFinite_1_t x0).sem

noncomputable def iareFinite_t (x0 : List Nat) : Tr (Bool) :=
  .br (osome (lContainsFunc_iareFinite_1 x0)) (.ok (!(oget (lContainsFunc_iareFinite_1 x0)))) .bad

noncomputable def iareFinite (x0 : List Nat) : Option (Bool) := (iareFinite_t x0).sem

noncomputable def iareIns_t (x0 : List Nat) : Tr (Bool) :=
  .br (iwithin (((List.length x0 : Nat) : Int)) 1 128) (.br (osome (iareFinite x0)) (.ok (oget (iareFinite x0))) .bad) (.ok false)

noncomputable def iareIns (x0 : List Nat) : Option (Bool) := (iareIns_t x0).sem

noncomputable def iwaveFlow_t (x0 : Nat) (x1 : Nat) : Tr (Nat) :=
  .ok (fmul .f32 (fmul .f32 x0 x1) (froot x1))

noncomputable def iwaveFlow (x0 : Nat) (x1 : Nat) : Nat := (iwaveFlow_t x0 x1).val

noncomputable def iStepWave_l5_t (y0 : Nat) (y1 : Nat) (y2 : Nat) (y4 : List Nat) (y5 : Int) (y3 : Nat) (y6 : Int) (y7 : List Nat) : Tr ((Nat × Int × List Nat) ⊕ (Nat ⊕ (Nat × List Nat))) :=
  .br (decide ((y6 : Int) < y5)) (.br (decide (0 ≤ (y6 : Int)) && decide ((y6 : Int) < ((List.length y4 : Nat) : Int))) (.br (fgt .f32 (fmul .f32 (fmul .f32 (fmul .f32 1069547520 y0) (froot (List.getD y4 (Int.toNat y6) 0))) y2) y1) (.ok (.inr (.inl 0))) (.br (flt .f32 (fadd .f32 (List.getD y4 (Int.toNat y6) 0) (fmul .f32 (fdiv .f32 y2 y1) (fsub .f32 y3 (iwaveFlow y0 (List.getD y4 (Int.toNat y6) 0))))) 0) (.br (decide ((List.length y7 + List.length [0]) * 4 ≤ 140737488355328)) (.ok (.inl (iwaveFlow y0 (List.getD y4 (Int.toNat y6) 0), IntKind.wrap .i64 (y6 + 1), y7 ++ [0]))) .bad) (.br (decide ((List.length y7 + List.length [fadd .f32 (List.getD y4 (Int.toNat y6) 0) (fmul .f32 (fdiv .f32 y2 y1) (fsub .f32 y3 (iwaveFlow y0 (List.getD y4 (Int.toNat y6) 0))))]) * 4 ≤ 140737488355328)) (.ok (.inl (iwaveFlow y0 (List.getD y4 (Int.toNat y6) 0), IntKind.wrap .i64 (y6 + 1), y7 ++ [fadd .f32 (List.getD y4 (Int.toNat y6) 0) (fmul .f32 (fdiv .f32 y2 y1) (fsub .f32 y3 (iwaveFlow y0 (List.getD y4 (Int.toNat y6) 0))))]))) .bad))) .bad) (.ok (.inr (.inr (y3, y7))))

noncomputable def iStepWave_l5 (y0 : Nat) (y1 : Nat) (y2 : Nat) (y3 : Nat) (y4 : List Nat) (y5 : Int) (y6 : Int) (y7 : List Nat) : Option (Nat ⊕ (Nat × List Nat)) := runL (fun s : Nat × Int × List Nat => (iStepWave_l5_t y0 y1 y2 y4 y5 s.1 s.2.1 s.2.2).sem) (y3, y6, y7)

noncomputable def iStepWave_t (x0 : List Nat) (x1 : Nat) (x2 : Nat) (x3 : Nat) (x4 : Nat) : Tr (Nat ⊕ (Nat × List Nat)) :=
  .br (osome (iisWave x0 x2 x3 x4)) (.br (!(oget (iisWave x0 x2 x3 x4))) (.ok (.inl 0)) (.br (! (isMass x1)) (.ok (.inl 0)) (.br (osome (iStepWave_l5 x2 x3 x4 x1 x0 (((List.length x0 : Nat) : Int)) 0 [])) (.br (isL (oget (iStepWave_l5 x2 x3 x4 x1 x0 (((List.length x0 : Nat) : Int)) 0 []))) (.ok (.inl (unL (oget (iStepWave_l5 x2 x3 x4 x1 x0 (((List.length x0 : Nat) : Int)) 0 []))))) (.br (osome (iareFinite ((unR (oget (iStepWave_l5 x2 x3 x4 x1 x0 (((List.length x0 : Nat) : Int)) 0 []))).2))) (.br (!(oget (iareFinite ((unR (oget (iStepWave_l5 x2 x3 x4 x1 x0 (((List.length x0 : Nat) : Int)) 0 []))).2)))) (.ok (.inl 0)) (.br (! (isFin .f32 ((unR (oget (iStepWave_l5 x2 x3 x4 x1 x0 (((List.length x0 : Nat) : Int)) 0 []))).1))) (.ok (.inl 0)) (.ok (.inr ((unR (oget (iStepWave_l5 x2 x3 x4 x1 x0 (((List.length x0 : Nat) : Int)) 0 []))).1, (unR (oget (iStepWave_l5 x2 x3 x4 x1 x0 (((List.length x0 : Nat) : Int)) 0 []))).2))))) .bad)) .bad))) .bad

noncomputable def iStepWave (x0 : List Nat) (x1 : Nat) (x2 : Nat) (x3 : Nat) (x4 : Nat) : Option (Nat ⊕ (Nat × List Nat)) := (iStepWave_t x0 x1 x2 x3 x4).sem

noncomputable def iRunWave_l5_t0 (y0 : List Nat) (y1 : Nat) (y2 : Nat) (y3 : Nat) (y4 : List Nat) (y5 : Int) (y6 : Int) (y7 : List Nat) : Tr (((List Nat × Nat × Nat × Nat × List Nat × Int × Int × List Nat) ⊕ (Nat × Nat × Nat × List Nat × Int × Int × List Nat × List Nat)) ⊕ (Unit ⊕ (List Nat × List Nat) ⊕ (List Nat × List Nat))) :=
  .br (decide ((y6 : Int) < y5)) (.br (decide (0 ≤ (y6 : Int)) && decide ((y6 : Int) < ((List.length y4 : Nat) : Int))) (.br (osome (iStepWave y0 (List.getD y4 (Int.toNat y6) 0) y1 y2 y3)) (.br (isL (oget (iStepWave y0 (List.getD y4 (Int.toNat y6) 0) y1 y2 y3))) (.ok (.inr (.inl ()))) (.br (decide ((List.length y7 + List.length [(unR (oget (iStepWave y0 (List.getD y4 (Int.toNat y6) 0) y1 y2 y3))).1]) * 4 ≤ 140737488355328)) (.ok (.inl (.inr (y1, y2, y3, y4, y5, IntKind.wrap .i64 (y6 + 1), (unR (oget (iStepWave y0 (List.getD y4 (Int.toNat y6) 0) y1 y2 y3))).2, y7 ++ [(unR (oget (iStepWave y0 (List.getD y4 (Int.toNat y6) 0) y1 y2 y3))).1])))) .bad)) .bad) .bad) (.ok (.inr (.inr (.inl (y0, y7)))))

noncomputable def iRunWave_l5_t1 (y0 : Nat) (y1 : Nat) (y2 : Nat) (y3 : List Nat) (y4 : Int) (y5 : Int) (y6 : List Nat) (y7 : List Nat) : Tr (((List Nat × Nat × Nat × Nat × List Nat × Int × Int × List Nat) ⊕ (Nat × Nat × Nat × List Nat × Int × Int × List Nat × List Nat)) ⊕ (Unit ⊕ (List Nat × List Nat) ⊕ (List Nat × List Nat))) :=
  .br (decide ((y5 : Int) < y4)) (.br (decide (0 ≤ (y5 : Int)) && decide ((y5 : Int) < ((List.length y3 : Nat) : Int))) (.br (osome (iStepWave y6 (List.getD y3 (Int.toNat y5) 0) y0 y1 y2)) (.br (isL (oget (iStepWave y6 (List.getD y3 (Int.toNat y5) 0) y0 y1 y2))) (.ok (.inr (.inl ()))) (.br (decide ((List.length y7 + List.length [(unR (oget (iStepWave y6 (List.getD y3 (Int.toNat y5) 0) y0 y1 y2))).1]) * 4 ≤ 140737488355328)) (.ok (.inl (.inr (y0, y1, y2, y3, y4, IntKind.wrap .i64 (y5 + 1), (unR (oget (iStepWave y6 (List.getD y3 (Int.toNat y5) 0) y0 y1 y2))).2, y7 ++ [(unR (oget (iStepWave y6 (List.getD y3 (Int.toNat y5) 0) y0 y1 y2))).1])))) .bad)) .bad) .bad) (.ok (.inr (.inr (.inr (y6, y7)))))

noncomputable def iRunWave_l5_s : ((List Nat × Nat × Nat × Nat × List Nat × Int × Int × List Nat) ⊕ (Nat × Nat × Nat × List Nat × Int × Int × List Nat × List Nat)) → Option (((List Nat × Nat × Nat × Nat × List Nat × Int × Int × List Nat) ⊕ (Nat × Nat × Nat × List Nat × Int × Int × List Nat × List Nat)) ⊕ (Unit ⊕ (List Nat × List Nat) ⊕ (List Nat × List Nat)))
  | (.inl y) => (iRunWave_l5_t0 y.1 y.2.1 y.2.2.1 y.2.2.2.1 y.2.2.2.2.1 y.2.2.2.2.2.1 y.2.2.2.2.2.2.1 y.2.2.2.2.2.2.2).sem
  | (.inr y) => (iRunWave_l5_t1 y.1 y.2.1 y.2.2.1 y.2.2.2.1 y.2.2.2.2.1 y.2.2.2.2.2.1 y.2.2.2.2.2.2.1 y.2.2.2.2.2.2.2).sem

noncomputable def iRunWave_l5 (x : (List Nat × Nat × Nat × Nat × List Nat × Int × Int × List Nat) ⊕ (Nat × Nat × Nat × List Nat × Int × Int × List Nat × List Nat)) : Option (Unit ⊕ (List Nat × List Nat) ⊕ (List Nat × List Nat)) := runL iRunWave_l5_s x

noncomputable def iRunWave_t (x0 : List Nat) (x1 : List Nat) (x2 : Nat) (x3 : Nat) (x4 : Nat) : Tr (Unit ⊕ (List Nat × List Nat) ⊕ (List Nat × List Nat)) :=
  .br (osome (iisWave x0 x2 x3 x4)) (.br (!(oget (iisWave x0 x2 x3 x4))) (.ok (.inl ())) (.br (osome (iareIns x1)) (.br (!(oget (iareIns x1))) (.ok (.inl ())) (.br (osome (iRunWave_l5 (.inl ((x0, (x2, (x3, (x4, (x1, (((List.length x1 : Nat) : Int), (0, []))))))))))) (.br (isL (oget (iRunWave_l5 (.inl ((x0, (x2, (x3, (x4, (x1, (((List.length x1 : Nat) : Int), (0, [])))))))))))) (.ok (.inl ())) (.br (isL (unR (oget (iRunWave_l5 (.inl ((x0, (x2, (x3, (x4, (x1, (((List.length x1 : Nat) : Int), (0, []))))))))))))) (.ok (.inr (.inl ((unL (unR (oget (iRunWave_l5 (.inl ((x0, (x2, (x3, (x4, (x1, (((List.length x1 : Nat) : Int), (0, []))))))))))))).1, (unL (unR (oget (iRunWave_l5 (.inl ((x0, (x2, (x3, (x4, (x1, (((List.length x1 : Nat) : Int), (0, []))))))))))))).2)))) (.ok (.inr (.inr ((unR (unR (oget (iRunWave_l5 (.inl ((x0, (x2, (x3, (x4, (x1, (((List.length x1 : Nat) : Int), (0, []))))))))))))).1, (unR (unR (oget (iRunWave_l5 (.inl ((x0, (x2, (x3, (x4, (x1, (((List.length x1 : Nat) : Int), (0, []))))))))))))).2)))))) .bad)) .bad)) .bad

noncomputable def iRunWave (x0 : List Nat) (x1 : List Nat) (x2 : Nat) (x3 : Nat) (x4 : Nat) : Option (Unit ⊕ (List Nat × List Nat) ⊕ (List Nat × List Nat)) := (iRunWave_t x0 x1 x2 x3 x4).sem

noncomputable def wb10Total_l3_t (y0 : List Nat) (y2 : Int) (y1 : Nat) (y3 : Int) : Tr ((Nat × Int) ⊕ Nat) :=
  .br (decide ((y3 : Int) < y2)) (.br (decide (0 ≤ (y3 : Int)) && decide ((y3 : Int) < ((List.length y0 : Nat) : Int))) (.ok (.inl (fadd .f64 y1 (fup (List.getD y0 (Int.toNat y3) 0)), IntKind.wrap .i64 (y3 + 1)))) .bad) (.ok (.inr y1))

noncomputable def wb10Total_l3 (y0 : List Nat) (y1 : Nat) (y2 : Int) (y3 : Int) : Option (Nat) := runL (fun s : Nat × Int => (wb10Total_l3_t y0 y2 s.1 s.2).sem) (y1, y3)

noncomputable def wb10Total_t (x0 : List Nat) : Tr (Nat) :=
  .br (osome (wb10Total_l3 x0 0 (((List.length x0 : Nat) : Int)) 0)) (.ok (oget (wb10Total_l3 x0 0 (((List.length x0 : Nat) : Int)) 0))) .bad

noncomputable def wb10Total (x0 : List Nat) : Option (Nat) := (wb10Total_t x0).sem

noncomputable def wb10Gap_t (x0 : Nat) (x1 : Nat) : Tr (Nat) :=
  .br (flt .f64 x0 x1) (.ok (fsub .f64 x1 x0)) (.ok (fsub .f64 x0 x1))

noncomputable def wb10Gap (x0 : Nat) (x1 : Nat) : Nat := (wb10Gap_t x0 x1).val

noncomputable def ifinite32_t (x0 : Nat) : Tr (Nat × Bool) :=
  .br (! (isFin .f32 x0)) (.ok (0, false)) (.ok (x0, true))

noncomputable def ifinite32 (x0 : Nat) : Nat × Bool := (ifinite32_t x0).val

noncomputable def iWaveFlow_t (x0 : Nat) (x1 : Nat) : Tr (Nat × Bool) :=
  .br (! (isLen x0)) (.ok (0, false)) (.br (! (isMass x1)) (.ok (0, false)) (.ok (ifinite32 (iwaveFlow x0 x1))))

noncomputable def iWaveFlow (x0 : Nat) (x1 : Nat) : Nat × Bool := (iWaveFlow_t x0 x1).val

noncomputable def sSameNumber_t (x0 : Nat) (x1 : Nat) : Tr (Bool) :=
  .ok (natEq x0 x1)

noncomputable def sSameNumber (x0 : Nat) (x1 : Nat) : Bool := (sSameNumber_t x0 x1).val

noncomputable def wb10List_l4_t (y0 : List Nat) (y1 : List Nat) (y2 : Int) (y3 : Int) : Tr (Int ⊕ (Unit ⊕ Unit)) :=
  .br (decide ((y3 : Int) < y2)) (.br (decide (0 ≤ (y3 : Int)) && decide ((y3 : Int) < ((List.length y0 : Nat) : Int))) (.br (decide (0 ≤ (y3 : Int)) && decide ((y3 : Int) < ((List.length y1 : Nat) : Int))) (.br (! (sSameNumber (List.getD y0 (Int.toNat y3) 0) (List.getD y1 (Int.toNat y3) 0))) (.ok (.inr (.inl ()))) (.ok (.inl (IntKind.wrap .i64 (y3 + 1))))) .bad) .bad) (.ok (.inr (.inr ())))

noncomputable def wb10List_l4 (y0 : List Nat) (y1 : List Nat) (y2 : Int) (y3 : Int) : Option (Unit ⊕ Unit) := runL (fun s : Int => (wb10List_l4_t y0 y1 y2 s).sem) y3

noncomputable def wb10List_t (x0 : List Nat) (x1 : List Nat) : Tr (Bool) :=
  .br ((((List.length x0 : Nat) : Int) : Int) != (((List.length x1 : Nat) : Int))) (.ok false) (.br (osome (wb10List_l4 x0 x1 (((List.length x0 : Nat) : Int)) 0)) (.br (isL (oget (wb10List_l4 x0 x1 (((List.length x0 : Nat) : Int)) 0))) (.ok false) (.ok true)) .bad)

noncomputable def wb10List (x0 : List Nat) (x1 : List Nat) : Option (Bool) := (wb10List_t x0 x1).sem

noncomputable def wFnSlopes_l15_t0 (y0 : List Nat) (y1 : Int) (y2 : Int) (y3 : List Nat) (y4 : List Nat) (y5 : List Nat) : Tr (((List Nat × Int × Int × List Nat × List Nat × List Nat) ⊕ (Int × Int × List Nat × List Nat × List Nat × List Nat) ⊕ (List Nat × Int × Int × List Nat × List Nat × List Nat × List Nat) ⊕ (Int × Int × List Nat × List Nat × List Nat × List Nat × List Nat)) ⊕ (Unit ⊕ (List Nat × List Nat) ⊕ (List Nat × List Nat) ⊕ (List Nat × List Nat))) :=
  .br (decide ((y2 : Int) < y1)) (.br (decide (0 ≤ (y2 : Int)) && decide ((y2 : Int) < ((List.length y4 : Nat) : Int))) (.br (osome (iStepWave y3 (List.getD y4 (Int.toNat y2) 0) 1056964608 1082130432 1056964608)) (.br (isL (oget (iStepWave y3 (List.getD y4 (Int.toNat y2) 0) 1056964608 1082130432 1056964608))) (.br (decide (0 ≤ (IntKind.wrap .i64 ((((List.length y3 : Nat) : Int)) - 1) : Int)) && decide ((IntKind.wrap .i64 ((((List.length y3 : Nat) : Int)) - 1) : Int) < ((List.length y3 : Nat) : Int))) (.ok (.inr (.inl ()))) .bad) (.br (decide (0 ≤ (IntKind.wrap .i64 ((((List.length y3 : Nat) : Int)) - 1) : Int)) && decide ((IntKind.wrap .i64 ((((List.length y3 : Nat) : Int)) - 1) : Int) < ((List.length y3 : Nat) : Int))) (.br (! ((iWaveFlow 1056964608 (List.getD y3 (Int.toNat (IntKind.wrap .i64 ((((List.length y3 : Nat) : Int)) - 1))) 0)).2)) (.ok (.inr (.inl ()))) (.br (decide (0 ≤ (y2 : Int)) && decide ((y2 : Int) < ((List.length y5 : Nat) : Int))) (.br (! (sSameNumber ((unR (oget (iStepWave y3 (List.getD y4 (Int.toNat y2) 0) 1056964608 1082130432 1056964608))).1) (List.getD y5 (Int.toNat y2) 0))) (.ok (.inr (.inl ()))) (.br (! (sSameNumber ((unR (oget (iStepWave y3 (List.getD y4 (Int.toNat y2) 0) 1056964608 1082130432 1056964608))).1) ((iWaveFlow 1056964608 (List.getD y3 (Int.toNat (IntKind.wrap .i64 ((((List.length y3 : Nat) : Int)) - 1))) 0)).1))) (.ok (.inr (.inl ()))) (.br ((((List.length ((unR (oget (iStepWave y3 (List.getD y4 (Int.toNat y2) 0) 1056964608 1082130432 1056964608))).2) : Nat) : Int) : Int) != (((List.length y3 : Nat) : Int))) (.ok (.inr (.inl ()))) (.ok (.inl (.inr (.inr (.inl (y0, y1, IntKind.wrap .i64 (y2 + 1), y3, y4, y5, (unR (oget (iStepWave y3 (List.getD y4 (Int.toNat y2) 0) 1056964608 1082130432 1056964608))).2))))))))) .bad)) .bad)) .bad) .bad) (.ok (.inr (.inr (.inl (y0, y3)))))

noncomputable def wFnSlopes_l15_t1 (y0 : Int) (y1 : Int) (y2 : List Nat) (y3 : List Nat) (y4 : List Nat) (y5 : List Nat) : Tr (((List Nat × Int × Int × List Nat × List Nat × List Nat) ⊕ (Int × Int × List Nat × List Nat × List Nat × List Nat) ⊕ (List Nat × Int × Int × List Nat × List Nat × List Nat × List Nat) ⊕ (Int × Int × List Nat × List Nat × List Nat × List Nat × List Nat)) ⊕ (Unit ⊕ (List Nat × List Nat) ⊕ (List Nat × List Nat) ⊕ (List Nat × List Nat))) :=
  .br (decide ((y1 : Int) < y0)) (.br (decide (0 ≤ (y1 : Int)) && decide ((y1 : Int) < ((List.length y3 : Nat) : Int))) (.br (osome (iStepWave y2 (List.getD y3 (Int.toNat y1) 0) 1056964608 1082130432 1056964608)) (.br (isL (oget (iStepWave y2 (List.getD y3 (Int.toNat y1) 0) 1056964608 1082130432 1056964608))) (.br (decide (0 ≤ (IntKind.wrap .i64 ((((List.length y2 : Nat) : Int)) - 1) : Int)) && decide ((IntKind.wrap .i64 ((((List.length y2 : Nat) : Int)) - 1) : Int) < ((List.length y2 : Nat) : Int))) (.ok (.inr (.inl ()))) .bad) (.br (decide (0 ≤ (IntKind.wrap .i64 ((((List.length y2 : Nat) : Int)) - 1) : Int)) && decide ((IntKind.wrap .i64 ((((List.length y2 : Nat) : Int)) - 1) : Int) < ((List.length y2 : Nat) : Int))) (.br (! ((iWaveFlow 1056964608 (List.getD y2 (Int.toNat (IntKind.wrap .i64 ((((List.length y2 : Nat) : Int)) - 1))) 0)).2)) (.ok (.inr (.inl ()))) (.br (decide (0 ≤ (y1 : Int)) && decide ((y1 : Int) < ((List.length y5 : Nat) : Int))) (.br (! (sSameNumber ((unR (oget (iStepWave y2 (List.getD y3 (Int.toNat y1) 0) 1056964608 1082130432 1056964608))).1) (List.getD y5 (Int.toNat y1) 0))) (.ok (.inr (.inl ()))) (.br (! (sSameNumber ((unR (oget (iStepWave y2 (List.getD y3 (Int.toNat y1) 0) 1056964608 1082130432 1056964608))).1) ((iWaveFlow 1056964608 (List.getD y2 (Int.toNat (IntKind.wrap .i64 ((((List.length y2 : Nat) : Int)) - 1))) 0)).1))) (.ok (.inr (.inl ()))) (.br ((((List.length ((unR (oget (iStepWave y2 (List.getD y3 (Int.toNat y1) 0) 1056964608 1082130432 1056964608))).2) : Nat) : Int) : Int) != (((List.length y2 : Nat) : Int))) (.ok (.inr (.inl ()))) (.ok (.inl (.inr (.inr (.inr (y0, IntKind.wrap .i64 (y1 + 1), y2, y3, y4, y5, (unR (oget (iStepWave y2 (List.getD y3 (Int.toNat y1) 0) 1056964608 1082130432 1056964608))).2))))))))) .bad)) .bad)) .bad) .bad) (.ok (.inr (.inr (.inr (.inl (y4, y2))))))

noncomputable def wFnSlopes_l15_t2 (y0 : List Nat) (y1 : Int) (y2 : Int) (y3 : List Nat) (y4 : List Nat) (y5 : List Nat) (y6 : List Nat) : Tr (((List Nat × Int × Int × List Nat × List Nat × List Nat) ⊕ (Int × Int × List Nat × List Nat × List Nat × List Nat) ⊕ (List Nat × Int × Int × List Nat × List Nat × List Nat × List Nat) ⊕ (Int × Int × List Nat × List Nat × List Nat × List Nat × List Nat)) ⊕ (Unit ⊕ (List Nat × List Nat) ⊕ (List Nat × List Nat) ⊕ (List Nat × List Nat))) :=
  .br (decide ((y2 : Int) < y1)) (.br (decide (0 ≤ (y2 : Int)) && decide ((y2 : Int) < ((List.length y4 : Nat) : Int))) (.br (osome (iStepWave y6 (List.getD y4 (Int.toNat y2) 0) 1056964608 1082130432 1056964608)) (.br (isL (oget (iStepWave y6 (List.getD y4 (Int.toNat y2) 0) 1056964608 1082130432 1056964608))) (.br (decide (0 ≤ (IntKind.wrap .i64 ((((List.length y6 : Nat) : Int)) - 1) : Int)) && decide ((IntKind.wrap .i64 ((((List.length y6 : Nat) : Int)) - 1) : Int) < ((List.length y6 : Nat) : Int))) (.ok (.inr (.inl ()))) .bad) (.br (decide (0 ≤ (IntKind.wrap .i64 ((((List.length y6 : Nat) : Int)) - 1) : Int)) && decide ((IntKind.wrap .i64 ((((List.length y6 : Nat) : Int)) - 1) : Int) < ((List.length y6 : Nat) : Int))) (.br (! ((iWaveFlow 1056964608 (List.getD y6 (Int.toNat (IntKind.wrap .i64 ((((List.length y6 : Nat) : Int)) - 1))) 0)).2)) (.ok (.inr (.inl ()))) (.br (decide (0 ≤ (y2 : Int)) && decide ((y2 : Int) < ((List.length y5 : Nat) : Int))) (.br (! (sSameNumber ((unR (oget (iStepWave y6 (List.getD y4 (Int.toNat y2) 0) 1056964608 1082130432 1056964608))).1) (List.getD y5 (Int.toNat y2) 0))) (.ok (.inr (.inl ()))) (.br (! (sSameNumber ((unR (oget (iStepWave y6 (List.getD y4 (Int.toNat y2) 0) 1056964608 1082130432 1056964608))).1) ((iWaveFlow 1056964608 (List.getD y6 (Int.toNat (IntKind.wrap .i64 ((((List.length y6 : Nat) : Int)) - 1))) 0)).1))) (.ok (.inr (.inl ()))) (.br ((((List.length ((unR (oget (iStepWave y6 (List.getD y4 (Int.toNat y2) 0) 1056964608 1082130432 1056964608))).2) : Nat) : Int) : Int) != (((List.length y3 : Nat) : Int))) (.ok (.inr (.inl ()))) (.ok (.inl (.inr (.inr (.inl (y0, y1, IntKind.wrap .i64 (y2 + 1), y3, y4, y5, (unR (oget (iStepWave y6 (List.getD y4 (Int.toNat y2) 0) 1056964608 1082130432 1056964608))).2))))))))) .bad)) .bad)) .bad) .bad) (.ok (.inr (.inr (.inr (.inr (y0, y6))))))

noncomputable def wFnSlopes_l15_t3 (y0 : Int) (y1 : Int) (y2 : List Nat) (y3 : List Nat) (y4 : List Nat) (y5 : List Nat) (y6 : List Nat) : Tr (((List Nat × Int × Int × List Nat × List Nat × List Nat) ⊕ (Int × Int × List Nat × List Nat × List Nat × List Nat) ⊕ (List Nat × Int × Int × List Nat × List Nat × List Nat × List Nat) ⊕ (Int × Int × List Nat × List Nat × List Nat × List Nat × List Nat)) ⊕ (Unit ⊕ (List Nat × List Nat) ⊕ (List Nat × List Nat) ⊕ (List Nat × List Nat))) :=
  .br (decide ((y1 : Int) < y0)) (.br (decide (0 ≤ (y1 : Int)) && decide ((y1 : Int) < ((List.length y3 : Nat) : Int))) (.br (osome (iStepWave y6 (List.getD y3 (Int.toNat y1) 0) 1056964608 1082130432 1056964608)) (.br (isL (oget (iStepWave y6 (List.getD y3 (Int.toNat y1) 0) 1056964608 1082130432 1056964608))) (.br (decide (0 ≤ (IntKind.wrap .i64 ((((List.length y6 : Nat) : Int)) - 1) : Int)) && decide ((IntKind.wrap .i64 ((((List.length y6 : Nat) : Int)) - 1) : Int) < ((List.length y6 : Nat) : Int))) (.ok (.inr (.inl ()))) .bad) (.br (decide (0 ≤ (IntKind.wrap .i64 ((((List.length y6 : Nat) : Int)) - 1) : Int)) && decide ((IntKind.wrap .i64 ((((List.length y6 : Nat) : Int)) - 1) : Int) < ((List.length y6 : Nat) : Int))) (.br (! ((iWaveFlow 1056964608 (List.getD y6 (Int.toNat (IntKind.wrap .i64 ((((List.length y6 : Nat) : Int)) - 1))) 0)).2)) (.ok (.inr (.inl ()))) (.br (decide (0 ≤ (y1 : Int)) && decide ((y1 : Int) < ((List.length y5 : Nat) : Int))) (.br (! (sSameNumber ((unR (oget (iStepWave y6 (List.getD y3 (Int.toNat y1) 0) 1056964608 1082130432 1056964608))).1) (List.getD y5 (Int.toNat y1) 0))) (.ok (.inr (.inl ()))) (.br (! (sSameNumber ((unR (oget (iStepWave y6 (List.getD y3 (Int.toNat y1) 0) 1056964608 1082130432 1056964608))).1) ((iWaveFlow 1056964608 (List.getD y6 (Int.toNat (IntKind.wrap .i64 ((((List.length y6 : Nat) : Int)) - 1))) 0)).1))) (.ok (.inr (.inl ()))) (.br ((((List.length ((unR (oget (iStepWave y6 (List.getD y3 (Int.toNat y1) 0) 1056964608 1082130432 1056964608))).2) : Nat) : Int) : Int) != (((List.length y2 : Nat) : Int))) (.ok (.inr (.inl ()))) (.ok (.inl (.inr (.inr (.inr (y0, IntKind.wrap .i64 (y1 + 1), y2, y3, y4, y5, (unR (oget (iStepWave y6 (List.getD y3 (Int.toNat y1) 0) 1056964608 1082130432 1056964608))).2))))))))) .bad)) .bad)) .bad) .bad) (.ok (.inr (.inr (.inr (.inl (y4, y6))))))

noncomputable def wFnSlopes_l15_s : ((List Nat × Int × Int × List Nat × List Nat × List Nat) ⊕ (Int × Int × List Nat × List Nat × List Nat × List Nat) ⊕ (List Nat × Int × Int × List Nat × List Nat × List Nat × List Nat) ⊕ (Int × Int × List Nat × List Nat × List Nat × List Nat × List Nat)) → Option (((List Nat × Int × Int × List Nat × List Nat × List Nat) ⊕ (Int × Int × List Nat × List Nat × List Nat × List Nat) ⊕ (List Nat × Int × Int × List Nat × List Nat × List Nat × List Nat) ⊕ (Int × Int × List Nat × List Nat × List Nat × List Nat × List Nat)) ⊕ (Unit ⊕ (List Nat × List Nat) ⊕ (List Nat × List Nat) ⊕ (List Nat × List Nat)))
  | (.inl y) => (wFnSlopes_l15_t0 y.1 y.2.1 y.2.2.1 y.2.2.2.1 y.2.2.2.2.1 y.2.2.2.2.2).sem
  | (.inr (.inl y)) => (wFnSlopes_l15_t1 y.1 y.2.1 y.2.2.1 y.2.2.2.1 y.2.2.2.2.1 y.2.2.2.2.2).sem
  | (.inr (.inr (.inl y))) => (wFnSlopes_l15_t2 y.1 y.2.1 y.2.2.1 y.2.2.2.1 y.2.2.2.2.1 y.2.2.2.2.2.1 y.2.2.2.2.2.2).sem
  | (.inr (.inr (.inr y))) => (wFnSlopes_l15_t3 y.1 y.2.1 y.2.2.1 y.2.2.2.1 y.2.2.2.2.1 y.2.2.2.2.2.1 y.2.2.2.2.2.2).sem

noncomputable def wFnSlopes_l15 (x : (List Nat × Int × Int × List Nat × List Nat × List Nat) ⊕ (Int × Int × List Nat × List Nat × List Nat × List Nat) ⊕ (List Nat × Int × Int × List Nat × List Nat × List Nat × List Nat) ⊕ (Int × Int × List Nat × List Nat × List Nat × List Nat × List Nat)) : Option (Unit ⊕ (List Nat × List Nat) ⊕ (List Nat × List Nat) ⊕ (List Nat × List Nat)) := runL wFnSlopes_l15_s x

noncomputable def wFnSlopes_o1 (v13 : Bool) : Tr (Bool) :=
  .br v13 (.ok true) (.ok false)

noncomputable def wFnSlopes_o2 (v14 : Bool) : Tr (Bool) :=
  .br v14 (.ok false) (.ok false)

noncomputable def wFnSlopes_o3 (v11 : Unit ⊕ (((List Nat) × (List Nat)) ⊕ (((List Nat) × (List Nat)) ⊕ ((List Nat) × (List Nat))))) (v12 : Nat ⊕ (Nat × (List Nat))) : Tr (Bool) :=
  .br (isL v12) (.br (osome (wb10List ((unL (unR v11)).2) ((unL (unR v11)).1))) (wFnSlopes_o1 (oget (wb10List ((unL (unR v11)).2) ((unL (unR v11)).1)))) .bad) (.br (osome (wb10List ((unL (unR v11)).2) ((unL (unR v11)).1))) (wFnSlopes_o2 (oget (wb10List ((unL (unR v11)).2) ((unL (unR v11)).1)))) .bad)

noncomputable def wFnSlopes_o4 (v16 : Bool) : Tr (Bool) :=
  .br v16 (.ok true) (.ok false)

noncomputable def wFnSlopes_o5 (v17 : Bool) : Tr (Bool) :=
  .br v17 (.ok false) (.ok false)

noncomputable def wFnSlopes_o6 (v11 : Unit ⊕ (((List Nat) × (List Nat)) ⊕ (((List Nat) × (List Nat)) ⊕ ((List Nat) × (List Nat))))) (v15 : Nat ⊕ (Nat × (List Nat))) : Tr (Bool) :=
  .br (isL v15) (.br (osome (wb10List ((unL (unR (unR v11))).2) ((unL (unR (unR v11))).1))) (wFnSlopes_o4 (oget (wb10List ((unL (unR (unR v11))).2) ((unL (unR (unR v11))).1)))) .bad) (.br (osome (wb10List ((unL (unR (unR v11))).2) ((unL (unR (unR v11))).1))) (wFnSlopes_o5 (oget (wb10List ((unL (unR (unR v11))).2) ((unL (unR (unR v11))).1)))) .bad)

noncomputable def wFnSlopes_o7 (v19 : Bool) : Tr (Bool) :=
  .br v19 (.ok true) (.ok false)

noncomputable def wFnSlopes_o8 (v20 : Bool) : Tr (Bool) :=
  .br v20 (.ok false) (.ok false)

noncomputable def wFnSlopes_o9 (v11 : Unit ⊕ (((List Nat) × (List Nat)) ⊕ (((List Nat) × (List Nat)) ⊕ ((List Nat) × (List Nat))))) (v18 : Nat ⊕ (Nat × (List Nat))) : Tr (Bool) :=
  .br (isL v18) (.br (osome (wb10List ((unR (unR (unR v11))).2) ((unR (unR (unR v11))).1))) (wFnSlopes_o7 (oget (wb10List ((unR (unR (unR v11))).2) ((unR (unR (unR v11))).1)))) .bad) (.br (osome (wb10List ((unR (unR (unR v11))).2) ((unR (unR (unR v11))).1))) (wFnSlopes_o8 (oget (wb10List ((unR (unR (unR v11))).2) ((unR (unR (unR v11))).1)))) .bad)

noncomputable def wFnSlopes_o10 (v11 : Unit ⊕ (((List Nat) × (List Nat)) ⊕ (((List Nat) × (List Nat)) ⊕ ((List Nat) × (List Nat))))) : Tr (Bool) :=
  .br (isL v11) (.ok false) (.br (isL (unR v11)) (.br (osome (iStepWave [1176256512] 0 1056964608 1082130432 1056964608)) (wFnSlopes_o3 v11 (oget (iStepWave [1176256512] 0 1056964608 1082130432 1056964608))) .bad) (.br (isL (unR (unR v11))) (.br (osome (iStepWave [1176256512] 0 1056964608 1082130432 1056964608)) (wFnSlopes_o6 v11 (oget (iStepWave [1176256512] 0 1056964608 1082130432 1056964608))) .bad) (.br (osome (iStepWave [1176256512] 0 1056964608 1082130432 1056964608)) (wFnSlopes_o9 v11 (oget (iStepWave [1176256512] 0 1056964608 1082130432 1056964608))) .bad)))

noncomputable def wFnSlopes_o11 (v2 : List Nat) (v4 : List Nat) (v6 : Unit ⊕ (((List Nat) × (List Nat)) ⊕ ((List Nat) × (List Nat)))) (v7 : Nat) (v8 : Nat) (v9 : Nat) (v10 : Nat) : Tr (Bool) :=
  .br (fgt .f64 (wb10Gap (fadd .f64 (fmul .f64 4616189618054758400 v7) (fmul .f64 4602678819172646912 v8)) (fadd .f64 (fmul .f64 4616189618054758400 v9) (fmul .f64 4602678819172646912 v10))) 4576918229304087675) (.ok false) (.br (osome (wFnSlopes_l15 (.inl (((unL (unR v6)).1, (((List.length v4 : Nat) : Int), (0, (v2, (v4, (unL (unR v6)).2))))))))) (wFnSlopes_o10 (oget (wFnSlopes_l15 (.inl (((unL (unR v6)).1, (((List.length v4 : Nat) : Int), (0, (v2, (v4, (unL (unR v6)).2)))))))))) .bad)

noncomputable def wFnSlopes_o12 (v2 : List Nat) (v4 : List Nat) (v6 : Unit ⊕ (((List Nat) × (List Nat)) ⊕ ((List Nat) × (List Nat)))) (v7 : Nat) (v8 : Nat) (v9 : Nat) : Tr (Bool) :=
  .br (osome (wb10Total ((unL (unR v6)).2))) (wFnSlopes_o11 v2 v4 v6 v7 v8 v9 (oget (wb10Total ((unL (unR v6)).2)))) .bad

noncomputable def wFnSlopes_o13 (v2 : List Nat) (v4 : List Nat) (v6 : Unit ⊕ (((List Nat) × (List Nat)) ⊕ ((List Nat) × (List Nat)))) (v7 : Nat) (v8 : Nat) : Tr (Bool) :=
  .br (osome (wb10Total ((unL (unR v6)).1))) (wFnSlopes_o12 v2 v4 v6 v7 v8 (oget (wb10Total ((unL (unR v6)).1)))) .bad

noncomputable def wFnSlopes_o14 (v2 : List Nat) (v4 : List Nat) (v6 : Unit ⊕ (((List Nat) × (List Nat)) ⊕ ((List Nat) × (List Nat)))) (v7 : Nat) : Tr (Bool) :=
  .br (osome (wb10Total v4)) (wFnSlopes_o13 v2 v4 v6 v7 (oget (wb10Total v4))) .bad

noncomputable def wFnSlopes_o15 (v27 : Bool) : Tr (Bool) :=
  .br v27 (.ok true) (.ok false)

noncomputable def wFnSlopes_o16 (v28 : Bool) : Tr (Bool) :=
  .br v28 (.ok false) (.ok false)

noncomputable def wFnSlopes_o17 (v25 : Unit ⊕ (((List Nat) × (List Nat)) ⊕ (((List Nat) × (List Nat)) ⊕ ((List Nat) × (List Nat))))) (v26 : Nat ⊕ (Nat × (List Nat))) : Tr (Bool) :=
  .br (isL v26) (.br (osome (wb10List ((unL (unR v25)).2) ((unL (unR v25)).1))) (wFnSlopes_o15 (oget (wb10List ((unL (unR v25)).2) ((unL (unR v25)).1)))) .bad) (.br (osome (wb10List ((unL (unR v25)).2) ((unL (unR v25)).1))) (wFnSlopes_o16 (oget (wb10List ((unL (unR v25)).2) ((unL (unR v25)).1)))) .bad)

noncomputable def wFnSlopes_o18 (v30 : Bool) : Tr (Bool) :=
  .br v30 (.ok true) (.ok false)

noncomputable def wFnSlopes_o19 (v31 : Bool) : Tr (Bool) :=
  .br v31 (.ok false) (.ok false)

noncomputable def wFnSlopes_o20 (v25 : Unit ⊕ (((List Nat) × (List Nat)) ⊕ (((List Nat) × (List Nat)) ⊕ ((List Nat) × (List Nat))))) (v29 : Nat ⊕ (Nat × (List Nat))) : Tr (Bool) :=
  .br (isL v29) (.br (osome (wb10List ((unL (unR (unR v25))).2) ((unL (unR (unR v25))).1))) (wFnSlopes_o18 (oget (wb10List ((unL (unR (unR v25))).2) ((unL (unR (unR v25))).1)))) .bad) (.br (osome (wb10List ((unL (unR (unR v25))).2) ((unL (unR (unR v25))).1))) (wFnSlopes_o19 (oget (wb10List ((unL (unR (unR v25))).2) ((unL (unR (unR v25))).1)))) .bad)

noncomputable def wFnSlopes_o21 (v33 : Bool) : Tr (Bool) :=
  .br v33 (.ok true) (.ok false)

noncomputable def wFnSlopes_o22 (v34 : Bool) : Tr (Bool) :=
  .br v34 (.ok false) (.ok false)

noncomputable def wFnSlopes_o23 (v25 : Unit ⊕ (((List Nat) × (List Nat)) ⊕ (((List Nat) × (List Nat)) ⊕ ((List Nat) × (List Nat))))) (v32 : Nat ⊕ (Nat × (List Nat))) : Tr (Bool) :=
  .br (isL v32) (.br (osome (wb10List ((unR (unR (unR v25))).2) ((unR (unR (unR v25))).1))) (wFnSlopes_o21 (oget (wb10List ((unR (unR (unR v25))).2) ((unR (unR (unR v25))).1)))) .bad) (.br (osome (wb10List ((unR (unR (unR v25))).2) ((unR (unR (unR v25))).1))) (wFnSlopes_o22 (oget (wb10List ((unR (unR (unR v25))).2) ((unR (unR (unR v25))).1)))) .bad)

noncomputable def wFnSlopes_o24 (v25 : Unit ⊕ (((List Nat) × (List Nat)) ⊕ (((List Nat) × (List Nat)) ⊕ ((List Nat) × (List Nat))))) : Tr (Bool) :=
  .br (isL v25) (.ok false) (.br (isL (unR v25)) (.br (osome (iStepWave [1176256512] 0 1056964608 1082130432 1056964608)) (wFnSlopes_o17 v25 (oget (iStepWave [1176256512] 0 1056964608 1082130432 1056964608))) .bad) (.br (isL (unR (unR v25))) (.br (osome (iStepWave [1176256512] 0 1056964608 1082130432 1056964608)) (wFnSlopes_o20 v25 (oget (iStepWave [1176256512] 0 1056964608 1082130432 1056964608))) .bad) (.br (osome (iStepWave [1176256512] 0 1056964608 1082130432 1056964608)) (wFnSlopes_o23 v25 (oget (iStepWave [1176256512] 0 1056964608 1082130432 1056964608))) .bad)))

noncomputable def wFnSlopes_o25 (v2 : List Nat) (v4 : List Nat) (v6 : Unit ⊕ (((List Nat) × (List Nat)) ⊕ ((List Nat) × (List Nat)))) (v21 : Nat) (v22 : Nat) (v23 : Nat) (v24 : Nat) : Tr (Bool) :=
  .br (fgt .f64 (wb10Gap (fadd .f64 (fmul .f64 4616189618054758400 v21) (fmul .f64 4602678819172646912 v22)) (fadd .f64 (fmul .f64 4616189618054758400 v23) (fmul .f64 4602678819172646912 v24))) 4576918229304087675) (.ok false) (.br (osome (wFnSlopes_l15 (.inr (.inl ((((List.length v4 : Nat) : Int), (0, (v2, (v4, (unR (unR v6))))))))))) (wFnSlopes_o24 (oget (wFnSlopes_l15 (.inr (.inl ((((List.length v4 : Nat) : Int), (0, (v2, (v4, (unR (unR v6)))))))))))) .bad)

noncomputable def wFnSlopes_o26 (v2 : List Nat) (v4 : List Nat) (v6 : Unit ⊕ (((List Nat) × (List Nat)) ⊕ ((List Nat) × (List Nat)))) (v21 : Nat) (v22 : Nat) (v23 : Nat) : Tr (Bool) :=
  .br (osome (wb10Total ((unR (unR v6)).2))) (wFnSlopes_o25 v2 v4 v6 v21 v22 v23 (oget (wb10Total ((unR (unR v6)).2)))) .bad

noncomputable def wFnSlopes_o27 (v2 : List Nat) (v4 : List Nat) (v6 : Unit ⊕ (((List Nat) × (List Nat)) ⊕ ((List Nat) × (List Nat)))) (v21 : Nat) (v22 : Nat) : Tr (Bool) :=
  .br (osome (wb10Total ((unR (unR v6)).1))) (wFnSlopes_o26 v2 v4 v6 v21 v22 (oget (wb10Total ((unR (unR v6)).1)))) .bad

noncomputable def wFnSlopes_o28 (v2 : List Nat) (v4 : List Nat) (v6 : Unit ⊕ (((List Nat) × (List Nat)) ⊕ ((List Nat) × (List Nat)))) (v21 : Nat) : Tr (Bool) :=
  .br (osome (wb10Total v4)) (wFnSlopes_o27 v2 v4 v6 v21 (oget (wb10Total v4))) .bad

noncomputable def wFnSlopes_o29 (v2 : List Nat) (v4 : List Nat) (v6 : Unit ⊕ (((List Nat) × (List Nat)) ⊕ ((List Nat) × (List Nat)))) : Tr (Bool) :=
  .br (isL v6) (.br (! (false == false)) (.ok false) (.ok true)) (.br (isL (unR v6)) (.br (! (true == false)) (.ok false) (.br ((((List.length ((unL (unR v6)).1) : Nat) : Int) : Int) != (((List.length v2 : Nat) : Int))) (.ok false) (.br ((((List.length ((unL (unR v6)).2) : Nat) : Int) : Int) != (((List.length v4 : Nat) : Int))) (.ok false) (.br (osome (wb10Total v2)) (wFnSlopes_o14 v2 v4 v6 (oget (wb10Total v2))) .bad)))) (.br (! (true == false)) (.ok false) (.br ((((List.length ((unR (unR v6)).1) : Nat) : Int) : Int) != (((List.length v2 : Nat) : Int))) (.ok false) (.br ((((List.length ((unR (unR v6)).2) : Nat) : Int) : Int) != (((List.length v4 : Nat) : Int))) (.ok false) (.br (osome (wb10Total v2)) (wFnSlopes_o28 v2 v4 v6 (oget (wb10Total v2))) .bad)))))

noncomputable def wFnSlopes_o30 (v42 : Bool) : Tr (Bool) :=
  .br v42 (.ok true) (.ok false)

noncomputable def wFnSlopes_o31 (v43 : Bool) : Tr (Bool) :=
  .br v43 (.ok false) (.ok false)

noncomputable def wFnSlopes_o32 (v40 : Unit ⊕ (((List Nat) × (List Nat)) ⊕ (((List Nat) × (List Nat)) ⊕ ((List Nat) × (List Nat))))) (v41 : Nat ⊕ (Nat × (List Nat))) : Tr (Bool) :=
  .br (isL v41) (.br (osome (wb10List ((unL (unR v40)).2) ((unL (unR v40)).1))) (wFnSlopes_o30 (oget (wb10List ((unL (unR v40)).2) ((unL (unR v40)).1)))) .bad) (.br (osome (wb10List ((unL (unR v40)).2) ((unL (unR v40)).1))) (wFnSlopes_o31 (oget (wb10List ((unL (unR v40)).2) ((unL (unR v40)).1)))) .bad)

noncomputable def wFnSlopes_o33 (v45 : Bool) : Tr (Bool) :=
  .br v45 (.ok true) (.ok false)

noncomputable def wFnSlopes_o34 (v46 : Bool) : Tr (Bool) :=
  .br v46 (.ok false) (.ok false)

noncomputable def wFnSlopes_o35 (v40 : Unit ⊕ (((List Nat) × (List Nat)) ⊕ (((List Nat) × (List Nat)) ⊕ ((List Nat) × (List Nat))))) (v44 : Nat ⊕ (Nat × (List Nat))) : Tr (Bool) :=
  .br (isL v44) (.br (osome (wb10List ((unL (unR (unR v40))).2) ((unL (unR (unR v40))).1))) (wFnSlopes_o33 (oget (wb10List ((unL (unR (unR v40))).2) ((unL (unR (unR v40))).1)))) .bad) (.br (osome (wb10List ((unL (unR (unR v40))).2) ((unL (unR (unR v40))).1))) (wFnSlopes_o34 (oget (wb10List ((unL (unR (unR v40))).2) ((unL (unR (unR v40))).1)))) .bad)

noncomputable def wFnSlopes_o36 (v48 : Bool) : Tr (Bool) :=
  .br v48 (.ok true) (.ok false)

noncomputable def wFnSlopes_o37 (v49 : Bool) : Tr (Bool) :=
  .br v49 (.ok false) (.ok false)

noncomputable def wFnSlopes_o38 (v40 : Unit ⊕ (((List Nat) × (List Nat)) ⊕ (((List Nat) × (List Nat)) ⊕ ((List Nat) × (List Nat))))) (v47 : Nat ⊕ (Nat × (List Nat))) : Tr (Bool) :=
  .br (isL v47) (.br (osome (wb10List ((unR (unR (unR v40))).2) ((unR (unR (unR v40))).1))) (wFnSlopes_o36 (oget (wb10List ((unR (unR (unR v40))).2) ((unR (unR (unR v40))).1)))) .bad) (.br (osome (wb10List ((unR (unR (unR v40))).2) ((unR (unR (unR v40))).1))) (wFnSlopes_o37 (oget (wb10List ((unR (unR (unR v40))).2) ((unR (unR (unR v40))).1)))) .bad)

noncomputable def wFnSlopes_o39 (v40 : Unit ⊕ (((List Nat) × (List Nat)) ⊕ (((List Nat) × (List Nat)) ⊕ ((List Nat) × (List Nat))))) : Tr (Bool) :=
  .br (isL v40) (.ok false) (.br (isL (unR v40)) (.br (osome (iStepWave [1176256512] 0 1056964608 1082130432 1056964608)) (wFnSlopes_o32 v40 (oget (iStepWave [1176256512] 0 1056964608 1082130432 1056964608))) .bad) (.br (isL (unR (unR v40))) (.br (osome (iStepWave [1176256512] 0 1056964608 1082130432 1056964608)) (wFnSlopes_o35 v40 (oget (iStepWave [1176256512] 0 1056964608 1082130432 1056964608))) .bad) (.br (osome (iStepWave [1176256512] 0 1056964608 1082130432 1056964608)) (wFnSlopes_o38 v40 (oget (iStepWave [1176256512] 0 1056964608 1082130432 1056964608))) .bad)))

noncomputable def wFnSlopes_o40 (v2 : List Nat) (v4 : List Nat) (v35 : Unit ⊕ (((List Nat) × (List Nat)) ⊕ ((List Nat) × (List Nat)))) (v36 : Nat) (v37 : Nat) (v38 : Nat) (v39 : Nat) : Tr (Bool) :=
  .br (fgt .f64 (wb10Gap (fadd .f64 (fmul .f64 4616189618054758400 v36) (fmul .f64 4602678819172646912 v37)) (fadd .f64 (fmul .f64 4616189618054758400 v38) (fmul .f64 4602678819172646912 v39))) 4576918229304087675) (.ok false) (.br (osome (wFnSlopes_l15 (.inl (((unL (unR v35)).1, (((List.length v4 : Nat) : Int), (0, (v2, (v4, (unL (unR v35)).2))))))))) (wFnSlopes_o39 (oget (wFnSlopes_l15 (.inl (((unL (unR v35)).1, (((List.length v4 : Nat) : Int), (0, (v2, (v4, (unL (unR v35)).2)))))))))) .bad)

noncomputable def wFnSlopes_o41 (v2 : List Nat) (v4 : List Nat) (v35 : Unit ⊕ (((List Nat) × (List Nat)) ⊕ ((List Nat) × (List Nat)))) (v36 : Nat) (v37 : Nat) (v38 : Nat) : Tr (Bool) :=
  .br (osome (wb10Total ((unL (unR v35)).2))) (wFnSlopes_o40 v2 v4 v35 v36 v37 v38 (oget (wb10Total ((unL (unR v35)).2)))) .bad

noncomputable def wFnSlopes_o42 (v2 : List Nat) (v4 : List Nat) (v35 : Unit ⊕ (((List Nat) × (List Nat)) ⊕ ((List Nat) × (List Nat)))) (v36 : Nat) (v37 : Nat) : Tr (Bool) :=
  .br (osome (wb10Total ((unL (unR v35)).1))) (wFnSlopes_o41 v2 v4 v35 v36 v37 (oget (wb10Total ((unL (unR v35)).1)))) .bad

noncomputable def wFnSlopes_o43 (v2 : List Nat) (v4 : List Nat) (v35 : Unit ⊕ (((List Nat) × (List Nat)) ⊕ ((List Nat) × (List Nat)))) (v36 : Nat) : Tr (Bool) :=
  .br (osome (wb10Total v4)) (wFnSlopes_o42 v2 v4 v35 v36 (oget (wb10Total v4))) .bad

noncomputable def wFnSlopes_o44 (v56 : Bool) : Tr (Bool) :=
  .br v56 (.ok true) (.ok false)

noncomputable def wFnSlopes_o45 (v57 : Bool) : Tr (Bool) :=
  .br v57 (.ok false) (.ok false)

noncomputable def wFnSlopes_o46 (v54 : Unit ⊕ (((List Nat) × (List Nat)) ⊕ (((List Nat) × (List Nat)) ⊕ ((List Nat) × (List Nat))))) (v55 : Nat ⊕ (Nat × (List Nat))) : Tr (Bool) :=
  .br (isL v55) (.br (osome (wb10List ((unL (unR v54)).2) ((unL (unR v54)).1))) (wFnSlopes_o44 (oget (wb10List ((unL (unR v54)).2) ((unL (unR v54)).1)))) .bad) (.br (osome (wb10List ((unL (unR v54)).2) ((unL (unR v54)).1))) (wFnSlopes_o45 (oget (wb10List ((unL (unR v54)).2) ((unL (unR v54)).1)))) .bad)

noncomputable def wFnSlopes_o47 (v59 : Bool) : Tr (Bool) :=
  .br v59 (.ok true) (.ok false)

noncomputable def wFnSlopes_o48 (v60 : Bool) : Tr (Bool) :=
  .br v60 (.ok false) (.ok false)

noncomputable def wFnSlopes_o49 (v54 : Unit ⊕ (((List Nat) × (List Nat)) ⊕ (((List Nat) × (List Nat)) ⊕ ((List Nat) × (List Nat))))) (v58 : Nat ⊕ (Nat × (List Nat))) : Tr (Bool) :=
  .br (isL v58) (.br (osome (wb10List ((unL (unR (unR v54))).2) ((unL (unR (unR v54))).1))) (wFnSlopes_o47 (oget (wb10List ((unL (unR (unR v54))).2) ((unL (unR (unR v54))).1)))) .bad) (.br (osome (wb10List ((unL (unR (unR v54))).2) ((unL (unR (unR v54))).1))) (wFnSlopes_o48 (oget (wb10List ((unL (unR (unR v54))).2) ((unL (unR (unR v54))).1)))) .bad)

noncomputable def wFnSlopes_o50 (v62 : Bool) : Tr (Bool) :=
  .br v62 (.ok true) (.ok false)

noncomputable def wFnSlopes_o51 (v63 : Bool) : Tr (Bool) :=
  .br v63 (.ok false) (.ok false)

noncomputable def wFnSlopes_o52 (v54 : Unit ⊕ (((List Nat) × (List Nat)) ⊕ (((List Nat) × (List Nat)) ⊕ ((List Nat) × (List Nat))))) (v61 : Nat ⊕ (Nat × (List Nat))) : Tr (Bool) :=
  .br (isL v61) (.br (osome (wb10List ((unR (unR (unR v54))).2) ((unR (unR (unR v54))).1))) (wFnSlopes_o50 (oget (wb10List ((unR (unR (unR v54))).2) ((unR (unR (unR v54))).1)))) .bad) (.br (osome (wb10List ((unR (unR (unR v54))).2) ((unR (unR (unR v54))).1))) (wFnSlopes_o51 (oget (wb10List ((unR (unR (unR v54))).2) ((unR (unR (unR v54))).1)))) .bad)

noncomputable def wFnSlopes_o53 (v54 : Unit ⊕ (((List Nat) × (List Nat)) ⊕ (((List Nat) × (List Nat)) ⊕ ((List Nat) × (List Nat))))) : Tr (Bool) :=
  .br (isL v54) (.ok false) (.br (isL (unR v54)) (.br (osome (iStepWave [1176256512] 0 1056964608 1082130432 1056964608)) (wFnSlopes_o46 v54 (oget (iStepWave [1176256512] 0 1056964608 1082130432 1056964608))) .bad) (.br (isL (unR (unR v54))) (.br (osome (iStepWave [1176256512] 0 1056964608 1082130432 1056964608)) (wFnSlopes_o49 v54 (oget (iStepWave [1176256512] 0 1056964608 1082130432 1056964608))) .bad) (.br (osome (iStepWave [1176256512] 0 1056964608 1082130432 1056964608)) (wFnSlopes_o52 v54 (oget (iStepWave [1176256512] 0 1056964608 1082130432 1056964608))) .bad)))

noncomputable def wFnSlopes_o54 (v2 : List Nat) (v4 : List Nat) (v35 : Unit ⊕ (((List Nat) × (List Nat)) ⊕ ((List Nat) × (List Nat)))) (v50 : Nat) (v51 : Nat) (v52 : Nat) (v53 : Nat) : Tr (Bool) :=
  .br (fgt .f64 (wb10Gap (fadd .f64 (fmul .f64 4616189618054758400 v50) (fmul .f64 4602678819172646912 v51)) (fadd .f64 (fmul .f64 4616189618054758400 v52) (fmul .f64 4602678819172646912 v53))) 4576918229304087675) (.ok false) (.br (osome (wFnSlopes_l15 (.inr (.inl ((((List.length v4 : Nat) : Int), (0, (v2, (v4, (unR (unR v35))))))))))) (wFnSlopes_o53 (oget (wFnSlopes_l15 (.inr (.inl ((((List.length v4 : Nat) : Int), (0, (v2, (v4, (unR (unR v35)))))))))))) .bad)

noncomputable def wFnSlopes_o55 (v2 : List Nat) (v4 : List Nat) (v35 : Unit ⊕ (((List Nat) × (List Nat)) ⊕ ((List Nat) × (List Nat)))) (v50 : Nat) (v51 : Nat) (v52 : Nat) : Tr (Bool) :=
  .br (osome (wb10Total ((unR (unR v35)).2))) (wFnSlopes_o54 v2 v4 v35 v50 v51 v52 (oget (wb10Total ((unR (unR v35)).2)))) .bad

noncomputable def wFnSlopes_o56 (v2 : List Nat) (v4 : List Nat) (v35 : Unit ⊕ (((List Nat) × (List Nat)) ⊕ ((List Nat) × (List Nat)))) (v50 : Nat) (v51 : Nat) : Tr (Bool) :=
  .br (osome (wb10Total ((unR (unR v35)).1))) (wFnSlopes_o55 v2 v4 v35 v50 v51 (oget (wb10Total ((unR (unR v35)).1)))) .bad

noncomputable def wFnSlopes_o57 (v2 : List Nat) (v4 : List Nat) (v35 : Unit ⊕ (((List Nat) × (List Nat)) ⊕ ((List Nat) × (List Nat)))) (v50 : Nat) : Tr (Bool) :=
  .br (osome (wb10Total v4)) (wFnSlopes_o56 v2 v4 v35 v50 (oget (wb10Total v4))) .bad

noncomputable def wFnSlopes_o58 (v2 : List Nat) (v4 : List Nat) (v35 : Unit ⊕ (((List Nat) × (List Nat)) ⊕ ((List Nat) × (List Nat)))) : Tr (Bool) :=
  .br (isL v35) (.br (! (false == true)) (.ok false) (.ok true)) (.br (isL (unR v35)) (.br (! (true == true)) (.ok false) (.br ((((List.length ((unL (unR v35)).1) : Nat) : Int) : Int) != (((List.length v2 : Nat) : Int))) (.ok false) (.br ((((List.length ((unL (unR v35)).2) : Nat) : Int) : Int) != (((List.length v4 : Nat) : Int))) (.ok false) (.br (osome (wb10Total v2)) (wFnSlopes_o43 v2 v4 v35 (oget (wb10Total v2))) .bad)))) (.br (! (true == true)) (.ok false) (.br ((((List.length ((unR (unR v35)).1) : Nat) : Int) : Int) != (((List.length v2 : Nat) : Int))) (.ok false) (.br ((((List.length ((unR (unR v35)).2) : Nat) : Int) : Int) != (((List.length v4 : Nat) : Int))) (.ok false) (.br (osome (wb10Total v2)) (wFnSlopes_o57 v2 v4 v35 (oget (wb10Total v2))) .bad)))))

noncomputable def wFnSlopes_o59 (v2 : List Nat) (v4 : List Nat) (v5 : Unit ⊕ ((List Nat) × (List Nat))) : Tr (Bool) :=
  .br (isL v5) (.br (osome (iRunWave v2 v4 1056964608 1082130432 1056964608)) (wFnSlopes_o29 v2 v4 (oget (iRunWave v2 v4 1056964608 1082130432 1056964608))) .bad) (.br (osome (iRunWave v2 v4 1056964608 1082130432 1056964608)) (wFnSlopes_o58 v2 v4 (oget (iRunWave v2 v4 1056964608 1082130432 1056964608))) .bad)

noncomputable def wFnSlopes_o60 (v2 : List Nat) (v4 : List Nat) : Tr (Bool) :=
  .br (osome (sRunWave v2 v4 1056964608 1082130432 1056964608)) (wFnSlopes_o59 v2 v4 (oget (sRunWave v2 v4 1056964608 1082130432 1056964608))) .bad

noncomputable def wFnSlopes_o61 (x1 : List Int) (v2 : List Nat) (v3 : Int) : Tr (Bool) :=
  .br (osome (sB10Rain x1 (IntKind.wrap .i64 (1 + v3)))) (wFnSlopes_o60 v2 (oget (sB10Rain x1 (IntKind.wrap .i64 (1 + v3))))) .bad

noncomputable def wFnSlopes_o62 (x1 : List Int) (v2 : List Nat) : Tr (Bool) :=
  .br (osome (wb10At x1 0 8)) (wFnSlopes_o61 x1 v2 (oget (wb10At x1 0 8))) .bad

noncomputable def wFnSlopes_o63 (x0 : List Int) (x1 : List Int) (v1 : Int) : Tr (Bool) :=
  .br (osome (sB10Rain x0 (IntKind.wrap .i64 (1 + v1)))) (wFnSlopes_o62 x1 (oget (sB10Rain x0 (IntKind.wrap .i64 (1 + v1))))) .bad

noncomputable def wFnSlopes_t (x0 : List Int) (x1 : List Int) : Tr (Bool) :=
  .br (wb10Long x0 x1) (.ok true) (.br (osome (wb10At x0 0 8)) (wFnSlopes_o63 x0 x1 (oget (wb10At x0 0 8))) .bad)

noncomputable def wFnSlopes (x0 : List Int) (x1 : List Int) : Option (Bool) := (wFnSlopes_t x0 x1).sem
end Go.Proofs.Ytpglfnkkmafhbaa
