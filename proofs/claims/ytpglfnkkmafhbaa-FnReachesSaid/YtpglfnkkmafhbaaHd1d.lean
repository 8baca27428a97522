/- Functions, as plain functions. Plain functions. -/
import Derived.Test.YtpglfnkkmafhbaaDa
set_option linter.unusedVariables false
set_option linter.unusedSimpArgs false
set_option linter.constructorNameAsVariable false
namespace Go.Proofs.Ytpglfnkkmafhbaa
open Go.RowKit
set_option maxRecDepth 100000
noncomputable def wb10Long_t (x0 : List Int) (x1 : List Int) : Tr (Bool) :=
  .br (decide ((((List.length x0 : Nat) : Int) : Int) > 1048576)) (.ok true) (.ok (decide ((((List.length x1 : Nat) : Int) : Int) > 1048576)))

noncomputable def wb10Long (x0 : List Int) (x1 : List Int) : Bool := (wb10Long_t x0 x1).val

noncomputable def sl00From_t (x0 : List Int) : Tr (List Int × Int × Int) :=
  .ok (x0, 0, 0)

noncomputable def sl00From (x0 : List Int) : List Int × Int × Int := (sl00From_t x0).val

noncomputable def sl00Src_next_t (x0 : List Int) (x1 : Int) (x2 : Int) : Tr (Int × List Int × Int × Int) :=
  .br (decide ((x1 : Int) < (((List.length x0 : Nat) : Int)))) (.br (decide (0 ≤ (x1 : Int)) && decide ((x1 : Int) < ((List.length x0 : Nat) : Int))) (.br (decide ((IntKind.wrap .i64 (x1 + 1) : Int) ≤ (((List.length x0 : Nat) : Int)))) (.ok (IntKind.wrap .i64 (List.getD x0 (Int.toNat x1) 0), x0, IntKind.wrap .i64 (x1 + 1), IntKind.wrap .u64 ((IntKind.wrap .u64 ((IntKind.wrap .u64 (x2 * 6364136223846793005)) + (IntKind.wrap .u64 (IntKind.wrap .i64 (List.getD x0 (Int.toNat x1) 0))))) + 1442695040888963407))) (.br (decide ((0 : Int) ≤ 40)) (.ok (IntKind.wrap .i64 (iand .u64 (ishr .u64 (IntKind.wrap .u64 ((IntKind.wrap .u64 ((IntKind.wrap .u64 (x2 * 6364136223846793005)) + (IntKind.wrap .u64 (IntKind.wrap .i64 (List.getD x0 (Int.toNat x1) 0))))) + 1442695040888963407)) 40) 255), x0, IntKind.wrap .i64 (x1 + 1), IntKind.wrap .u64 ((IntKind.wrap .u64 ((IntKind.wrap .u64 (x2 * 6364136223846793005)) + (IntKind.wrap .u64 (IntKind.wrap .i64 (List.getD x0 (Int.toNat x1) 0))))) + 1442695040888963407))) .bad)) .bad) (.br (decide ((IntKind.wrap .i64 (x1 + 1) : Int) ≤ (((List.length x0 : Nat) : Int)))) (.ok (0, x0, IntKind.wrap .i64 (x1 + 1), IntKind.wrap .u64 ((IntKind.wrap .u64 ((IntKind.wrap .u64 (x2 * 6364136223846793005)) + (IntKind.wrap .u64 0))) + 1442695040888963407))) (.br (decide ((0 : Int) ≤ 40)) (.ok (IntKind.wrap .i64 (iand .u64 (ishr .u64 (IntKind.wrap .u64 ((IntKind.wrap .u64 ((IntKind.wrap .u64 (x2 * 6364136223846793005)) + (IntKind.wrap .u64 0))) + 1442695040888963407)) 40) 255), x0, IntKind.wrap .i64 (x1 + 1), IntKind.wrap .u64 ((IntKind.wrap .u64 ((IntKind.wrap .u64 (x2 * 6364136223846793005)) + (IntKind.wrap .u64 0))) + 1442695040888963407))) .bad))

noncomputable def sl00Src_next (x0 : List Int) (x1 : Int) (x2 : Int) : Option (Int × List Int × Int × Int) := (sl00Src_next_t x0 x1 x2).sem

noncomputable def sl00Src_pick_t (x0 : Int) (x1 : List Int) (x2 : Int) (x3 : Int) : Tr (Int × List Int × Int × Int) :=
  .br (decide ((x0 : Int) ≤ 1)) (.ok (0, x1, x2, x3)) (.br (osome (sl00Src_next x1 x2 x3)) (.br (decide ((x0 : Int) > 200)) (.br (osome (sl00Src_next (oget (sl00Src_next x1 x2 x3)).2.1 (oget (sl00Src_next x1 x2 x3)).2.2.1 (oget (sl00Src_next x1 x2 x3)).2.2.2)) (.br (decide (x0 ≠ (0 : Int))) (.ok (Int.tmod (IntKind.wrap .i64 ((IntKind.wrap .i64 ((oget (sl00Src_next x1 x2 x3)).1 * 256)) + (oget (sl00Src_next (oget (sl00Src_next x1 x2 x3)).2.1 (oget (sl00Src_next x1 x2 x3)).2.2.1 (oget (sl00Src_next x1 x2 x3)).2.2.2)).1)) x0, (oget (sl00Src_next (oget (sl00Src_next x1 x2 x3)).2.1 (oget (sl00Src_next x1 x2 x3)).2.2.1 (oget (sl00Src_next x1 x2 x3)).2.2.2)).2.1, (oget (sl00Src_next (oget (sl00Src_next x1 x2 x3)).2.1 (oget (sl00Src_next x1 x2 x3)).2.2.1 (oget (sl00Src_next x1 x2 x3)).2.2.2)).2.2.1, (oget (sl00Src_next (oget (sl00Src_next x1 x2 x3)).2.1 (oget (sl00Src_next x1 x2 x3)).2.2.1 (oget (sl00Src_next x1 x2 x3)).2.2.2)).2.2.2)) .bad) .bad) (.br (decide (x0 ≠ (0 : Int))) (.ok (Int.tmod (oget (sl00Src_next x1 x2 x3)).1 x0, (oget (sl00Src_next x1 x2 x3)).2.1, (oget (sl00Src_next x1 x2 x3)).2.2.1, (oget (sl00Src_next x1 x2 x3)).2.2.2)) .bad)) .bad)

noncomputable def sl00Src_pick (x0 : Int) (x1 : List Int) (x2 : Int) (x3 : Int) : Option (Int × List Int × Int × Int) := (sl00Src_pick_t x0 x1 x2 x3).sem

noncomputable def sB10Reaches_l4_t  (y0 : Int) (y1 : List Int) (y2 : Int) (y3 : Int) (y4 : List (Nat × Nat)) : Tr ((Int × List Int × Int × Int × (List (Nat × Nat))) ⊕ (List (Nat × Nat))) :=
  .br (decide ((y0 : Int) > 0)) (.br (osome (sl00Src_pick 12 y1 y2 y3)) (.br (osome (sl00Src_pick 5 (oget (sl00Src_pick 12 y1 y2 y3)).2.1 (oget (sl00Src_pick 12 y1 y2 y3)).2.2.1 (oget (sl00Src_pick 12 y1 y2 y3)).2.2.2)) (.br (decide ((List.length y4 + List.length [(fdiv .f32 (FloatKind.nearest .f32 (IntKind.wrap .i64 (1 + (oget (sl00Src_pick 12 y1 y2 y3)).1))) 1082130432, fdiv .f32 (FloatKind.nearest .f32 (oget (sl00Src_pick 5 (oget (sl00Src_pick 12 y1 y2 y3)).2.1 (oget (sl00Src_pick 12 y1 y2 y3)).2.2.1 (oget (sl00Src_pick 12 y1 y2 y3)).2.2.2)).1) 1090519040)]) * 8 ≤ 140737488355328)) (.ok (.inl (IntKind.wrap .i64 (y0 - 1), (oget (sl00Src_pick 5 (oget (sl00Src_pick 12 y1 y2 y3)).2.1 (oget (sl00Src_pick 12 y1 y2 y3)).2.2.1 (oget (sl00Src_pick 12 y1 y2 y3)).2.2.2)).2.1, (oget (sl00Src_pick 5 (oget (sl00Src_pick 12 y1 y2 y3)).2.1 (oget (sl00Src_pick 12 y1 y2 y3)).2.2.1 (oget (sl00Src_pick 12 y1 y2 y3)).2.2.2)).2.2.1, (oget (sl00Src_pick 5 (oget (sl00Src_pick 12 y1 y2 y3)).2.1 (oget (sl00Src_pick 12 y1 y2 y3)).2.2.1 (oget (sl00Src_pick 12 y1 y2 y3)).2.2.2)).2.2.2, y4 ++ [(fdiv .f32 (FloatKind.nearest .f32 (IntKind.wrap .i64 (1 + (oget (sl00Src_pick 12 y1 y2 y3)).1))) 1082130432, fdiv .f32 (FloatKind.nearest .f32 (oget (sl00Src_pick 5 (oget (sl00Src_pick 12 y1 y2 y3)).2.1 (oget (sl00Src_pick 12 y1 y2 y3)).2.2.1 (oget (sl00Src_pick 12 y1 y2 y3)).2.2.2)).1) 1090519040)]))) .bad) .bad) .bad) (.ok (.inr y4))

noncomputable def sB10Reaches_l4 (y0 : Int) (y1 : List Int) (y2 : Int) (y3 : Int) (y4 : List (Nat × Nat)) : Option (List (Nat × Nat)) := runL (fun s : Int × List Int × Int × Int × (List (Nat × Nat)) => (sB10Reaches_l4_t  s.1 s.2.1 s.2.2.1 s.2.2.2.1 s.2.2.2.2).sem) (y0, y1, y2, y3, y4)

noncomputable def sB10Reaches_t (x0 : List Int) : Tr (List (Nat × Nat)) :=
  .br (osome (sl00Src_pick 4 ((sl00From x0).1) (((sl00From x0).2).1) (((sl00From x0).2).2))) (.br (osome (sB10Reaches_l4 (IntKind.wrap .i64 (1 + (oget (sl00Src_pick 4 ((sl00From x0).1) (((sl00From x0).2).1) (((sl00From x0).2).2))).1)) (oget (sl00Src_pick 4 ((sl00From x0).1) (((sl00From x0).2).1) (((sl00From x0).2).2))).2.1 (oget (sl00Src_pick 4 ((sl00From x0).1) (((sl00From x0).2).1) (((sl00From x0).2).2))).2.2.1 (oget (sl00Src_pick 4 ((sl00From x0).1) (((sl00From x0).2).1) (((sl00From x0).2).2))).2.2.2 [])) (.ok (oget (sB10Reaches_l4 (IntKind.wrap .i64 (1 + (oget (sl00Src_pick 4 ((sl00From x0).1) (((sl00From x0).2).1) (((sl00From x0).2).2))).1)) (oget (sl00Src_pick 4 ((sl00From x0).1) (((sl00From x0).2).1) (((sl00From x0).2).2))).2.1 (oget (sl00Src_pick 4 ((sl00From x0).1) (((sl00From x0).2).1) (((sl00From x0).2).2))).2.2.1 (oget (sl00Src_pick 4 ((sl00From x0).1) (((sl00From x0).2).1) (((sl00From x0).2).2))).2.2.2 []))) .bad) .bad

noncomputable def sB10Reaches (x0 : List Int) : Option (List (Nat × Nat)) := (sB10Reaches_t x0).sem

noncomputable def wb10At_t (x0 : List Int) (x1 : Int) (x2 : Int) : Tr (Int) :=
  .br (decide ((x2 : Int) ≤ 1)) (.ok 0) (.br (decide ((x1 : Int) < (((List.length x0 : Nat) : Int)))) (.br (decide (0 ≤ (x1 : Int)) && decide ((x1 : Int) < ((List.length x0 : Nat) : Int))) (.br (decide (x2 ≠ (0 : Int))) (.ok (Int.tmod (IntKind.wrap .i64 (List.getD x0 (Int.toNat x1) 0)) x2)) .bad) .bad) (.br (decide (x2 ≠ (0 : Int))) (.ok (Int.tmod (IntKind.wrap .i64 ((IntKind.wrap .i64 (x1 * 37)) + 11)) x2)) .bad))

noncomputable def wb10At (x0 : List Int) (x1 : Int) (x2 : Int) : Option (Int) := (wb10At_t x0 x1 x2).sem

noncomputable def sB10Rain_l3_t  (y0 : Int) (y1 : List Int) (y2 : Int) (y3 : Int) (y4 : List Nat) : Tr ((Int × List Int × Int × Int × List Nat) ⊕ (List Nat)) :=
  .br (decide ((y0 : Int) > 0)) (.br (osome (sl00Src_pick 9 y1 y2 y3)) (.br (decide ((List.length y4 + List.length [fdiv .f32 (FloatKind.nearest .f32 (oget (sl00Src_pick 9 y1 y2 y3)).1) 1082130432]) * 4 ≤ 140737488355328)) (.ok (.inl (IntKind.wrap .i64 (y0 - 1), (oget (sl00Src_pick 9 y1 y2 y3)).2.1, (oget (sl00Src_pick 9 y1 y2 y3)).2.2.1, (oget (sl00Src_pick 9 y1 y2 y3)).2.2.2, y4 ++ [fdiv .f32 (FloatKind.nearest .f32 (oget (sl00Src_pick 9 y1 y2 y3)).1) 1082130432]))) .bad) .bad) (.ok (.inr y4))

noncomputable def sB10Rain_l3 (y0 : Int) (y1 : List Int) (y2 : Int) (y3 : Int) (y4 : List Nat) : Option (List Nat) := runL (fun s : Int × List Int × Int × Int × List Nat => (sB10Rain_l3_t  s.1 s.2.1 s.2.2.1 s.2.2.2.1 s.2.2.2.2).sem) (y0, y1, y2, y3, y4)

noncomputable def sB10Rain_t (x0 : List Int) (x1 : Int) : Tr (List Nat) :=
  .br (osome (sB10Rain_l3 x1 ((sl00From x0).1) (((sl00From x0).2).1) (((sl00From x0).2).2) [])) (.ok (oget (sB10Rain_l3 x1 ((sl00From x0).1) (((sl00From x0).2).1) (((sl00From x0).2).2) []))) .bad

noncomputable def sB10Rain (x0 : List Int) (x1 : Int) : Option (List Nat) := (sB10Rain_t x0 x1).sem

noncomputable def iValidReach_t (x0 : Nat) (x1 : Nat) : Tr (Bool) :=
  .br (isLen x0) (.br (fge .f32 x1 0) (.ok (fle .f32 x1 1056964608)) (.ok false)) (.ok false)

noncomputable def iValidReach (x0 : Nat) (x1 : Nat) : Bool := (iValidReach_t x0 x1).val

noncomputable def iareFinite_1_t (x0 : Nat) : Tr (Bool) :=
  .ok (! (isFin .f32 x0))

noncomputable def iareFinite_1 (x0 : Nat) : Bool := (iareFinite_1_t x0).val

noncomputable def lIndexFunc_iareFinite_1_l2_t (y0 : List Nat) (y1 : Int) (y2 : Int) : Tr (Int ⊕ (Int ⊕ Unit)) :=
  .br (decide ((y2 : Int) < y1)) (.br (decide (0 ≤ (y2 : Int)) && decide ((y2 : Int) < ((List.length y0 : Nat) : Int))) (.br (iareFinite_1 (List.getD y0 (Int.toNat y2) 0)) (.ok (.inr (.inl y2))) (.ok (.inl (IntKind.wrap .i64 (y2 + 1))))) .bad) (.ok (.inr (.inr ())))

noncomputable def lIndexFunc_iareFinite_1_l2 (y0 : List Nat) (y1 : Int) (y2 : Int) : Option (Int ⊕ Unit) := runL (fun s : Int => (lIndexFunc_iareFinite_1_l2_t y0 y1 s).sem) y2

noncomputable def lIndexFunc_iareFinite_1_t (x0 : List Nat) : Tr (Int) :=
  .br (osome (lIndexFunc_iareFinite_1_l2 x0 (((List.length x0 : Nat) : Int)) 0)) (.br (isL (oget (lIndexFunc_iareFinite_1_l2 x0 (((List.length x0 : Nat) : Int)) 0))) (.ok (unL (oget (lIndexFunc_iareFinite_1_l2 x0 (((List.length x0 : Nat) : Int)) 0)))) (.ok (-1))) .bad

noncomputable def lIndexFunc_iareFinite_1 (x0 : List Nat) : Option (Int) := (lIndexFunc_iareFinite_1_t x0).sem

noncomputable def lContainsFunc_iareFinite_1_t (x0 : List Nat) : Tr (Bool) :=
  .br (osome (lIndexFunc_iareFinite_1 x0)) (.ok (decide (((oget (lIndexFunc_iareFinite_1 x0)) : Int) ≥ 0))) .bad

noncomputable def lContainsFunc_iareFinite_1 (x0 : List Nat) : Option (Bool) := (lContainsFunc_iareFinite_1_t x0).sem

noncomputable def iareFinite_t (x0 : List Nat) : Tr (Bool) :=
  .br (osome (lContainsFunc_iareFinite_1 x0)) (.ok (!(oget (lContainsFunc_iareFinite_1 x0)))) .bad

noncomputable def iareFinite (x0 : List Nat) : Option (Bool) := (iareFinite_t x0).sem

noncomputable def iReachShares_t (x0 : Nat) (x1 : Nat) (x2 : Nat) : Tr (Nat × Nat × Nat × Bool) :=
  .br (! (iValidReach x0 x1)) (.ok (0, 0, 0, false)) (.br (! (isLen x2)) (.ok (0, 0, 0, false)) (.br (osome (iareFinite [fdiv .f32 (fsub .f32 x2 (fmul .f32 (fmul .f32 1073741824 x0) x1)) (fadd .f32 (fmul .f32 (fmul .f32 1073741824 x0) (fsub .f32 1065353216 x1)) x2), fdiv .f32 (fadd .f32 x2 (fmul .f32 (fmul .f32 1073741824 x0) x1)) (fadd .f32 (fmul .f32 (fmul .f32 1073741824 x0) (fsub .f32 1065353216 x1)) x2), fdiv .f32 (fsub .f32 (fmul .f32 (fmul .f32 1073741824 x0) (fsub .f32 1065353216 x1)) x2) (fadd .f32 (fmul .f32 (fmul .f32 1073741824 x0) (fsub .f32 1065353216 x1)) x2)])) (.br (!(oget (iareFinite [fdiv .f32 (fsub .f32 x2 (fmul .f32 (fmul .f32 1073741824 x0) x1)) (fadd .f32 (fmul .f32 (fmul .f32 1073741824 x0) (fsub .f32 1065353216 x1)) x2), fdiv .f32 (fadd .f32 x2 (fmul .f32 (fmul .f32 1073741824 x0) x1)) (fadd .f32 (fmul .f32 (fmul .f32 1073741824 x0) (fsub .f32 1065353216 x1)) x2), fdiv .f32 (fsub .f32 (fmul .f32 (fmul .f32 1073741824 x0) (fsub .f32 1065353216 x1)) x2) (fadd .f32 (fmul .f32 (fmul .f32 1073741824 x0) (fsub .f32 1065353216 x1)) x2)]))) (.ok (0, 0, 0, false)) (.ok (fdiv .f32 (fsub .f32 x2 (fmul .f32 (fmul .f32 1073741824 x0) x1)) (fadd .f32 (fmul .f32 (fmul .f32 1073741824 x0) (fsub .f32 1065353216 x1)) x2), fdiv .f32 (fadd .f32 x2 (fmul .f32 (fmul .f32 1073741824 x0) x1)) (fadd .f32 (fmul .f32 (fmul .f32 1073741824 x0) (fsub .f32 1065353216 x1)) x2), fdiv .f32 (fsub .f32 (fmul .f32 (fmul .f32 1073741824 x0) (fsub .f32 1065353216 x1)) x2) (fadd .f32 (fmul .f32 (fmul .f32 1073741824 x0) (fsub .f32 1065353216 x1)) x2), true))) .bad))

noncomputable def iReachShares (x0 : Nat) (x1 : Nat) (x2 : Nat) : Option (Nat × Nat × Nat × Bool) := (iReachShares_t x0 x1 x2).sem

noncomputable def iwithin_t (x0 : Int) (x1 : Int) (x2 : Int) : Tr (Bool) :=
  .br (decide ((x1 : Int) ≤ x0)) (.ok (decide ((x0 : Int) ≤ x2))) (.ok false)

noncomputable def iwithin (x0 : Int) (x1 : Int) (x2 : Int) : Bool := (iwithin_t x0 x1 x2).val

noncomputable def iareIns_t (x0 : List Nat) : Tr (Bool) :=
  .br (iwithin (((List.length x0 : Nat) : Int)) 1 128) (.br (osome (iareFinite x0)) (.ok (oget (iareFinite x0))) .bad) (.ok false)

noncomputable def iareIns (x0 : List Nat) : Option (Bool) := (iareIns_t x0).sem

noncomputable def iRouteReach_l6_t (y0 : List Nat) (y1 : Nat) (y2 : Nat) (y3 : Nat) (y4 : Int) (y5 : List Nat) : Tr ((Int × List Nat) ⊕ (List Nat)) :=
  .br (decide ((y4 : Int) < (((List.length y0 : Nat) : Int)))) (.br (decide (0 ≤ (y4 : Int)) && decide ((y4 : Int) < ((List.length y0 : Nat) : Int))) (.br (decide (0 ≤ (IntKind.wrap .i64 (y4 - 1) : Int)) && decide ((IntKind.wrap .i64 (y4 - 1) : Int) < ((List.length y0 : Nat) : Int))) (.br (decide (0 ≤ (IntKind.wrap .i64 (y4 - 1) : Int)) && decide ((IntKind.wrap .i64 (y4 - 1) : Int) < ((List.length y5 : Nat) : Int))) (.br (decide ((List.length y5 + List.length [fadd .f32 (fadd .f32 (fmul .f32 y1 (List.getD y0 (Int.toNat y4) 0)) (fmul .f32 y2 (List.getD y0 (Int.toNat (IntKind.wrap .i64 (y4 - 1))) 0))) (fmul .f32 y3 (List.getD y5 (Int.toNat (IntKind.wrap .i64 (y4 - 1))) 0))]) * 4 ≤ 140737488355328)) (.ok (.inl (IntKind.wrap .i64 (y4 + 1), y5 ++ [fadd .f32 (fadd .f32 (fmul .f32 y1 (List.getD y0 (Int.toNat y4) 0)) (fmul .f32 y2 (List.getD y0 (Int.toNat (IntKind.wrap .i64 (y4 - 1))) 0))) (fmul .f32 y3 (List.getD y5 (Int.toNat (IntKind.wrap .i64 (y4 - 1))) 0))]))) .bad) .bad) .bad) .bad) (.ok (.inr y5))

noncomputable def iRouteReach_l6 (y0 : List Nat) (y1 : Nat) (y2 : Nat) (y3 : Nat) (y4 : Int) (y5 : List Nat) : Option (List Nat) := runL (fun s : Int × List Nat => (iRouteReach_l6_t y0 y1 y2 y3 s.1 s.2).sem) (y4, y5)

noncomputable def iRouteReach_t (x0 : Nat) (x1 : Nat) (x2 : List Nat) (x3 : Nat) (x4 : Nat) : Tr (Unit ⊕ (List Nat)) :=
  .br (osome (iReachShares x0 x1 x3)) (.br (!(oget (iReachShares x0 x1 x3)).2.2.2) (.ok (.inl ())) (.br (osome (iareIns x2)) (.br (!(oget (iareIns x2))) (.ok (.inl ())) (.br (! (isFin .f32 x4)) (.ok (.inl ())) (.br (osome (iRouteReach_l6 x2 (oget (iReachShares x0 x1 x3)).1 (oget (iReachShares x0 x1 x3)).2.1 (oget (iReachShares x0 x1 x3)).2.2.1 1 [x4])) (.br (osome (iareFinite (oget (iRouteReach_l6 x2 (oget (iReachShares x0 x1 x3)).1 (oget (iReachShares x0 x1 x3)).2.1 (oget (iReachShares x0 x1 x3)).2.2.1 1 [x4])))) (.br (!(oget (iareFinite (oget (iRouteReach_l6 x2 (oget (iReachShares x0 x1 x3)).1 (oget (iReachShares x0 x1 x3)).2.1 (oget (iReachShares x0 x1 x3)).2.2.1 1 [x4]))))) (.ok (.inl ())) (.ok (.inr (oget (iRouteReach_l6 x2 (oget (iReachShares x0 x1 x3)).1 (oget (iReachShares x0 x1 x3)).2.1 (oget (iReachShares x0 x1 x3)).2.2.1 1 [x4]))))) .bad) .bad))) .bad)) .bad

noncomputable def iRouteReach (x0 : Nat) (x1 : Nat) (x2 : List Nat) (x3 : Nat) (x4 : Nat) : Option (Unit ⊕ (List Nat)) := (iRouteReach_t x0 x1 x2 x3 x4).sem

noncomputable def ifinite32_t (x0 : Nat) : Tr (Nat × Bool) :=
  .br (! (isFin .f32 x0)) (.ok (0, false)) (.ok (x0, true))

noncomputable def ifinite32 (x0 : Nat) : Nat × Bool := (ifinite32_t x0).val

noncomputable def iHeldInReach_t (x0 : Nat) (x1 : Nat) (x2 : Nat) (x3 : Nat) : Tr (Nat × Bool) :=
  .br (! (iValidReach x0 x1)) (.ok (0, false)) (.br (osome (iareFinite [x2, x3])) (.br (!(oget (iareFinite [x2, x3]))) (.ok (0, false)) (.ok ((ifinite32 (fmul .f32 x0 (fadd .f32 (fmul .f32 x1 x2) (fmul .f32 (fsub .f32 1065353216 x1) x3)))).1, (ifinite32 (fmul .f32 x0 (fadd .f32 (fmul .f32 x1 x2) (fmul .f32 (fsub .f32 1065353216 x1) x3)))).2))) .bad)

noncomputable def iHeldInReach (x0 : Nat) (x1 : Nat) (x2 : Nat) (x3 : Nat) : Option (Nat × Bool) := (iHeldInReach_t x0 x1 x2 x3).sem

noncomputable def wb10Gap_t (x0 : Nat) (x1 : Nat) : Tr (Nat) :=
  .br (flt .f64 x0 x1) (.ok (fsub .f64 x1 x0)) (.ok (fsub .f64 x0 x1))

noncomputable def wb10Gap (x0 : Nat) (x1 : Nat) : Nat := (wb10Gap_t x0 x1).val

noncomputable def iareReaches_1_t (x0 : Nat) (x1 : Nat) : Tr (Bool) :=
  .ok (! (iValidReach x0 x1))

noncomputable def iareReaches_1 (x0 : Nat) (x1 : Nat) : Bool := (iareReaches_1_t x0 x1).val

noncomputable def lIndexFunc_iareReaches_1_l2_t (y0 : List (Nat × Nat)) (y1 : Int) (y2 : Int) : Tr (Int ⊕ (Int ⊕ Unit)) :=
  .br (decide ((y2 : Int) < y1)) (.br (decide (0 ≤ (y2 : Int)) && decide ((y2 : Int) < ((List.length y0 : Nat) : Int))) (.br (iareReaches_1 ((List.getD y0 (Int.toNat y2) (0, 0)).1) ((List.getD y0 (Int.toNat y2) (0, 0)).2)) (.ok (.inr (.inl y2))) (.ok (.inl (IntKind.wrap .i64 (y2 + 1))))) .bad) (.ok (.inr (.inr ())))

noncomputable def lIndexFunc_iareReaches_1_l2 (y0 : List (Nat × Nat)) (y1 : Int) (y2 : Int) : Option (Int ⊕ Unit) := runL (fun s : Int => (lIndexFunc_iareReaches_1_l2_t y0 y1 s).sem) y2

noncomputable def lIndexFunc_iareReaches_1_t (x0 : List (Nat × Nat)) : Tr (Int) :=
  .br (osome (lIndexFunc_iareReaches_1_l2 x0 (((List.length x0 : Nat) : Int)) 0)) (.br (isL (oget (lIndexFunc_iareReaches_1_l2 x0 (((List.length x0 : Nat) : Int)) 0))) (.ok (unL (oget (lIndexFunc_iareReaches_1_l2 x0 (((List.length x0 : Nat) : Int)) 0)))) (.ok (-1))) .bad

noncomputable def lIndexFunc_iareReaches_1 (x0 : List (Nat × Nat)) : Option (Int) := (lIndexFunc_iareReaches_1_t x0).sem

noncomputable def lContainsFunc_iareReaches_1_t (x0 : List (Nat × Nat)) : Tr (Bool) :=
  .br (osome (lIndexFunc_iareReaches_1 x0)) (.ok (decide (((oget (lIndexFunc_iareReaches_1 x0)) : Int) ≥ 0))) .bad

noncomputable def lContainsFunc_iareReaches_1 (x0 : List (Nat × Nat)) : Option (Bool) := (lContainsFunc_iareReaches_1_t x0).sem

noncomputable def iareReaches_t (x0 : List (Nat × Nat)) : Tr (Bool) :=
  .br (iwithin (((List.length x0 : Nat) : Int)) 1 12) (.br (osome (lContainsFunc_iareReaches_1 x0)) (.ok (!(oget (lContainsFunc_iareReaches_1 x0)))) .bad) (.ok false)

noncomputable def iareReaches (x0 : List (Nat × Nat)) : Option (Bool) := (iareReaches_t x0).sem

noncomputable def iRouteReaches_l4_t0 (y0 : List Nat) (y1 : Nat) (y2 : List (Nat × Nat)) (y3 : Int) (y4 : Int) : Tr (((List Nat × Nat × (List (Nat × Nat)) × Int × Int) ⊕ (Nat × (List (Nat × Nat)) × Int × Int × List Nat)) ⊕ (Unit ⊕ (List Nat) ⊕ (List Nat))) :=
  .br (decide ((y4 : Int) < y3)) (.br (decide (0 ≤ (y4 : Int)) && decide ((y4 : Int) < ((List.length y2 : Nat) : Int))) (.br (decide (0 ≤ (0 : Int)) && decide ((0 : Int) < ((List.length y0 : Nat) : Int))) (.br (osome (iRouteReach ((List.getD y2 (Int.toNat y4) (0, 0)).1) ((List.getD y2 (Int.toNat y4) (0, 0)).2) y0 y1 (List.getD y0 (Int.toNat 0) 0))) (.br (isL (oget (iRouteReach ((List.getD y2 (Int.toNat y4) (0, 0)).1) ((List.getD y2 (Int.toNat y4) (0, 0)).2) y0 y1 (List.getD y0 (Int.toNat 0) 0)))) (.ok (.inr (.inl ()))) (.ok (.inl (.inr (y1, y2, y3, IntKind.wrap .i64 (y4 + 1), unR (oget (iRouteReach ((List.getD y2 (Int.toNat y4) (0, 0)).1) ((List.getD y2 (Int.toNat y4) (0, 0)).2) y0 y1 (List.getD y0 (Int.toNat 0) 0)))))))) .bad) .bad) .bad) (.ok (.inr (.inr (.inl y0))))

noncomputable def iRouteReaches_l4_t1 (y0 : Nat) (y1 : List (Nat × Nat)) (y2 : Int) (y3 : Int) (y4 : List Nat) : Tr (((List Nat × Nat × (List (Nat × Nat)) × Int × Int) ⊕ (Nat × (List (Nat × Nat)) × Int × Int × List Nat)) ⊕ (Unit ⊕ (List Nat) ⊕ (List Nat))) :=
  .br (decide ((y3 : Int) < y2)) (.br (decide (0 ≤ (y3 : Int)) && decide ((y3 : Int) < ((List.length y1 : Nat) : Int))) (.br (decide (0 ≤ (0 : Int)) && decide ((0 : Int) < ((List.length y4 : Nat) : Int))) (.br (osome (iRouteReach ((List.getD y1 (Int.toNat y3) (0, 0)).1) ((List.getD y1 (Int.toNat y3) (0, 0)).2) y4 y0 (List.getD y4 (Int.toNat 0) 0))) (.br (isL (oget (iRouteReach ((List.getD y1 (Int.toNat y3) (0, 0)).1) ((List.getD y1 (Int.toNat y3) (0, 0)).2) y4 y0 (List.getD y4 (Int.toNat 0) 0)))) (.ok (.inr (.inl ()))) (.ok (.inl (.inr (y0, y1, y2, IntKind.wrap .i64 (y3 + 1), unR (oget (iRouteReach ((List.getD y1 (Int.toNat y3) (0, 0)).1) ((List.getD y1 (Int.toNat y3) (0, 0)).2) y4 y0 (List.getD y4 (Int.toNat 0) 0)))))))) .bad) .bad) .bad) (.ok (.inr (.inr (.inr y4))))

noncomputable def iRouteReaches_l4_s : ((List Nat × Nat × (List (Nat × Nat)) × Int × Int) ⊕ (Nat × (List (Nat × Nat)) × Int × Int × List Nat)) → Option (((List Nat × Nat × (List (Nat × Nat)) × Int × Int) ⊕ (Nat × (List (Nat × Nat)) × Int × Int × List Nat)) ⊕ (Unit ⊕ (List Nat) ⊕ (List Nat)))
  | (.inl y) => (iRouteReaches_l4_t0 y.1 y.2.1 y.2.2.1 y.2.2.2.1 y.2.2.2.2).sem
  | (.inr y) => (iRouteReaches_l4_t1 y.1 y.2.1 y.2.2.1 y.2.2.2.1 y.2.2.2.2).sem

noncomputable def iRouteReaches_l4 (x : (List Nat × Nat × (List (Nat × Nat)) × Int × Int) ⊕ (Nat × (List (Nat × Nat)) × Int × Int × List Nat)) : Option (Unit ⊕ (List Nat) ⊕ (List Nat)) := runL iRouteReaches_l4_s x

noncomputable def iRouteReaches_t (x0 : List (Nat × Nat)) (x1 : List Nat) (x2 : Nat) : Tr (Unit ⊕ (List Nat)) :=
  .br (osome (iareReaches x0)) (.br (!(oget (iareReaches x0))) (.ok (.inl ())) (.br (osome (iareIns x1)) (.br (!(oget (iareIns x1))) (.ok (.inl ())) (.br (osome (iRouteReaches_l4 (.inl ((x1, (x2, (x0, (((List.length x0 : Nat) : Int), 0)))))))) (.br (isL (oget (iRouteReaches_l4 (.inl ((x1, (x2, (x0, (((List.length x0 : Nat) : Int), 0))))))))) (.ok (.inl ())) (.br (isL (unR (oget (iRouteReaches_l4 (.inl ((x1, (x2, (x0, (((List.length x0 : Nat) : Int), 0)))))))))) .bad (.ok (.inr (unR (unR (oget (iRouteReaches_l4 (.inl ((x1, (x2, (x0, (((List.length x0 : Nat) : Int), 0)))))))))))))) .bad)) .bad)) .bad

noncomputable def iRouteReaches (x0 : List (Nat × Nat)) (x1 : List Nat) (x2 : Nat) : Option (Unit ⊕ (List Nat)) := (iRouteReaches_t x0 x1 x2).sem

noncomputable def iRouteShared_l5_t (y0 : List (Nat × Nat)) (y1 : Nat) (y2 : List (List Nat)) (y3 : Int) (y4 : Int) (y5 : List (List Nat)) : Tr ((Int × List (List Nat)) ⊕ (Unit ⊕ (List (List Nat)))) :=
  .br (decide ((y4 : Int) < y3)) (.br (decide (0 ≤ (y4 : Int)) && decide ((y4 : Int) < ((List.length y2 : Nat) : Int))) (.br (osome (iRouteReaches y0 (List.getD y2 (Int.toNat y4) []) y1)) (.br (isL (oget (iRouteReaches y0 (List.getD y2 (Int.toNat y4) []) y1))) (.ok (.inr (.inl ()))) (.br (decide ((List.length y5 + List.length [unR (oget (iRouteReaches y0 (List.getD y2 (Int.toNat y4) []) y1))]) * 24 ≤ 140737488355328)) (.ok (.inl (IntKind.wrap .i64 (y4 + 1), y5 ++ [unR (oget (iRouteReaches y0 (List.getD y2 (Int.toNat y4) []) y1))]))) .bad)) .bad) .bad) (.ok (.inr (.inr y5)))

noncomputable def iRouteShared_l5 (y0 : List (Nat × Nat)) (y1 : Nat) (y2 : List (List Nat)) (y3 : Int) (y4 : Int) (y5 : List (List Nat)) : Option (Unit ⊕ (List (List Nat))) := runL (fun s : Int × List (List Nat) => (iRouteShared_l5_t y0 y1 y2 y3 s.1 s.2).sem) (y4, y5)

noncomputable def iRouteShared_t (x0 : List (Nat × Nat)) (x1 : List (List Nat)) (x2 : Nat) (x3 : Int) : Tr (Unit ⊕ (List (List Nat))) :=
  .br (osome (iareReaches x0)) (.br (!(oget (iareReaches x0))) (.ok (.inl ())) (.br (decide ((((List.length x1 : Nat) : Int) : Int) > 12)) (.ok (.inl ())) (.br (! (isLen x2)) (.ok (.inl ())) (.br (! (iwithin x3 1 8)) (.ok (.inl ())) (.br (osome (iRouteShared_l5 x0 x2 x1 (((List.length x1 : Nat) : Int)) 0 [])) (.br (isL (oget (iRouteShared_l5 x0 x2 x1 (((List.length x1 : Nat) : Int)) 0 []))) (.ok (.inl ())) (.ok (.inr (unR (oget (iRouteShared_l5 x0 x2 x1 (((List.length x1 : Nat) : Int)) 0 [])))))) .bad))))) .bad

noncomputable def iRouteShared (x0 : List (Nat × Nat)) (x1 : List (List Nat)) (x2 : Nat) (x3 : Int) : Option (Unit ⊕ (List (List Nat))) := (iRouteShared_t x0 x1 x2 x3).sem

noncomputable def sSameNumber_t (x0 : Nat) (x1 : Nat) : Tr (Bool) :=
  .ok (natEq x0 x1)

noncomputable def sSameNumber (x0 : Nat) (x1 : Nat) : Bool := (sSameNumber_t x0 x1).val

noncomputable def wb10List_l4_t (y0 : List Nat) (y1 : List Nat) (y2 : Int) (y3 : Int) : Tr (Int ⊕ (Unit ⊕ Unit)) :=
  .br (decide ((y3 : Int) < y2)) (.br (decide (0 ≤ (y3 : Int)) && decide ((y3 : Int) < ((List.length y0 : Nat) : Int))) (.br (decide (0 ≤ (y3 : Int)) && decide ((y3 : Int) < ((List.length y1 : Nat) : Int))) (.br (! (sSameNumber (List.getD y0 (Int.toNat y3) 0) (List.getD y1 (Int.toNat y3) 0))) (.ok (.inr (.inl ()))) (.ok (.inl (IntKind.wrap .i64 (y3 + 1))))) .bad) .bad) (.ok (.inr (.inr ())))

noncomputable def wb10List_l4 (y0 : List Nat) (y1 : List Nat) (y2 : Int) (y3 : Int) : Option (Unit ⊕ Unit) := runL (fun s : Int => (wb10List_l4_t y0 y1 y2 s).sem) y3

noncomputable def wb10List_t (x0 : List Nat) (x1 : List Nat) : Tr (Bool) :=
  .br ((((List.length x0 : Nat) : Int) : Int) != (((List.length x1 : Nat) : Int))) (.ok false) (.br (osome (wb10List_l4 x0 x1 (((List.length x0 : Nat) : Int)) 0)) (.br (isL (oget (wb10List_l4 x0 x1 (((List.length x0 : Nat) : Int)) 0))) (.ok false) (.ok true)) .bad)

noncomputable def wb10List (x0 : List Nat) (x1 : List Nat) : Option (Bool) := (wb10List_t x0 x1).sem

noncomputable def wFnReaches_l25_t (y0 : List Int) (y1 : Nat) (y2 : Int) (y3 : Int) (y4 : Int) (y6 : List (Nat × Nat)) (y7 : List Nat) (y8 : List Nat) (y9 : List Nat) (y10 : List Nat) (y11 : List Nat) (y5 : Int) : Tr (Int ⊕ (Unit ⊕ (List Int × Nat × Int × Int × (List (Nat × Nat)) × List Nat × List Nat × List Nat × List Nat))) :=
  .br (decide ((y5 : Int) < y4)) (.br (decide (0 ≤ (y5 : Int)) && decide ((y5 : Int) < ((List.length y11 : Nat) : Int))) (.br (fgt .f64 (wb10Gap (fup (List.getD y11 (Int.toNat y5) 0)) 4613937818241073152) 4576918229304087675) (.ok (.inr (.inl ()))) (.ok (.inl (IntKind.wrap .i64 (y5 + 1))))) .bad) (.ok (.inr (.inr (y0, y1, y2, y3, y6, y7, y8, y9, y10))))

noncomputable def wFnReaches_l25 (y0 : List Int) (y1 : Nat) (y2 : Int) (y3 : Int) (y4 : Int) (y5 : Int) (y6 : List (Nat × Nat)) (y7 : List Nat) (y8 : List Nat) (y9 : List Nat) (y10 : List Nat) (y11 : List Nat) : Option (Unit ⊕ (List Int × Nat × Int × Int × (List (Nat × Nat)) × List Nat × List Nat × List Nat × List Nat)) := runL (fun s : Int => (wFnReaches_l25_t y0 y1 y2 y3 y4 y6 y7 y8 y9 y10 y11 s).sem) y5

noncomputable def wFnReaches_l11_t (y0 : List Int) (y1 : Nat) (y2 : Int) (y4 : List (Nat × Nat)) (y5 : List Nat) (y6 : List Nat) (y3 : Int) (y7 : List Nat) (y8 : List Nat) : Tr ((Int × List Nat × List Nat) ⊕ (List Int × Nat × (List (Nat × Nat)) × List Nat × List Nat × List Nat × List Nat)) :=
  .br (decide ((y3 : Int) < y2)) (.br (decide (0 ≤ (y3 : Int)) && decide ((y3 : Int) < ((List.length y5 : Nat) : Int))) (.br (decide (0 ≤ (y3 : Int)) && decide ((y3 : Int) < ((List.length y6 : Nat) : Int))) (.br (decide ((List.length y7 + List.length [fadd .f32 (List.getD y5 (Int.toNat y3) 0) (List.getD y6 (Int.toNat y3) 0)]) * 4 ≤ 140737488355328)) (.br (decide ((List.length y8 + List.length [1077936128]) * 4 ≤ 140737488355328)) (.ok (.inl (IntKind.wrap .i64 (y3 + 1), y7 ++ [fadd .f32 (List.getD y5 (Int.toNat y3) 0) (List.getD y6 (Int.toNat y3) 0)], y8 ++ [1077936128]))) .bad) .bad) .bad) .bad) (.ok (.inr (y0, y1, y4, y5, y6, y7, y8)))

noncomputable def wFnReaches_l11 (y0 : List Int) (y1 : Nat) (y2 : Int) (y3 : Int) (y4 : List (Nat × Nat)) (y5 : List Nat) (y6 : List Nat) (y7 : List Nat) (y8 : List Nat) : Option (List Int × Nat × (List (Nat × Nat)) × List Nat × List Nat × List Nat × List Nat) := runL (fun s : Int × List Nat × List Nat => (wFnReaches_l11_t y0 y1 y2 y4 y5 y6 s.1 s.2.1 s.2.2).sem) (y3, y7, y8)

noncomputable def wFnReaches_l17_o1 (v1 : Nat × (Nat × (Nat × Bool))) (v3 : Nat × Bool) : Tr ((List Int × Nat × Int × Int × (List (Nat × Nat)) × List Nat × List Nat × List Nat × List Nat) ⊕ (Unit ⊕ (List Int × Nat × (List (Nat × Nat)) × List Nat × List Nat × List Nat))) :=
  .br (!v1.2.2.2) (.ok (.inr (.inl ()))) (.ok (.inr (.inl ())))

noncomputable def wFnReaches_l17_o2 (v5 : Unit ⊕ ((List Int) × (Nat × (Int × (Int × ((List (Nat × Nat)) × ((List Nat) × ((List Nat) × ((List Nat) × (List Nat)))))))))) : Tr ((List Int × Nat × Int × Int × (List (Nat × Nat)) × List Nat × List Nat × List Nat × List Nat) ⊕ (Unit ⊕ (List Int × Nat × (List (Nat × Nat)) × List Nat × List Nat × List Nat))) :=
  .br (isL v5) (.ok (.inr (.inl ()))) (.ok (.inl ((unR v5).1, ((unR v5).2).1, (((unR v5).2).2).1, IntKind.wrap .i64 ((((((unR v5).2).2).2).1) + 1), (((((unR v5).2).2).2).2).1, ((((((unR v5).2).2).2).2).2).1, (((((((unR v5).2).2).2).2).2).2).1, ((((((((unR v5).2).2).2).2).2).2).2).1, ((((((((unR v5).2).2).2).2).2).2).2).2)))

noncomputable def wFnReaches_l17_o3 (y0 : List Int) (y1 : Nat) (y2 : Int) (y3 : Int) (y4 : List (Nat × Nat)) (y5 : List Nat) (y6 : List Nat) (y7 : List Nat) (y8 : List Nat) (v1 : Nat × (Nat × (Nat × Bool))) (v2 : Unit ⊕ (List Nat)) (v4 : Nat × Bool) : Tr ((List Int × Nat × Int × Int × (List (Nat × Nat)) × List Nat × List Nat × List Nat × List Nat) ⊕ (Unit ⊕ (List Int × Nat × (List (Nat × Nat)) × List Nat × List Nat × List Nat))) :=
  .br (!v1.2.2.2) (.ok (.inr (.inl ()))) (.br (!v4.2) (.ok (.inr (.inl ()))) (.br (decide (0 ≤ (y3 : Int)) && decide ((y3 : Int) < ((List.length y4 : Nat) : Int))) (.br (! (iValidReach ((List.getD y4 (Int.toNat y3) (0, 0)).1) ((List.getD y4 (Int.toNat y3) (0, 0)).2))) (.ok (.inr (.inl ()))) (.br (fgt .f64 (wb10Gap (fadd .f64 (fadd .f64 (fup v1.1) (fup v1.2.1)) (fup v1.2.2.1)) 4607182418800017408) 4562254508917369340) (.ok (.inr (.inl ()))) (.br ((((List.length (unR v2) : Nat) : Int) : Int) != (((List.length y8 : Nat) : Int))) (.ok (.inr (.inl ()))) (.br (decide (0 ≤ (y3 : Int)) && decide ((y3 : Int) < ((List.length y4 : Nat) : Int))) (.br (fgt .f64 (wb10Gap (fup v4.1) (fmul .f64 4611686018427387904 (fup ((List.getD y4 (Int.toNat y3) (0, 0)).1)))) 4562254508917369340) (.ok (.inr (.inl ()))) (.br (osome (wFnReaches_l25 y0 y1 y2 y3 (((List.length (unR v2) : Nat) : Int)) 0 y4 y5 y6 y7 y8 (unR v2))) (wFnReaches_l17_o2 (oget (wFnReaches_l25 y0 y1 y2 y3 (((List.length (unR v2) : Nat) : Int)) 0 y4 y5 y6 y7 y8 (unR v2)))) .bad)) .bad)))) .bad))

noncomputable def wFnReaches_l17_o4 (y0 : List Int) (y1 : Nat) (y2 : Int) (y3 : Int) (y4 : List (Nat × Nat)) (y5 : List Nat) (y6 : List Nat) (y7 : List Nat) (y8 : List Nat) (v1 : Nat × (Nat × (Nat × Bool))) (v2 : Unit ⊕ (List Nat)) : Tr ((List Int × Nat × Int × Int × (List (Nat × Nat)) × List Nat × List Nat × List Nat × List Nat) ⊕ (Unit ⊕ (List Int × Nat × (List (Nat × Nat)) × List Nat × List Nat × List Nat))) :=
  .br (isL v2) (.br (decide (0 ≤ (y3 : Int)) && decide ((y3 : Int) < ((List.length y4 : Nat) : Int))) (.br (osome (iHeldInReach ((List.getD y4 (Int.toNat y3) (0, 0)).1) ((List.getD y4 (Int.toNat y3) (0, 0)).2) 1073741824 1073741824)) (wFnReaches_l17_o1 v1 (oget (iHeldInReach ((List.getD y4 (Int.toNat y3) (0, 0)).1) ((List.getD y4 (Int.toNat y3) (0, 0)).2) 1073741824 1073741824))) .bad) .bad) (.br (decide (0 ≤ (y3 : Int)) && decide ((y3 : Int) < ((List.length y4 : Nat) : Int))) (.br (osome (iHeldInReach ((List.getD y4 (Int.toNat y3) (0, 0)).1) ((List.getD y4 (Int.toNat y3) (0, 0)).2) 1073741824 1073741824)) (wFnReaches_l17_o3 y0 y1 y2 y3 y4 y5 y6 y7 y8 v1 v2 (oget (iHeldInReach ((List.getD y4 (Int.toNat y3) (0, 0)).1) ((List.getD y4 (Int.toNat y3) (0, 0)).2) 1073741824 1073741824))) .bad) .bad)

noncomputable def wFnReaches_l17_o5 (y0 : List Int) (y1 : Nat) (y2 : Int) (y3 : Int) (y4 : List (Nat × Nat)) (y5 : List Nat) (y6 : List Nat) (y7 : List Nat) (y8 : List Nat) (v1 : Nat × (Nat × (Nat × Bool))) : Tr ((List Int × Nat × Int × Int × (List (Nat × Nat)) × List Nat × List Nat × List Nat × List Nat) ⊕ (Unit ⊕ (List Int × Nat × (List (Nat × Nat)) × List Nat × List Nat × List Nat))) :=
  .br (decide (0 ≤ (y3 : Int)) && decide ((y3 : Int) < ((List.length y4 : Nat) : Int))) (.br (osome (iRouteReach ((List.getD y4 (Int.toNat y3) (0, 0)).1) ((List.getD y4 (Int.toNat y3) (0, 0)).2) y8 y1 1077936128)) (wFnReaches_l17_o4 y0 y1 y2 y3 y4 y5 y6 y7 y8 v1 (oget (iRouteReach ((List.getD y4 (Int.toNat y3) (0, 0)).1) ((List.getD y4 (Int.toNat y3) (0, 0)).2) y8 y1 1077936128))) .bad) .bad

noncomputable def wFnReaches_l17_t  (y0 : List Int) (y1 : Nat) (y2 : Int) (y3 : Int) (y4 : List (Nat × Nat)) (y5 : List Nat) (y6 : List Nat) (y7 : List Nat) (y8 : List Nat) : Tr ((List Int × Nat × Int × Int × (List (Nat × Nat)) × List Nat × List Nat × List Nat × List Nat) ⊕ (Unit ⊕ (List Int × Nat × (List (Nat × Nat)) × List Nat × List Nat × List Nat))) :=
  .br (decide ((y3 : Int) < y2)) (.br (decide (0 ≤ (y3 : Int)) && decide ((y3 : Int) < ((List.length y4 : Nat) : Int))) (.br (osome (iReachShares ((List.getD y4 (Int.toNat y3) (0, 0)).1) ((List.getD y4 (Int.toNat y3) (0, 0)).2) y1)) (wFnReaches_l17_o5 y0 y1 y2 y3 y4 y5 y6 y7 y8 (oget (iReachShares ((List.getD y4 (Int.toNat y3) (0, 0)).1) ((List.getD y4 (Int.toNat y3) (0, 0)).2) y1))) .bad) .bad) (.ok (.inr (.inr (y0, y1, y4, y5, y6, y7))))

noncomputable def wFnReaches_l17 (y0 : List Int) (y1 : Nat) (y2 : Int) (y3 : Int) (y4 : List (Nat × Nat)) (y5 : List Nat) (y6 : List Nat) (y7 : List Nat) (y8 : List Nat) : Option (Unit ⊕ (List Int × Nat × (List (Nat × Nat)) × List Nat × List Nat × List Nat)) := runL (fun s : List Int × Nat × Int × Int × (List (Nat × Nat)) × List Nat × List Nat × List Nat × List Nat => (wFnReaches_l17_t  s.1 s.2.1 s.2.2.1 s.2.2.2.1 s.2.2.2.2.1 s.2.2.2.2.2.1 s.2.2.2.2.2.2.1 s.2.2.2.2.2.2.2.1 s.2.2.2.2.2.2.2.2).sem) (y0, y1, y2, y3, y4, y5, y6, y7, y8)

noncomputable def wFnReaches_l39_t0 (y0 : Nat) (y1 : Int) (y2 : Int) (y3 : List (Nat × Nat)) (y4 : List Nat) (y5 : List Nat) (y6 : List Nat) (y7 : List Nat) : Tr (((Nat × Int × Int × (List (Nat × Nat)) × List Nat × List Nat × List Nat × List Nat) ⊕ (Nat × Int × Int × (List (Nat × Nat)) × List Nat × List Nat × List Nat × List Nat × List Nat)) ⊕ (Unit ⊕ (List Nat × List Nat × List Nat × List Nat) ⊕ (List Nat × List Nat × List Nat × List Nat × List Nat))) :=
  .br (decide ((y2 : Int) < y1)) (.br (decide (0 ≤ (y2 : Int)) && decide ((y2 : Int) < ((List.length y3 : Nat) : Int))) (.br (decide (0 ≤ (0 : Int)) && decide ((0 : Int) < ((List.length y4 : Nat) : Int))) (.br (osome (iRouteReach ((List.getD y3 (Int.toNat y2) (0, 0)).1) ((List.getD y3 (Int.toNat y2) (0, 0)).2) y4 y0 (List.getD y4 (Int.toNat 0) 0))) (.br (isL (oget (iRouteReach ((List.getD y3 (Int.toNat y2) (0, 0)).1) ((List.getD y3 (Int.toNat y2) (0, 0)).2) y4 y0 (List.getD y4 (Int.toNat 0) 0)))) (.ok (.inr (.inl ()))) (.br ((((List.length (unR (oget (iRouteReach ((List.getD y3 (Int.toNat y2) (0, 0)).1) ((List.getD y3 (Int.toNat y2) (0, 0)).2) y4 y0 (List.getD y4 (Int.toNat 0) 0)))) : Nat) : Int) : Int) != (((List.length y4 : Nat) : Int))) (.ok (.inr (.inl ()))) (.ok (.inl (.inr (y0, y1, IntKind.wrap .i64 (y2 + 1), y3, y4, y5, y6, y7, unR (oget (iRouteReach ((List.getD y3 (Int.toNat y2) (0, 0)).1) ((List.getD y3 (Int.toNat y2) (0, 0)).2) y4 y0 (List.getD y4 (Int.toNat 0) 0))))))))) .bad) .bad) .bad) (.ok (.inr (.inr (.inl (y4, y5, y6, y7)))))

noncomputable def wFnReaches_l39_t1 (y0 : Nat) (y1 : Int) (y2 : Int) (y3 : List (Nat × Nat)) (y4 : List Nat) (y5 : List Nat) (y6 : List Nat) (y7 : List Nat) (y8 : List Nat) : Tr (((Nat × Int × Int × (List (Nat × Nat)) × List Nat × List Nat × List Nat × List Nat) ⊕ (Nat × Int × Int × (List (Nat × Nat)) × List Nat × List Nat × List Nat × List Nat × List Nat)) ⊕ (Unit ⊕ (List Nat × List Nat × List Nat × List Nat) ⊕ (List Nat × List Nat × List Nat × List Nat × List Nat))) :=
  .br (decide ((y2 : Int) < y1)) (.br (decide (0 ≤ (y2 : Int)) && decide ((y2 : Int) < ((List.length y3 : Nat) : Int))) (.br (decide (0 ≤ (0 : Int)) && decide ((0 : Int) < ((List.length y8 : Nat) : Int))) (.br (osome (iRouteReach ((List.getD y3 (Int.toNat y2) (0, 0)).1) ((List.getD y3 (Int.toNat y2) (0, 0)).2) y8 y0 (List.getD y8 (Int.toNat 0) 0))) (.br (isL (oget (iRouteReach ((List.getD y3 (Int.toNat y2) (0, 0)).1) ((List.getD y3 (Int.toNat y2) (0, 0)).2) y8 y0 (List.getD y8 (Int.toNat 0) 0)))) (.ok (.inr (.inl ()))) (.br ((((List.length (unR (oget (iRouteReach ((List.getD y3 (Int.toNat y2) (0, 0)).1) ((List.getD y3 (Int.toNat y2) (0, 0)).2) y8 y0 (List.getD y8 (Int.toNat 0) 0)))) : Nat) : Int) : Int) != (((List.length y4 : Nat) : Int))) (.ok (.inr (.inl ()))) (.ok (.inl (.inr (y0, y1, IntKind.wrap .i64 (y2 + 1), y3, y4, y5, y6, y7, unR (oget (iRouteReach ((List.getD y3 (Int.toNat y2) (0, 0)).1) ((List.getD y3 (Int.toNat y2) (0, 0)).2) y8 y0 (List.getD y8 (Int.toNat 0) 0))))))))) .bad) .bad) .bad) (.ok (.inr (.inr (.inr (y4, y5, y6, y7, y8)))))

noncomputable def wFnReaches_l39_s : ((Nat × Int × Int × (List (Nat × Nat)) × List Nat × List Nat × List Nat × List Nat) ⊕ (Nat × Int × Int × (List (Nat × Nat)) × List Nat × List Nat × List Nat × List Nat × List Nat)) → Option (((Nat × Int × Int × (List (Nat × Nat)) × List Nat × List Nat × List Nat × List Nat) ⊕ (Nat × Int × Int × (List (Nat × Nat)) × List Nat × List Nat × List Nat × List Nat × List Nat)) ⊕ (Unit ⊕ (List Nat × List Nat × List Nat × List Nat) ⊕ (List Nat × List Nat × List Nat × List Nat × List Nat)))
  | (.inl y) => (wFnReaches_l39_t0 y.1 y.2.1 y.2.2.1 y.2.2.2.1 y.2.2.2.2.1 y.2.2.2.2.2.1 y.2.2.2.2.2.2.1 y.2.2.2.2.2.2.2).sem
  | (.inr y) => (wFnReaches_l39_t1 y.1 y.2.1 y.2.2.1 y.2.2.2.1 y.2.2.2.2.1 y.2.2.2.2.2.1 y.2.2.2.2.2.2.1 y.2.2.2.2.2.2.2.1 y.2.2.2.2.2.2.2.2).sem

noncomputable def wFnReaches_l39 (x : (Nat × Int × Int × (List (Nat × Nat)) × List Nat × List Nat × List Nat × List Nat) ⊕ (Nat × Int × Int × (List (Nat × Nat)) × List Nat × List Nat × List Nat × List Nat × List Nat)) : Option (Unit ⊕ (List Nat × List Nat × List Nat × List Nat) ⊕ (List Nat × List Nat × List Nat × List Nat × List Nat)) := runL wFnReaches_l39_s x

noncomputable def wFnReaches_l48_t0 (y0 : Nat) (y1 : Int) (y2 : Int) (y3 : List Nat) (y4 : List Nat) (y5 : List Nat) (y6 : List Nat) : Tr (((Nat × Int × Int × List Nat × List Nat × List Nat × List Nat) ⊕ (Nat × Int × Int × List Nat × List Nat × List Nat × List Nat × List Nat)) ⊕ ((Nat × List Nat × List Nat × List Nat × List Nat) ⊕ (Nat × List Nat × List Nat × List Nat × List Nat × List Nat))) :=
  .br (decide ((y2 : Int) < y1)) (.br (decide (0 ≤ (y2 : Int)) && decide ((y2 : Int) < ((List.length y4 : Nat) : Int))) (.br (decide (0 ≤ (y2 : Int)) && decide ((y2 : Int) < ((List.length y5 : Nat) : Int))) (.ok (.inl (.inl (fmax .f64 (fmax .f64 y0 (wb10Gap (fup (List.getD y4 (Int.toNat y2) 0)) 0)) (wb10Gap (fup (List.getD y5 (Int.toNat y2) 0)) 0), y1, IntKind.wrap .i64 (y2 + 1), y3, y4, y5, y6)))) .bad) .bad) (.ok (.inr (.inl (y0, y3, y4, y5, y6))))

noncomputable def wFnReaches_l48_t1 (y0 : Nat) (y1 : Int) (y2 : Int) (y3 : List Nat) (y4 : List Nat) (y5 : List Nat) (y6 : List Nat) (y7 : List Nat) : Tr (((Nat × Int × Int × List Nat × List Nat × List Nat × List Nat) ⊕ (Nat × Int × Int × List Nat × List Nat × List Nat × List Nat × List Nat)) ⊕ ((Nat × List Nat × List Nat × List Nat × List Nat) ⊕ (Nat × List Nat × List Nat × List Nat × List Nat × List Nat))) :=
  .br (decide ((y2 : Int) < y1)) (.br (decide (0 ≤ (y2 : Int)) && decide ((y2 : Int) < ((List.length y4 : Nat) : Int))) (.br (decide (0 ≤ (y2 : Int)) && decide ((y2 : Int) < ((List.length y5 : Nat) : Int))) (.ok (.inl (.inr (fmax .f64 (fmax .f64 y0 (wb10Gap (fup (List.getD y4 (Int.toNat y2) 0)) 0)) (wb10Gap (fup (List.getD y5 (Int.toNat y2) 0)) 0), y1, IntKind.wrap .i64 (y2 + 1), y3, y4, y5, y6, y7)))) .bad) .bad) (.ok (.inr (.inr (y0, y3, y4, y5, y6, y7))))

noncomputable def wFnReaches_l48_s : ((Nat × Int × Int × List Nat × List Nat × List Nat × List Nat) ⊕ (Nat × Int × Int × List Nat × List Nat × List Nat × List Nat × List Nat)) → Option (((Nat × Int × Int × List Nat × List Nat × List Nat × List Nat) ⊕ (Nat × Int × Int × List Nat × List Nat × List Nat × List Nat × List Nat)) ⊕ ((Nat × List Nat × List Nat × List Nat × List Nat) ⊕ (Nat × List Nat × List Nat × List Nat × List Nat × List Nat)))
  | (.inl y) => (wFnReaches_l48_t0 y.1 y.2.1 y.2.2.1 y.2.2.2.1 y.2.2.2.2.1 y.2.2.2.2.2.1 y.2.2.2.2.2.2).sem
  | (.inr y) => (wFnReaches_l48_t1 y.1 y.2.1 y.2.2.1 y.2.2.2.1 y.2.2.2.2.1 y.2.2.2.2.2.1 y.2.2.2.2.2.2.1 y.2.2.2.2.2.2.2).sem

noncomputable def wFnReaches_l48 (x : (Nat × Int × Int × List Nat × List Nat × List Nat × List Nat) ⊕ (Nat × Int × Int × List Nat × List Nat × List Nat × List Nat × List Nat)) : Option ((Nat × List Nat × List Nat × List Nat × List Nat) ⊕ (Nat × List Nat × List Nat × List Nat × List Nat × List Nat)) := runL wFnReaches_l48_s x

noncomputable def wFnReaches_l53_t0 (y0 : Nat) (y1 : Int) (y2 : Int) (y3 : List Nat) (y4 : List Nat) (y5 : List Nat) (y6 : List Nat) : Tr (((Nat × Int × Int × List Nat × List Nat × List Nat × List Nat) ⊕ (Nat × Int × Int × List Nat × List Nat × List Nat × List Nat)) ⊕ (Unit ⊕ (List Nat × List Nat) ⊕ (List Nat × List Nat))) :=
  .br (decide ((y2 : Int) < y1)) (.br (decide (0 ≤ (y2 : Int)) && decide ((y2 : Int) < ((List.length y5 : Nat) : Int))) (.br (decide (0 ≤ (y2 : Int)) && decide ((y2 : Int) < ((List.length y3 : Nat) : Int))) (.br (decide (0 ≤ (y2 : Int)) && decide ((y2 : Int) < ((List.length y4 : Nat) : Int))) (.br (fgt .f64 (wb10Gap (fup (List.getD y5 (Int.toNat y2) 0)) (fadd .f64 (fup (List.getD y3 (Int.toNat y2) 0)) (fup (List.getD y4 (Int.toNat y2) 0)))) (fmul .f64 4576918229304087675 y0)) (.ok (.inr (.inl ()))) (.ok (.inl (.inl (y0, y1, IntKind.wrap .i64 (y2 + 1), y3, y4, y5, y6))))) .bad) .bad) .bad) (.ok (.inr (.inr (.inl (y3, y6)))))

noncomputable def wFnReaches_l53_t1 (y0 : Nat) (y1 : Int) (y2 : Int) (y3 : List Nat) (y4 : List Nat) (y5 : List Nat) (y6 : List Nat) : Tr (((Nat × Int × Int × List Nat × List Nat × List Nat × List Nat) ⊕ (Nat × Int × Int × List Nat × List Nat × List Nat × List Nat)) ⊕ (Unit ⊕ (List Nat × List Nat) ⊕ (List Nat × List Nat))) :=
  .br (decide ((y2 : Int) < y1)) (.br (decide (0 ≤ (y2 : Int)) && decide ((y2 : Int) < ((List.length y5 : Nat) : Int))) (.br (decide (0 ≤ (y2 : Int)) && decide ((y2 : Int) < ((List.length y3 : Nat) : Int))) (.br (decide (0 ≤ (y2 : Int)) && decide ((y2 : Int) < ((List.length y4 : Nat) : Int))) (.br (fgt .f64 (wb10Gap (fup (List.getD y5 (Int.toNat y2) 0)) (fadd .f64 (fup (List.getD y3 (Int.toNat y2) 0)) (fup (List.getD y4 (Int.toNat y2) 0)))) (fmul .f64 4576918229304087675 y0)) (.ok (.inr (.inl ()))) (.ok (.inl (.inr (y0, y1, IntKind.wrap .i64 (y2 + 1), y3, y4, y5, y6))))) .bad) .bad) .bad) (.ok (.inr (.inr (.inr (y3, y6)))))

noncomputable def wFnReaches_l53_s : ((Nat × Int × Int × List Nat × List Nat × List Nat × List Nat) ⊕ (Nat × Int × Int × List Nat × List Nat × List Nat × List Nat)) → Option (((Nat × Int × Int × List Nat × List Nat × List Nat × List Nat) ⊕ (Nat × Int × Int × List Nat × List Nat × List Nat × List Nat)) ⊕ (Unit ⊕ (List Nat × List Nat) ⊕ (List Nat × List Nat)))
  | (.inl y) => (wFnReaches_l53_t0 y.1 y.2.1 y.2.2.1 y.2.2.2.1 y.2.2.2.2.1 y.2.2.2.2.2.1 y.2.2.2.2.2.2).sem
  | (.inr y) => (wFnReaches_l53_t1 y.1 y.2.1 y.2.2.1 y.2.2.2.1 y.2.2.2.2.1 y.2.2.2.2.2.1 y.2.2.2.2.2.2).sem

noncomputable def wFnReaches_l53 (x : (Nat × Int × Int × List Nat × List Nat × List Nat × List Nat) ⊕ (Nat × Int × Int × List Nat × List Nat × List Nat × List Nat)) : Option (Unit ⊕ (List Nat × List Nat) ⊕ (List Nat × List Nat)) := runL wFnReaches_l53_s x

noncomputable def wFnReaches_o1 (v12 : Unit ⊕ (List (List Nat))) : Tr (Bool) :=
  .br (isL v12) (.ok false) (.ok false)

noncomputable def wFnReaches_o2 (v7 : Unit ⊕ ((List Int) × (Nat × ((List (Nat × Nat)) × ((List Nat) × ((List Nat) × (List Nat))))))) (v11 : Int) : Tr (Bool) :=
  .br (osome (iRouteShared ((((unR v7).2).2).1) [((((unR v7).2).2).2).1, (((((unR v7).2).2).2).2).1, (((((unR v7).2).2).2).2).2] (((unR v7).2).1) (IntKind.wrap .i64 (1 + v11)))) (wFnReaches_o1 (oget (iRouteShared ((((unR v7).2).2).1) [((((unR v7).2).2).2).1, (((((unR v7).2).2).2).2).1, (((((unR v7).2).2).2).2).2] (((unR v7).2).1) (IntKind.wrap .i64 (1 + v11))))) .bad

noncomputable def wFnReaches_o3 (v14 : Unit ⊕ (List (List Nat))) : Tr (Bool) :=
  .br (isL v14) (.ok false) (.ok false)

noncomputable def wFnReaches_o4 (v7 : Unit ⊕ ((List Int) × (Nat × ((List (Nat × Nat)) × ((List Nat) × ((List Nat) × (List Nat))))))) (v13 : Int) : Tr (Bool) :=
  .br (osome (iRouteShared ((((unR v7).2).2).1) [((((unR v7).2).2).2).1, (((((unR v7).2).2).2).2).1, (((((unR v7).2).2).2).2).2] (((unR v7).2).1) (IntKind.wrap .i64 (1 + v13)))) (wFnReaches_o3 (oget (iRouteShared ((((unR v7).2).2).1) [((((unR v7).2).2).2).1, (((((unR v7).2).2).2).2).1, (((((unR v7).2).2).2).2).2] (((unR v7).2).1) (IntKind.wrap .i64 (1 + v13))))) .bad

noncomputable def wFnReaches_o5 (v7 : Unit ⊕ ((List Int) × (Nat × ((List (Nat × Nat)) × ((List Nat) × ((List Nat) × (List Nat))))))) (v10 : Unit ⊕ (List Nat)) : Tr (Bool) :=
  .br (isL v10) (.br (osome (wb10At ((unR v7).1) 2 8)) (wFnReaches_o2 v7 (oget (wb10At ((unR v7).1) 2 8))) .bad) (.br (osome (wb10At ((unR v7).1) 2 8)) (wFnReaches_o4 v7 (oget (wb10At ((unR v7).1) 2 8))) .bad)

noncomputable def wFnReaches_o6 (v17 : Unit ⊕ (List (List Nat))) : Tr (Bool) :=
  .br (isL v17) (.ok false) (.ok false)

noncomputable def wFnReaches_o7 (v7 : Unit ⊕ ((List Int) × (Nat × ((List (Nat × Nat)) × ((List Nat) × ((List Nat) × (List Nat))))))) (v16 : Int) : Tr (Bool) :=
  .br (osome (iRouteShared ((((unR v7).2).2).1) [((((unR v7).2).2).2).1, (((((unR v7).2).2).2).2).1, (((((unR v7).2).2).2).2).2] (((unR v7).2).1) (IntKind.wrap .i64 (1 + v16)))) (wFnReaches_o6 (oget (iRouteShared ((((unR v7).2).2).1) [((((unR v7).2).2).2).1, (((((unR v7).2).2).2).2).1, (((((unR v7).2).2).2).2).2] (((unR v7).2).1) (IntKind.wrap .i64 (1 + v16))))) .bad

noncomputable def wFnReaches_o8 (v19 : Unit ⊕ (List (List Nat))) : Tr (Bool) :=
  .br (isL v19) (.ok false) (.ok false)

noncomputable def wFnReaches_o9 (v7 : Unit ⊕ ((List Int) × (Nat × ((List (Nat × Nat)) × ((List Nat) × ((List Nat) × (List Nat))))))) (v18 : Int) : Tr (Bool) :=
  .br (osome (iRouteShared ((((unR v7).2).2).1) [((((unR v7).2).2).2).1, (((((unR v7).2).2).2).2).1, (((((unR v7).2).2).2).2).2] (((unR v7).2).1) (IntKind.wrap .i64 (1 + v18)))) (wFnReaches_o8 (oget (iRouteShared ((((unR v7).2).2).1) [((((unR v7).2).2).2).1, (((((unR v7).2).2).2).2).1, (((((unR v7).2).2).2).2).2] (((unR v7).2).1) (IntKind.wrap .i64 (1 + v18))))) .bad

noncomputable def wFnReaches_o10 (v7 : Unit ⊕ ((List Int) × (Nat × ((List (Nat × Nat)) × ((List Nat) × ((List Nat) × (List Nat))))))) (v15 : Unit ⊕ (List Nat)) : Tr (Bool) :=
  .br (isL v15) (.br (osome (wb10At ((unR v7).1) 2 8)) (wFnReaches_o7 v7 (oget (wb10At ((unR v7).1) 2 8))) .bad) (.br (osome (wb10At ((unR v7).1) 2 8)) (wFnReaches_o9 v7 (oget (wb10At ((unR v7).1) 2 8))) .bad)

noncomputable def wFnReaches_o11 (v7 : Unit ⊕ ((List Int) × (Nat × ((List (Nat × Nat)) × ((List Nat) × ((List Nat) × (List Nat))))))) (v9 : Unit ⊕ (List Nat)) : Tr (Bool) :=
  .br (isL v9) (.br (osome (iRouteReaches ((((unR v7).2).2).1) ((((((unR v7).2).2).2).2).2) (((unR v7).2).1))) (wFnReaches_o5 v7 (oget (iRouteReaches ((((unR v7).2).2).1) ((((((unR v7).2).2).2).2).2) (((unR v7).2).1)))) .bad) (.br (osome (iRouteReaches ((((unR v7).2).2).1) ((((((unR v7).2).2).2).2).2) (((unR v7).2).1))) (wFnReaches_o10 v7 (oget (iRouteReaches ((((unR v7).2).2).1) ((((((unR v7).2).2).2).2).2) (((unR v7).2).1)))) .bad)

noncomputable def wFnReaches_o12 (v23 : Unit ⊕ (List (List Nat))) : Tr (Bool) :=
  .br (isL v23) (.ok false) (.ok false)

noncomputable def wFnReaches_o13 (v7 : Unit ⊕ ((List Int) × (Nat × ((List (Nat × Nat)) × ((List Nat) × ((List Nat) × (List Nat))))))) (v22 : Int) : Tr (Bool) :=
  .br (osome (iRouteShared ((((unR v7).2).2).1) [((((unR v7).2).2).2).1, (((((unR v7).2).2).2).2).1, (((((unR v7).2).2).2).2).2] (((unR v7).2).1) (IntKind.wrap .i64 (1 + v22)))) (wFnReaches_o12 (oget (iRouteShared ((((unR v7).2).2).1) [((((unR v7).2).2).2).1, (((((unR v7).2).2).2).2).1, (((((unR v7).2).2).2).2).2] (((unR v7).2).1) (IntKind.wrap .i64 (1 + v22))))) .bad

noncomputable def wFnReaches_o14 (v25 : Unit ⊕ (List (List Nat))) : Tr (Bool) :=
  .br (isL v25) (.ok false) (.ok false)

noncomputable def wFnReaches_o15 (v7 : Unit ⊕ ((List Int) × (Nat × ((List (Nat × Nat)) × ((List Nat) × ((List Nat) × (List Nat))))))) (v24 : Int) : Tr (Bool) :=
  .br (osome (iRouteShared ((((unR v7).2).2).1) [((((unR v7).2).2).2).1, (((((unR v7).2).2).2).2).1, (((((unR v7).2).2).2).2).2] (((unR v7).2).1) (IntKind.wrap .i64 (1 + v24)))) (wFnReaches_o14 (oget (iRouteShared ((((unR v7).2).2).1) [((((unR v7).2).2).2).1, (((((unR v7).2).2).2).2).1, (((((unR v7).2).2).2).2).2] (((unR v7).2).1) (IntKind.wrap .i64 (1 + v24))))) .bad

noncomputable def wFnReaches_o16 (v7 : Unit ⊕ ((List Int) × (Nat × ((List (Nat × Nat)) × ((List Nat) × ((List Nat) × (List Nat))))))) (v21 : Unit ⊕ (List Nat)) : Tr (Bool) :=
  .br (isL v21) (.br (osome (wb10At ((unR v7).1) 2 8)) (wFnReaches_o13 v7 (oget (wb10At ((unR v7).1) 2 8))) .bad) (.br (osome (wb10At ((unR v7).1) 2 8)) (wFnReaches_o15 v7 (oget (wb10At ((unR v7).1) 2 8))) .bad)

noncomputable def wFnReaches_o17 (v28 : Unit ⊕ (List (List Nat))) : Tr (Bool) :=
  .br (isL v28) (.ok false) (.ok false)

noncomputable def wFnReaches_o18 (v7 : Unit ⊕ ((List Int) × (Nat × ((List (Nat × Nat)) × ((List Nat) × ((List Nat) × (List Nat))))))) (v27 : Int) : Tr (Bool) :=
  .br (osome (iRouteShared ((((unR v7).2).2).1) [((((unR v7).2).2).2).1, (((((unR v7).2).2).2).2).1, (((((unR v7).2).2).2).2).2] (((unR v7).2).1) (IntKind.wrap .i64 (1 + v27)))) (wFnReaches_o17 (oget (iRouteShared ((((unR v7).2).2).1) [((((unR v7).2).2).2).1, (((((unR v7).2).2).2).2).1, (((((unR v7).2).2).2).2).2] (((unR v7).2).1) (IntKind.wrap .i64 (1 + v27))))) .bad

noncomputable def wFnReaches_o19 (v37 : Bool) : Tr (Bool) :=
  .ok v37

noncomputable def wFnReaches_o20 (v38 : Bool) : Tr (Bool) :=
  .ok v38

noncomputable def wFnReaches_o21 (v36 : Unit ⊕ (((List Nat) × (List Nat)) ⊕ ((List Nat) × (List Nat)))) : Tr (Bool) :=
  .br (isL v36) (.ok false) (.br (isL (unR v36)) (.br (osome (wb10List ((unL (unR v36)).2) ((unL (unR v36)).1))) (wFnReaches_o19 (oget (wb10List ((unL (unR v36)).2) ((unL (unR v36)).1)))) .bad) (.br (osome (wb10List ((unR (unR v36)).2) ((unR (unR v36)).1))) (wFnReaches_o20 (oget (wb10List ((unR (unR v36)).2) ((unR (unR v36)).1)))) .bad))

noncomputable def wFnReaches_o22 (v40 : Bool) : Tr (Bool) :=
  .ok v40

noncomputable def wFnReaches_o23 (v41 : Bool) : Tr (Bool) :=
  .ok v41

noncomputable def wFnReaches_o24 (v39 : Unit ⊕ (((List Nat) × (List Nat)) ⊕ ((List Nat) × (List Nat)))) : Tr (Bool) :=
  .br (isL v39) (.ok false) (.br (isL (unR v39)) (.br (osome (wb10List ((unL (unR v39)).2) ((unL (unR v39)).1))) (wFnReaches_o22 (oget (wb10List ((unL (unR v39)).2) ((unL (unR v39)).1)))) .bad) (.br (osome (wb10List ((unR (unR v39)).2) ((unR (unR v39)).1))) (wFnReaches_o23 (oget (wb10List ((unR (unR v39)).2) ((unR (unR v39)).1)))) .bad))

noncomputable def wFnReaches_o25 (v35 : (Nat × ((List Nat) × ((List Nat) × ((List Nat) × (List Nat))))) ⊕ (Nat × ((List Nat) × ((List Nat) × ((List Nat) × ((List Nat) × (List Nat))))))) : Tr (Bool) :=
  .br (isL v35) (.br (osome (wFnReaches_l53 (.inl (((unL v35).1, (((List.length (((unL v35).2).1) : Nat) : Int), (0, ((((unL v35).2).2).1, (((((unL v35).2).2).2).1, (((((unL v35).2).2).2).2, ((unL v35).2).1)))))))))) (wFnReaches_o21 (oget (wFnReaches_l53 (.inl (((unL v35).1, (((List.length (((unL v35).2).1) : Nat) : Int), (0, ((((unL v35).2).2).1, (((((unL v35).2).2).2).1, (((((unL v35).2).2).2).2, ((unL v35).2).1))))))))))) .bad) (.br (osome (wFnReaches_l53 (.inr (((unR v35).1, (((List.length (((unR v35).2).1) : Nat) : Int), (0, ((((unR v35).2).2).1, (((((unR v35).2).2).2).1, ((((((unR v35).2).2).2).2).1, (((((unR v35).2).2).2).2).2)))))))))) (wFnReaches_o24 (oget (wFnReaches_l53 (.inr (((unR v35).1, (((List.length (((unR v35).2).1) : Nat) : Int), (0, ((((unR v35).2).2).1, (((((unR v35).2).2).2).1, ((((((unR v35).2).2).2).2).1, (((((unR v35).2).2).2).2).2))))))))))) .bad)

noncomputable def wFnReaches_o26 (v44 : Bool) : Tr (Bool) :=
  .ok v44

noncomputable def wFnReaches_o27 (v45 : Bool) : Tr (Bool) :=
  .ok v45

noncomputable def wFnReaches_o28 (v43 : Unit ⊕ (((List Nat) × (List Nat)) ⊕ ((List Nat) × (List Nat)))) : Tr (Bool) :=
  .br (isL v43) (.ok false) (.br (isL (unR v43)) (.br (osome (wb10List ((unL (unR v43)).2) ((unL (unR v43)).1))) (wFnReaches_o26 (oget (wb10List ((unL (unR v43)).2) ((unL (unR v43)).1)))) .bad) (.br (osome (wb10List ((unR (unR v43)).2) ((unR (unR v43)).1))) (wFnReaches_o27 (oget (wb10List ((unR (unR v43)).2) ((unR (unR v43)).1)))) .bad))

noncomputable def wFnReaches_o29 (v47 : Bool) : Tr (Bool) :=
  .ok v47

noncomputable def wFnReaches_o30 (v48 : Bool) : Tr (Bool) :=
  .ok v48

noncomputable def wFnReaches_o31 (v46 : Unit ⊕ (((List Nat) × (List Nat)) ⊕ ((List Nat) × (List Nat)))) : Tr (Bool) :=
  .br (isL v46) (.ok false) (.br (isL (unR v46)) (.br (osome (wb10List ((unL (unR v46)).2) ((unL (unR v46)).1))) (wFnReaches_o29 (oget (wb10List ((unL (unR v46)).2) ((unL (unR v46)).1)))) .bad) (.br (osome (wb10List ((unR (unR v46)).2) ((unR (unR v46)).1))) (wFnReaches_o30 (oget (wb10List ((unR (unR v46)).2) ((unR (unR v46)).1)))) .bad))

noncomputable def wFnReaches_o32 (v42 : (Nat × ((List Nat) × ((List Nat) × ((List Nat) × (List Nat))))) ⊕ (Nat × ((List Nat) × ((List Nat) × ((List Nat) × ((List Nat) × (List Nat))))))) : Tr (Bool) :=
  .br (isL v42) (.br (osome (wFnReaches_l53 (.inl (((unL v42).1, (((List.length (((unL v42).2).1) : Nat) : Int), (0, ((((unL v42).2).2).1, (((((unL v42).2).2).2).1, (((((unL v42).2).2).2).2, ((unL v42).2).1)))))))))) (wFnReaches_o28 (oget (wFnReaches_l53 (.inl (((unL v42).1, (((List.length (((unL v42).2).1) : Nat) : Int), (0, ((((unL v42).2).2).1, (((((unL v42).2).2).2).1, (((((unL v42).2).2).2).2, ((unL v42).2).1))))))))))) .bad) (.br (osome (wFnReaches_l53 (.inr (((unR v42).1, (((List.length (((unR v42).2).1) : Nat) : Int), (0, ((((unR v42).2).2).1, (((((unR v42).2).2).2).1, ((((((unR v42).2).2).2).2).1, (((((unR v42).2).2).2).2).2)))))))))) (wFnReaches_o31 (oget (wFnReaches_l53 (.inr (((unR v42).1, (((List.length (((unR v42).2).1) : Nat) : Int), (0, ((((unR v42).2).2).1, (((((unR v42).2).2).2).1, ((((((unR v42).2).2).2).2).1, (((((unR v42).2).2).2).2).2))))))))))) .bad)

noncomputable def wFnReaches_o33 (v34 : Unit ⊕ (((List Nat) × ((List Nat) × ((List Nat) × (List Nat)))) ⊕ ((List Nat) × ((List Nat) × ((List Nat) × ((List Nat) × (List Nat))))))) : Tr (Bool) :=
  .br (isL v34) (.ok false) (.br (isL (unR v34)) (.br (osome (wFnReaches_l48 (.inl ((4607182418800017408, (((List.length ((unL (unR v34)).1) : Nat) : Int), (0, ((unL (unR v34)).1, (((unL (unR v34)).2).1, ((((unL (unR v34)).2).2).1, (((unL (unR v34)).2).2).2)))))))))) (wFnReaches_o25 (oget (wFnReaches_l48 (.inl ((4607182418800017408, (((List.length ((unL (unR v34)).1) : Nat) : Int), (0, ((unL (unR v34)).1, (((unL (unR v34)).2).1, ((((unL (unR v34)).2).2).1, (((unL (unR v34)).2).2).2))))))))))) .bad) (.br (osome (wFnReaches_l48 (.inr ((4607182418800017408, (((List.length ((unR (unR v34)).1) : Nat) : Int), (0, ((unR (unR v34)).1, (((unR (unR v34)).2).1, ((((unR (unR v34)).2).2).1, (((((unR (unR v34)).2).2).2).1, ((((unR (unR v34)).2).2).2).2))))))))))) (wFnReaches_o32 (oget (wFnReaches_l48 (.inr ((4607182418800017408, (((List.length ((unR (unR v34)).1) : Nat) : Int), (0, ((unR (unR v34)).1, (((unR (unR v34)).2).1, ((((unR (unR v34)).2).2).1, (((((unR (unR v34)).2).2).2).1, ((((unR (unR v34)).2).2).2).2)))))))))))) .bad))

noncomputable def wFnReaches_o34 (v7 : Unit ⊕ ((List Int) × (Nat × ((List (Nat × Nat)) × ((List Nat) × ((List Nat) × (List Nat))))))) (v8 : Unit ⊕ (List Nat)) (v20 : Unit ⊕ (List Nat)) (v26 : Unit ⊕ (List Nat)) (v33 : Bool) : Tr (Bool) :=
  .br (!v33) (.ok false) (.br ((((List.length (unR v26) : Nat) : Int) : Int) != (((List.length (((((unR v7).2).2).2).1) : Nat) : Int))) (.ok false) (.br ((((List.length (unR v8) : Nat) : Int) : Int) != (((List.length (((((unR v7).2).2).2).1) : Nat) : Int))) (.ok false) (.br ((((List.length (unR v20) : Nat) : Int) : Int) != (((List.length (((((unR v7).2).2).2).1) : Nat) : Int))) (.ok false) (.br (osome (wFnReaches_l39 (.inl ((((unR v7).2).1, (((List.length ((((unR v7).2).2).1) : Nat) : Int), (0, ((((unR v7).2).2).1, (((((unR v7).2).2).2).1, (unR v8, (unR v20, unR v26))))))))))) (wFnReaches_o33 (oget (wFnReaches_l39 (.inl ((((unR v7).2).1, (((List.length ((((unR v7).2).2).1) : Nat) : Int), (0, ((((unR v7).2).2).1, (((((unR v7).2).2).2).1, (unR v8, (unR v20, unR v26)))))))))))) .bad))))

noncomputable def wFnReaches_o35 (v7 : Unit ⊕ ((List Int) × (Nat × ((List (Nat × Nat)) × ((List Nat) × ((List Nat) × (List Nat))))))) (v8 : Unit ⊕ (List Nat)) (v20 : Unit ⊕ (List Nat)) (v26 : Unit ⊕ (List Nat)) (v30 : Unit ⊕ (List (List Nat))) (v32 : Bool) : Tr (Bool) :=
  .br (!v32) (.ok false) (.br (decide (0 ≤ (2 : Int)) && decide ((2 : Int) < ((List.length (unR v30) : Nat) : Int))) (.br (osome (wb10List (List.getD (unR v30) (Int.toNat 2) []) (unR v26))) (wFnReaches_o34 v7 v8 v20 v26 (oget (wb10List (List.getD (unR v30) (Int.toNat 2) []) (unR v26)))) .bad) .bad)

noncomputable def wFnReaches_o36 (v7 : Unit ⊕ ((List Int) × (Nat × ((List (Nat × Nat)) × ((List Nat) × ((List Nat) × (List Nat))))))) (v8 : Unit ⊕ (List Nat)) (v20 : Unit ⊕ (List Nat)) (v26 : Unit ⊕ (List Nat)) (v30 : Unit ⊕ (List (List Nat))) (v31 : Bool) : Tr (Bool) :=
  .br (!v31) (.ok false) (.br (decide (0 ≤ (1 : Int)) && decide ((1 : Int) < ((List.length (unR v30) : Nat) : Int))) (.br (osome (wb10List (List.getD (unR v30) (Int.toNat 1) []) (unR v20))) (wFnReaches_o35 v7 v8 v20 v26 v30 (oget (wb10List (List.getD (unR v30) (Int.toNat 1) []) (unR v20)))) .bad) .bad)

noncomputable def wFnReaches_o37 (v7 : Unit ⊕ ((List Int) × (Nat × ((List (Nat × Nat)) × ((List Nat) × ((List Nat) × (List Nat))))))) (v8 : Unit ⊕ (List Nat)) (v20 : Unit ⊕ (List Nat)) (v26 : Unit ⊕ (List Nat)) (v30 : Unit ⊕ (List (List Nat))) : Tr (Bool) :=
  .br (isL v30) (.ok false) (.br ((((List.length (unR v30) : Nat) : Int) : Int) != 3) (.ok false) (.br (decide (0 ≤ (0 : Int)) && decide ((0 : Int) < ((List.length (unR v30) : Nat) : Int))) (.br (osome (wb10List (List.getD (unR v30) (Int.toNat 0) []) (unR v8))) (wFnReaches_o36 v7 v8 v20 v26 v30 (oget (wb10List (List.getD (unR v30) (Int.toNat 0) []) (unR v8)))) .bad) .bad))

noncomputable def wFnReaches_o38 (v7 : Unit ⊕ ((List Int) × (Nat × ((List (Nat × Nat)) × ((List Nat) × ((List Nat) × (List Nat))))))) (v8 : Unit ⊕ (List Nat)) (v20 : Unit ⊕ (List Nat)) (v26 : Unit ⊕ (List Nat)) (v29 : Int) : Tr (Bool) :=
  .br (osome (iRouteShared ((((unR v7).2).2).1) [((((unR v7).2).2).2).1, (((((unR v7).2).2).2).2).1, (((((unR v7).2).2).2).2).2] (((unR v7).2).1) (IntKind.wrap .i64 (1 + v29)))) (wFnReaches_o37 v7 v8 v20 v26 (oget (iRouteShared ((((unR v7).2).2).1) [((((unR v7).2).2).2).1, (((((unR v7).2).2).2).2).1, (((((unR v7).2).2).2).2).2] (((unR v7).2).1) (IntKind.wrap .i64 (1 + v29))))) .bad

noncomputable def wFnReaches_o39 (v7 : Unit ⊕ ((List Int) × (Nat × ((List (Nat × Nat)) × ((List Nat) × ((List Nat) × (List Nat))))))) (v8 : Unit ⊕ (List Nat)) (v20 : Unit ⊕ (List Nat)) (v26 : Unit ⊕ (List Nat)) : Tr (Bool) :=
  .br (isL v26) (.br (osome (wb10At ((unR v7).1) 2 8)) (wFnReaches_o18 v7 (oget (wb10At ((unR v7).1) 2 8))) .bad) (.br (osome (wb10At ((unR v7).1) 2 8)) (wFnReaches_o38 v7 v8 v20 v26 (oget (wb10At ((unR v7).1) 2 8))) .bad)

noncomputable def wFnReaches_o40 (v7 : Unit ⊕ ((List Int) × (Nat × ((List (Nat × Nat)) × ((List Nat) × ((List Nat) × (List Nat))))))) (v8 : Unit ⊕ (List Nat)) (v20 : Unit ⊕ (List Nat)) : Tr (Bool) :=
  .br (isL v20) (.br (osome (iRouteReaches ((((unR v7).2).2).1) ((((((unR v7).2).2).2).2).2) (((unR v7).2).1))) (wFnReaches_o16 v7 (oget (iRouteReaches ((((unR v7).2).2).1) ((((((unR v7).2).2).2).2).2) (((unR v7).2).1)))) .bad) (.br (osome (iRouteReaches ((((unR v7).2).2).1) ((((((unR v7).2).2).2).2).2) (((unR v7).2).1))) (wFnReaches_o39 v7 v8 v20 (oget (iRouteReaches ((((unR v7).2).2).1) ((((((unR v7).2).2).2).2).2) (((unR v7).2).1)))) .bad)

noncomputable def wFnReaches_o41 (v7 : Unit ⊕ ((List Int) × (Nat × ((List (Nat × Nat)) × ((List Nat) × ((List Nat) × (List Nat))))))) (v8 : Unit ⊕ (List Nat)) : Tr (Bool) :=
  .br (isL v8) (.br (osome (iRouteReaches ((((unR v7).2).2).1) ((((((unR v7).2).2).2).2).1) (((unR v7).2).1))) (wFnReaches_o11 v7 (oget (iRouteReaches ((((unR v7).2).2).1) ((((((unR v7).2).2).2).2).1) (((unR v7).2).1)))) .bad) (.br (osome (iRouteReaches ((((unR v7).2).2).1) ((((((unR v7).2).2).2).2).1) (((unR v7).2).1))) (wFnReaches_o40 v7 v8 (oget (iRouteReaches ((((unR v7).2).2).1) ((((((unR v7).2).2).2).2).1) (((unR v7).2).1)))) .bad)

noncomputable def wFnReaches_o42 (v7 : Unit ⊕ ((List Int) × (Nat × ((List (Nat × Nat)) × ((List Nat) × ((List Nat) × (List Nat))))))) : Tr (Bool) :=
  .br (isL v7) (.ok false) (.br (osome (iRouteReaches ((((unR v7).2).2).1) (((((unR v7).2).2).2).1) (((unR v7).2).1))) (wFnReaches_o41 v7 (oget (iRouteReaches ((((unR v7).2).2).1) (((((unR v7).2).2).2).1) (((unR v7).2).1)))) .bad)

noncomputable def wFnReaches_o43 (v6 : (List Int) × (Nat × ((List (Nat × Nat)) × ((List Nat) × ((List Nat) × ((List Nat) × (List Nat))))))) : Tr (Bool) :=
  .br (osome (wFnReaches_l17 v6.1 v6.2.1 (((List.length v6.2.2.1 : Nat) : Int)) 0 v6.2.2.1 v6.2.2.2.1 v6.2.2.2.2.1 v6.2.2.2.2.2.1 v6.2.2.2.2.2.2)) (wFnReaches_o42 (oget (wFnReaches_l17 v6.1 v6.2.1 (((List.length v6.2.2.1 : Nat) : Int)) 0 v6.2.2.1 v6.2.2.2.1 v6.2.2.2.2.1 v6.2.2.2.2.2.1 v6.2.2.2.2.2.2))) .bad

noncomputable def wFnReaches_o44 (x1 : List Int) (v1 : List (Nat × Nat)) (v2 : Int) (v4 : List Nat) (v5 : List Nat) : Tr (Bool) :=
  .br (osome (wFnReaches_l11 x1 (fdiv .f32 (FloatKind.nearest .f32 (IntKind.wrap .i64 (1 + v2))) 1082130432) (((List.length v4 : Nat) : Int)) 0 v1 v4 v5 [] [])) (wFnReaches_o43 (oget (wFnReaches_l11 x1 (fdiv .f32 (FloatKind.nearest .f32 (IntKind.wrap .i64 (1 + v2))) 1082130432) (((List.length v4 : Nat) : Int)) 0 v1 v4 v5 [] []))) .bad

noncomputable def wFnReaches_o45 (x0 : List Int) (x1 : List Int) (v1 : List (Nat × Nat)) (v2 : Int) (v3 : Int) (v4 : List Nat) : Tr (Bool) :=
  .br (osome (sB10Rain x0 (IntKind.wrap .i64 (1 + v3)))) (wFnReaches_o44 x1 v1 v2 v4 (oget (sB10Rain x0 (IntKind.wrap .i64 (1 + v3))))) .bad

noncomputable def wFnReaches_o46 (x0 : List Int) (x1 : List Int) (v1 : List (Nat × Nat)) (v2 : Int) (v3 : Int) : Tr (Bool) :=
  .br (osome (sB10Rain x1 (IntKind.wrap .i64 (1 + v3)))) (wFnReaches_o45 x0 x1 v1 v2 v3 (oget (sB10Rain x1 (IntKind.wrap .i64 (1 + v3))))) .bad

noncomputable def wFnReaches_o47 (x0 : List Int) (x1 : List Int) (v1 : List (Nat × Nat)) (v2 : Int) : Tr (Bool) :=
  .br (osome (wb10At x1 1 12)) (wFnReaches_o46 x0 x1 v1 v2 (oget (wb10At x1 1 12))) .bad

noncomputable def wFnReaches_o48 (x0 : List Int) (x1 : List Int) (v1 : List (Nat × Nat)) : Tr (Bool) :=
  .br (osome (wb10At x1 0 8)) (wFnReaches_o47 x0 x1 v1 (oget (wb10At x1 0 8))) .bad

noncomputable def wFnReaches_t (x0 : List Int) (x1 : List Int) : Tr (Bool) :=
  .br (wb10Long x0 x1) (.ok true) (.br (osome (sB10Reaches x0)) (wFnReaches_o48 x0 x1 (oget (sB10Reaches x0))) .bad)

noncomputable def wFnReaches (x0 : List Int) (x1 : List Int) : Option (Bool) := (wFnReaches_t x0 x1).sem
end Go.Proofs.Ytpglfnkkmafhbaa
