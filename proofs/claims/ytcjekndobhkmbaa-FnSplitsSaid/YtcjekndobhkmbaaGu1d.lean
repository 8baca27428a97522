/- Functions, as plain functions. Plain functions. -/
import Derived.Test.YtcjekndobhkmbaaDa
set_option linter.unusedVariables false
set_option linter.unusedSimpArgs false
set_option linter.constructorNameAsVariable false
namespace Go.Proofs.Ytcjekndobhkmbaa
open Go.RowKit
set_option maxRecDepth 100000
noncomputable def wr8Long_t (x0 : List Int) (x1 : List Int) : Tr (Bool) :=
  .br (decide ((((List.length x0 : Nat) : Int) : Int) > 48)) (.ok true) (.ok (decide ((((List.length x1 : Nat) : Int) : Int) > 48)))

noncomputable def wr8Long (x0 : List Int) (x1 : List Int) : Bool := (wr8Long_t x0 x1).val

noncomputable def sl00From_t (x0 : List Int) : Tr (List Int × Int × Int) :=
  .ok (x0, 0, 0)

noncomputable def sl00From (x0 : List Int) : List Int × Int × Int := (sl00From_t x0).val

noncomputable def sl00Src_next_t (x0 : List Int) (x1 : Int) (x2 : Int) : Tr (Int × List Int × Int × Int) :=
  .br (decide ((x1 : Int) < (((List.length x0 : Nat) : Int)))) (.br (decide (0 ≤ (x1 : Int)) && decide ((x1 : Int) < ((List.length x0 : Nat) : Int))) (.br (decide ((IntKind.wrap .i64 (x1 + 1) : Int) ≤ (((List.length x0 : Nat) : Int)))) (.ok (IntKind.wrap .i64 (List.getD x0 (Int.toNat x1) 0), x0, IntKind.wrap .i64 (x1 + 1), IntKind.wrap .u64 ((IntKind.wrap .u64 ((IntKind.wrap .u64 (x2 * 6364136223846793005)) + (IntKind.wrap .u64 (IntKind.wrap .i64 (List.getD x0 (Int.toNat x1) 0))))) + 1442695040888963407))) (.br (decide ((0 : Int) ≤ 40)) (.ok (IntKind.wrap .i64 (iand .u64 (ishr .u64 (IntKind.wrap .u64 ((IntKind.wrap .u64 ((IntKind.wrap .u64 (x2 * 6364136223846793005)) + (IntKind.wrap .u64 (IntKind.wrap .i64 (List.getD x0 (Int.toNat x1) 0))))) + 1442695040888963407)) 40) 255), x0, IntKind.wrap .i64 (x1 + 1), IntKind.wrap .u64 ((IntKind.wrap .u64 ((IntKind.wrap .u64 (x2 * 6364136223846793005)) + (IntKind.wrap .u64 (IntKind.wrap .i64 (List.getD x0 (Int.toNat x1) 0))))) + 1442695040888963407))) .bad)) .bad) (.br (decide ((IntKind.wrap .i64 (x1 + 1) : Int) ≤ (((List.length x0 : Nat) : Int)))) (.ok (0, x0, IntKind.wrap .i64 (x1 + 1), IntKind.wrap .u64 ((IntKind.wrap .u64 ((IntKind.wrap .u64 (x2 * 6364136223846793005)) + (IntKind.wrap .u64 0))) + 1442695040888963407))) (.br (decide ((0 : Int) ≤ 40)) (.ok (IntKind.wrap .i64 (iand .u64 (ishr .u64 (IntKind.wrap .u64 ((IntKind.wrap .u64 ((IntKind.wrap .u64 (x2 * 6364136223846793005)) + (IntKind.wrap .u64 0))) + 1442695040888963407)) 40) 255), x0, IntKind.wrap .i64 (x1 + 1), IntKind.wrap .u64 ((IntKind.wrap .u64 ((IntKind.wrap .u64 (x2 * 6364136223846793005)) + (IntKind.wrap .u64 0))) + 1442695040888963407))) .bad))

noncomputable def sl00Src_next (x0 : List Int) (x1 : Int) (x2 : Int) : Option (Int × List Int × Int × Int) := (sl00Src_next_t x0 x1 x2).sem

noncomputable def sl00Src_pick_t (x0 : Int) (x1 : List Int) (x2 : Int) (x3 : Int) : Tr (Int × List Int × Int × Int) :=
  .br (decide ((x0 : Int) ≤ 1)) (.ok (0, x1, x2, x3)) (.br (osome (sl00Src_next x1 x2 x3)) (.br (decide ((x0 : Int) > 200)) (.br (osome (sl00Src_next (oget (sl00Src_next x1 x2 x3)).2.1 (oget (sl00Src_next x1 x2 x3)).2.2.1 (oget (sl00Src_next x1 x2 x3)).2.2.2)) (.br (decide (x0 ≠ (0 : Int))) (.ok (Int.tmod (IntKind.wrap .i64 ((IntKind.wrap .i64 ((oget (sl00Src_next x1 x2 x3)).1 * 256)) + (oget (sl00Src_next (oget (sl00Src_next x1 x2 x3)).2.1 (oget (sl00Src_next x1 x2 x3)).2.2.1 (oget (sl00Src_next x1 x2 x3)).2.2.2)).1)) x0, (oget (sl00Src_next (oget (sl00Src_next x1 x2 x3)).2.1 (oget (sl00Src_next x1 x2 x3)).2.2.1 (oget (sl00Src_next x1 x2 x3)).2.2.2)).2.1, (oget (sl00Src_next (oget (sl00Src_next x1 x2 x3)).2.1 (oget (sl00Src_next x1 x2 x3)).2.2.1 (oget (sl00Src_next x1 x2 x3)).2.2.2)).2.2.1, (oget (sl00Src_next (oget (sl00Src_next x1 x2 x3)).2.1 (oget (sl00Src_next x1 x2 x3)).2.2.1 (oget (sl00Src_next x1 x2 x3)).2.2.2)).2.2.2)) .bad) .bad) (.br (decide (x0 ≠ (0 : Int))) (.ok (Int.tmod (oget (sl00Src_next x1 x2 x3)).1 x0, (oget (sl00Src_next x1 x2 x3)).2.1, (oget (sl00Src_next x1 x2 x3)).2.2.1, (oget (sl00Src_next x1 x2 x3)).2.2.2)) .bad)) .bad)

noncomputable def sl00Src_pick (x0 : Int) (x1 : List Int) (x2 : Int) (x3 : Int) : Option (Int × List Int × Int × Int) := (sl00Src_pick_t x0 x1 x2 x3).sem

noncomputable def sR8Units_l4_t  (y0 : Int) (y1 : List Int) (y2 : Int) (y3 : Int) (y4 : List Int) : Tr ((Int × List Int × Int × Int × List Int) ⊕ (List Int)) :=
  .br (decide ((y0 : Int) > 0)) (.br (osome (sl00Src_pick 9 y1 y2 y3)) (.br (decide ((List.length y4 + List.length [(oget (sl00Src_pick 9 y1 y2 y3)).1]) * 8 ≤ 140737488355328)) (.ok (.inl (IntKind.wrap .i64 (y0 - 1), (oget (sl00Src_pick 9 y1 y2 y3)).2.1, (oget (sl00Src_pick 9 y1 y2 y3)).2.2.1, (oget (sl00Src_pick 9 y1 y2 y3)).2.2.2, y4 ++ [(oget (sl00Src_pick 9 y1 y2 y3)).1]))) .bad) .bad) (.ok (.inr y4))

noncomputable def sR8Units_l4 (y0 : Int) (y1 : List Int) (y2 : Int) (y3 : Int) (y4 : List Int) : Option (List Int) := runL (fun s : Int × List Int × Int × Int × List Int => (sR8Units_l4_t  s.1 s.2.1 s.2.2.1 s.2.2.2.1 s.2.2.2.2).sem) (y0, y1, y2, y3, y4)

noncomputable def sR8Units_t (x0 : List Int) : Tr (List Int) :=
  .br (osome (sl00Src_pick 9 ((sl00From x0).1) (((sl00From x0).2).1) (((sl00From x0).2).2))) (.br (osome (sl00Src_pick 8 (oget (sl00Src_pick 9 ((sl00From x0).1) (((sl00From x0).2).1) (((sl00From x0).2).2))).2.1 (oget (sl00Src_pick 9 ((sl00From x0).1) (((sl00From x0).2).1) (((sl00From x0).2).2))).2.2.1 (oget (sl00Src_pick 9 ((sl00From x0).1) (((sl00From x0).2).1) (((sl00From x0).2).2))).2.2.2)) (.br (osome (sR8Units_l4 (oget (sl00Src_pick 8 (oget (sl00Src_pick 9 ((sl00From x0).1) (((sl00From x0).2).1) (((sl00From x0).2).2))).2.1 (oget (sl00Src_pick 9 ((sl00From x0).1) (((sl00From x0).2).1) (((sl00From x0).2).2))).2.2.1 (oget (sl00Src_pick 9 ((sl00From x0).1) (((sl00From x0).2).1) (((sl00From x0).2).2))).2.2.2)).1 (oget (sl00Src_pick 8 (oget (sl00Src_pick 9 ((sl00From x0).1) (((sl00From x0).2).1) (((sl00From x0).2).2))).2.1 (oget (sl00Src_pick 9 ((sl00From x0).1) (((sl00From x0).2).1) (((sl00From x0).2).2))).2.2.1 (oget (sl00Src_pick 9 ((sl00From x0).1) (((sl00From x0).2).1) (((sl00From x0).2).2))).2.2.2)).2.1 (oget (sl00Src_pick 8 (oget (sl00Src_pick 9 ((sl00From x0).1) (((sl00From x0).2).1) (((sl00From x0).2).2))).2.1 (oget (sl00Src_pick 9 ((sl00From x0).1) (((sl00From x0).2).1) (((sl00From x0).2).2))).2.2.1 (oget (sl00Src_pick 9 ((sl00From x0).1) (((sl00From x0).2).1) (((sl00From x0).2).2))).2.2.2)).2.2.1 (oget (sl00Src_pick 8 (oget (sl00Src_pick 9 ((sl00From x0).1) (((sl00From x0).2).1) (((sl00From x0).2).2))).2.1 (oget (sl00Src_pick 9 ((sl00From x0).1) (((sl00From x0).2).1) (((sl00From x0).2).2))).2.2.1 (oget (sl00Src_pick 9 ((sl00From x0).1) (((sl00From x0).2).1) (((sl00From x0).2).2))).2.2.2)).2.2.2 [IntKind.wrap .i64 (1 + (oget (sl00Src_pick 9 ((sl00From x0).1) (((sl00From x0).2).1) (((sl00From x0).2).2))).1)])) (.ok (oget (sR8Units_l4 (oget (sl00Src_pick 8 (oget (sl00Src_pick 9 ((sl00From x0).1) (((sl00From x0).2).1) (((sl00From x0).2).2))).2.1 (oget (sl00Src_pick 9 ((sl00From x0).1) (((sl00From x0).2).1) (((sl00From x0).2).2))).2.2.1 (oget (sl00Src_pick 9 ((sl00From x0).1) (((sl00From x0).2).1) (((sl00From x0).2).2))).2.2.2)).1 (oget (sl00Src_pick 8 (oget (sl00Src_pick 9 ((sl00From x0).1) (((sl00From x0).2).1) (((sl00From x0).2).2))).2.1 (oget (sl00Src_pick 9 ((sl00From x0).1) (((sl00From x0).2).1) (((sl00From x0).2).2))).2.2.1 (oget (sl00Src_pick 9 ((sl00From x0).1) (((sl00From x0).2).1) (((sl00From x0).2).2))).2.2.2)).2.1 (oget (sl00Src_pick 8 (oget (sl00Src_pick 9 ((sl00From x0).1) (((sl00From x0).2).1) (((sl00From x0).2).2))).2.1 (oget (sl00Src_pick 9 ((sl00From x0).1) (((sl00From x0).2).1) (((sl00From x0).2).2))).2.2.1 (oget (sl00Src_pick 9 ((sl00From x0).1) (((sl00From x0).2).1) (((sl00From x0).2).2))).2.2.2)).2.2.1 (oget (sl00Src_pick 8 (oget (sl00Src_pick 9 ((sl00From x0).1) (((sl00From x0).2).1) (((sl00From x0).2).2))).2.1 (oget (sl00Src_pick 9 ((sl00From x0).1) (((sl00From x0).2).1) (((sl00From x0).2).2))).2.2.1 (oget (sl00Src_pick 9 ((sl00From x0).1) (((sl00From x0).2).1) (((sl00From x0).2).2))).2.2.2)).2.2.2 [IntKind.wrap .i64 (1 + (oget (sl00Src_pick 9 ((sl00From x0).1) (((sl00From x0).2).1) (((sl00From x0).2).2))).1)]))) .bad) .bad) .bad

noncomputable def sR8Units (x0 : List Int) : Option (List Int) := (sR8Units_t x0).sem

noncomputable def wr8At_t (x0 : List Int) (x1 : Int) (x2 : Int) : Tr (Int) :=
  .br (decide ((x2 : Int) ≤ 1)) (.ok 0) (.br (decide ((x1 : Int) ≥ (((List.length x0 : Nat) : Int)))) (.ok 0) (.br (decide (0 ≤ (x1 : Int)) && decide ((x1 : Int) < ((List.length x0 : Nat) : Int))) (.br (decide (x2 ≠ (0 : Int))) (.ok (Int.tmod (IntKind.wrap .i64 (List.getD x0 (Int.toNat x1) 0)) x2)) .bad) .bad))

noncomputable def wr8At (x0 : List Int) (x1 : Int) (x2 : Int) : Option (Int) := (wr8At_t x0 x1 x2).sem

noncomputable def iwithin_t (x0 : Int) (x1 : Int) (x2 : Int) : Tr (Bool) :=
  .br (decide ((x1 : Int) ≤ x0)) (.ok (decide ((x0 : Int) ≤ x2))) (.ok false)

noncomputable def iwithin (x0 : Int) (x1 : Int) (x2 : Int) : Bool := (iwithin_t x0 x1 x2).val

noncomputable def iareWithin_1_t (x0 : Int) (x1 : Int) (x2 : Int) : Tr (Bool) :=
  .ok (! (iwithin x0 x1 x2))

noncomputable def iareWithin_1 (x0 : Int) (x1 : Int) (x2 : Int) : Bool := (iareWithin_1_t x0 x1 x2).val

noncomputable def lIndexFunc_iareWithin_1_l2_t (y0 : List Int) (y1 : Int) (y2 : Int) (y3 : Int) (y4 : Int) : Tr (Int ⊕ (Int ⊕ Unit)) :=
  .br (decide ((y4 : Int) < y3)) (.br (decide (0 ≤ (y4 : Int)) && decide ((y4 : Int) < ((List.length y0 : Nat) : Int))) (.br (iareWithin_1 (List.getD y0 (Int.toNat y4) 0) y1 y2) (.ok (.inr (.inl y4))) (.ok (.inl (IntKind.wrap .i64 (y4 + 1))))) .bad) (.ok (.inr (.inr ())))

noncomputable def lIndexFunc_iareWithin_1_l2 (y0 : List Int) (y1 : Int) (y2 : Int) (y3 : Int) (y4 : Int) : Option (Int ⊕ Unit) := runL (fun s : Int => (lIndexFunc_iareWithin_1_l2_t y0 y1 y2 y3 s).sem) y4

noncomputable def lIndexFunc_iareWithin_1_t (x0 : List Int) (x1 : Int) (x2 : Int) : Tr (Int) :=
  .br (osome (lIndexFunc_iareWithin_1_l2 x0 x1 x2 (((List.length x0 : Nat) : Int)) 0)) (.br (isL (oget (lIndexFunc_iareWithin_1_l2 x0 x1 x2 (((List.length x0 : Nat) : Int)) 0))) (.ok (unL (oget (lIndexFunc_iareWithin_1_l2 x0 x1 x2 (((List.length x0 : Nat) : Int)) 0)))) (.ok (-1))) .bad

noncomputable def lIndexFunc_iareWithin_1 (x0 : List Int) (x1 : Int) (x2 : Int) : Option (Int) := (lIndexFunc_iareWithin_1_t x0 x1 x2).sem

noncomputable def lContainsFunc_iareWithin_1_t (x0 : List Int) (x1 : Int) (x2 : Int) : Tr (Bool) :=
  .br (osome (lIndexFunc_iareWithin_1 x0 x1 x2)) (.ok (decide (((oget (lIndexFunc_iareWithin_1 x0 x1 x2)) : Int) ≥ 0))) .bad

noncomputable def lContainsFunc_iareWithin_1 (x0 : List Int) (x1 : Int) (x2 : Int) : Option (Bool) := (lContainsFunc_iareWithin_1_t x0 x1 x2).sem

noncomputable def iareWithin_t (x0 : List Int) (x1 : Int) (x2 : Int) : Tr (Bool) :=
  .br (osome (lContainsFunc_iareWithin_1 x0 x1 x2)) (.ok (!(oget (lContainsFunc_iareWithin_1 x0 x1 x2)))) .bad

noncomputable def iareWithin (x0 : List Int) (x1 : Int) (x2 : Int) : Option (Bool) := (iareWithin_t x0 x1 x2).sem

noncomputable def iareUnits_t (x0 : Int) (x1 : List Int) : Tr (Bool) :=
  .br (iwithin x0 0 1000000000) (.br (iwithin (((List.length x1 : Nat) : Int)) 1 64) (.br (osome (iareWithin x1 0 1000000000)) (.ok (oget (iareWithin x1 0 1000000000))) .bad) (.ok false)) (.ok false)

noncomputable def iareUnits (x0 : Int) (x1 : List Int) : Option (Bool) := (iareUnits_t x0 x1).sem

noncomputable def itotal_l6_t (y1 : List (List Int)) (y2 : Int) (y3 : Int) (y4 : List Int) (y5 : Int) (y0 : Int) (y6 : Int) : Tr ((Int × Int) ⊕ (Int × List (List Int) × Int × Int)) :=
  .br (decide ((y6 : Int) < y5)) (.br (decide (0 ≤ (y6 : Int)) && decide ((y6 : Int) < ((List.length y4 : Nat) : Int))) (.ok (.inl (IntKind.wrap .i64 (y0 + (List.getD y4 (Int.toNat y6) 0)), IntKind.wrap .i64 (y6 + 1)))) .bad) (.ok (.inr (y0, y1, y2, y3)))

noncomputable def itotal_l6 (y0 : Int) (y1 : List (List Int)) (y2 : Int) (y3 : Int) (y4 : List Int) (y5 : Int) (y6 : Int) : Option (Int × List (List Int) × Int × Int) := runL (fun s : Int × Int => (itotal_l6_t y1 y2 y3 y4 y5 s.1 s.2).sem) (y0, y6)

noncomputable def itotal_l3_t  (y0 : Int) (y1 : List (List Int)) (y2 : Int) (y3 : Int) : Tr ((Int × List (List Int) × Int × Int) ⊕ Int) :=
  .br (decide ((y3 : Int) < y2)) (.br (decide (0 ≤ (y3 : Int)) && decide ((y3 : Int) < ((List.length y1 : Nat) : Int))) (.br (osome (itotal_l6 y0 y1 y2 y3 (List.getD y1 (Int.toNat y3) []) (((List.length (List.getD y1 (Int.toNat y3) []) : Nat) : Int)) 0)) (.ok (.inl ((oget (itotal_l6 y0 y1 y2 y3 (List.getD y1 (Int.toNat y3) []) (((List.length (List.getD y1 (Int.toNat y3) []) : Nat) : Int)) 0)).1, (oget (itotal_l6 y0 y1 y2 y3 (List.getD y1 (Int.toNat y3) []) (((List.length (List.getD y1 (Int.toNat y3) []) : Nat) : Int)) 0)).2.1, (oget (itotal_l6 y0 y1 y2 y3 (List.getD y1 (Int.toNat y3) []) (((List.length (List.getD y1 (Int.toNat y3) []) : Nat) : Int)) 0)).2.2.1, IntKind.wrap .i64 ((oget (itotal_l6 y0 y1 y2 y3 (List.getD y1 (Int.toNat y3) []) (((List.length (List.getD y1 (Int.toNat y3) []) : Nat) : Int)) 0)).2.2.2 + 1)))) .bad) .bad) (.ok (.inr y0))

noncomputable def itotal_l3 (y0 : Int) (y1 : List (List Int)) (y2 : Int) (y3 : Int) : Option (Int) := runL (fun s : Int × List (List Int) × Int × Int => (itotal_l3_t  s.1 s.2.1 s.2.2.1 s.2.2.2).sem) (y0, y1, y2, y3)

noncomputable def itotal_t (x0 : List (List Int)) : Tr (Int) :=
  .br (osome (itotal_l3 0 x0 (((List.length x0 : Nat) : Int)) 0)) (.ok (oget (itotal_l3 0 x0 (((List.length x0 : Nat) : Int)) 0))) .bad

noncomputable def itotal (x0 : List (List Int)) : Option (Int) := (itotal_t x0).sem

noncomputable def isplit_l13_t (y0 : Int) (y2 : Int) (y4 : List Int) (y5 : List Int) (y1 : Int) (y3 : Int) : Tr ((Int × Int) ⊕ (Int × Int × List Int × List Int)) :=
  .br (decide ((y3 : Int) < y2)) (.br (decide (0 ≤ (y3 : Int)) && decide ((y3 : Int) < ((List.length y5 : Nat) : Int))) (.br (decide (0 ≤ (y1 : Int)) && decide ((y1 : Int) < ((List.length y5 : Nat) : Int))) (.br (decide ((List.getD y5 (Int.toNat y3) 0 : Int) > (List.getD y5 (Int.toNat y1) 0))) (.ok (.inl (y3, IntKind.wrap .i64 (y3 + 1)))) (.ok (.inl (y1, IntKind.wrap .i64 (y3 + 1))))) .bad) .bad) (.ok (.inr (y0, y1, y4, y5)))

noncomputable def isplit_l13 (y0 : Int) (y1 : Int) (y2 : Int) (y3 : Int) (y4 : List Int) (y5 : List Int) : Option (Int × Int × List Int × List Int) := runL (fun s : Int × Int => (isplit_l13_t y0 y2 y4 y5 s.1 s.2).sem) (y1, y3)

noncomputable def isplit_l4_t (y0 : Int) (y1 : Int) (y3 : List Int) (y4 : Int) (y2 : Int) (y5 : Int) (y6 : List Int) (y7 : List Int) : Tr ((Int × Int × List Int × List Int) ⊕ (Int × List Int × List Int)) :=
  .br (decide ((y5 : Int) < y4)) (.br (decide (0 ≤ (y5 : Int)) && decide ((y5 : Int) < ((List.length y3 : Nat) : Int))) (.br (decide (y1 ≠ (0 : Int))) (.br (decide ((List.length y6 + List.length [IntKind.wrap .i64 (Int.tdiv (IntKind.wrap .i64 (y0 * (List.getD y3 (Int.toNat y5) 0))) y1)]) * 8 ≤ 140737488355328)) (.br (decide (y1 ≠ (0 : Int))) (.br (decide ((List.length y7 + List.length [Int.tmod (IntKind.wrap .i64 (y0 * (List.getD y3 (Int.toNat y5) 0))) y1]) * 8 ≤ 140737488355328)) (.br (decide (y1 ≠ (0 : Int))) (.ok (.inl (IntKind.wrap .i64 (y2 - (IntKind.wrap .i64 (Int.tdiv (IntKind.wrap .i64 (y0 * (List.getD y3 (Int.toNat y5) 0))) y1))), IntKind.wrap .i64 (y5 + 1), y6 ++ [IntKind.wrap .i64 (Int.tdiv (IntKind.wrap .i64 (y0 * (List.getD y3 (Int.toNat y5) 0))) y1)], y7 ++ [Int.tmod (IntKind.wrap .i64 (y0 * (List.getD y3 (Int.toNat y5) 0))) y1]))) .bad) .bad) .bad) .bad) .bad) .bad) (.ok (.inr (y2, y6, y7)))

noncomputable def isplit_l4 (y0 : Int) (y1 : Int) (y2 : Int) (y3 : List Int) (y4 : Int) (y5 : Int) (y6 : List Int) (y7 : List Int) : Option (Int × List Int × List Int) := runL (fun s : Int × Int × List Int × List Int => (isplit_l4_t y0 y1 y3 y4 s.1 s.2.1 s.2.2.1 s.2.2.2).sem) (y2, y5, y6, y7)

noncomputable def isplit_l9_t  (y0 : Int) (y1 : List Int) (y2 : List Int) : Tr ((Int × List Int × List Int) ⊕ (List Int)) :=
  .br (decide ((y0 : Int) > 0)) (.br (osome (isplit_l13 y0 0 (((List.length y2 : Nat) : Int)) 0 y1 y2)) (.br (decide (0 ≤ ((oget (isplit_l13 y0 0 (((List.length y2 : Nat) : Int)) 0 y1 y2)).2.1 : Int)) && decide (((oget (isplit_l13 y0 0 (((List.length y2 : Nat) : Int)) 0 y1 y2)).2.1 : Int) < ((List.length (oget (isplit_l13 y0 0 (((List.length y2 : Nat) : Int)) 0 y1 y2)).2.2.1 : Nat) : Int))) (.br (decide (0 ≤ ((oget (isplit_l13 y0 0 (((List.length y2 : Nat) : Int)) 0 y1 y2)).2.1 : Int)) && decide (((oget (isplit_l13 y0 0 (((List.length y2 : Nat) : Int)) 0 y1 y2)).2.1 : Int) < ((List.length (oget (isplit_l13 y0 0 (((List.length y2 : Nat) : Int)) 0 y1 y2)).2.2.1 : Nat) : Int))) (.br (decide (0 ≤ ((oget (isplit_l13 y0 0 (((List.length y2 : Nat) : Int)) 0 y1 y2)).2.1 : Int)) && decide (((oget (isplit_l13 y0 0 (((List.length y2 : Nat) : Int)) 0 y1 y2)).2.1 : Int) < ((List.length (oget (isplit_l13 y0 0 (((List.length y2 : Nat) : Int)) 0 y1 y2)).2.2.2 : Nat) : Int))) (.ok (.inl (IntKind.wrap .i64 ((oget (isplit_l13 y0 0 (((List.length y2 : Nat) : Int)) 0 y1 y2)).1 - 1), List.set (oget (isplit_l13 y0 0 (((List.length y2 : Nat) : Int)) 0 y1 y2)).2.2.1 (Int.toNat (oget (isplit_l13 y0 0 (((List.length y2 : Nat) : Int)) 0 y1 y2)).2.1) (IntKind.wrap .i64 ((List.getD (oget (isplit_l13 y0 0 (((List.length y2 : Nat) : Int)) 0 y1 y2)).2.2.1 (Int.toNat (oget (isplit_l13 y0 0 (((List.length y2 : Nat) : Int)) 0 y1 y2)).2.1) 0) + 1)), List.set (oget (isplit_l13 y0 0 (((List.length y2 : Nat) : Int)) 0 y1 y2)).2.2.2 (Int.toNat (oget (isplit_l13 y0 0 (((List.length y2 : Nat) : Int)) 0 y1 y2)).2.1) (-1)))) .bad) .bad) .bad) .bad) (.ok (.inr y1))

noncomputable def isplit_l9 (y0 : Int) (y1 : List Int) (y2 : List Int) : Option (List Int) := runL (fun s : Int × List Int × List Int => (isplit_l9_t  s.1 s.2.1 s.2.2).sem) (y0, y1, y2)

noncomputable def isplit_t (x0 : Int) (x1 : List Int) : Tr (List Int) :=
  .br (osome (itotal [x1])) (.br (osome (isplit_l4 x0 (oget (itotal [x1])) x0 x1 (((List.length x1 : Nat) : Int)) 0 [] [])) (.br (osome (isplit_l9 (oget (isplit_l4 x0 (oget (itotal [x1])) x0 x1 (((List.length x1 : Nat) : Int)) 0 [] [])).1 (oget (isplit_l4 x0 (oget (itotal [x1])) x0 x1 (((List.length x1 : Nat) : Int)) 0 [] [])).2.1 (oget (isplit_l4 x0 (oget (itotal [x1])) x0 x1 (((List.length x1 : Nat) : Int)) 0 [] [])).2.2)) (.ok (oget (isplit_l9 (oget (isplit_l4 x0 (oget (itotal [x1])) x0 x1 (((List.length x1 : Nat) : Int)) 0 [] [])).1 (oget (isplit_l4 x0 (oget (itotal [x1])) x0 x1 (((List.length x1 : Nat) : Int)) 0 [] [])).2.1 (oget (isplit_l4 x0 (oget (itotal [x1])) x0 x1 (((List.length x1 : Nat) : Int)) 0 [] [])).2.2))) .bad) .bad) .bad

noncomputable def isplit (x0 : Int) (x1 : List Int) : Option (List Int) := (isplit_t x0 x1).sem

noncomputable def iSplitExact_t (x0 : Int) (x1 : List Int) : Tr (Unit ⊕ (List Int)) :=
  .br (osome (iareUnits x0 x1)) (.br (!(oget (iareUnits x0 x1))) (.ok (.inl ())) (.br (osome (itotal [x1])) (.br (((oget (itotal [x1])) : Int) == 0) (.ok (.inl ())) (.br (osome (isplit x0 x1)) (.ok (.inr (oget (isplit x0 x1)))) .bad)) .bad)) .bad

noncomputable def iSplitExact (x0 : Int) (x1 : List Int) : Option (Unit ⊕ (List Int)) := (iSplitExact_t x0 x1).sem

noncomputable def iByRights_l9_t (y0 : Int) (y1 : List Int) (y2 : List Int) (y3 : Int) (y4 : List Int) (y5 : Int) (y7 : List Int) (y6 : Int) (y8 : List Int) (y9 : List Int) : Tr ((Int × List Int × List Int) ⊕ (Int × List Int × List Int × Int × List Int × List Int × List Int)) :=
  .br (decide ((y6 : Int) < y5)) (.br (decide (0 ≤ (y6 : Int)) && decide ((y6 : Int) < ((List.length y4 : Nat) : Int))) (.br ((List.getD y4 (Int.toNat y6) 0 : Int) == y3) (.br (decide (0 ≤ (y6 : Int)) && decide ((y6 : Int) < ((List.length y1 : Nat) : Int))) (.br (decide ((List.length y8 + List.length [List.getD y1 (Int.toNat y6) 0]) * 8 ≤ 140737488355328)) (.br (decide ((List.length y9 + List.length [y6]) * 8 ≤ 140737488355328)) (.ok (.inl (IntKind.wrap .i64 (y6 + 1), y8 ++ [List.getD y1 (Int.toNat y6) 0], y9 ++ [y6]))) .bad) .bad) .bad) (.ok (.inl (IntKind.wrap .i64 (y6 + 1), y8, y9)))) .bad) (.ok (.inr (y0, y1, y2, y3, y7, y8, y9)))

noncomputable def iByRights_l9 (y0 : Int) (y1 : List Int) (y2 : List Int) (y3 : Int) (y4 : List Int) (y5 : Int) (y6 : Int) (y7 : List Int) (y8 : List Int) (y9 : List Int) : Option (Int × List Int × List Int × Int × List Int × List Int × List Int) := runL (fun s : Int × List Int × List Int => (iByRights_l9_t y0 y1 y2 y3 y4 y5 y7 s.1 s.2.1 s.2.2).sem) (y6, y8, y9)

noncomputable def iByRights_l17_t0 (y0 : Int) (y1 : List Int) (y2 : List Int) (y3 : Int) (y4 : Int) (y5 : Int) (y6 : List Int) (y7 : List Int) (y8 : List Int) : Tr (((Int × List Int × List Int × Int × Int × Int × List Int × List Int × List Int) ⊕ (Int × List Int × List Int × Int × Int × Int × List Int × List Int × List Int)) ⊕ ((Int × List Int × List Int × Int × List Int × List Int) ⊕ (Int × List Int × List Int × Int × List Int × List Int))) :=
  .br (decide ((y5 : Int) < y4)) (.br (decide (0 ≤ (y5 : Int)) && decide ((y5 : Int) < ((List.length y8 : Nat) : Int))) (.br (decide (0 ≤ (y5 : Int)) && decide ((y5 : Int) < ((List.length y7 : Nat) : Int))) (.br (decide (0 ≤ (List.getD y8 (Int.toNat y5) 0 : Int)) && decide ((List.getD y8 (Int.toNat y5) 0 : Int) < ((List.length y6 : Nat) : Int))) (.ok (.inl (.inl (y0, y1, y2, y3, y4, IntKind.wrap .i64 (y5 + 1), List.set y6 (Int.toNat (List.getD y8 (Int.toNat y5) 0)) (List.getD y7 (Int.toNat y5) 0), y7, y8)))) .bad) .bad) .bad) (.ok (.inr (.inl (y0, y1, y2, y3, y6, y7))))

noncomputable def iByRights_l17_t1 (y0 : Int) (y1 : List Int) (y2 : List Int) (y3 : Int) (y4 : Int) (y5 : Int) (y6 : List Int) (y7 : List Int) (y8 : List Int) : Tr (((Int × List Int × List Int × Int × Int × Int × List Int × List Int × List Int) ⊕ (Int × List Int × List Int × Int × Int × Int × List Int × List Int × List Int)) ⊕ ((Int × List Int × List Int × Int × List Int × List Int) ⊕ (Int × List Int × List Int × Int × List Int × List Int))) :=
  .br (decide ((y5 : Int) < y4)) (.br (decide (0 ≤ (y5 : Int)) && decide ((y5 : Int) < ((List.length y8 : Nat) : Int))) (.br (decide (0 ≤ (y5 : Int)) && decide ((y5 : Int) < ((List.length y7 : Nat) : Int))) (.br (decide (0 ≤ (List.getD y8 (Int.toNat y5) 0 : Int)) && decide ((List.getD y8 (Int.toNat y5) 0 : Int) < ((List.length y6 : Nat) : Int))) (.ok (.inl (.inr (y0, y1, y2, y3, y4, IntKind.wrap .i64 (y5 + 1), List.set y6 (Int.toNat (List.getD y8 (Int.toNat y5) 0)) (List.getD y7 (Int.toNat y5) 0), y7, y8)))) .bad) .bad) .bad) (.ok (.inr (.inr (y0, y1, y2, y3, y6, y7))))

noncomputable def iByRights_l17_s : ((Int × List Int × List Int × Int × Int × Int × List Int × List Int × List Int) ⊕ (Int × List Int × List Int × Int × Int × Int × List Int × List Int × List Int)) → Option (((Int × List Int × List Int × Int × Int × Int × List Int × List Int × List Int) ⊕ (Int × List Int × List Int × Int × Int × Int × List Int × List Int × List Int)) ⊕ ((Int × List Int × List Int × Int × List Int × List Int) ⊕ (Int × List Int × List Int × Int × List Int × List Int)))
  | (.inl y) => (iByRights_l17_t0 y.1 y.2.1 y.2.2.1 y.2.2.2.1 y.2.2.2.2.1 y.2.2.2.2.2.1 y.2.2.2.2.2.2.1 y.2.2.2.2.2.2.2.1 y.2.2.2.2.2.2.2.2).sem
  | (.inr y) => (iByRights_l17_t1 y.1 y.2.1 y.2.2.1 y.2.2.2.1 y.2.2.2.2.1 y.2.2.2.2.2.1 y.2.2.2.2.2.2.1 y.2.2.2.2.2.2.2.1 y.2.2.2.2.2.2.2.2).sem

noncomputable def iByRights_l17 (x : (Int × List Int × List Int × Int × Int × Int × List Int × List Int × List Int) ⊕ (Int × List Int × List Int × Int × Int × Int × List Int × List Int × List Int)) : Option ((Int × List Int × List Int × Int × List Int × List Int) ⊕ (Int × List Int × List Int × Int × List Int × List Int)) := runL iByRights_l17_s x

noncomputable def iByRights_l5_o1 (v4 : (Int × ((List Int) × ((List Int) × (Int × ((List Int) × (List Int)))))) ⊕ (Int × ((List Int) × ((List Int) × (Int × ((List Int) × (List Int))))))) (v5 : Int) : Tr ((Int × List Int × List Int × Int × List Int) ⊕ (List Int)) :=
  .ok (.inl (IntKind.wrap .i64 (((unL v4).1) - v5), ((unL v4).2).1, (((unL v4).2).2).1, IntKind.wrap .i64 ((((((unL v4).2).2).2).1) + 1), (((((unL v4).2).2).2).2).1))

noncomputable def iByRights_l5_o2 (v4 : (Int × ((List Int) × ((List Int) × (Int × ((List Int) × (List Int)))))) ⊕ (Int × ((List Int) × ((List Int) × (Int × ((List Int) × (List Int))))))) (v6 : Int) : Tr ((Int × List Int × List Int × Int × List Int) ⊕ (List Int)) :=
  .ok (.inl (IntKind.wrap .i64 (((unR v4).1) - v6), ((unR v4).2).1, (((unR v4).2).2).1, IntKind.wrap .i64 ((((((unR v4).2).2).2).1) + 1), (((((unR v4).2).2).2).2).1))

noncomputable def iByRights_l5_o3 (v4 : (Int × ((List Int) × ((List Int) × (Int × ((List Int) × (List Int)))))) ⊕ (Int × ((List Int) × ((List Int) × (Int × ((List Int) × (List Int))))))) : Tr ((Int × List Int × List Int × Int × List Int) ⊕ (List Int)) :=
  .br (isL v4) (.br (osome (itotal [(((((unL v4).2).2).2).2).2])) (iByRights_l5_o1 v4 (oget (itotal [(((((unL v4).2).2).2).2).2]))) .bad) (.br (osome (itotal [(((((unR v4).2).2).2).2).2])) (iByRights_l5_o2 v4 (oget (itotal [(((((unR v4).2).2).2).2).2]))) .bad)

noncomputable def iByRights_l5_o4 (v1 : Int × ((List Int) × ((List Int) × (Int × ((List Int) × ((List Int) × (List Int))))))) (v3 : List Int) : Tr ((Int × List Int × List Int × Int × List Int) ⊕ (List Int)) :=
  .br (osome (iByRights_l17 (.inl ((v1.1, (v1.2.1, (v1.2.2.1, (v1.2.2.2.1, (((List.length v1.2.2.2.2.2.2 : Nat) : Int), (0, (v1.2.2.2.2.1, (v3, v1.2.2.2.2.2.2)))))))))))) (iByRights_l5_o3 (oget (iByRights_l17 (.inl ((v1.1, (v1.2.1, (v1.2.2.1, (v1.2.2.2.1, (((List.length v1.2.2.2.2.2.2 : Nat) : Int), (0, (v1.2.2.2.2.1, (v3, v1.2.2.2.2.2.2))))))))))))) .bad

noncomputable def iByRights_l5_o5 (v7 : (Int × ((List Int) × ((List Int) × (Int × ((List Int) × (List Int)))))) ⊕ (Int × ((List Int) × ((List Int) × (Int × ((List Int) × (List Int))))))) (v8 : Int) : Tr ((Int × List Int × List Int × Int × List Int) ⊕ (List Int)) :=
  .ok (.inl (IntKind.wrap .i64 (((unL v7).1) - v8), ((unL v7).2).1, (((unL v7).2).2).1, IntKind.wrap .i64 ((((((unL v7).2).2).2).1) + 1), (((((unL v7).2).2).2).2).1))

noncomputable def iByRights_l5_o6 (v7 : (Int × ((List Int) × ((List Int) × (Int × ((List Int) × (List Int)))))) ⊕ (Int × ((List Int) × ((List Int) × (Int × ((List Int) × (List Int))))))) (v9 : Int) : Tr ((Int × List Int × List Int × Int × List Int) ⊕ (List Int)) :=
  .ok (.inl (IntKind.wrap .i64 (((unR v7).1) - v9), ((unR v7).2).1, (((unR v7).2).2).1, IntKind.wrap .i64 ((((((unR v7).2).2).2).1) + 1), (((((unR v7).2).2).2).2).1))

noncomputable def iByRights_l5_o7 (v7 : (Int × ((List Int) × ((List Int) × (Int × ((List Int) × (List Int)))))) ⊕ (Int × ((List Int) × ((List Int) × (Int × ((List Int) × (List Int))))))) : Tr ((Int × List Int × List Int × Int × List Int) ⊕ (List Int)) :=
  .br (isL v7) (.br (osome (itotal [(((((unL v7).2).2).2).2).2])) (iByRights_l5_o5 v7 (oget (itotal [(((((unL v7).2).2).2).2).2]))) .bad) (.br (osome (itotal [(((((unR v7).2).2).2).2).2])) (iByRights_l5_o6 v7 (oget (itotal [(((((unR v7).2).2).2).2).2]))) .bad)

noncomputable def iByRights_l5_o8 (v1 : Int × ((List Int) × ((List Int) × (Int × ((List Int) × ((List Int) × (List Int))))))) (v2 : Int) : Tr ((Int × List Int × List Int × Int × List Int) ⊕ (List Int)) :=
  .br (decide ((v2 : Int) > v1.1)) (.br (osome (isplit v1.1 v1.2.2.2.2.2.1)) (iByRights_l5_o4 v1 (oget (isplit v1.1 v1.2.2.2.2.2.1))) .bad) (.br (osome (iByRights_l17 (.inr ((v1.1, (v1.2.1, (v1.2.2.1, (v1.2.2.2.1, (((List.length v1.2.2.2.2.2.2 : Nat) : Int), (0, v1.2.2.2.2)))))))))) (iByRights_l5_o7 (oget (iByRights_l17 (.inr ((v1.1, (v1.2.1, (v1.2.2.1, (v1.2.2.2.1, (((List.length v1.2.2.2.2.2.2 : Nat) : Int), (0, v1.2.2.2.2))))))))))) .bad)

noncomputable def iByRights_l5_o9 (v1 : Int × ((List Int) × ((List Int) × (Int × ((List Int) × ((List Int) × (List Int))))))) : Tr ((Int × List Int × List Int × Int × List Int) ⊕ (List Int)) :=
  .br (osome (itotal [v1.2.2.2.2.2.1])) (iByRights_l5_o8 v1 (oget (itotal [v1.2.2.2.2.2.1]))) .bad

noncomputable def iByRights_l5_t  (y0 : Int) (y1 : List Int) (y2 : List Int) (y3 : Int) (y4 : List Int) : Tr ((Int × List Int × List Int × Int × List Int) ⊕ (List Int)) :=
  .br (decide ((y3 : Int) ≤ 64)) (.br (osome (iByRights_l9 y0 y1 y2 y3 y2 (((List.length y2 : Nat) : Int)) 0 y4 [] [])) (iByRights_l5_o9 (oget (iByRights_l9 y0 y1 y2 y3 y2 (((List.length y2 : Nat) : Int)) 0 y4 [] []))) .bad) (.ok (.inr y4))

noncomputable def iByRights_l5 (y0 : Int) (y1 : List Int) (y2 : List Int) (y3 : Int) (y4 : List Int) : Option (List Int) := runL (fun s : Int × List Int × List Int × Int × List Int => (iByRights_l5_t  s.1 s.2.1 s.2.2.1 s.2.2.2.1 s.2.2.2.2).sem) (y0, y1, y2, y3, y4)

noncomputable def iByRights_t (x0 : Int) (x1 : List Int) (x2 : List Int) : Tr (Unit ⊕ (List Int)) :=
  .br (osome (iareUnits x0 x1)) (.br (!(oget (iareUnits x0 x1))) (.ok (.inl ())) (.br ((((List.length x2 : Nat) : Int) : Int) != (((List.length x1 : Nat) : Int))) (.ok (.inl ())) (.br (osome (iareWithin x2 0 64)) (.br (!(oget (iareWithin x2 0 64))) (.ok (.inl ())) (.br (decide ((((List.length x1 : Nat) : Int) : Int) = (((List.length x1 : Nat) : Int))) && decide (0 ≤ (((List.length x1 : Nat) : Int) : Int)) && decide ((((List.length x1 : Nat) : Int) : Int) * ((8 : Nat) : Int) ≤ 140737488355328)) (.br (osome (iByRights_l5 x0 x1 x2 0 (List.replicate (Int.toNat (((List.length x1 : Nat) : Int))) 0))) (.ok (.inr (oget (iByRights_l5 x0 x1 x2 0 (List.replicate (Int.toNat (((List.length x1 : Nat) : Int))) 0))))) .bad) .bad)) .bad))) .bad

noncomputable def iByRights (x0 : Int) (x1 : List Int) (x2 : List Int) : Option (Unit ⊕ (List Int)) := (iByRights_t x0 x1 x2).sem

noncomputable def iHalfWay_l10_t (y0 : List (List Int)) (y1 : List (List Int)) (y2 : Int) (y3 : Int) (y4 : List Int) (y5 : Int) (y6 : Int) (y7 : List Int) : Tr ((Int × List Int) ⊕ (List (List Int) × List (List Int) × Int × Int × List Int)) :=
  .br (decide ((y6 : Int) < y5)) (.br (decide (0 ≤ (y6 : Int)) && decide ((y6 : Int) < ((List.length y4 : Nat) : Int))) (.br (decide (0 ≤ (y6 : Int)) && decide ((y6 : Int) < ((List.length y7 : Nat) : Int))) (.br (decide (0 ≤ (y6 : Int)) && decide ((y6 : Int) < ((List.length y7 : Nat) : Int))) (.ok (.inl (IntKind.wrap .i64 (y6 + 1), List.set y7 (Int.toNat y6) (IntKind.wrap .i64 ((List.getD y7 (Int.toNat y6) 0) + (List.getD y4 (Int.toNat y6) 0)))))) .bad) .bad) .bad) (.ok (.inr (y0, y1, y2, y3, y7)))

noncomputable def iHalfWay_l10 (y0 : List (List Int)) (y1 : List (List Int)) (y2 : Int) (y3 : Int) (y4 : List Int) (y5 : Int) (y6 : Int) (y7 : List Int) : Option (List (List Int) × List (List Int) × Int × Int × List Int) := runL (fun s : Int × List Int => (iHalfWay_l10_t y0 y1 y2 y3 y4 y5 s.1 s.2).sem) (y6, y7)

noncomputable def iHalfWay_l21_t (y0 : List (List Int)) (y1 : Int) (y2 : Int) (y4 : Int) (y5 : Int) (y6 : List (List Int)) (y7 : Int) (y9 : List Int) (y10 : List Int) (y3 : Int) (y8 : Int) : Tr ((Int × Int) ⊕ (List (List Int) × Int × Int × List Int × List Int)) :=
  .br (decide ((y8 : Int) < y7)) (.br (decide (0 ≤ (y8 : Int)) && decide ((y8 : Int) < ((List.length y6 : Nat) : Int))) (.br (decide (0 ≤ (y1 : Int)) && decide ((y1 : Int) < ((List.length (List.getD y6 (Int.toNat y8) []) : Nat) : Int))) (.br (decide ((IntKind.wrap .i64 (2 * (IntKind.wrap .i64 (y3 + (List.getD (List.getD y6 (Int.toNat y8) []) (Int.toNat y1) 0)))) : Int) ≥ y2)) (.br (decide ((List.length y9 + List.length [y8]) * 8 ≤ 140737488355328)) (.ok (.inr (y0, y4, y5, y9 ++ [y8], y10))) .bad) (.ok (.inl (IntKind.wrap .i64 (y3 + (List.getD (List.getD y6 (Int.toNat y8) []) (Int.toNat y1) 0)), IntKind.wrap .i64 (y8 + 1))))) .bad) .bad) (.ok (.inr (y0, y4, y5, y9, y10)))

noncomputable def iHalfWay_l21 (y0 : List (List Int)) (y1 : Int) (y2 : Int) (y3 : Int) (y4 : Int) (y5 : Int) (y6 : List (List Int)) (y7 : Int) (y8 : Int) (y9 : List Int) (y10 : List Int) : Option (List (List Int) × Int × Int × List Int × List Int) := runL (fun s : Int × Int => (iHalfWay_l21_t y0 y1 y2 y4 y5 y6 y7 y9 y10 s.1 s.2).sem) (y3, y8)

noncomputable def iHalfWay_l5_t  (y0 : List (List Int)) (y1 : List (List Int)) (y2 : Int) (y3 : Int) (y4 : List Int) : Tr ((List (List Int) × List (List Int) × Int × Int × List Int) ⊕ (Unit ⊕ (List (List Int) × List Int))) :=
  .br (decide ((y3 : Int) < y2)) (.br (decide (0 ≤ (y3 : Int)) && decide ((y3 : Int) < ((List.length y1 : Nat) : Int))) (.br ((((List.length (List.getD y1 (Int.toNat y3) []) : Nat) : Int) : Int) != (((List.length y4 : Nat) : Int))) (.ok (.inr (.inl ()))) (.br (osome (iareWithin (List.getD y1 (Int.toNat y3) []) 0 1000000000)) (.br (!(oget (iareWithin (List.getD y1 (Int.toNat y3) []) 0 1000000000))) (.ok (.inr (.inl ()))) (.br (osome (iHalfWay_l10 y0 y1 y2 y3 (List.getD y1 (Int.toNat y3) []) (((List.length (List.getD y1 (Int.toNat y3) []) : Nat) : Int)) 0 y4)) (.ok (.inl ((oget (iHalfWay_l10 y0 y1 y2 y3 (List.getD y1 (Int.toNat y3) []) (((List.length (List.getD y1 (Int.toNat y3) []) : Nat) : Int)) 0 y4)).1, (oget (iHalfWay_l10 y0 y1 y2 y3 (List.getD y1 (Int.toNat y3) []) (((List.length (List.getD y1 (Int.toNat y3) []) : Nat) : Int)) 0 y4)).2.1, (oget (iHalfWay_l10 y0 y1 y2 y3 (List.getD y1 (Int.toNat y3) []) (((List.length (List.getD y1 (Int.toNat y3) []) : Nat) : Int)) 0 y4)).2.2.1, IntKind.wrap .i64 ((oget (iHalfWay_l10 y0 y1 y2 y3 (List.getD y1 (Int.toNat y3) []) (((List.length (List.getD y1 (Int.toNat y3) []) : Nat) : Int)) 0 y4)).2.2.2.1 + 1), (oget (iHalfWay_l10 y0 y1 y2 y3 (List.getD y1 (Int.toNat y3) []) (((List.length (List.getD y1 (Int.toNat y3) []) : Nat) : Int)) 0 y4)).2.2.2.2))) .bad)) .bad)) .bad) (.ok (.inr (.inr (y0, y4))))

noncomputable def iHalfWay_l5 (y0 : List (List Int)) (y1 : List (List Int)) (y2 : Int) (y3 : Int) (y4 : List Int) : Option (Unit ⊕ (List (List Int) × List Int)) := runL (fun s : List (List Int) × List (List Int) × Int × Int × List Int => (iHalfWay_l5_t  s.1 s.2.1 s.2.2.1 s.2.2.2.1 s.2.2.2.2).sem) (y0, y1, y2, y3, y4)

noncomputable def iHalfWay_l17_t  (y0 : List (List Int)) (y1 : Int) (y2 : Int) (y3 : List Int) (y4 : List Int) : Tr ((List (List Int) × Int × Int × List Int × List Int) ⊕ (List Int)) :=
  .br (decide ((y2 : Int) < y1)) (.br (decide (0 ≤ (y2 : Int)) && decide ((y2 : Int) < ((List.length y4 : Nat) : Int))) (.br (osome (iHalfWay_l21 y0 y2 (List.getD y4 (Int.toNat y2) 0) 0 y1 y2 y0 (((List.length y0 : Nat) : Int)) 0 y3 y4)) (.ok (.inl ((oget (iHalfWay_l21 y0 y2 (List.getD y4 (Int.toNat y2) 0) 0 y1 y2 y0 (((List.length y0 : Nat) : Int)) 0 y3 y4)).1, (oget (iHalfWay_l21 y0 y2 (List.getD y4 (Int.toNat y2) 0) 0 y1 y2 y0 (((List.length y0 : Nat) : Int)) 0 y3 y4)).2.1, IntKind.wrap .i64 ((oget (iHalfWay_l21 y0 y2 (List.getD y4 (Int.toNat y2) 0) 0 y1 y2 y0 (((List.length y0 : Nat) : Int)) 0 y3 y4)).2.2.1 + 1), (oget (iHalfWay_l21 y0 y2 (List.getD y4 (Int.toNat y2) 0) 0 y1 y2 y0 (((List.length y0 : Nat) : Int)) 0 y3 y4)).2.2.2.1, (oget (iHalfWay_l21 y0 y2 (List.getD y4 (Int.toNat y2) 0) 0 y1 y2 y0 (((List.length y0 : Nat) : Int)) 0 y3 y4)).2.2.2.2))) .bad) .bad) (.ok (.inr y3))

noncomputable def iHalfWay_l17 (y0 : List (List Int)) (y1 : Int) (y2 : Int) (y3 : List Int) (y4 : List Int) : Option (List Int) := runL (fun s : List (List Int) × Int × Int × List Int × List Int => (iHalfWay_l17_t  s.1 s.2.1 s.2.2.1 s.2.2.2.1 s.2.2.2.2).sem) (y0, y1, y2, y3, y4)

noncomputable def iHalfWay_t (x0 : List (List Int)) : Tr (Unit ⊕ (List Int)) :=
  .br (! (iwithin (((List.length x0 : Nat) : Int)) 1 64)) (.ok (.inl ())) (.br (decide (0 ≤ (0 : Int)) && decide ((0 : Int) < ((List.length x0 : Nat) : Int))) (.br (! (iwithin (((List.length (List.getD x0 (Int.toNat 0) []) : Nat) : Int)) 1 12)) (.ok (.inl ())) (.br (decide (0 ≤ (0 : Int)) && decide ((0 : Int) < ((List.length x0 : Nat) : Int))) (.br (decide ((((List.length (List.getD x0 (Int.toNat 0) []) : Nat) : Int) : Int) = (((List.length (List.getD x0 (Int.toNat 0) []) : Nat) : Int))) && decide (0 ≤ (((List.length (List.getD x0 (Int.toNat 0) []) : Nat) : Int) : Int)) && decide ((((List.length (List.getD x0 (Int.toNat 0) []) : Nat) : Int) : Int) * ((8 : Nat) : Int) ≤ 140737488355328)) (.br (osome (iHalfWay_l5 x0 x0 (((List.length x0 : Nat) : Int)) 0 (List.replicate (Int.toNat (((List.length (List.getD x0 (Int.toNat 0) []) : Nat) : Int))) 0))) (.br (isL (oget (iHalfWay_l5 x0 x0 (((List.length x0 : Nat) : Int)) 0 (List.replicate (Int.toNat (((List.length (List.getD x0 (Int.toNat 0) []) : Nat) : Int))) 0)))) (.ok (.inl ())) (.br (osome (iHalfWay_l17 ((unR (oget (iHalfWay_l5 x0 x0 (((List.length x0 : Nat) : Int)) 0 (List.replicate (Int.toNat (((List.length (List.getD x0 (Int.toNat 0) []) : Nat) : Int))) 0)))).1) (((List.length ((unR (oget (iHalfWay_l5 x0 x0 (((List.length x0 : Nat) : Int)) 0 (List.replicate (Int.toNat (((List.length (List.getD x0 (Int.toNat 0) []) : Nat) : Int))) 0)))).2) : Nat) : Int)) 0 [] ((unR (oget (iHalfWay_l5 x0 x0 (((List.length x0 : Nat) : Int)) 0 (List.replicate (Int.toNat (((List.length (List.getD x0 (Int.toNat 0) []) : Nat) : Int))) 0)))).2))) (.ok (.inr (oget (iHalfWay_l17 ((unR (oget (iHalfWay_l5 x0 x0 (((List.length x0 : Nat) : Int)) 0 (List.replicate (Int.toNat (((List.length (List.getD x0 (Int.toNat 0) []) : Nat) : Int))) 0)))).1) (((List.length ((unR (oget (iHalfWay_l5 x0 x0 (((List.length x0 : Nat) : Int)) 0 (List.replicate (Int.toNat (((List.length (List.getD x0 (Int.toNat 0) []) : Nat) : Int))) 0)))).2) : Nat) : Int)) 0 [] ((unR (oget (iHalfWay_l5 x0 x0 (((List.length x0 : Nat) : Int)) 0 (List.replicate (Int.toNat (((List.length (List.getD x0 (Int.toNat 0) []) : Nat) : Int))) 0)))).2))))) .bad)) .bad) .bad) .bad)) .bad)

noncomputable def iHalfWay (x0 : List (List Int)) : Option (Unit ⊕ (List Int)) := (iHalfWay_t x0).sem

noncomputable def wFnSplits_l38_t (y0 : Int) (y1 : Int) (y2 : Int) (y5 : Int) (y7 : List Int) (y8 : List Int) (y9 : List Int) (y3 : Int) (y4 : Int) (y6 : Int) : Tr ((Int × Int × Int) ⊕ (Unit ⊕ (Int × Int × Int × Int × Int × Int × List Int × List Int × List Int))) :=
  .br (decide ((y6 : Int) < y0)) (.br (decide (0 ≤ (y6 : Int)) && decide ((y6 : Int) < ((List.length y8 : Nat) : Int))) (.br ((List.getD y8 (Int.toNat y6) 0 : Int) != y5) (.ok (.inl (y3, y4, IntKind.wrap .i64 (y6 + 1)))) (.br (decide (0 ≤ (y6 : Int)) && decide ((y6 : Int) < ((List.length y9 : Nat) : Int))) (.br (decide (0 ≤ (y6 : Int)) && decide ((y6 : Int) < ((List.length y9 : Nat) : Int))) (.br (decide ((List.getD y9 (Int.toNat y6) 0 : Int) < 0)) (.ok (.inr (.inl ()))) (.br (decide (0 ≤ (y6 : Int)) && decide ((y6 : Int) < ((List.length y9 : Nat) : Int))) (.br (decide (0 ≤ (y6 : Int)) && decide ((y6 : Int) < ((List.length y7 : Nat) : Int))) (.br (decide ((List.getD y9 (Int.toNat y6) 0 : Int) > (List.getD y7 (Int.toNat y6) 0))) (.ok (.inr (.inl ()))) (.br (decide ((y4 : Int) ≥ 0)) (.br (decide ((y4 : Int) < y5)) (.br (decide (0 ≤ (y6 : Int)) && decide ((y6 : Int) < ((List.length y9 : Nat) : Int))) (.br ((List.getD y9 (Int.toNat y6) 0 : Int) != 0) (.ok (.inr (.inl ()))) (.br (decide (0 ≤ (y6 : Int)) && decide ((y6 : Int) < ((List.length y9 : Nat) : Int))) (.br (decide (0 ≤ (y6 : Int)) && decide ((y6 : Int) < ((List.length y7 : Nat) : Int))) (.br (decide ((List.getD y9 (Int.toNat y6) 0 : Int) < (List.getD y7 (Int.toNat y6) 0))) (.br (decide ((y4 : Int) < 0)) (.ok (.inl (IntKind.wrap .i64 (y3 + (List.getD y9 (Int.toNat y6) 0)), y5, IntKind.wrap .i64 (y6 + 1)))) (.ok (.inl (IntKind.wrap .i64 (y3 + (List.getD y9 (Int.toNat y6) 0)), y4, IntKind.wrap .i64 (y6 + 1))))) (.ok (.inl (IntKind.wrap .i64 (y3 + (List.getD y9 (Int.toNat y6) 0)), y4, IntKind.wrap .i64 (y6 + 1))))) .bad) .bad)) .bad) (.br (decide (0 ≤ (y6 : Int)) && decide ((y6 : Int) < ((List.length y9 : Nat) : Int))) (.br (decide (0 ≤ (y6 : Int)) && decide ((y6 : Int) < ((List.length y7 : Nat) : Int))) (.br (decide ((List.getD y9 (Int.toNat y6) 0 : Int) < (List.getD y7 (Int.toNat y6) 0))) (.br (decide ((y4 : Int) < 0)) (.ok (.inl (IntKind.wrap .i64 (y3 + (List.getD y9 (Int.toNat y6) 0)), y5, IntKind.wrap .i64 (y6 + 1)))) (.ok (.inl (IntKind.wrap .i64 (y3 + (List.getD y9 (Int.toNat y6) 0)), y4, IntKind.wrap .i64 (y6 + 1))))) (.ok (.inl (IntKind.wrap .i64 (y3 + (List.getD y9 (Int.toNat y6) 0)), y4, IntKind.wrap .i64 (y6 + 1))))) .bad) .bad)) (.br (decide (0 ≤ (y6 : Int)) && decide ((y6 : Int) < ((List.length y9 : Nat) : Int))) (.br (decide (0 ≤ (y6 : Int)) && decide ((y6 : Int) < ((List.length y7 : Nat) : Int))) (.br (decide ((List.getD y9 (Int.toNat y6) 0 : Int) < (List.getD y7 (Int.toNat y6) 0))) (.br (decide ((y4 : Int) < 0)) (.ok (.inl (IntKind.wrap .i64 (y3 + (List.getD y9 (Int.toNat y6) 0)), y5, IntKind.wrap .i64 (y6 + 1)))) (.ok (.inl (IntKind.wrap .i64 (y3 + (List.getD y9 (Int.toNat y6) 0)), y4, IntKind.wrap .i64 (y6 + 1))))) (.ok (.inl (IntKind.wrap .i64 (y3 + (List.getD y9 (Int.toNat y6) 0)), y4, IntKind.wrap .i64 (y6 + 1))))) .bad) .bad))) .bad) .bad)) .bad) .bad)) .bad) (.ok (.inr (.inr (y0, y1, y2, y3, y4, y5, y7, y8, y9))))

noncomputable def wFnSplits_l38 (y0 : Int) (y1 : Int) (y2 : Int) (y3 : Int) (y4 : Int) (y5 : Int) (y6 : Int) (y7 : List Int) (y8 : List Int) (y9 : List Int) : Option (Unit ⊕ (Int × Int × Int × Int × Int × Int × List Int × List Int × List Int)) := runL (fun s : Int × Int × Int => (wFnSplits_l38_t y0 y1 y2 y5 y7 y8 y9 s.1 s.2.1 s.2.2).sem) (y3, y4, y6)

noncomputable def wFnSplits_l12_t (y0 : List Int) (y1 : Int) (y2 : Int) (y6 : List Int) (y7 : List Int) (y3 : Int) (y4 : Int) (y5 : Int) : Tr ((Int × Int × Int) ⊕ (List Int × Int × Int × Int × Int × List Int × List Int)) :=
  .br (decide ((y5 : Int) < y1)) (.br (decide (0 ≤ (y5 : Int)) && decide ((y5 : Int) < ((List.length y6 : Nat) : Int))) (.br (decide (0 ≤ (y5 : Int)) && decide ((y5 : Int) < ((List.length y7 : Nat) : Int))) (.ok (.inl (IntKind.wrap .i64 (y3 + (List.getD y6 (Int.toNat y5) 0)), IntKind.wrap .i64 (y4 + (List.getD y7 (Int.toNat y5) 0)), IntKind.wrap .i64 (y5 + 1)))) .bad) .bad) (.ok (.inr (y0, y1, y2, y3, y4, y6, y7)))

noncomputable def wFnSplits_l12 (y0 : List Int) (y1 : Int) (y2 : Int) (y3 : Int) (y4 : Int) (y5 : Int) (y6 : List Int) (y7 : List Int) : Option (List Int × Int × Int × Int × Int × List Int × List Int) := runL (fun s : Int × Int × Int => (wFnSplits_l12_t y0 y1 y2 y6 y7 s.1 s.2.1 s.2.2).sem) (y3, y4, y5)

noncomputable def wFnSplits_l17_t (y0 : List Int) (y1 : Int) (y2 : Int) (y3 : Int) (y4 : Int) (y6 : List Int) (y7 : List Int) (y5 : Int) : Tr (Int ⊕ (Unit ⊕ (List Int × Int × Int × Int × Int × List Int))) :=
  .br (decide ((y5 : Int) < y1)) (.br (decide (0 ≤ (y5 : Int)) && decide ((y5 : Int) < ((List.length y6 : Nat) : Int))) (.br (decide (y3 ≠ (0 : Int))) (.br (decide (0 ≤ (y5 : Int)) && decide ((y5 : Int) < ((List.length y7 : Nat) : Int))) (.br ((List.getD y7 (Int.toNat y5) 0 : Int) != (IntKind.wrap .i64 (Int.tdiv (IntKind.wrap .i64 (y2 * (List.getD y6 (Int.toNat y5) 0))) y3))) (.br (decide (0 ≤ (y5 : Int)) && decide ((y5 : Int) < ((List.length y7 : Nat) : Int))) (.br ((List.getD y7 (Int.toNat y5) 0 : Int) != (IntKind.wrap .i64 ((IntKind.wrap .i64 (Int.tdiv (IntKind.wrap .i64 (y2 * (List.getD y6 (Int.toNat y5) 0))) y3)) + 1))) (.ok (.inr (.inl ()))) (.br (decide (0 ≤ (y5 : Int)) && decide ((y5 : Int) < ((List.length y6 : Nat) : Int))) (.br ((List.getD y6 (Int.toNat y5) 0 : Int) == 0) (.br (decide (0 ≤ (y5 : Int)) && decide ((y5 : Int) < ((List.length y7 : Nat) : Int))) (.br ((List.getD y7 (Int.toNat y5) 0 : Int) != 0) (.ok (.inr (.inl ()))) (.ok (.inl (IntKind.wrap .i64 (y5 + 1))))) .bad) (.ok (.inl (IntKind.wrap .i64 (y5 + 1))))) .bad)) .bad) (.br (decide (0 ≤ (y5 : Int)) && decide ((y5 : Int) < ((List.length y6 : Nat) : Int))) (.br ((List.getD y6 (Int.toNat y5) 0 : Int) == 0) (.br (decide (0 ≤ (y5 : Int)) && decide ((y5 : Int) < ((List.length y7 : Nat) : Int))) (.br ((List.getD y7 (Int.toNat y5) 0 : Int) != 0) (.ok (.inr (.inl ()))) (.ok (.inl (IntKind.wrap .i64 (y5 + 1))))) .bad) (.ok (.inl (IntKind.wrap .i64 (y5 + 1))))) .bad)) .bad) .bad) .bad) (.ok (.inr (.inr (y0, y1, y2, y3, y4, y6))))

noncomputable def wFnSplits_l17 (y0 : List Int) (y1 : Int) (y2 : Int) (y3 : Int) (y4 : Int) (y5 : Int) (y6 : List Int) (y7 : List Int) : Option (Unit ⊕ (List Int × Int × Int × Int × Int × List Int)) := runL (fun s : Int => (wFnSplits_l17_t y0 y1 y2 y3 y4 y6 y7 s).sem) y5

noncomputable def wFnSplits_l26_t (y0 : List Int) (y1 : Int) (y2 : Int) (y3 : Int) (y5 : List Int) (y4 : Int) (y6 : List Int) : Tr ((Int × List Int) ⊕ (Int × Int × Int × List Int × List Int)) :=
  .br (decide ((y4 : Int) < y1)) (.br (osome (wr8At y0 y4 3)) (.br (decide ((List.length y6 + List.length [(oget (wr8At y0 y4 3))]) * 8 ≤ 140737488355328)) (.ok (.inl (IntKind.wrap .i64 (y4 + 1), y6 ++ [(oget (wr8At y0 y4 3))]))) .bad) .bad) (.ok (.inr (y1, y2, y3, y5, y6)))

noncomputable def wFnSplits_l26 (y0 : List Int) (y1 : Int) (y2 : Int) (y3 : Int) (y4 : Int) (y5 : List Int) (y6 : List Int) : Option (Int × Int × Int × List Int × List Int) := runL (fun s : Int × List Int => (wFnSplits_l26_t y0 y1 y2 y3 y5 s.1 s.2).sem) (y4, y6)

noncomputable def wFnSplits_l35_t  (y0 : Int) (y1 : Int) (y2 : Int) (y3 : Int) (y4 : Int) (y5 : Int) (y6 : List Int) (y7 : List Int) (y8 : List Int) : Tr ((Int × Int × Int × Int × Int × Int × List Int × List Int × List Int) ⊕ (Unit ⊕ (Int × Int × Int × Int × List Int))) :=
  .br (decide ((y5 : Int) < 3)) (.br (osome (wFnSplits_l38 y0 y1 y2 y3 y4 y5 0 y6 y7 y8)) (.br (isL (oget (wFnSplits_l38 y0 y1 y2 y3 y4 y5 0 y6 y7 y8))) (.ok (.inr (.inl ()))) (.ok (.inl ((unR (oget (wFnSplits_l38 y0 y1 y2 y3 y4 y5 0 y6 y7 y8))).1, ((unR (oget (wFnSplits_l38 y0 y1 y2 y3 y4 y5 0 y6 y7 y8))).2).1, (((unR (oget (wFnSplits_l38 y0 y1 y2 y3 y4 y5 0 y6 y7 y8))).2).2).1, ((((unR (oget (wFnSplits_l38 y0 y1 y2 y3 y4 y5 0 y6 y7 y8))).2).2).2).1, (((((unR (oget (wFnSplits_l38 y0 y1 y2 y3 y4 y5 0 y6 y7 y8))).2).2).2).2).1, IntKind.wrap .i64 ((((((((unR (oget (wFnSplits_l38 y0 y1 y2 y3 y4 y5 0 y6 y7 y8))).2).2).2).2).2).1) + 1), (((((((unR (oget (wFnSplits_l38 y0 y1 y2 y3 y4 y5 0 y6 y7 y8))).2).2).2).2).2).2).1, ((((((((unR (oget (wFnSplits_l38 y0 y1 y2 y3 y4 y5 0 y6 y7 y8))).2).2).2).2).2).2).2).1, ((((((((unR (oget (wFnSplits_l38 y0 y1 y2 y3 y4 y5 0 y6 y7 y8))).2).2).2).2).2).2).2).2)))) .bad) (.ok (.inr (.inr (y0, y1, y2, y3, y6))))

noncomputable def wFnSplits_l35 (y0 : Int) (y1 : Int) (y2 : Int) (y3 : Int) (y4 : Int) (y5 : Int) (y6 : List Int) (y7 : List Int) (y8 : List Int) : Option (Unit ⊕ (Int × Int × Int × Int × List Int)) := runL (fun s : Int × Int × Int × Int × Int × Int × List Int × List Int × List Int => (wFnSplits_l35_t  s.1 s.2.1 s.2.2.1 s.2.2.2.1 s.2.2.2.2.1 s.2.2.2.2.2.1 s.2.2.2.2.2.2.1 s.2.2.2.2.2.2.2.1 s.2.2.2.2.2.2.2.2).sem) (y0, y1, y2, y3, y4, y5, y6, y7, y8)

noncomputable def wFnSplits_l55_t (y0 : Int) (y2 : List Int) (y3 : List Int) (y1 : Int) : Tr (Int ⊕ (Unit ⊕ Unit)) :=
  .br (decide ((y1 : Int) < y0)) (.br (decide (0 ≤ (y1 : Int)) && decide ((y1 : Int) < ((List.length y2 : Nat) : Int))) (.br ((List.getD y2 (Int.toNat y1) 0 : Int) == 0) (.br (decide (0 ≤ (y1 : Int)) && decide ((y1 : Int) < ((List.length y3 : Nat) : Int))) (.br ((List.getD y3 (Int.toNat y1) 0 : Int) != 0) (.ok (.inr (.inl ()))) (.br (decide (0 ≤ (y1 : Int)) && decide ((y1 : Int) < ((List.length y2 : Nat) : Int))) (.br (decide ((List.getD y2 (Int.toNat y1) 0 : Int) > 0)) (.br (decide (0 ≤ (y1 : Int)) && decide ((y1 : Int) < ((List.length y3 : Nat) : Int))) (.br ((List.getD y3 (Int.toNat y1) 0 : Int) != 1) (.ok (.inr (.inl ()))) (.ok (.inl (IntKind.wrap .i64 (y1 + 1))))) .bad) (.ok (.inl (IntKind.wrap .i64 (y1 + 1))))) .bad)) .bad) (.br (decide (0 ≤ (y1 : Int)) && decide ((y1 : Int) < ((List.length y2 : Nat) : Int))) (.br (decide ((List.getD y2 (Int.toNat y1) 0 : Int) > 0)) (.br (decide (0 ≤ (y1 : Int)) && decide ((y1 : Int) < ((List.length y3 : Nat) : Int))) (.br ((List.getD y3 (Int.toNat y1) 0 : Int) != 1) (.ok (.inr (.inl ()))) (.ok (.inl (IntKind.wrap .i64 (y1 + 1))))) .bad) (.ok (.inl (IntKind.wrap .i64 (y1 + 1))))) .bad)) .bad) (.ok (.inr (.inr ())))

noncomputable def wFnSplits_l55 (y0 : Int) (y1 : Int) (y2 : List Int) (y3 : List Int) : Option (Unit ⊕ Unit) := runL (fun s : Int => (wFnSplits_l55_t y0 y2 y3 s).sem) y1

noncomputable def wFnSplits_o1 (v10 : Unit ⊕ Unit) : Tr (Bool) :=
  .br (isL v10) (.ok false) (.ok true)

noncomputable def wFnSplits_o2 (v8 : Unit ⊕ (Int × (Int × (Int × (Int × (List Int)))))) (v9 : Unit ⊕ (List Int)) : Tr (Bool) :=
  .br (isL v9) (.ok false) (.br ((((List.length (unR v9) : Nat) : Int) : Int) != ((unR v8).1)) (.ok false) (.br (osome (wFnSplits_l55 ((unR v8).1) 0 (((((unR v8).2).2).2).2) (unR v9))) (wFnSplits_o1 (oget (wFnSplits_l55 ((unR v8).1) 0 (((((unR v8).2).2).2).2) (unR v9)))) .bad))

noncomputable def wFnSplits_o3 (v8 : Unit ⊕ (Int × (Int × (Int × (Int × (List Int)))))) : Tr (Bool) :=
  .br (isL v8) (.ok false) (.br ((((((unR v8).2).2).2).1 : Int) != (imin (((unR v8).2).1) ((((unR v8).2).2).1))) (.ok false) (.br (decide (((unR v8).1 : Int) > 12)) (.ok true) (.br (osome (iHalfWay [((((unR v8).2).2).2).2, ((((unR v8).2).2).2).2, ((((unR v8).2).2).2).2])) (wFnSplits_o2 v8 (oget (iHalfWay [((((unR v8).2).2).2).2, ((((unR v8).2).2).2).2, ((((unR v8).2).2).2).2]))) .bad)))

noncomputable def wFnSplits_o4 (v6 : Int × (Int × (Int × ((List Int) × (List Int))))) (v7 : Unit ⊕ (List Int)) : Tr (Bool) :=
  .br (isL v7) (.ok false) (.br ((((List.length (unR v7) : Nat) : Int) : Int) != v6.1) (.ok false) (.br (osome (wFnSplits_l35 v6.1 v6.2.1 v6.2.2.1 0 (-1) 0 v6.2.2.2.1 v6.2.2.2.2 (unR v7))) (wFnSplits_o3 (oget (wFnSplits_l35 v6.1 v6.2.1 v6.2.2.1 0 (-1) 0 v6.2.2.2.1 v6.2.2.2.2 (unR v7)))) .bad))

noncomputable def wFnSplits_o5 (v6 : Int × (Int × (Int × ((List Int) × (List Int))))) : Tr (Bool) :=
  .br (osome (iByRights v6.2.1 v6.2.2.2.1 v6.2.2.2.2)) (wFnSplits_o4 v6 (oget (iByRights v6.2.1 v6.2.2.2.1 v6.2.2.2.2))) .bad

noncomputable def wFnSplits_o6 (v5 : Unit ⊕ ((List Int) × (Int × (Int × (Int × (Int × (List Int))))))) : Tr (Bool) :=
  .br (isL v5) (.ok false) (.br (((((((unR v5).2).2).2).2).1 : Int) != ((((unR v5).2).2).1)) (.ok false) (.br (osome (wFnSplits_l26 ((unR v5).1) (((unR v5).2).1) ((((unR v5).2).2).1) (((((unR v5).2).2).2).1) 0 ((((((unR v5).2).2).2).2).2) [])) (wFnSplits_o5 (oget (wFnSplits_l26 ((unR v5).1) (((unR v5).2).1) ((((unR v5).2).2).1) (((((unR v5).2).2).2).1) 0 ((((((unR v5).2).2).2).2).2) []))) .bad))

noncomputable def wFnSplits_o7 (v4 : (List Int) × (Int × (Int × (Int × (Int × ((List Int) × (List Int))))))) : Tr (Bool) :=
  .br (osome (wFnSplits_l17 v4.1 v4.2.1 v4.2.2.1 v4.2.2.2.1 v4.2.2.2.2.1 0 v4.2.2.2.2.2.1 v4.2.2.2.2.2.2)) (wFnSplits_o6 (oget (wFnSplits_l17 v4.1 v4.2.1 v4.2.2.1 v4.2.2.2.1 v4.2.2.2.2.1 0 v4.2.2.2.2.2.1 v4.2.2.2.2.2.2))) .bad

noncomputable def wFnSplits_o8 (x1 : List Int) (v1 : List Int) (v2 : Int) (v3 : Unit ⊕ (List Int)) : Tr (Bool) :=
  .br (isL v3) (.ok false) (.br ((((List.length (unR v3) : Nat) : Int) : Int) != (((List.length v1 : Nat) : Int))) (.ok false) (.br (osome (wFnSplits_l12 x1 (((List.length v1 : Nat) : Int)) v2 0 0 0 v1 (unR v3))) (wFnSplits_o7 (oget (wFnSplits_l12 x1 (((List.length v1 : Nat) : Int)) v2 0 0 0 v1 (unR v3)))) .bad))

noncomputable def wFnSplits_o9 (x1 : List Int) (v1 : List Int) (v2 : Int) : Tr (Bool) :=
  .br (osome (iSplitExact v2 v1)) (wFnSplits_o8 x1 v1 v2 (oget (iSplitExact v2 v1))) .bad

noncomputable def wFnSplits_o10 (x1 : List Int) (v1 : List Int) : Tr (Bool) :=
  .br (osome (wr8At x1 40 200)) (wFnSplits_o9 x1 v1 (oget (wr8At x1 40 200))) .bad

noncomputable def wFnSplits_t (x0 : List Int) (x1 : List Int) : Tr (Bool) :=
  .br (wr8Long x0 x1) (.ok true) (.br (osome (sR8Units x0)) (wFnSplits_o10 x1 (oget (sR8Units x0))) .bad)

noncomputable def wFnSplits (x0 : List Int) (x1 : List Int) : Option (Bool) := (wFnSplits_t x0 x1).sem
end Go.Proofs.Ytcjekndobhkmbaa
