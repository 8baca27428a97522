/- Functions, as plain functions. Plain functions. -/
import Derived.Test.YtjohnpldkanjmaaDa
set_option linter.unusedVariables false
set_option linter.unusedSimpArgs false
set_option linter.constructorNameAsVariable false
namespace Go.Proofs.Ytjohnpldkanjmaa
open Go.RowKit
set_option maxRecDepth 100000
noncomputable def wszInt64S_t (x0 : List Int) (x1 : Int) : Tr (Int) :=
  .br (decide ((IntKind.wrap .i64 (x1 - (((List.length x0 : Nat) : Int))) : Int) < 0)) (.ok (-1)) (.ok (IntKind.wrap .i64 (x1 - (((List.length x0 : Nat) : Int)))))

noncomputable def wszInt64S (x0 : List Int) (x1 : Int) : Int := (wszInt64S_t x0 x1).val

noncomputable def wszInt64SS_l5_t (y0 : List (List Int)) (y1 : Int) (y2 : Int) : Tr ((Int × Int) ⊕ (Int ⊕ Int)) :=
  .br (decide ((y2 : Int) < (((List.length y0 : Nat) : Int)))) (.br (decide (0 ≤ (y2 : Int)) && decide ((y2 : Int) < ((List.length y0 : Nat) : Int))) (.br (decide ((wszInt64S (List.getD y0 (Int.toNat y2) []) y1 : Int) < 0)) (.ok (.inr (.inl (-1)))) (.ok (.inl (wszInt64S (List.getD y0 (Int.toNat y2) []) y1, IntKind.wrap .i64 (y2 + 1))))) .bad) (.ok (.inr (.inr y1)))

noncomputable def wszInt64SS_l5 (y0 : List (List Int)) (y1 : Int) (y2 : Int) : Option (Int ⊕ Int) := runL (fun s : Int × Int => (wszInt64SS_l5_t y0 s.1 s.2).sem) (y1, y2)

noncomputable def wszInt64SS_t (x0 : List (List Int)) (x1 : Int) : Tr (Int) :=
  .br (decide ((IntKind.wrap .i64 (x1 - (((List.length x0 : Nat) : Int))) : Int) < 0)) (.ok (-1)) (.br (osome (wszInt64SS_l5 x0 (IntKind.wrap .i64 (x1 - (((List.length x0 : Nat) : Int)))) 0)) (.br (isL (oget (wszInt64SS_l5 x0 (IntKind.wrap .i64 (x1 - (((List.length x0 : Nat) : Int)))) 0))) (.ok (unL (oget (wszInt64SS_l5 x0 (IntKind.wrap .i64 (x1 - (((List.length x0 : Nat) : Int)))) 0)))) (.ok (unR (oget (wszInt64SS_l5 x0 (IntKind.wrap .i64 (x1 - (((List.length x0 : Nat) : Int)))) 0))))) .bad)

noncomputable def wszInt64SS (x0 : List (List Int)) (x1 : Int) : Option (Int) := (wszInt64SS_t x0 x1).sem

noncomputable def wtoInt64S_l3_t (y0 : List Int) (y1 : Int) (y2 : List Int) : Tr ((Int × List Int) ⊕ (List Int)) :=
  .br (decide ((y1 : Int) < (((List.length y0 : Nat) : Int)))) (.br (decide (0 ≤ (y1 : Int)) && decide ((y1 : Int) < ((List.length y0 : Nat) : Int))) (.br (decide (0 ≤ (y1 : Int)) && decide ((y1 : Int) < ((List.length y2 : Nat) : Int))) (.ok (.inl (IntKind.wrap .i64 (y1 + 1), List.set y2 (Int.toNat y1) (List.getD y0 (Int.toNat y1) 0)))) .bad) .bad) (.ok (.inr y2))

noncomputable def wtoInt64S_l3 (y0 : List Int) (y1 : Int) (y2 : List Int) : Option (List Int) := runL (fun s : Int × List Int => (wtoInt64S_l3_t y0 s.1 s.2).sem) (y1, y2)

noncomputable def wtoInt64S_t (x0 : List Int) : Tr (List Int) :=
  .br (decide ((((List.length x0 : Nat) : Int) : Int) = (((List.length x0 : Nat) : Int))) && decide (0 ≤ (((List.length x0 : Nat) : Int) : Int)) && decide ((((List.length x0 : Nat) : Int) : Int) * ((8 : Nat) : Int) ≤ 140737488355328)) (.br (osome (wtoInt64S_l3 x0 0 (List.replicate (Int.toNat (((List.length x0 : Nat) : Int))) 0))) (.ok (oget (wtoInt64S_l3 x0 0 (List.replicate (Int.toNat (((List.length x0 : Nat) : Int))) 0)))) .bad) .bad

noncomputable def wtoInt64S (x0 : List Int) : Option (List Int) := (wtoInt64S_t x0).sem

noncomputable def wtoInt64SS_l3_t (y0 : List (List Int)) (y1 : Int) (y2 : List (List Int)) : Tr ((Int × List (List Int)) ⊕ (List (List Int))) :=
  .br (decide ((y1 : Int) < (((List.length y0 : Nat) : Int)))) (.br (decide (0 ≤ (y1 : Int)) && decide ((y1 : Int) < ((List.length y0 : Nat) : Int))) (.br (osome (wtoInt64S (List.getD y0 (Int.toNat y1) []))) (.br (decide (0 ≤ (y1 : Int)) && decide ((y1 : Int) < ((List.length y2 : Nat) : Int))) (.ok (.inl (IntKind.wrap .i64 (y1 + 1), List.set y2 (Int.toNat y1) (oget (wtoInt64S (List.getD y0 (Int.toNat y1) [])))))) .bad) .bad) .bad) (.ok (.inr y2))

noncomputable def wtoInt64SS_l3 (y0 : List (List Int)) (y1 : Int) (y2 : List (List Int)) : Option (List (List Int)) := runL (fun s : Int × List (List Int) => (wtoInt64SS_l3_t y0 s.1 s.2).sem) (y1, y2)

noncomputable def wtoInt64SS_t (x0 : List (List Int)) : Tr (List (List Int)) :=
  .br (decide ((((List.length x0 : Nat) : Int) : Int) = (((List.length x0 : Nat) : Int))) && decide (0 ≤ (((List.length x0 : Nat) : Int) : Int)) && decide ((((List.length x0 : Nat) : Int) : Int) * ((24 : Nat) : Int) ≤ 140737488355328)) (.br (osome (wtoInt64SS_l3 x0 0 (List.replicate (Int.toNat (((List.length x0 : Nat) : Int))) []))) (.ok (oget (wtoInt64SS_l3 x0 0 (List.replicate (Int.toNat (((List.length x0 : Nat) : Int))) [])))) .bad) .bad

noncomputable def wtoInt64SS (x0 : List (List Int)) : Option (List (List Int)) := (wtoInt64SS_t x0).sem

noncomputable def sl00In_t (x0 : Int) (x1 : Int) (x2 : Int) : Tr (Bool) :=
  .br (decide ((x0 : Int) ≥ x1)) (.ok (decide ((x0 : Int) ≤ x2))) (.ok false)

noncomputable def sl00In (x0 : Int) (x1 : Int) (x2 : Int) : Bool := (sl00In_t x0 x1 x2).val

noncomputable def sl06Unit_t (x0 : Int) : Tr (Bool) :=
  .ok (sl00In x0 0 1000000000)

noncomputable def sl06Unit (x0 : Int) : Bool := (sl06Unit_t x0).val

noncomputable def sl06Inflows_l2_t (y0 : List Int) (y1 : Int) (y2 : Int) : Tr (Int ⊕ (Unit ⊕ (List Int × Int))) :=
  .br (decide ((y2 : Int) < (((List.length y0 : Nat) : Int)))) (.br ((((List.length y0 : Nat) : Int) : Int) == y1) (.br (decide (0 ≤ (y2 : Int)) && decide ((y2 : Int) < ((List.length y0 : Nat) : Int))) (.br (! (sl06Unit (List.getD y0 (Int.toNat y2) 0))) (.ok (.inr (.inl ()))) (.ok (.inl (IntKind.wrap .i64 (y2 + 1))))) .bad) (.ok (.inr (.inr (y0, y1))))) (.ok (.inr (.inr (y0, y1))))

noncomputable def sl06Inflows_l2 (y0 : List Int) (y1 : Int) (y2 : Int) : Option (Unit ⊕ (List Int × Int)) := runL (fun s : Int => (sl06Inflows_l2_t y0 y1 s).sem) y2

noncomputable def sl06Inflows_t (x0 : List Int) (x1 : Int) : Tr (Bool) :=
  .br (osome (sl06Inflows_l2 x0 x1 0)) (.br (isL (oget (sl06Inflows_l2 x0 x1 0))) (.ok false) (.ok ((((List.length ((unR (oget (sl06Inflows_l2 x0 x1 0))).1) : Nat) : Int) : Int) == ((unR (oget (sl06Inflows_l2 x0 x1 0))).2)))) .bad

noncomputable def sl06Inflows (x0 : List Int) (x1 : Int) : Option (Bool) := (sl06Inflows_t x0 x1).sem

noncomputable def sl06Days_l2_t (y0 : List (List Int)) (y1 : Int) (y2 : Int) : Tr (Int ⊕ (Unit ⊕ (List (List Int)))) :=
  .br (decide ((y2 : Int) < (((List.length y0 : Nat) : Int)))) (.br (decide ((((List.length y0 : Nat) : Int) : Int) ≤ 64)) (.br (decide (0 ≤ (y2 : Int)) && decide ((y2 : Int) < ((List.length y0 : Nat) : Int))) (.br (osome (sl06Inflows (List.getD y0 (Int.toNat y2) []) y1)) (.br (!(oget (sl06Inflows (List.getD y0 (Int.toNat y2) []) y1))) (.ok (.inr (.inl ()))) (.ok (.inl (IntKind.wrap .i64 (y2 + 1))))) .bad) .bad) (.ok (.inr (.inr y0)))) (.ok (.inr (.inr y0)))

noncomputable def sl06Days_l2 (y0 : List (List Int)) (y1 : Int) (y2 : Int) : Option (Unit ⊕ (List (List Int))) := runL (fun s : Int => (sl06Days_l2_t y0 y1 s).sem) y2

noncomputable def sl06Days_t (x0 : List (List Int)) (x1 : Int) : Tr (Bool) :=
  .br (osome (sl06Days_l2 x0 x1 0)) (.br (isL (oget (sl06Days_l2 x0 x1 0))) (.ok false) (.ok (decide ((((List.length (unR (oget (sl06Days_l2 x0 x1 0))) : Nat) : Int) : Int) ≤ 64)))) .bad

noncomputable def sl06Days (x0 : List (List Int)) (x1 : Int) : Option (Bool) := (sl06Days_t x0 x1).sem

noncomputable def sHalfWay_l12_t (y0 : List (List Int)) (y1 : Int) (y2 : Int) (y5 : List Int) (y3 : Int) (y4 : Int) : Tr ((Int × Int) ⊕ (List (List Int) × Int × Int × Int × List Int)) :=
  .br (decide ((y4 : Int) < (((List.length y0 : Nat) : Int)))) (.br (decide (0 ≤ (y4 : Int)) && decide ((y4 : Int) < ((List.length y0 : Nat) : Int))) (.br (decide (0 ≤ (y2 : Int)) && decide ((y2 : Int) < ((List.length (List.getD y0 (Int.toNat y4) []) : Nat) : Int))) (.ok (.inl (IntKind.wrap .i64 (y3 + (List.getD (List.getD y0 (Int.toNat y4) []) (Int.toNat y2) 0)), IntKind.wrap .i64 (y4 + 1)))) .bad) .bad) (.ok (.inr (y0, y1, y2, y3, y5)))

noncomputable def sHalfWay_l12 (y0 : List (List Int)) (y1 : Int) (y2 : Int) (y3 : Int) (y4 : Int) (y5 : List Int) : Option (List (List Int) × Int × Int × Int × List Int) := runL (fun s : Int × Int => (sHalfWay_l12_t y0 y1 y2 y5 s.1 s.2).sem) (y3, y4)

noncomputable def sHalfWay_l18_t (y0 : List (List Int)) (y1 : Int) (y2 : Int) (y3 : Int) (y7 : List Int) (y4 : Int) (y5 : Int) (y6 : Int) : Tr ((Int × Int × Int) ⊕ (List (List Int) × Int × Int × Int × List Int)) :=
  .br (decide ((y6 : Int) < (((List.length y0 : Nat) : Int)))) (.br (decide (0 ≤ (y6 : Int)) && decide ((y6 : Int) < ((List.length y0 : Nat) : Int))) (.br (decide (0 ≤ (y2 : Int)) && decide ((y2 : Int) < ((List.length (List.getD y0 (Int.toNat y6) []) : Nat) : Int))) (.br (decide ((y5 : Int) < 0)) (.br (decide ((IntKind.wrap .i64 (2 * (IntKind.wrap .i64 (y4 + (List.getD (List.getD y0 (Int.toNat y6) []) (Int.toNat y2) 0)))) : Int) ≥ y3)) (.ok (.inl (IntKind.wrap .i64 (y4 + (List.getD (List.getD y0 (Int.toNat y6) []) (Int.toNat y2) 0)), y6, IntKind.wrap .i64 (y6 + 1)))) (.ok (.inl (IntKind.wrap .i64 (y4 + (List.getD (List.getD y0 (Int.toNat y6) []) (Int.toNat y2) 0)), y5, IntKind.wrap .i64 (y6 + 1))))) (.ok (.inl (IntKind.wrap .i64 (y4 + (List.getD (List.getD y0 (Int.toNat y6) []) (Int.toNat y2) 0)), y5, IntKind.wrap .i64 (y6 + 1))))) .bad) .bad) (.ok (.inr (y0, y1, y2, y5, y7)))

noncomputable def sHalfWay_l18 (y0 : List (List Int)) (y1 : Int) (y2 : Int) (y3 : Int) (y4 : Int) (y5 : Int) (y6 : Int) (y7 : List Int) : Option (List (List Int) × Int × Int × Int × List Int) := runL (fun s : Int × Int × Int => (sHalfWay_l18_t y0 y1 y2 y3 y7 s.1 s.2.1 s.2.2).sem) (y4, y5, y6)

noncomputable def sHalfWay_l8_t  (y0 : List (List Int)) (y1 : Int) (y2 : Int) (y3 : List Int) : Tr ((List (List Int) × Int × Int × List Int) ⊕ (List Int)) :=
  .br (decide ((y2 : Int) < y1)) (.br (osome (sHalfWay_l12 y0 y1 y2 0 0 y3)) (.br (osome (sHalfWay_l18 (oget (sHalfWay_l12 y0 y1 y2 0 0 y3)).1 (oget (sHalfWay_l12 y0 y1 y2 0 0 y3)).2.1 (oget (sHalfWay_l12 y0 y1 y2 0 0 y3)).2.2.1 (oget (sHalfWay_l12 y0 y1 y2 0 0 y3)).2.2.2.1 0 (-1) 0 (oget (sHalfWay_l12 y0 y1 y2 0 0 y3)).2.2.2.2)) (.br (decide ((List.length (oget (sHalfWay_l18 (oget (sHalfWay_l12 y0 y1 y2 0 0 y3)).1 (oget (sHalfWay_l12 y0 y1 y2 0 0 y3)).2.1 (oget (sHalfWay_l12 y0 y1 y2 0 0 y3)).2.2.1 (oget (sHalfWay_l12 y0 y1 y2 0 0 y3)).2.2.2.1 0 (-1) 0 (oget (sHalfWay_l12 y0 y1 y2 0 0 y3)).2.2.2.2)).2.2.2.2 + List.length [(oget (sHalfWay_l18 (oget (sHalfWay_l12 y0 y1 y2 0 0 y3)).1 (oget (sHalfWay_l12 y0 y1 y2 0 0 y3)).2.1 (oget (sHalfWay_l12 y0 y1 y2 0 0 y3)).2.2.1 (oget (sHalfWay_l12 y0 y1 y2 0 0 y3)).2.2.2.1 0 (-1) 0 (oget (sHalfWay_l12 y0 y1 y2 0 0 y3)).2.2.2.2)).2.2.2.1]) * 8 ≤ 140737488355328)) (.ok (.inl ((oget (sHalfWay_l18 (oget (sHalfWay_l12 y0 y1 y2 0 0 y3)).1 (oget (sHalfWay_l12 y0 y1 y2 0 0 y3)).2.1 (oget (sHalfWay_l12 y0 y1 y2 0 0 y3)).2.2.1 (oget (sHalfWay_l12 y0 y1 y2 0 0 y3)).2.2.2.1 0 (-1) 0 (oget (sHalfWay_l12 y0 y1 y2 0 0 y3)).2.2.2.2)).1, (oget (sHalfWay_l18 (oget (sHalfWay_l12 y0 y1 y2 0 0 y3)).1 (oget (sHalfWay_l12 y0 y1 y2 0 0 y3)).2.1 (oget (sHalfWay_l12 y0 y1 y2 0 0 y3)).2.2.1 (oget (sHalfWay_l12 y0 y1 y2 0 0 y3)).2.2.2.1 0 (-1) 0 (oget (sHalfWay_l12 y0 y1 y2 0 0 y3)).2.2.2.2)).2.1, IntKind.wrap .i64 ((oget (sHalfWay_l18 (oget (sHalfWay_l12 y0 y1 y2 0 0 y3)).1 (oget (sHalfWay_l12 y0 y1 y2 0 0 y3)).2.1 (oget (sHalfWay_l12 y0 y1 y2 0 0 y3)).2.2.1 (oget (sHalfWay_l12 y0 y1 y2 0 0 y3)).2.2.2.1 0 (-1) 0 (oget (sHalfWay_l12 y0 y1 y2 0 0 y3)).2.2.2.2)).2.2.1 + 1), (oget (sHalfWay_l18 (oget (sHalfWay_l12 y0 y1 y2 0 0 y3)).1 (oget (sHalfWay_l12 y0 y1 y2 0 0 y3)).2.1 (oget (sHalfWay_l12 y0 y1 y2 0 0 y3)).2.2.1 (oget (sHalfWay_l12 y0 y1 y2 0 0 y3)).2.2.2.1 0 (-1) 0 (oget (sHalfWay_l12 y0 y1 y2 0 0 y3)).2.2.2.2)).2.2.2.2 ++ [(oget (sHalfWay_l18 (oget (sHalfWay_l12 y0 y1 y2 0 0 y3)).1 (oget (sHalfWay_l12 y0 y1 y2 0 0 y3)).2.1 (oget (sHalfWay_l12 y0 y1 y2 0 0 y3)).2.2.1 (oget (sHalfWay_l12 y0 y1 y2 0 0 y3)).2.2.2.1 0 (-1) 0 (oget (sHalfWay_l12 y0 y1 y2 0 0 y3)).2.2.2.2)).2.2.2.1]))) .bad) .bad) .bad) (.ok (.inr y3))

noncomputable def sHalfWay_l8 (y0 : List (List Int)) (y1 : Int) (y2 : Int) (y3 : List Int) : Option (List Int) := runL (fun s : List (List Int) × Int × Int × List Int => (sHalfWay_l8_t  s.1 s.2.1 s.2.2.1 s.2.2.2).sem) (y0, y1, y2, y3)

noncomputable def sHalfWay_t (x0 : List (List Int)) : Tr (Unit ⊕ (List Int)) :=
  .br (decide ((((List.length x0 : Nat) : Int) : Int) < 1)) (.ok (.inl ())) (.br (decide ((((List.length x0 : Nat) : Int) : Int) > 64)) (.ok (.inl ())) (.br (decide (0 ≤ (0 : Int)) && decide ((0 : Int) < ((List.length x0 : Nat) : Int))) (.br (decide ((((List.length (List.getD x0 (Int.toNat 0) []) : Nat) : Int) : Int) < 1)) (.ok (.inl ())) (.br (decide ((((List.length (List.getD x0 (Int.toNat 0) []) : Nat) : Int) : Int) > 12)) (.ok (.inl ())) (.br (osome (sl06Days x0 (((List.length (List.getD x0 (Int.toNat 0) []) : Nat) : Int)))) (.br (!(oget (sl06Days x0 (((List.length (List.getD x0 (Int.toNat 0) []) : Nat) : Int))))) (.ok (.inl ())) (.br (osome (sHalfWay_l8 x0 (((List.length (List.getD x0 (Int.toNat 0) []) : Nat) : Int)) 0 [])) (.ok (.inr (oget (sHalfWay_l8 x0 (((List.length (List.getD x0 (Int.toNat 0) []) : Nat) : Int)) 0 [])))) .bad)) .bad))) .bad))

noncomputable def sHalfWay (x0 : List (List Int)) : Option (Unit ⊕ (List Int)) := (sHalfWay_t x0).sem

noncomputable def iwithin_t (x0 : Int) (x1 : Int) (x2 : Int) : Tr (Bool) :=
  .br (decide ((x1 : Int) ≤ x0)) (.ok (decide ((x0 : Int) ≤ x2))) (.ok false)

noncomputable def iwithin (x0 : Int) (x1 : Int) (x2 : Int) : Bool := (iwithin_t x0 x1 x2).val

noncomputable def iareWithin_1_t (x0 : Int) (x1 : Int) (x2 : Int) : Tr (Bool) :=
  .ok (! (iwithin x0 x1 x2))

noncomputable def iareWithin_1 (x0 : Int) (x1 : Int) (x2 : Int) : Bool := (iareWithin_1_t x0 x1 x2).val

noncomputable def lIndexFunc_iareWithin_1_l2_t (y0 : List Int) (y1 : Int) (y2 : Int) (y3 : Int) (y4 : Int) : Tr (Int ⊕ (Int ⊕ Unit)) :=
  .br (decide ((y4 : Int) < y3)) (.br (decide (0 ≤ (y4 : Int)) && decide ((y4 : Int) < ((List.length y0 : Nat) : Int))) (.br (iareWithin_1 (List.getD y0 (Int.toNat y4) 0) y1 y2) (.ok (.inr (.inl y4))) (.ok (.inl (IntKind.wrap .i64 (y4 + 1))))) .bad) (.ok (.inr (.inr ())))

noncomputable def lIndexFunc_iareWithin_1_l2 (y0 : List Int) (y1 : Int) (y2 : Int) (y3 : Int) (y4 : Int) : Option (Int ⊕ Unit) := runL (fun s : Int => (lIndexFunc_iareWithin_1_l2_t y0 y1 y2 y3 s).sem) y4

noncomputable def lIndexFunc_iareWithin_1_t (x0 : List Int) (x1 : Int) (x2 : Int) : Tr (Int) :=
  .br (osome (lIndexFunc_iareWithin_1_l2 x0 x1 x2 (((List.length x0 : Nat) : Int)) 0)) (.br (isL (oget (lIndexFunc_iareWithin_1_l2 x0 x1 x2 (((List.length x0 : Nat) : Int)) 0))) (.ok (unL (oget (lIndexFunc_iareWithin_1_l2 x0 x1 x2 (((List.length x0 : Nat) : Int)) 0)))) (.ok (-1))) .bad

noncomputable def lIndexFunc_iareWithin_1 (x0 : List Int) (x1 : Int) (x2 : Int) : Option (Int) := (lIndexFunc_iareWithin_1_t x0 x1 x2).sem

noncomputable def lContainsFunc_iareWithin_1_t (x0 : List Int) (x1 : Int) (x2 : Int) : Tr (Bool) :=
  .br (osome (lIndexFunc_iareWithin_1 x0 x1 x2)) (.ok (decide (((oget (lIndexFunc_iareWithin_1 x0 x1 x2)) : Int) ≥ 0))) .bad

noncomputable def lContainsFunc_iareWithin_1 (x0 : List Int) (x1 : Int) (x2 : Int) : Option (Bool) := (lContainsFunc_iareWithin_1_t x0 x1 x2).sem

noncomputable def iareWithin_t (x0 : List Int) (x1 : Int) (x2 : Int) : Tr (Bool) :=
  .br (osome (lContainsFunc_iareWithin_1 x0 x1 x2)) (.ok (!(oget (lContainsFunc_iareWithin_1 x0 x1 x2)))) .bad

noncomputable def iareWithin (x0 : List Int) (x1 : Int) (x2 : Int) : Option (Bool) := (iareWithin_t x0 x1 x2).sem

noncomputable def iHalfWay_l10_t (y0 : List (List Int)) (y1 : List (List Int)) (y2 : Int) (y3 : Int) (y4 : List Int) (y5 : Int) (y6 : Int) (y7 : List Int) : Tr ((Int × List Int) ⊕ (List (List Int) × List (List Int) × Int × Int × List Int)) :=
  .br (decide ((y6 : Int) < y5)) (.br (decide (0 ≤ (y6 : Int)) && decide ((y6 : Int) < ((List.length y4 : Nat) : Int))) (.br (decide (0 ≤ (y6 : Int)) && decide ((y6 : Int) < ((List.length y7 : Nat) : Int))) (.br (decide (0 ≤ (y6 : Int)) && decide ((y6 : Int) < ((List.length y7 : Nat) : Int))) (.ok (.inl (IntKind.wrap .i64 (y6 + 1), List.set y7 (Int.toNat y6) (IntKind.wrap .i64 ((List.getD y7 (Int.toNat y6) 0) + (List.getD y4 (Int.toNat y6) 0)))))) .bad) .bad) .bad) (.ok (.inr (y0, y1, y2, y3, y7)))

noncomputable def iHalfWay_l10 (y0 : List (List Int)) (y1 : List (List Int)) (y2 : Int) (y3 : Int) (y4 : List Int) (y5 : Int) (y6 : Int) (y7 : List Int) : Option (List (List Int) × List (List Int) × Int × Int × List Int) := runL (fun s : Int × List Int => (iHalfWay_l10_t y0 y1 y2 y3 y4 y5 s.1 s.2).sem) (y6, y7)

noncomputable def iHalfWay_l21_t (y0 : List (List Int)) (y1 : Int) (y2 : Int) (y4 : Int) (y5 : Int) (y6 : List (List Int)) (y7 : Int) (y9 : List Int) (y10 : List Int) (y3 : Int) (y8 : Int) : Tr ((Int × Int) ⊕ (List (List Int) × Int × Int × List Int × List Int)) :=
  .br (decide ((y8 : Int) < y7)) (.br (decide (0 ≤ (y8 : Int)) && decide ((y8 : Int) < ((List.length y6 : Nat) : Int))) (.br (decide (0 ≤ (y1 : Int)) && decide ((y1 : Int) < ((List.length (List.getD y6 (Int.toNat y8) []) : Nat) : Int))) (.br (decide ((IntKind.wrap .i64 (2 * (IntKind.wrap .i64 (y3 + (List.getD (List.getD y6 (Int.toNat y8) []) (Int.toNat y1) 0)))) : Int) ≥ y2)) (.br (decide ((List.length y9 + List.length [y8]) * 8 ≤ 140737488355328)) (.ok (.inr (y0, y4, y5, y9 ++ [y8], y10))) .bad) (.ok (.inl (IntKind.wrap .i64 (y3 + (List.getD (List.getD y6 (Int.toNat y8) []) (Int.toNat y1) 0)), IntKind.wrap .i64 (y8 + 1))))) .bad) .bad) (.ok (.inr (y0, y4, y5, y9, y10)))

noncomputable def iHalfWay_l21 (y0 : List (List Int)) (y1 : Int) (y2 : Int) (y3 : Int) (y4 : Int) (y5 : Int) (y6 : List (List Int)) (y7 : Int) (y8 : Int) (y9 : List Int) (y10 : List Int) : Option (List (List Int) × Int × Int × List Int × List Int) := runL (fun s : Int × Int => (iHalfWay_l21_t y0 y1 y2 y4 y5 y6 y7 y9 y10 s.1 s.2).sem) (y3, y8)

noncomputable def iHalfWay_l5_t  (y0 : List (List Int)) (y1 : List (List Int)) (y2 : Int) (y3 : Int) (y4 : List Int) : Tr ((List (List Int) × List (List Int) × Int × Int × List Int) ⊕ (Unit ⊕ (List (List Int) × List Int))) :=
  .br (decide ((y3 : Int) < y2)) (.br (decide (0 ≤ (y3 : Int)) && decide ((y3 : Int) < ((List.length y1 : Nat) : Int))) (.br ((((List.length (List.getD y1 (Int.toNat y3) []) : Nat) : Int) : Int) != (((List.length y4 : Nat) : Int))) (.ok (.inr (.inl ()))) (.br (osome (iareWithin (List.getD y1 (Int.toNat y3) []) 0 1000000000)) (.br (!(oget (iareWithin (List.getD y1 (Int.toNat y3) []) 0 1000000000))) (.ok (.inr (.inl ()))) (.br (osome (iHalfWay_l10 y0 y1 y2 y3 (List.getD y1 (Int.toNat y3) []) (((List.length (List.getD y1 (Int.toNat y3) []) : Nat) : Int)) 0 y4)) (.ok (.inl ((oget (iHalfWay_l10 y0 y1 y2 y3 (List.getD y1 (Int.toNat y3) []) (((List.length (List.getD y1 (Int.toNat y3) []) : Nat) : Int)) 0 y4)).1, (oget (iHalfWay_l10 y0 y1 y2 y3 (List.getD y1 (Int.toNat y3) []) (((List.length (List.getD y1 (Int.toNat y3) []) : Nat) : Int)) 0 y4)).2.1, (oget (iHalfWay_l10 y0 y1 y2 y3 (List.getD y1 (Int.toNat y3) []) (((List.length (List.getD y1 (Int.toNat y3) []) : Nat) : Int)) 0 y4)).2.2.1, IntKind.wrap .i64 ((oget (iHalfWay_l10 y0 y1 y2 y3 (List.getD y1 (Int.toNat y3) []) (((List.length (List.getD y1 (Int.toNat y3) []) : Nat) : Int)) 0 y4)).2.2.2.1 + 1), (oget (iHalfWay_l10 y0 y1 y2 y3 (List.getD y1 (Int.toNat y3) []) (((List.length (List.getD y1 (Int.toNat y3) []) : Nat) : Int)) 0 y4)).2.2.2.2))) .bad)) .bad)) .bad) (.ok (.inr (.inr (y0, y4))))

noncomputable def iHalfWay_l5 (y0 : List (List Int)) (y1 : List (List Int)) (y2 : Int) (y3 : Int) (y4 : List Int) : Option (Unit ⊕ (List (List Int) × List Int)) := runL (fun s : List (List Int) × List (List Int) × Int × Int × List Int => (iHalfWay_l5_t  s.1 s.2.1 s.2.2.1 s.2.2.2.1 s.2.2.2.2).sem) (y0, y1, y2, y3, y4)

noncomputable def iHalfWay_l17_t  (y0 : List (List Int)) (y1 : Int) (y2 : Int) (y3 : List Int) (y4 : List Int) : Tr ((List (List Int) × Int × Int × List Int × List Int) ⊕ (List Int)) :=
  .br (decide ((y2 : Int) < y1)) (.br (decide (0 ≤ (y2 : Int)) && decide ((y2 : Int) < ((List.length y4 : Nat) : Int))) (.br (osome (iHalfWay_l21 y0 y2 (List.getD y4 (Int.toNat y2) 0) 0 y1 y2 y0 (((List.length y0 : Nat) : Int)) 0 y3 y4)) (.ok (.inl ((oget (iHalfWay_l21 y0 y2 (List.getD y4 (Int.toNat y2) 0) 0 y1 y2 y0 (((List.length y0 : Nat) : Int)) 0 y3 y4)).1, (oget (iHalfWay_l21 y0 y2 (List.getD y4 (Int.toNat y2) 0) 0 y1 y2 y0 (((List.length y0 : Nat) : Int)) 0 y3 y4)).2.1, IntKind.wrap .i64 ((oget (iHalfWay_l21 y0 y2 (List.getD y4 (Int.toNat y2) 0) 0 y1 y2 y0 (((List.length y0 : Nat) : Int)) 0 y3 y4)).2.2.1 + 1), (oget (iHalfWay_l21 y0 y2 (List.getD y4 (Int.toNat y2) 0) 0 y1 y2 y0 (((List.length y0 : Nat) : Int)) 0 y3 y4)).2.2.2.1, (oget (iHalfWay_l21 y0 y2 (List.getD y4 (Int.toNat y2) 0) 0 y1 y2 y0 (((List.length y0 : Nat) : Int)) 0 y3 y4)).2.2.2.2))) .bad) .bad) (.ok (.inr y3))

noncomputable def iHalfWay_l17 (y0 : List (List Int)) (y1 : Int) (y2 : Int) (y3 : List Int) (y4 : List Int) : Option (List Int) := runL (fun s : List (List Int) × Int × Int × List Int × List Int => (iHalfWay_l17_t  s.1 s.2.1 s.2.2.1 s.2.2.2.1 s.2.2.2.2).sem) (y0, y1, y2, y3, y4)

noncomputable def iHalfWay_t (x0 : List (List Int)) : Tr (Unit ⊕ (List Int)) :=
  .br (! (iwithin (((List.length x0 : Nat) : Int)) 1 64)) (.ok (.inl ())) (.br (decide (0 ≤ (0 : Int)) && decide ((0 : Int) < ((List.length x0 : Nat) : Int))) (.br (! (iwithin (((List.length (List.getD x0 (Int.toNat 0) []) : Nat) : Int)) 1 12)) (.ok (.inl ())) (.br (decide (0 ≤ (0 : Int)) && decide ((0 : Int) < ((List.length x0 : Nat) : Int))) (.br (decide ((((List.length (List.getD x0 (Int.toNat 0) []) : Nat) : Int) : Int) = (((List.length (List.getD x0 (Int.toNat 0) []) : Nat) : Int))) && decide (0 ≤ (((List.length (List.getD x0 (Int.toNat 0) []) : Nat) : Int) : Int)) && decide ((((List.length (List.getD x0 (Int.toNat 0) []) : Nat) : Int) : Int) * ((8 : Nat) : Int) ≤ 140737488355328)) (.br (osome (iHalfWay_l5 x0 x0 (((List.length x0 : Nat) : Int)) 0 (List.replicate (Int.toNat (((List.length (List.getD x0 (Int.toNat 0) []) : Nat) : Int))) 0))) (.br (isL (oget (iHalfWay_l5 x0 x0 (((List.length x0 : Nat) : Int)) 0 (List.replicate (Int.toNat (((List.length (List.getD x0 (Int.toNat 0) []) : Nat) : Int))) 0)))) (.ok (.inl ())) (.br (osome (iHalfWay_l17 ((unR (oget (iHalfWay_l5 x0 x0 (((List.length x0 : Nat) : Int)) 0 (List.replicate (Int.toNat (((List.length (List.getD x0 (Int.toNat 0) []) : Nat) : Int))) 0)))).1) (((List.length ((unR (oget (iHalfWay_l5 x0 x0 (((List.length x0 : Nat) : Int)) 0 (List.replicate (Int.toNat (((List.length (List.getD x0 (Int.toNat 0) []) : Nat) : Int))) 0)))).2) : Nat) : Int)) 0 [] ((unR (oget (iHalfWay_l5 x0 x0 (((List.length x0 : Nat) : Int)) 0 (List.replicate (Int.toNat (((List.length (List.getD x0 (Int.toNat 0) []) : Nat) : Int))) 0)))).2))) (.ok (.inr (oget (iHalfWay_l17 ((unR (oget (iHalfWay_l5 x0 x0 (((List.length x0 : Nat) : Int)) 0 (List.replicate (Int.toNat (((List.length (List.getD x0 (Int.toNat 0) []) : Nat) : Int))) 0)))).1) (((List.length ((unR (oget (iHalfWay_l5 x0 x0 (((List.length x0 : Nat) : Int)) 0 (List.replicate (Int.toNat (((List.length (List.getD x0 (Int.toNat 0) []) : Nat) : Int))) 0)))).2) : Nat) : Int)) 0 [] ((unR (oget (iHalfWay_l5 x0 x0 (((List.length x0 : Nat) : Int)) 0 (List.replicate (Int.toNat (((List.length (List.getD x0 (Int.toNat 0) []) : Nat) : Int))) 0)))).2))))) .bad)) .bad) .bad) .bad)) .bad)

noncomputable def iHalfWay (x0 : List (List Int)) : Option (Unit ⊕ (List Int)) := (iHalfWay_t x0).sem

noncomputable def weqInt64S_l4_t (y0 : List Int) (y1 : List Int) (y2 : Int) : Tr (Int ⊕ (Unit ⊕ Unit)) :=
  .br (decide ((y2 : Int) < (((List.length y0 : Nat) : Int)))) (.br (decide (0 ≤ (y2 : Int)) && decide ((y2 : Int) < ((List.length y0 : Nat) : Int))) (.br (decide (0 ≤ (y2 : Int)) && decide ((y2 : Int) < ((List.length y1 : Nat) : Int))) (.br ((List.getD y0 (Int.toNat y2) 0 : Int) != (List.getD y1 (Int.toNat y2) 0)) (.ok (.inr (.inl ()))) (.ok (.inl (IntKind.wrap .i64 (y2 + 1))))) .bad) .bad) (.ok (.inr (.inr ())))

noncomputable def weqInt64S_l4 (y0 : List Int) (y1 : List Int) (y2 : Int) : Option (Unit ⊕ Unit) := runL (fun s : Int => (weqInt64S_l4_t y0 y1 s).sem) y2

noncomputable def weqInt64S_t (x0 : List Int) (x1 : List Int) : Tr (Bool) :=
  .br ((((List.length x0 : Nat) : Int) : Int) != (((List.length x1 : Nat) : Int))) (.ok false) (.br (osome (weqInt64S_l4 x0 x1 0)) (.br (isL (oget (weqInt64S_l4 x0 x1 0))) (.ok false) (.ok true)) .bad)

noncomputable def weqInt64S (x0 : List Int) (x1 : List Int) : Option (Bool) := (weqInt64S_t x0 x1).sem

noncomputable def weqInt64SS_l4_t (y0 : List (List Int)) (y1 : List (List Int)) (y2 : Int) : Tr (Int ⊕ (Unit ⊕ Unit)) :=
  .br (decide ((y2 : Int) < (((List.length y0 : Nat) : Int)))) (.br (decide (0 ≤ (y2 : Int)) && decide ((y2 : Int) < ((List.length y0 : Nat) : Int))) (.br (decide (0 ≤ (y2 : Int)) && decide ((y2 : Int) < ((List.length y1 : Nat) : Int))) (.br (osome (weqInt64S (List.getD y0 (Int.toNat y2) []) (List.getD y1 (Int.toNat y2) []))) (.br (!(oget (weqInt64S (List.getD y0 (Int.toNat y2) []) (List.getD y1 (Int.toNat y2) [])))) (.ok (.inr (.inl ()))) (.ok (.inl (IntKind.wrap .i64 (y2 + 1))))) .bad) .bad) .bad) (.ok (.inr (.inr ())))

noncomputable def weqInt64SS_l4 (y0 : List (List Int)) (y1 : List (List Int)) (y2 : Int) : Option (Unit ⊕ Unit) := runL (fun s : Int => (weqInt64SS_l4_t y0 y1 s).sem) y2

noncomputable def weqInt64SS_t (x0 : List (List Int)) (x1 : List (List Int)) : Tr (Bool) :=
  .br ((((List.length x0 : Nat) : Int) : Int) != (((List.length x1 : Nat) : Int))) (.ok false) (.br (osome (weqInt64SS_l4 x0 x1 0)) (.br (isL (oget (weqInt64SS_l4 x0 x1 0))) (.ok false) (.ok true)) .bad)

noncomputable def weqInt64SS (x0 : List (List Int)) (x1 : List (List Int)) : Option (Bool) := (weqInt64SS_t x0 x1).sem

noncomputable def wmarkInt64S_l2_t  (y0 : Int) (y1 : Int) (y2 : List Int) : Tr ((Int × Int × List Int) ⊕ (Int × List Int)) :=
  .br (decide ((y1 : Int) < (((List.length y2 : Nat) : Int)))) (.br (decide (0 ≤ (y1 : Int)) && decide ((y1 : Int) < ((List.length y2 : Nat) : Int))) (.ok (.inl (IntKind.wrap .i64 (y0 + 1), IntKind.wrap .i64 (y1 + 1), List.set y2 (Int.toNat y1) y0))) .bad) (.ok (.inr (y0, y2)))

noncomputable def wmarkInt64S_l2 (y0 : Int) (y1 : Int) (y2 : List Int) : Option (Int × List Int) := runL (fun s : Int × Int × List Int => (wmarkInt64S_l2_t  s.1 s.2.1 s.2.2).sem) (y0, y1, y2)

noncomputable def wmarkInt64S_t (x0 : Int) (x1 : List Int) : Tr (Int × List Int) :=
  .br (osome (wmarkInt64S_l2 x0 0 x1)) (.ok (oget (wmarkInt64S_l2 x0 0 x1))) .bad

noncomputable def wmarkInt64S (x0 : Int) (x1 : List Int) : Option (Int × List Int) := (wmarkInt64S_t x0 x1).sem

noncomputable def wmarkInt64S_nil_l2_t (y0 : Int) (y1 : Int)  : Tr (Unit ⊕ Int) :=
  .br (decide ((y1 : Int) < 0)) .bad (.ok (.inr y0))

noncomputable def wmarkInt64S_nil_l2 (y0 : Int) (y1 : Int) : Option (Int) := runL (fun s : Unit => (wmarkInt64S_nil_l2_t y0 y1 ).sem) ()

noncomputable def wmarkInt64S_nil_t (x0 : Int) : Tr (Int) :=
  .br (osome (wmarkInt64S_nil_l2 x0 0)) (.ok (oget (wmarkInt64S_nil_l2 x0 0))) .bad

noncomputable def wmarkInt64S_nil (x0 : Int) : Option (Int) := (wmarkInt64S_nil_t x0).sem

noncomputable def wmarkInt64SS_l2_t  (y0 : Int) (y1 : Int) (y2 : List (List Int)) : Tr ((Int × Int × List (List Int)) ⊕ (Int × List (List Int))) :=
  .br (decide ((y1 : Int) < (((List.length y2 : Nat) : Int)))) (.br (decide (0 ≤ (y1 : Int)) && decide ((y1 : Int) < ((List.length y2 : Nat) : Int))) (.br (osome (wmarkInt64S y0 (List.getD y2 (Int.toNat y1) []))) (.br (List.isEmpty (List.getD y2 (Int.toNat y1) [])) (.br (osome (wmarkInt64S_nil y0)) (.br (((oget (wmarkInt64S y0 (List.getD y2 (Int.toNat y1) []))).1 : Int) == (oget (wmarkInt64S_nil y0))) (.ok (.inl ((oget (wmarkInt64S y0 (List.getD y2 (Int.toNat y1) []))).1, IntKind.wrap .i64 (y1 + 1), List.set y2 (Int.toNat y1) (List.getD y2 (Int.toNat y1) [])))) .bad) .bad) (.ok (.inl ((oget (wmarkInt64S y0 (List.getD y2 (Int.toNat y1) []))).1, IntKind.wrap .i64 (y1 + 1), List.set y2 (Int.toNat y1) (oget (wmarkInt64S y0 (List.getD y2 (Int.toNat y1) []))).2)))) .bad) .bad) (.ok (.inr (y0, y2)))

noncomputable def wmarkInt64SS_l2 (y0 : Int) (y1 : Int) (y2 : List (List Int)) : Option (Int × List (List Int)) := runL (fun s : Int × Int × List (List Int) => (wmarkInt64SS_l2_t  s.1 s.2.1 s.2.2).sem) (y0, y1, y2)

noncomputable def wmarkInt64SS_t (x0 : Int) (x1 : List (List Int)) : Tr (Int × List (List Int)) :=
  .br (osome (wmarkInt64SS_l2 x0 0 x1)) (.ok (oget (wmarkInt64SS_l2 x0 0 x1))) .bad

noncomputable def wmarkInt64SS (x0 : Int) (x1 : List (List Int)) : Option (Int × List (List Int)) := (wmarkInt64SS_t x0 x1).sem

noncomputable def wheldInt64S_l2_t (y0 : List Int) (y1 : Int) (y2 : Int) : Tr ((Int × Int) ⊕ (Int ⊕ Int)) :=
  .br (decide ((y2 : Int) < (((List.length y0 : Nat) : Int)))) (.br (decide (0 ≤ (y2 : Int)) && decide ((y2 : Int) < ((List.length y0 : Nat) : Int))) (.br ((List.getD y0 (Int.toNat y2) 0 : Int) != y1) (.ok (.inr (.inl (-1)))) (.ok (.inl (IntKind.wrap .i64 (y1 + 1), IntKind.wrap .i64 (y2 + 1))))) .bad) (.ok (.inr (.inr y1)))

noncomputable def wheldInt64S_l2 (y0 : List Int) (y1 : Int) (y2 : Int) : Option (Int ⊕ Int) := runL (fun s : Int × Int => (wheldInt64S_l2_t y0 s.1 s.2).sem) (y1, y2)

noncomputable def wheldInt64S_t (x0 : List Int) (x1 : Int) : Tr (Int) :=
  .br (osome (wheldInt64S_l2 x0 x1 0)) (.br (isL (oget (wheldInt64S_l2 x0 x1 0))) (.ok (unL (oget (wheldInt64S_l2 x0 x1 0)))) (.ok (unR (oget (wheldInt64S_l2 x0 x1 0))))) .bad

noncomputable def wheldInt64S (x0 : List Int) (x1 : Int) : Option (Int) := (wheldInt64S_t x0 x1).sem

noncomputable def wFnExactHalfWay_o1 (v11 : Int) (v16 : Int) : Tr (Bool) :=
  .br (decide ((v16 : Int) < 0)) (.ok false) (.br ((v16 : Int) != v11) (.ok false) (.ok true))

noncomputable def wFnExactHalfWay_o2 (v11 : Int) (v15 : Bool) : Tr (Bool) :=
  .br (!v15) (.ok false) (.br (! (false == false)) (.ok false) (.br (osome (wheldInt64S [] 1)) (wFnExactHalfWay_o1 v11 (oget (wheldInt64S [] 1))) .bad))

noncomputable def wFnExactHalfWay_o3 (v11 : Int) (v18 : Int) : Tr (Bool) :=
  .br (decide ((v18 : Int) < 0)) (.ok false) (.br ((v18 : Int) != v11) (.ok false) (.ok true))

noncomputable def wFnExactHalfWay_o4 (v11 : Int) (v17 : Bool) : Tr (Bool) :=
  .br (!v17) (.ok false) (.br (! (true == false)) (.ok false) (.br (osome (wheldInt64S [] 1)) (wFnExactHalfWay_o3 v11 (oget (wheldInt64S [] 1))) .bad))

noncomputable def wFnExactHalfWay_o5 (v11 : Int) (v14 : Unit ⊕ (List Int)) : Tr (Bool) :=
  .br (isL v14) (.br (osome (weqInt64S [] [])) (wFnExactHalfWay_o2 v11 (oget (weqInt64S [] []))) .bad) (.br (osome (weqInt64S (unR v14) [])) (wFnExactHalfWay_o4 v11 (oget (weqInt64S (unR v14) []))) .bad)

noncomputable def wFnExactHalfWay_o6 (v11 : Int) (v13 : List (List Int)) : Tr (Bool) :=
  .br (osome (iHalfWay v13)) (wFnExactHalfWay_o5 v11 (oget (iHalfWay v13))) .bad

noncomputable def wFnExactHalfWay_o7 (x0 : List (List Int)) (v11 : Int) (v12 : Int) : Tr (Bool) :=
  .br (decide ((v12 : Int) < 0)) (.ok false) (.br ((v12 : Int) != v11) (.ok false) (.br (osome (wtoInt64SS x0)) (wFnExactHalfWay_o6 v11 (oget (wtoInt64SS x0))) .bad))

noncomputable def wFnExactHalfWay_o8 (x0 : List (List Int)) (v11 : Int) : Tr (Bool) :=
  .br (osome (wheldInt64S [] 1)) (wFnExactHalfWay_o7 x0 v11 (oget (wheldInt64S [] 1))) .bad

noncomputable def wFnExactHalfWay_o9 (x0 : List (List Int)) (v10 : Bool) : Tr (Bool) :=
  .br (!v10) (.ok false) (.br (! (false == false)) (.ok false) (.br (osome (wmarkInt64S_nil 1)) (wFnExactHalfWay_o8 x0 (oget (wmarkInt64S_nil 1))) .bad))

noncomputable def wFnExactHalfWay_o10 (x0 : List (List Int)) (v9 : Int × (List (List Int))) : Tr (Bool) :=
  .br (decide ((v9.1 : Int) < 0)) (.ok false) (.br (osome (weqInt64S [] [])) (wFnExactHalfWay_o9 x0 (oget (weqInt64S [] []))) .bad)

noncomputable def wFnExactHalfWay_o11 (x0 : List (List Int)) (v4 : List (List Int)) (v8 : Bool) : Tr (Bool) :=
  .br (!v8) (.ok false) (.br (osome (wmarkInt64SS 1 v4)) (wFnExactHalfWay_o10 x0 (oget (wmarkInt64SS 1 v4))) .bad)

noncomputable def wFnExactHalfWay_o12 (x0 : List (List Int)) (v4 : List (List Int)) (v7 : List (List Int)) : Tr (Bool) :=
  .br (osome (weqInt64SS v4 v7)) (wFnExactHalfWay_o11 x0 v4 (oget (weqInt64SS v4 v7))) .bad

noncomputable def wFnExactHalfWay_o13 (x0 : List (List Int)) (v4 : List (List Int)) (v6 : Bool) : Tr (Bool) :=
  .br (!v6) (.ok false) (.br (! (false == false)) (.ok false) (.br (osome (wtoInt64SS x0)) (wFnExactHalfWay_o12 x0 v4 (oget (wtoInt64SS x0))) .bad))

noncomputable def wFnExactHalfWay_o14 (v24 : Int × (List Int)) (v29 : Int) : Tr (Bool) :=
  .br (decide ((v29 : Int) < 0)) (.ok false) (.br ((v29 : Int) != v24.1) (.ok false) (.ok true))

noncomputable def wFnExactHalfWay_o15 (v24 : Int × (List Int)) (v28 : Bool) : Tr (Bool) :=
  .br (!v28) (.ok false) (.br (! (false == false)) (.ok false) (.br (osome (wheldInt64S v24.2 1)) (wFnExactHalfWay_o14 v24 (oget (wheldInt64S v24.2 1))) .bad))

noncomputable def wFnExactHalfWay_o16 (v24 : Int × (List Int)) (v31 : Int) : Tr (Bool) :=
  .br (decide ((v31 : Int) < 0)) (.ok false) (.br ((v31 : Int) != v24.1) (.ok false) (.ok true))

noncomputable def wFnExactHalfWay_o17 (v24 : Int × (List Int)) (v30 : Bool) : Tr (Bool) :=
  .br (!v30) (.ok false) (.br (! (true == false)) (.ok false) (.br (osome (wheldInt64S v24.2 1)) (wFnExactHalfWay_o16 v24 (oget (wheldInt64S v24.2 1))) .bad))

noncomputable def wFnExactHalfWay_o18 (v24 : Int × (List Int)) (v27 : Unit ⊕ (List Int)) : Tr (Bool) :=
  .br (isL v27) (.br (osome (weqInt64S [] [])) (wFnExactHalfWay_o15 v24 (oget (weqInt64S [] []))) .bad) (.br (osome (weqInt64S (unR v27) [])) (wFnExactHalfWay_o17 v24 (oget (weqInt64S (unR v27) []))) .bad)

noncomputable def wFnExactHalfWay_o19 (v24 : Int × (List Int)) (v26 : List (List Int)) : Tr (Bool) :=
  .br (osome (iHalfWay v26)) (wFnExactHalfWay_o18 v24 (oget (iHalfWay v26))) .bad

noncomputable def wFnExactHalfWay_o20 (x0 : List (List Int)) (v24 : Int × (List Int)) (v25 : Int) : Tr (Bool) :=
  .br (decide ((v25 : Int) < 0)) (.ok false) (.br ((v25 : Int) != v24.1) (.ok false) (.br (osome (wtoInt64SS x0)) (wFnExactHalfWay_o19 v24 (oget (wtoInt64SS x0))) .bad))

noncomputable def wFnExactHalfWay_o21 (x0 : List (List Int)) (v24 : Int × (List Int)) : Tr (Bool) :=
  .br (osome (wheldInt64S v24.2 1)) (wFnExactHalfWay_o20 x0 v24 (oget (wheldInt64S v24.2 1))) .bad

noncomputable def wFnExactHalfWay_o22 (x0 : List (List Int)) (v5 : Unit ⊕ (List Int)) (v23 : Bool) : Tr (Bool) :=
  .br (!v23) (.ok false) (.br (! (true == false)) (.ok false) (.br (osome (wmarkInt64S 1 (unR v5))) (wFnExactHalfWay_o21 x0 (oget (wmarkInt64S 1 (unR v5)))) .bad))

noncomputable def wFnExactHalfWay_o23 (x0 : List (List Int)) (v5 : Unit ⊕ (List Int)) (v22 : Int × (List (List Int))) : Tr (Bool) :=
  .br (decide ((v22.1 : Int) < 0)) (.ok false) (.br (osome (weqInt64S (unR v5) [])) (wFnExactHalfWay_o22 x0 v5 (oget (weqInt64S (unR v5) []))) .bad)

noncomputable def wFnExactHalfWay_o24 (x0 : List (List Int)) (v4 : List (List Int)) (v5 : Unit ⊕ (List Int)) (v21 : Bool) : Tr (Bool) :=
  .br (!v21) (.ok false) (.br (osome (wmarkInt64SS 1 v4)) (wFnExactHalfWay_o23 x0 v5 (oget (wmarkInt64SS 1 v4))) .bad)

noncomputable def wFnExactHalfWay_o25 (x0 : List (List Int)) (v4 : List (List Int)) (v5 : Unit ⊕ (List Int)) (v20 : List (List Int)) : Tr (Bool) :=
  .br (osome (weqInt64SS v4 v20)) (wFnExactHalfWay_o24 x0 v4 v5 (oget (weqInt64SS v4 v20))) .bad

noncomputable def wFnExactHalfWay_o26 (x0 : List (List Int)) (v4 : List (List Int)) (v5 : Unit ⊕ (List Int)) (v19 : Bool) : Tr (Bool) :=
  .br (!v19) (.ok false) (.br (! (true == false)) (.ok false) (.br (osome (wtoInt64SS x0)) (wFnExactHalfWay_o25 x0 v4 v5 (oget (wtoInt64SS x0))) .bad))

noncomputable def wFnExactHalfWay_o27 (x0 : List (List Int)) (v4 : List (List Int)) (v5 : Unit ⊕ (List Int)) : Tr (Bool) :=
  .br (isL v5) (.br (osome (weqInt64S [] [])) (wFnExactHalfWay_o13 x0 v4 (oget (weqInt64S [] []))) .bad) (.br (osome (weqInt64S (unR v5) [])) (wFnExactHalfWay_o26 x0 v4 v5 (oget (weqInt64S (unR v5) []))) .bad)

noncomputable def wFnExactHalfWay_o28 (x0 : List (List Int)) (v4 : List (List Int)) : Tr (Bool) :=
  .br (osome (iHalfWay v4)) (wFnExactHalfWay_o27 x0 v4 (oget (iHalfWay v4))) .bad

noncomputable def wFnExactHalfWay_o29 (v39 : Int) (v44 : Int) : Tr (Bool) :=
  .br (decide ((v44 : Int) < 0)) (.ok false) (.br ((v44 : Int) != v39) (.ok false) (.ok true))

noncomputable def wFnExactHalfWay_o30 (v39 : Int) (v43 : Bool) : Tr (Bool) :=
  .br (!v43) (.ok false) (.br (! (false == true)) (.ok false) (.br (osome (wheldInt64S [] 1)) (wFnExactHalfWay_o29 v39 (oget (wheldInt64S [] 1))) .bad))

noncomputable def wFnExactHalfWay_o31 (v39 : Int) (v46 : Int) : Tr (Bool) :=
  .br (decide ((v46 : Int) < 0)) (.ok false) (.br ((v46 : Int) != v39) (.ok false) (.ok true))

noncomputable def wFnExactHalfWay_o32 (v39 : Int) (v45 : Bool) : Tr (Bool) :=
  .br (!v45) (.ok false) (.br (! (true == true)) (.ok false) (.br (osome (wheldInt64S [] 1)) (wFnExactHalfWay_o31 v39 (oget (wheldInt64S [] 1))) .bad))

noncomputable def wFnExactHalfWay_o33 (v3 : Unit ⊕ (List Int)) (v39 : Int) (v42 : Unit ⊕ (List Int)) : Tr (Bool) :=
  .br (isL v42) (.br (osome (weqInt64S [] (unR v3))) (wFnExactHalfWay_o30 v39 (oget (weqInt64S [] (unR v3)))) .bad) (.br (osome (weqInt64S (unR v42) (unR v3))) (wFnExactHalfWay_o32 v39 (oget (weqInt64S (unR v42) (unR v3)))) .bad)

noncomputable def wFnExactHalfWay_o34 (v3 : Unit ⊕ (List Int)) (v39 : Int) (v41 : List (List Int)) : Tr (Bool) :=
  .br (osome (iHalfWay v41)) (wFnExactHalfWay_o33 v3 v39 (oget (iHalfWay v41))) .bad

noncomputable def wFnExactHalfWay_o35 (x0 : List (List Int)) (v3 : Unit ⊕ (List Int)) (v39 : Int) (v40 : Int) : Tr (Bool) :=
  .br (decide ((v40 : Int) < 0)) (.ok false) (.br ((v40 : Int) != v39) (.ok false) (.br (osome (wtoInt64SS x0)) (wFnExactHalfWay_o34 v3 v39 (oget (wtoInt64SS x0))) .bad))

noncomputable def wFnExactHalfWay_o36 (x0 : List (List Int)) (v3 : Unit ⊕ (List Int)) (v39 : Int) : Tr (Bool) :=
  .br (osome (wheldInt64S [] 1)) (wFnExactHalfWay_o35 x0 v3 v39 (oget (wheldInt64S [] 1))) .bad

noncomputable def wFnExactHalfWay_o37 (x0 : List (List Int)) (v3 : Unit ⊕ (List Int)) (v38 : Bool) : Tr (Bool) :=
  .br (!v38) (.ok false) (.br (! (false == true)) (.ok false) (.br (osome (wmarkInt64S_nil 1)) (wFnExactHalfWay_o36 x0 v3 (oget (wmarkInt64S_nil 1))) .bad))

noncomputable def wFnExactHalfWay_o38 (x0 : List (List Int)) (v3 : Unit ⊕ (List Int)) (v37 : Int × (List (List Int))) : Tr (Bool) :=
  .br (decide ((v37.1 : Int) < 0)) (.ok false) (.br (osome (weqInt64S [] (unR v3))) (wFnExactHalfWay_o37 x0 v3 (oget (weqInt64S [] (unR v3)))) .bad)

noncomputable def wFnExactHalfWay_o39 (x0 : List (List Int)) (v3 : Unit ⊕ (List Int)) (v32 : List (List Int)) (v36 : Bool) : Tr (Bool) :=
  .br (!v36) (.ok false) (.br (osome (wmarkInt64SS 1 v32)) (wFnExactHalfWay_o38 x0 v3 (oget (wmarkInt64SS 1 v32))) .bad)

noncomputable def wFnExactHalfWay_o40 (x0 : List (List Int)) (v3 : Unit ⊕ (List Int)) (v32 : List (List Int)) (v35 : List (List Int)) : Tr (Bool) :=
  .br (osome (weqInt64SS v32 v35)) (wFnExactHalfWay_o39 x0 v3 v32 (oget (weqInt64SS v32 v35))) .bad

noncomputable def wFnExactHalfWay_o41 (x0 : List (List Int)) (v3 : Unit ⊕ (List Int)) (v32 : List (List Int)) (v34 : Bool) : Tr (Bool) :=
  .br (!v34) (.ok false) (.br (! (false == true)) (.ok false) (.br (osome (wtoInt64SS x0)) (wFnExactHalfWay_o40 x0 v3 v32 (oget (wtoInt64SS x0))) .bad))

noncomputable def wFnExactHalfWay_o42 (v52 : Int × (List Int)) (v57 : Int) : Tr (Bool) :=
  .br (decide ((v57 : Int) < 0)) (.ok false) (.br ((v57 : Int) != v52.1) (.ok false) (.ok true))

noncomputable def wFnExactHalfWay_o43 (v52 : Int × (List Int)) (v56 : Bool) : Tr (Bool) :=
  .br (!v56) (.ok false) (.br (! (false == true)) (.ok false) (.br (osome (wheldInt64S v52.2 1)) (wFnExactHalfWay_o42 v52 (oget (wheldInt64S v52.2 1))) .bad))

noncomputable def wFnExactHalfWay_o44 (v52 : Int × (List Int)) (v59 : Int) : Tr (Bool) :=
  .br (decide ((v59 : Int) < 0)) (.ok false) (.br ((v59 : Int) != v52.1) (.ok false) (.ok true))

noncomputable def wFnExactHalfWay_o45 (v52 : Int × (List Int)) (v58 : Bool) : Tr (Bool) :=
  .br (!v58) (.ok false) (.br (! (true == true)) (.ok false) (.br (osome (wheldInt64S v52.2 1)) (wFnExactHalfWay_o44 v52 (oget (wheldInt64S v52.2 1))) .bad))

noncomputable def wFnExactHalfWay_o46 (v3 : Unit ⊕ (List Int)) (v52 : Int × (List Int)) (v55 : Unit ⊕ (List Int)) : Tr (Bool) :=
  .br (isL v55) (.br (osome (weqInt64S [] (unR v3))) (wFnExactHalfWay_o43 v52 (oget (weqInt64S [] (unR v3)))) .bad) (.br (osome (weqInt64S (unR v55) (unR v3))) (wFnExactHalfWay_o45 v52 (oget (weqInt64S (unR v55) (unR v3)))) .bad)

noncomputable def wFnExactHalfWay_o47 (v3 : Unit ⊕ (List Int)) (v52 : Int × (List Int)) (v54 : List (List Int)) : Tr (Bool) :=
  .br (osome (iHalfWay v54)) (wFnExactHalfWay_o46 v3 v52 (oget (iHalfWay v54))) .bad

noncomputable def wFnExactHalfWay_o48 (x0 : List (List Int)) (v3 : Unit ⊕ (List Int)) (v52 : Int × (List Int)) (v53 : Int) : Tr (Bool) :=
  .br (decide ((v53 : Int) < 0)) (.ok false) (.br ((v53 : Int) != v52.1) (.ok false) (.br (osome (wtoInt64SS x0)) (wFnExactHalfWay_o47 v3 v52 (oget (wtoInt64SS x0))) .bad))

noncomputable def wFnExactHalfWay_o49 (x0 : List (List Int)) (v3 : Unit ⊕ (List Int)) (v52 : Int × (List Int)) : Tr (Bool) :=
  .br (osome (wheldInt64S v52.2 1)) (wFnExactHalfWay_o48 x0 v3 v52 (oget (wheldInt64S v52.2 1))) .bad

noncomputable def wFnExactHalfWay_o50 (x0 : List (List Int)) (v3 : Unit ⊕ (List Int)) (v33 : Unit ⊕ (List Int)) (v51 : Bool) : Tr (Bool) :=
  .br (!v51) (.ok false) (.br (! (true == true)) (.ok false) (.br (osome (wmarkInt64S 1 (unR v33))) (wFnExactHalfWay_o49 x0 v3 (oget (wmarkInt64S 1 (unR v33)))) .bad))

noncomputable def wFnExactHalfWay_o51 (x0 : List (List Int)) (v3 : Unit ⊕ (List Int)) (v33 : Unit ⊕ (List Int)) (v50 : Int × (List (List Int))) : Tr (Bool) :=
  .br (decide ((v50.1 : Int) < 0)) (.ok false) (.br (osome (weqInt64S (unR v33) (unR v3))) (wFnExactHalfWay_o50 x0 v3 v33 (oget (weqInt64S (unR v33) (unR v3)))) .bad)

noncomputable def wFnExactHalfWay_o52 (x0 : List (List Int)) (v3 : Unit ⊕ (List Int)) (v32 : List (List Int)) (v33 : Unit ⊕ (List Int)) (v49 : Bool) : Tr (Bool) :=
  .br (!v49) (.ok false) (.br (osome (wmarkInt64SS 1 v32)) (wFnExactHalfWay_o51 x0 v3 v33 (oget (wmarkInt64SS 1 v32))) .bad)

noncomputable def wFnExactHalfWay_o53 (x0 : List (List Int)) (v3 : Unit ⊕ (List Int)) (v32 : List (List Int)) (v33 : Unit ⊕ (List Int)) (v48 : List (List Int)) : Tr (Bool) :=
  .br (osome (weqInt64SS v32 v48)) (wFnExactHalfWay_o52 x0 v3 v32 v33 (oget (weqInt64SS v32 v48))) .bad

noncomputable def wFnExactHalfWay_o54 (x0 : List (List Int)) (v3 : Unit ⊕ (List Int)) (v32 : List (List Int)) (v33 : Unit ⊕ (List Int)) (v47 : Bool) : Tr (Bool) :=
  .br (!v47) (.ok false) (.br (! (true == true)) (.ok false) (.br (osome (wtoInt64SS x0)) (wFnExactHalfWay_o53 x0 v3 v32 v33 (oget (wtoInt64SS x0))) .bad))

noncomputable def wFnExactHalfWay_o55 (x0 : List (List Int)) (v3 : Unit ⊕ (List Int)) (v32 : List (List Int)) (v33 : Unit ⊕ (List Int)) : Tr (Bool) :=
  .br (isL v33) (.br (osome (weqInt64S [] (unR v3))) (wFnExactHalfWay_o41 x0 v3 v32 (oget (weqInt64S [] (unR v3)))) .bad) (.br (osome (weqInt64S (unR v33) (unR v3))) (wFnExactHalfWay_o54 x0 v3 v32 v33 (oget (weqInt64S (unR v33) (unR v3)))) .bad)

noncomputable def wFnExactHalfWay_o56 (x0 : List (List Int)) (v3 : Unit ⊕ (List Int)) (v32 : List (List Int)) : Tr (Bool) :=
  .br (osome (iHalfWay v32)) (wFnExactHalfWay_o55 x0 v3 v32 (oget (iHalfWay v32))) .bad

noncomputable def wFnExactHalfWay_o57 (x0 : List (List Int)) (v3 : Unit ⊕ (List Int)) : Tr (Bool) :=
  .br (isL v3) (.br (osome (wtoInt64SS x0)) (wFnExactHalfWay_o28 x0 (oget (wtoInt64SS x0))) .bad) (.br (osome (wtoInt64SS x0)) (wFnExactHalfWay_o56 x0 v3 (oget (wtoInt64SS x0))) .bad)

noncomputable def wFnExactHalfWay_o58 (x0 : List (List Int)) (v2 : List (List Int)) : Tr (Bool) :=
  .br (osome (sHalfWay v2)) (wFnExactHalfWay_o57 x0 (oget (sHalfWay v2))) .bad

noncomputable def wFnExactHalfWay_o59 (x0 : List (List Int)) (v1 : Int) : Tr (Bool) :=
  .br (decide ((v1 : Int) < 0)) (.ok true) (.br (osome (wtoInt64SS x0)) (wFnExactHalfWay_o58 x0 (oget (wtoInt64SS x0))) .bad)

noncomputable def wFnExactHalfWay_t (x0 : List (List Int)) : Tr (Bool) :=
  .br (osome (wszInt64SS x0 1048576)) (wFnExactHalfWay_o59 x0 (oget (wszInt64SS x0 1048576))) .bad

noncomputable def wFnExactHalfWay (x0 : List (List Int)) : Option (Bool) := (wFnExactHalfWay_t x0).sem
end Go.Proofs.Ytjohnpldkanjmaa
