/- Functions, as plain functions. Plain functions. -/
import Derived.Test.YtjohnpldkanjmaaDa
set_option linter.unusedVariables false
set_option linter.unusedSimpArgs false
set_option linter.constructorNameAsVariable false
namespace Go.Proofs.Ytjohnpldkanjmaa
open Go.RowKit
set_option maxRecDepth 100000
noncomputable def wszInt64S_t (x0 : List Int) (x1 : Int) : Tr (Int) :=
  .br (decide ((IntKind.wrap .i64 (x1 - (((List.length x0 : Nat) : Int))) : Int) < 0)) (.ok (-1)) (.ok (IntKind.wrap .i64 (x1 - (((List.length x0 : Nat) : Int)))))

noncomputable def wszInt64S (x0 : List Int) (x1 : Int) : Int := (wszInt64S_t x0 x1).val

noncomputable def wszDamS_t (x0 : List (Int × Int × Int × Int)) (x1 : Int) : Tr (Int) :=
  .br (decide ((IntKind.wrap .i64 (x1 - (((List.length x0 : Nat) : Int))) : Int) < 0)) (.ok (-1)) (.ok (IntKind.wrap .i64 (x1 - (((List.length x0 : Nat) : Int)))))

noncomputable def wszDamS (x0 : List (Int × Int × Int × Int)) (x1 : Int) : Int := (wszDamS_t x0 x1).val

noncomputable def wszRiver_t (x0 : List Int) (x1 : List (Int × Int × Int × Int)) (x2 : List Int) (x3 : Int) : Tr (Int) :=
  .br (decide ((wszInt64S x0 x3 : Int) < 0)) (.ok (-1)) (.br (decide ((wszDamS x1 (wszInt64S x0 x3) : Int) < 0)) (.ok (-1)) (.br (decide ((wszInt64S x2 (wszDamS x1 (wszInt64S x0 x3)) : Int) < 0)) (.ok (-1)) (.ok (wszInt64S x2 (wszDamS x1 (wszInt64S x0 x3))))))

noncomputable def wszRiver (x0 : List Int) (x1 : List (Int × Int × Int × Int)) (x2 : List Int) (x3 : Int) : Int := (wszRiver_t x0 x1 x2 x3).val

noncomputable def wtoInt64S_l3_t (y0 : List Int) (y1 : Int) (y2 : List Int) : Tr ((Int × List Int) ⊕ (List Int)) :=
  .br (decide ((y1 : Int) < (((List.length y0 : Nat) : Int)))) (.br (decide (0 ≤ (y1 : Int)) && decide ((y1 : Int) < ((List.length y0 : Nat) : Int))) (.br (decide (0 ≤ (y1 : Int)) && decide ((y1 : Int) < ((List.length y2 : Nat) : Int))) (.ok (.inl (IntKind.wrap .i64 (y1 + 1), List.set y2 (Int.toNat y1) (List.getD y0 (Int.toNat y1) 0)))) .bad) .bad) (.ok (.inr y2))

noncomputable def wtoInt64S_l3 (y0 : List Int) (y1 : Int) (y2 : List Int) : Option (List Int) := runL (fun s : Int × List Int => (wtoInt64S_l3_t y0 s.1 s.2).sem) (y1, y2)

noncomputable def wtoInt64S_t (x0 : List Int) : Tr (List Int) :=
  .br (decide ((((List.length x0 : Nat) : Int) : Int) = (((List.length x0 : Nat) : Int))) && decide (0 ≤ (((List.length x0 : Nat) : Int) : Int)) && decide ((((List.length x0 : Nat) : Int) : Int) * ((8 : Nat) : Int) ≤ 140737488355328)) (.br (osome (wtoInt64S_l3 x0 0 (List.replicate (Int.toNat (((List.length x0 : Nat) : Int))) 0))) (.ok (oget (wtoInt64S_l3 x0 0 (List.replicate (Int.toNat (((List.length x0 : Nat) : Int))) 0)))) .bad) .bad

noncomputable def wtoInt64S (x0 : List Int) : Option (List Int) := (wtoInt64S_t x0).sem

noncomputable def wtoDam_t (x0 : Int) (x1 : Int) (x2 : Int) (x3 : Int) : Tr (Int × Int × Int × Int) :=
  .ok (x0, x1, x2, x3)

noncomputable def wtoDam (x0 : Int) (x1 : Int) (x2 : Int) (x3 : Int) : Int × Int × Int × Int := (wtoDam_t x0 x1 x2 x3).val

noncomputable def wtoDamS_l3_t (y0 : List (Int × Int × Int × Int)) (y1 : Int) (y2 : List (Int × Int × Int × Int)) : Tr ((Int × (List (Int × Int × Int × Int))) ⊕ (List (Int × Int × Int × Int))) :=
  .br (decide ((y1 : Int) < (((List.length y0 : Nat) : Int)))) (.br (decide (0 ≤ (y1 : Int)) && decide ((y1 : Int) < ((List.length y0 : Nat) : Int))) (.br (decide (0 ≤ (y1 : Int)) && decide ((y1 : Int) < ((List.length y2 : Nat) : Int))) (.ok (.inl (IntKind.wrap .i64 (y1 + 1), List.set y2 (Int.toNat y1) (((wtoDam ((List.getD y0 (Int.toNat y1) (0, 0, 0, 0)).1) (((List.getD y0 (Int.toNat y1) (0, 0, 0, 0)).2).1) ((((List.getD y0 (Int.toNat y1) (0, 0, 0, 0)).2).2).1) ((((List.getD y0 (Int.toNat y1) (0, 0, 0, 0)).2).2).2)).1, (((wtoDam ((List.getD y0 (Int.toNat y1) (0, 0, 0, 0)).1) (((List.getD y0 (Int.toNat y1) (0, 0, 0, 0)).2).1) ((((List.getD y0 (Int.toNat y1) (0, 0, 0, 0)).2).2).1) ((((List.getD y0 (Int.toNat y1) (0, 0, 0, 0)).2).2).2)).2).1, ((((wtoDam ((List.getD y0 (Int.toNat y1) (0, 0, 0, 0)).1) (((List.getD y0 (Int.toNat y1) (0, 0, 0, 0)).2).1) ((((List.getD y0 (Int.toNat y1) (0, 0, 0, 0)).2).2).1) ((((List.getD y0 (Int.toNat y1) (0, 0, 0, 0)).2).2).2)).2).2).1, (((wtoDam ((List.getD y0 (Int.toNat y1) (0, 0, 0, 0)).1) (((List.getD y0 (Int.toNat y1) (0, 0, 0, 0)).2).1) ((((List.getD y0 (Int.toNat y1) (0, 0, 0, 0)).2).2).1) ((((List.getD y0 (Int.toNat y1) (0, 0, 0, 0)).2).2).2)).2).2).2))))))) .bad) .bad) (.ok (.inr y2))

noncomputable def wtoDamS_l3 (y0 : List (Int × Int × Int × Int)) (y1 : Int) (y2 : List (Int × Int × Int × Int)) : Option (List (Int × Int × Int × Int)) := runL (fun s : Int × (List (Int × Int × Int × Int)) => (wtoDamS_l3_t y0 s.1 s.2).sem) (y1, y2)

noncomputable def wtoDamS_t (x0 : List (Int × Int × Int × Int)) : Tr (List (Int × Int × Int × Int)) :=
  .br (decide ((((List.length x0 : Nat) : Int) : Int) = (((List.length x0 : Nat) : Int))) && decide (0 ≤ (((List.length x0 : Nat) : Int) : Int)) && decide ((((List.length x0 : Nat) : Int) : Int) * ((32 : Nat) : Int) ≤ 140737488355328)) (.br (osome (wtoDamS_l3 x0 0 (List.replicate (Int.toNat (((List.length x0 : Nat) : Int))) ((0, (0, (0, 0))))))) (.ok (oget (wtoDamS_l3 x0 0 (List.replicate (Int.toNat (((List.length x0 : Nat) : Int))) ((0, (0, (0, 0)))))))) .bad) .bad

noncomputable def wtoDamS (x0 : List (Int × Int × Int × Int)) : Option (List (Int × Int × Int × Int)) := (wtoDamS_t x0).sem

noncomputable def wtoRiver_t (x0 : List Int) (x1 : List (Int × Int × Int × Int)) (x2 : List Int) : Tr (List Int × (List (Int × Int × Int × Int)) × List Int) :=
  .br (osome (wtoInt64S x0)) (.br (osome (wtoDamS x1)) (.br (osome (wtoInt64S x2)) (.ok (oget (wtoInt64S x0), oget (wtoDamS x1), oget (wtoInt64S x2))) .bad) .bad) .bad

noncomputable def wtoRiver (x0 : List Int) (x1 : List (Int × Int × Int × Int)) (x2 : List Int) : Option (List Int × (List (Int × Int × Int × Int)) × List Int) := (wtoRiver_t x0 x1 x2).sem

noncomputable def sl06SameList_l4_t (y0 : List Int) (y1 : List Int) (y2 : Int) : Tr (Int ⊕ (Unit ⊕ Unit)) :=
  .br (decide ((y2 : Int) < (((List.length y0 : Nat) : Int)))) (.br (decide (0 ≤ (y2 : Int)) && decide ((y2 : Int) < ((List.length y0 : Nat) : Int))) (.br (decide (0 ≤ (y2 : Int)) && decide ((y2 : Int) < ((List.length y1 : Nat) : Int))) (.br ((List.getD y0 (Int.toNat y2) 0 : Int) != (List.getD y1 (Int.toNat y2) 0)) (.ok (.inr (.inl ()))) (.ok (.inl (IntKind.wrap .i64 (y2 + 1))))) .bad) .bad) (.ok (.inr (.inr ())))

noncomputable def sl06SameList_l4 (y0 : List Int) (y1 : List Int) (y2 : Int) : Option (Unit ⊕ Unit) := runL (fun s : Int => (sl06SameList_l4_t y0 y1 s).sem) y2

noncomputable def sl06SameList_t (x0 : List Int) (x1 : List Int) : Tr (Bool) :=
  .br ((((List.length x0 : Nat) : Int) : Int) != (((List.length x1 : Nat) : Int))) (.ok false) (.br (osome (sl06SameList_l4 x0 x1 0)) (.br (isL (oget (sl06SameList_l4 x0 x1 0))) (.ok false) (.ok true)) .bad)

noncomputable def sl06SameList (x0 : List Int) (x1 : List Int) : Option (Bool) := (sl06SameList_t x0 x1).sem

noncomputable def sl06Same_l4_t (y0 : List Int) (y1 : List (Int × Int × Int × Int)) (y2 : List Int) (y3 : List Int) (y4 : List (Int × Int × Int × Int)) (y5 : List Int) (y6 : Int) : Tr (Int ⊕ (Unit ⊕ Unit)) :=
  .br (decide ((y6 : Int) < (((List.length y1 : Nat) : Int)))) (.br (decide (0 ≤ (y6 : Int)) && decide ((y6 : Int) < ((List.length y1 : Nat) : Int))) (.br (decide (0 ≤ (y6 : Int)) && decide ((y6 : Int) < ((List.length y4 : Nat) : Int))) (.br (((List.getD y1 (Int.toNat y6) (0, 0, 0, 0)).1 : Int) == ((List.getD y4 (Int.toNat y6) (0, 0, 0, 0)).1)) (.br ((((List.getD y1 (Int.toNat y6) (0, 0, 0, 0)).2).1 : Int) == (((List.getD y4 (Int.toNat y6) (0, 0, 0, 0)).2).1)) (.br (((((List.getD y1 (Int.toNat y6) (0, 0, 0, 0)).2).2).1 : Int) == ((((List.getD y4 (Int.toNat y6) (0, 0, 0, 0)).2).2).1)) (.br (((((List.getD y1 (Int.toNat y6) (0, 0, 0, 0)).2).2).2 : Int) == ((((List.getD y4 (Int.toNat y6) (0, 0, 0, 0)).2).2).2)) (.ok (.inl (IntKind.wrap .i64 (y6 + 1)))) (.ok (.inr (.inl ())))) (.ok (.inr (.inl ())))) (.ok (.inr (.inl ())))) (.ok (.inr (.inl ())))) .bad) .bad) (.ok (.inr (.inr ())))

noncomputable def sl06Same_l4 (y0 : List Int) (y1 : List (Int × Int × Int × Int)) (y2 : List Int) (y3 : List Int) (y4 : List (Int × Int × Int × Int)) (y5 : List Int) (y6 : Int) : Option (Unit ⊕ Unit) := runL (fun s : Int => (sl06Same_l4_t y0 y1 y2 y3 y4 y5 s).sem) y6

noncomputable def sl06Same_t (x0 : List Int) (x1 : List (Int × Int × Int × Int)) (x2 : List Int) (x3 : List Int) (x4 : List (Int × Int × Int × Int)) (x5 : List Int) : Tr (Bool) :=
  .br (osome (sl06SameList x0 x3)) (.br (! (oget (sl06SameList x0 x3))) (.ok false) (.br (osome (sl06SameList x2 x5)) (.br (! (oget (sl06SameList x2 x5))) (.ok false) (.br ((((List.length x1 : Nat) : Int) : Int) != (((List.length x4 : Nat) : Int))) (.ok false) (.br (osome (sl06Same_l4 x0 x1 x2 x3 x4 x5 0)) (.br (isL (oget (sl06Same_l4 x0 x1 x2 x3 x4 x5 0))) (.ok false) (.ok true)) .bad))) .bad)) .bad

noncomputable def sl06Same (x0 : List Int) (x1 : List (Int × Int × Int × Int)) (x2 : List Int) (x3 : List Int) (x4 : List (Int × Int × Int × Int)) (x5 : List Int) : Option (Bool) := (sl06Same_t x0 x1 x2 x3 x4 x5).sem

noncomputable def sSameRiver_t (x0 : List Int) (x1 : List (Int × Int × Int × Int)) (x2 : List Int) (x3 : List Int) (x4 : List (Int × Int × Int × Int)) (x5 : List Int) : Tr (Bool) :=
  .br (osome (sl06Same x0 x1 x2 x3 x4 x5)) (.ok (oget (sl06Same x0 x1 x2 x3 x4 x5))) .bad

noncomputable def sSameRiver (x0 : List Int) (x1 : List (Int × Int × Int × Int)) (x2 : List Int) (x3 : List Int) (x4 : List (Int × Int × Int × Int)) (x5 : List Int) : Option (Bool) := (sSameRiver_t x0 x1 x2 x3 x4 x5).sem

noncomputable def lEqual_l4_t (y0 : List Int) (y1 : List Int) (y2 : Int) (y3 : Int) : Tr (Int ⊕ (Unit ⊕ Unit)) :=
  .br (decide ((y3 : Int) < y2)) (.br (decide (0 ≤ (y3 : Int)) && decide ((y3 : Int) < ((List.length y0 : Nat) : Int))) (.br (decide (0 ≤ (y3 : Int)) && decide ((y3 : Int) < ((List.length y1 : Nat) : Int))) (.br ((List.getD y0 (Int.toNat y3) 0 : Int) != (List.getD y1 (Int.toNat y3) 0)) (.ok (.inr (.inl ()))) (.ok (.inl (IntKind.wrap .i64 (y3 + 1))))) .bad) .bad) (.ok (.inr (.inr ())))

noncomputable def lEqual_l4 (y0 : List Int) (y1 : List Int) (y2 : Int) (y3 : Int) : Option (Unit ⊕ Unit) := runL (fun s : Int => (lEqual_l4_t y0 y1 y2 s).sem) y3

noncomputable def lEqual_t (x0 : List Int) (x1 : List Int) : Tr (Bool) :=
  .br ((((List.length x0 : Nat) : Int) : Int) != (((List.length x1 : Nat) : Int))) (.ok false) (.br (osome (lEqual_l4 x0 x1 (((List.length x0 : Nat) : Int)) 0)) (.br (isL (oget (lEqual_l4 x0 x1 (((List.length x0 : Nat) : Int)) 0))) (.ok false) (.ok true)) .bad)

noncomputable def lEqual (x0 : List Int) (x1 : List Int) : Option (Bool) := (lEqual_t x0 x1).sem

noncomputable def lEqual_n1_l4_t (y0 : List (Int × Int × Int × Int)) (y1 : List (Int × Int × Int × Int)) (y2 : Int) (y3 : Int) : Tr (Int ⊕ (Unit ⊕ Unit)) :=
  .br (decide ((y3 : Int) < y2)) (.br (decide (0 ≤ (y3 : Int)) && decide ((y3 : Int) < ((List.length y0 : Nat) : Int))) (.br (decide (0 ≤ (y3 : Int)) && decide ((y3 : Int) < ((List.length y1 : Nat) : Int))) (.br (((List.getD y0 (Int.toNat y3) (0, 0, 0, 0)).1 : Int) == ((List.getD y1 (Int.toNat y3) (0, 0, 0, 0)).1)) (.br ((((List.getD y0 (Int.toNat y3) (0, 0, 0, 0)).2).1 : Int) == (((List.getD y1 (Int.toNat y3) (0, 0, 0, 0)).2).1)) (.br (((((List.getD y0 (Int.toNat y3) (0, 0, 0, 0)).2).2).1 : Int) == ((((List.getD y1 (Int.toNat y3) (0, 0, 0, 0)).2).2).1)) (.br (((((List.getD y0 (Int.toNat y3) (0, 0, 0, 0)).2).2).2 : Int) == ((((List.getD y1 (Int.toNat y3) (0, 0, 0, 0)).2).2).2)) (.ok (.inl (IntKind.wrap .i64 (y3 + 1)))) (.ok (.inr (.inl ())))) (.ok (.inr (.inl ())))) (.ok (.inr (.inl ())))) (.ok (.inr (.inl ())))) .bad) .bad) (.ok (.inr (.inr ())))

noncomputable def lEqual_n1_l4 (y0 : List (Int × Int × Int × Int)) (y1 : List (Int × Int × Int × Int)) (y2 : Int) (y3 : Int) : Option (Unit ⊕ Unit) := runL (fun s : Int => (lEqual_n1_l4_t y0 y1 y2 s).sem) y3

noncomputable def lEqual_n1_t (x0 : List (Int × Int × Int × Int)) (x1 : List (Int × Int × Int × Int)) : Tr (Bool) :=
  .br ((((List.length x0 : Nat) : Int) : Int) != (((List.length x1 : Nat) : Int))) (.ok false) (.br (osome (lEqual_n1_l4 x0 x1 (((List.length x0 : Nat) : Int)) 0)) (.br (isL (oget (lEqual_n1_l4 x0 x1 (((List.length x0 : Nat) : Int)) 0))) (.ok false) (.ok true)) .bad)

noncomputable def lEqual_n1 (x0 : List (Int × Int × Int × Int)) (x1 : List (Int × Int × Int × Int)) : Option (Bool) := (lEqual_n1_t x0 x1).sem

noncomputable def iSameRiver_t (x0 : List Int) (x1 : List (Int × Int × Int × Int)) (x2 : List Int) (x3 : List Int) (x4 : List (Int × Int × Int × Int)) (x5 : List Int) : Tr (Bool) :=
  .br (osome (lEqual x0 x3)) (.br (oget (lEqual x0 x3)) (.br (osome (lEqual_n1 x1 x4)) (.br (oget (lEqual_n1 x1 x4)) (.br (osome (lEqual x2 x5)) (.ok (oget (lEqual x2 x5))) .bad) (.ok false)) .bad) (.ok false)) .bad

noncomputable def iSameRiver (x0 : List Int) (x1 : List (Int × Int × Int × Int)) (x2 : List Int) (x3 : List Int) (x4 : List (Int × Int × Int × Int)) (x5 : List Int) : Option (Bool) := (iSameRiver_t x0 x1 x2 x3 x4 x5).sem

noncomputable def weqInt64S_l4_t (y0 : List Int) (y1 : List Int) (y2 : Int) : Tr (Int ⊕ (Unit ⊕ Unit)) :=
  .br (decide ((y2 : Int) < (((List.length y0 : Nat) : Int)))) (.br (decide (0 ≤ (y2 : Int)) && decide ((y2 : Int) < ((List.length y0 : Nat) : Int))) (.br (decide (0 ≤ (y2 : Int)) && decide ((y2 : Int) < ((List.length y1 : Nat) : Int))) (.br ((List.getD y0 (Int.toNat y2) 0 : Int) != (List.getD y1 (Int.toNat y2) 0)) (.ok (.inr (.inl ()))) (.ok (.inl (IntKind.wrap .i64 (y2 + 1))))) .bad) .bad) (.ok (.inr (.inr ())))

noncomputable def weqInt64S_l4 (y0 : List Int) (y1 : List Int) (y2 : Int) : Option (Unit ⊕ Unit) := runL (fun s : Int => (weqInt64S_l4_t y0 y1 s).sem) y2

noncomputable def weqInt64S_t (x0 : List Int) (x1 : List Int) : Tr (Bool) :=
  .br ((((List.length x0 : Nat) : Int) : Int) != (((List.length x1 : Nat) : Int))) (.ok false) (.br (osome (weqInt64S_l4 x0 x1 0)) (.br (isL (oget (weqInt64S_l4 x0 x1 0))) (.ok false) (.ok true)) .bad)

noncomputable def weqInt64S (x0 : List Int) (x1 : List Int) : Option (Bool) := (weqInt64S_t x0 x1).sem

noncomputable def weqDam_t (x0 : Int) (x1 : Int) (x2 : Int) (x3 : Int) (x4 : Int) (x5 : Int) (x6 : Int) (x7 : Int) : Tr (Bool) :=
  .br ((x0 : Int) != x4) (.ok false) (.br ((x1 : Int) != x5) (.ok false) (.br ((x2 : Int) != x6) (.ok false) (.br ((x3 : Int) != x7) (.ok false) (.ok true))))

noncomputable def weqDam (x0 : Int) (x1 : Int) (x2 : Int) (x3 : Int) (x4 : Int) (x5 : Int) (x6 : Int) (x7 : Int) : Bool := (weqDam_t x0 x1 x2 x3 x4 x5 x6 x7).val

noncomputable def weqDamS_l4_t (y0 : List (Int × Int × Int × Int)) (y1 : List (Int × Int × Int × Int)) (y2 : Int) : Tr (Int ⊕ (Unit ⊕ Unit)) :=
  .br (decide ((y2 : Int) < (((List.length y0 : Nat) : Int)))) (.br (decide (0 ≤ (y2 : Int)) && decide ((y2 : Int) < ((List.length y0 : Nat) : Int))) (.br (decide (0 ≤ (y2 : Int)) && decide ((y2 : Int) < ((List.length y1 : Nat) : Int))) (.br (! (weqDam ((List.getD y0 (Int.toNat y2) (0, 0, 0, 0)).1) (((List.getD y0 (Int.toNat y2) (0, 0, 0, 0)).2).1) ((((List.getD y0 (Int.toNat y2) (0, 0, 0, 0)).2).2).1) ((((List.getD y0 (Int.toNat y2) (0, 0, 0, 0)).2).2).2) ((List.getD y1 (Int.toNat y2) (0, 0, 0, 0)).1) (((List.getD y1 (Int.toNat y2) (0, 0, 0, 0)).2).1) ((((List.getD y1 (Int.toNat y2) (0, 0, 0, 0)).2).2).1) ((((List.getD y1 (Int.toNat y2) (0, 0, 0, 0)).2).2).2))) (.ok (.inr (.inl ()))) (.ok (.inl (IntKind.wrap .i64 (y2 + 1))))) .bad) .bad) (.ok (.inr (.inr ())))

noncomputable def weqDamS_l4 (y0 : List (Int × Int × Int × Int)) (y1 : List (Int × Int × Int × Int)) (y2 : Int) : Option (Unit ⊕ Unit) := runL (fun s : Int => (weqDamS_l4_t y0 y1 s).sem) y2

noncomputable def weqDamS_t (x0 : List (Int × Int × Int × Int)) (x1 : List (Int × Int × Int × Int)) : Tr (Bool) :=
  .br ((((List.length x0 : Nat) : Int) : Int) != (((List.length x1 : Nat) : Int))) (.ok false) (.br (osome (weqDamS_l4 x0 x1 0)) (.br (isL (oget (weqDamS_l4 x0 x1 0))) (.ok false) (.ok true)) .bad)

noncomputable def weqDamS (x0 : List (Int × Int × Int × Int)) (x1 : List (Int × Int × Int × Int)) : Option (Bool) := (weqDamS_t x0 x1).sem

noncomputable def weqRiver_t (x0 : List Int) (x1 : List (Int × Int × Int × Int)) (x2 : List Int) (x3 : List Int) (x4 : List (Int × Int × Int × Int)) (x5 : List Int) : Tr (Bool) :=
  .br (osome (weqInt64S x0 x3)) (.br (! (oget (weqInt64S x0 x3))) (.ok false) (.br (osome (weqDamS x1 x4)) (.br (! (oget (weqDamS x1 x4))) (.ok false) (.br (osome (weqInt64S x2 x5)) (.br (! (oget (weqInt64S x2 x5))) (.ok false) (.ok true)) .bad)) .bad)) .bad

noncomputable def weqRiver (x0 : List Int) (x1 : List (Int × Int × Int × Int)) (x2 : List Int) (x3 : List Int) (x4 : List (Int × Int × Int × Int)) (x5 : List Int) : Option (Bool) := (weqRiver_t x0 x1 x2 x3 x4 x5).sem

noncomputable def wFnExactSameRiver_t (x0 : List Int) (x1 : List (Int × Int × Int × Int)) (x2 : List Int) (x3 : List Int) (x4 : List (Int × Int × Int × Int)) (x5 : List Int) : Tr (Bool) :=
  .br (decide ((wszRiver x0 x1 x2 1048576 : Int) < 0)) (.ok true) (.br (decide ((wszRiver x3 x4 x5 (wszRiver x0 x1 x2 1048576) : Int) < 0)) (.ok true) (.br (osome (wtoRiver x0 x1 x2)) (.br (osome (wtoRiver x3 x4 x5)) (.br (osome (sSameRiver ((oget (wtoRiver x0 x1 x2)).1) (((oget (wtoRiver x0 x1 x2)).2).1) (((oget (wtoRiver x0 x1 x2)).2).2) ((oget (wtoRiver x3 x4 x5)).1) (((oget (wtoRiver x3 x4 x5)).2).1) (((oget (wtoRiver x3 x4 x5)).2).2))) (.br (osome (wtoRiver x0 x1 x2)) (.br (osome (wtoRiver x3 x4 x5)) (.br (osome (iSameRiver ((oget (wtoRiver x0 x1 x2)).1) (((oget (wtoRiver x0 x1 x2)).2).1) (((oget (wtoRiver x0 x1 x2)).2).2) ((oget (wtoRiver x3 x4 x5)).1) (((oget (wtoRiver x3 x4 x5)).2).1) (((oget (wtoRiver x3 x4 x5)).2).2))) (.br (! ((oget (iSameRiver ((oget (wtoRiver x0 x1 x2)).1) (((oget (wtoRiver x0 x1 x2)).2).1) (((oget (wtoRiver x0 x1 x2)).2).2) ((oget (wtoRiver x3 x4 x5)).1) (((oget (wtoRiver x3 x4 x5)).2).1) (((oget (wtoRiver x3 x4 x5)).2).2))) == (oget (sSameRiver ((oget (wtoRiver x0 x1 x2)).1) (((oget (wtoRiver x0 x1 x2)).2).1) (((oget (wtoRiver x0 x1 x2)).2).2) ((oget (wtoRiver x3 x4 x5)).1) (((oget (wtoRiver x3 x4 x5)).2).1) (((oget (wtoRiver x3 x4 x5)).2).2))))) (.ok false) (.br (osome (wtoRiver x0 x1 x2)) (.br (osome (weqRiver ((oget (wtoRiver x0 x1 x2)).1) (((oget (wtoRiver x0 x1 x2)).2).1) (((oget (wtoRiver x0 x1 x2)).2).2) ((oget (wtoRiver x0 x1 x2)).1) (((oget (wtoRiver x0 x1 x2)).2).1) (((oget (wtoRiver x0 x1 x2)).2).2))) (.br (! (oget (weqRiver ((oget (wtoRiver x0 x1 x2)).1) (((oget (wtoRiver x0 x1 x2)).2).1) (((oget (wtoRiver x0 x1 x2)).2).2) ((oget (wtoRiver x0 x1 x2)).1) (((oget (wtoRiver x0 x1 x2)).2).1) (((oget (wtoRiver x0 x1 x2)).2).2)))) (.ok false) (.br (osome (wtoRiver x3 x4 x5)) (.br (osome (weqRiver ((oget (wtoRiver x3 x4 x5)).1) (((oget (wtoRiver x3 x4 x5)).2).1) (((oget (wtoRiver x3 x4 x5)).2).2) ((oget (wtoRiver x3 x4 x5)).1) (((oget (wtoRiver x3 x4 x5)).2).1) (((oget (wtoRiver x3 x4 x5)).2).2))) (.br (! (oget (weqRiver ((oget (wtoRiver x3 x4 x5)).1) (((oget (wtoRiver x3 x4 x5)).2).1) (((oget (wtoRiver x3 x4 x5)).2).2) ((oget (wtoRiver x3 x4 x5)).1) (((oget (wtoRiver x3 x4 x5)).2).1) (((oget (wtoRiver x3 x4 x5)).2).2)))) (.ok false) (.ok true)) .bad) .bad)) .bad) .bad)) .bad) .bad) .bad) .bad) .bad) .bad))

noncomputable def wFnExactSameRiver (x0 : List Int) (x1 : List (Int × Int × Int × Int)) (x2 : List Int) (x3 : List Int) (x4 : List (Int × Int × Int × Int)) (x5 : List Int) : Option (Bool) := (wFnExactSameRiver_t x0 x1 x2 x3 x4 x5).sem
end Go.Proofs.Ytjohnpldkanjmaa
