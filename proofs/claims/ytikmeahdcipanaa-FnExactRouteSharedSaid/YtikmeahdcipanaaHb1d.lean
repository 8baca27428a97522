/- Functions, as plain functions. Plain functions. -/
import Derived.Test.YtikmeahdcipanaaDa
set_option linter.unusedVariables false
set_option linter.unusedSimpArgs false
set_option linter.constructorNameAsVariable false
namespace Go.Proofs.Ytikmeahdcipanaa
open Go.RowKit
set_option maxRecDepth 100000
noncomputable def wszReachS_t (x0 : List (Nat × Nat)) (x1 : Int) : Tr (Int) :=
  .br (decide ((IntKind.wrap .i64 (x1 - (((List.length x0 : Nat) : Int))) : Int) < 0)) (.ok (-1)) (.ok (IntKind.wrap .i64 (x1 - (((List.length x0 : Nat) : Int)))))

noncomputable def wszReachS (x0 : List (Nat × Nat)) (x1 : Int) : Int := (wszReachS_t x0 x1).val

noncomputable def wszFloat32S_t (x0 : List Nat) (x1 : Int) : Tr (Int) :=
  .br (decide ((IntKind.wrap .i64 (x1 - (((List.length x0 : Nat) : Int))) : Int) < 0)) (.ok (-1)) (.ok (IntKind.wrap .i64 (x1 - (((List.length x0 : Nat) : Int)))))

noncomputable def wszFloat32S (x0 : List Nat) (x1 : Int) : Int := (wszFloat32S_t x0 x1).val

noncomputable def wszFloat32SS_l5_t (y0 : List (List Nat)) (y1 : Int) (y2 : Int) : Tr ((Int × Int) ⊕ (Int ⊕ Int)) :=
  .br (decide ((y2 : Int) < (((List.length y0 : Nat) : Int)))) (.br (decide (0 ≤ (y2 : Int)) && decide ((y2 : Int) < ((List.length y0 : Nat) : Int))) (.br (decide ((wszFloat32S (List.getD y0 (Int.toNat y2) []) y1 : Int) < 0)) (.ok (.inr (.inl (-1)))) (.ok (.inl (wszFloat32S (List.getD y0 (Int.toNat y2) []) y1, IntKind.wrap .i64 (y2 + 1))))) .bad) (.ok (.inr (.inr y1)))

noncomputable def wszFloat32SS_l5 (y0 : List (List Nat)) (y1 : Int) (y2 : Int) : Option (Int ⊕ Int) := runL (fun s : Int × Int => (wszFloat32SS_l5_t y0 s.1 s.2).sem) (y1, y2)

noncomputable def wszFloat32SS_t (x0 : List (List Nat)) (x1 : Int) : Tr (Int) :=
  .br (decide ((IntKind.wrap .i64 (x1 - (((List.length x0 : Nat) : Int))) : Int) < 0)) (.ok (-1)) (.br (osome (wszFloat32SS_l5 x0 (IntKind.wrap .i64 (x1 - (((List.length x0 : Nat) : Int)))) 0)) (.br (isL (oget (wszFloat32SS_l5 x0 (IntKind.wrap .i64 (x1 - (((List.length x0 : Nat) : Int)))) 0))) (.ok (unL (oget (wszFloat32SS_l5 x0 (IntKind.wrap .i64 (x1 - (((List.length x0 : Nat) : Int)))) 0)))) (.ok (unR (oget (wszFloat32SS_l5 x0 (IntKind.wrap .i64 (x1 - (((List.length x0 : Nat) : Int)))) 0))))) .bad)

noncomputable def wszFloat32SS (x0 : List (List Nat)) (x1 : Int) : Option (Int) := (wszFloat32SS_t x0 x1).sem

noncomputable def wtoReach_t (x0 : Nat) (x1 : Nat) : Tr (Nat × Nat) :=
  .ok (x0, x1)

noncomputable def wtoReach (x0 : Nat) (x1 : Nat) : Nat × Nat := (wtoReach_t x0 x1).val

noncomputable def wtoReachS_l3_t (y0 : List (Nat × Nat)) (y1 : Int) (y2 : List (Nat × Nat)) : Tr ((Int × (List (Nat × Nat))) ⊕ (List (Nat × Nat))) :=
  .br (decide ((y1 : Int) < (((List.length y0 : Nat) : Int)))) (.br (decide (0 ≤ (y1 : Int)) && decide ((y1 : Int) < ((List.length y0 : Nat) : Int))) (.br (decide (0 ≤ (y1 : Int)) && decide ((y1 : Int) < ((List.length y2 : Nat) : Int))) (.ok (.inl (IntKind.wrap .i64 (y1 + 1), List.set y2 (Int.toNat y1) (((wtoReach ((List.getD y0 (Int.toNat y1) (0, 0)).1) ((List.getD y0 (Int.toNat y1) (0, 0)).2)).1, (wtoReach ((List.getD y0 (Int.toNat y1) (0, 0)).1) ((List.getD y0 (Int.toNat y1) (0, 0)).2)).2))))) .bad) .bad) (.ok (.inr y2))

noncomputable def wtoReachS_l3 (y0 : List (Nat × Nat)) (y1 : Int) (y2 : List (Nat × Nat)) : Option (List (Nat × Nat)) := runL (fun s : Int × (List (Nat × Nat)) => (wtoReachS_l3_t y0 s.1 s.2).sem) (y1, y2)

noncomputable def wtoReachS_t (x0 : List (Nat × Nat)) : Tr (List (Nat × Nat)) :=
  .br (decide ((((List.length x0 : Nat) : Int) : Int) = (((List.length x0 : Nat) : Int))) && decide (0 ≤ (((List.length x0 : Nat) : Int) : Int)) && decide ((((List.length x0 : Nat) : Int) : Int) * ((8 : Nat) : Int) ≤ 140737488355328)) (.br (osome (wtoReachS_l3 x0 0 (List.replicate (Int.toNat (((List.length x0 : Nat) : Int))) ((0, 0))))) (.ok (oget (wtoReachS_l3 x0 0 (List.replicate (Int.toNat (((List.length x0 : Nat) : Int))) ((0, 0)))))) .bad) .bad

noncomputable def wtoReachS (x0 : List (Nat × Nat)) : Option (List (Nat × Nat)) := (wtoReachS_t x0).sem

noncomputable def wtoFloat32S_l3_t (y0 : List Nat) (y1 : Int) (y2 : List Nat) : Tr ((Int × List Nat) ⊕ (List Nat)) :=
  .br (decide ((y1 : Int) < (((List.length y0 : Nat) : Int)))) (.br (decide (0 ≤ (y1 : Int)) && decide ((y1 : Int) < ((List.length y0 : Nat) : Int))) (.br (decide (0 ≤ (y1 : Int)) && decide ((y1 : Int) < ((List.length y2 : Nat) : Int))) (.ok (.inl (IntKind.wrap .i64 (y1 + 1), List.set y2 (Int.toNat y1) (List.getD y0 (Int.toNat y1) 0)))) .bad) .bad) (.ok (.inr y2))

noncomputable def wtoFloat32S_l3 (y0 : List Nat) (y1 : Int) (y2 : List Nat) : Option (List Nat) := runL (fun s : Int × List Nat => (wtoFloat32S_l3_t y0 s.1 s.2).sem) (y1, y2)

noncomputable def wtoFloat32S_t (x0 : List Nat) : Tr (List Nat) :=
  .br (decide ((((List.length x0 : Nat) : Int) : Int) = (((List.length x0 : Nat) : Int))) && decide (0 ≤ (((List.length x0 : Nat) : Int) : Int)) && decide ((((List.length x0 : Nat) : Int) : Int) * ((4 : Nat) : Int) ≤ 140737488355328)) (.br (osome (wtoFloat32S_l3 x0 0 (List.replicate (Int.toNat (((List.length x0 : Nat) : Int))) 0))) (.ok (oget (wtoFloat32S_l3 x0 0 (List.replicate (Int.toNat (((List.length x0 : Nat) : Int))) 0)))) .bad) .bad

noncomputable def wtoFloat32S (x0 : List Nat) : Option (List Nat) := (wtoFloat32S_t x0).sem

noncomputable def wtoFloat32SS_l3_t (y0 : List (List Nat)) (y1 : Int) (y2 : List (List Nat)) : Tr ((Int × List (List Nat)) ⊕ (List (List Nat))) :=
  .br (decide ((y1 : Int) < (((List.length y0 : Nat) : Int)))) (.br (decide (0 ≤ (y1 : Int)) && decide ((y1 : Int) < ((List.length y0 : Nat) : Int))) (.br (osome (wtoFloat32S (List.getD y0 (Int.toNat y1) []))) (.br (decide (0 ≤ (y1 : Int)) && decide ((y1 : Int) < ((List.length y2 : Nat) : Int))) (.ok (.inl (IntKind.wrap .i64 (y1 + 1), List.set y2 (Int.toNat y1) (oget (wtoFloat32S (List.getD y0 (Int.toNat y1) [])))))) .bad) .bad) .bad) (.ok (.inr y2))

noncomputable def wtoFloat32SS_l3 (y0 : List (List Nat)) (y1 : Int) (y2 : List (List Nat)) : Option (List (List Nat)) := runL (fun s : Int × List (List Nat) => (wtoFloat32SS_l3_t y0 s.1 s.2).sem) (y1, y2)

noncomputable def wtoFloat32SS_t (x0 : List (List Nat)) : Tr (List (List Nat)) :=
  .br (decide ((((List.length x0 : Nat) : Int) : Int) = (((List.length x0 : Nat) : Int))) && decide (0 ≤ (((List.length x0 : Nat) : Int) : Int)) && decide ((((List.length x0 : Nat) : Int) : Int) * ((24 : Nat) : Int) ≤ 140737488355328)) (.br (osome (wtoFloat32SS_l3 x0 0 (List.replicate (Int.toNat (((List.length x0 : Nat) : Int))) []))) (.ok (oget (wtoFloat32SS_l3 x0 0 (List.replicate (Int.toNat (((List.length x0 : Nat) : Int))) [])))) .bad) .bad

noncomputable def wtoFloat32SS (x0 : List (List Nat)) : Option (List (List Nat)) := (wtoFloat32SS_t x0).sem

noncomputable def sl05Reach_t (x0 : Nat) (x1 : Nat) : Tr (Bool) :=
  .br (isLen x0) (.br (fge .f32 x1 0) (.ok (fle .f32 x1 1056964608)) (.ok false)) (.ok false)

noncomputable def sl05Reach (x0 : Nat) (x1 : Nat) : Bool := (sl05Reach_t x0 x1).val

noncomputable def sl05List_l3_t (y0 : List (Nat × Nat)) (y1 : Int) (y2 : Int) : Tr (Int ⊕ (Unit ⊕ Int)) :=
  .br (decide ((y2 : Int) < y1)) (.br (decide ((y1 : Int) ≤ 12)) (.br (decide (0 ≤ (y2 : Int)) && decide ((y2 : Int) < ((List.length y0 : Nat) : Int))) (.br (! (sl05Reach ((List.getD y0 (Int.toNat y2) (0, 0)).1) ((List.getD y0 (Int.toNat y2) (0, 0)).2))) (.ok (.inr (.inl ()))) (.ok (.inl (IntKind.wrap .i64 (y2 + 1))))) .bad) (.ok (.inr (.inr y1)))) (.ok (.inr (.inr y1)))

noncomputable def sl05List_l3 (y0 : List (Nat × Nat)) (y1 : Int) (y2 : Int) : Option (Unit ⊕ Int) := runL (fun s : Int => (sl05List_l3_t y0 y1 s).sem) y2

noncomputable def sl05List_t (x0 : List (Nat × Nat)) : Tr (Bool) :=
  .br (osome (sl05List_l3 x0 (((List.length x0 : Nat) : Int)) 0)) (.br (isL (oget (sl05List_l3 x0 (((List.length x0 : Nat) : Int)) 0))) (.ok false) (.br (decide ((unR (oget (sl05List_l3 x0 (((List.length x0 : Nat) : Int)) 0)) : Int) ≥ 1)) (.ok (decide ((unR (oget (sl05List_l3 x0 (((List.length x0 : Nat) : Int)) 0)) : Int) ≤ 12))) (.ok false))) .bad

noncomputable def sl05List (x0 : List (Nat × Nat)) : Option (Bool) := (sl05List_t x0).sem

noncomputable def sl00In_t (x0 : Int) (x1 : Int) (x2 : Int) : Tr (Bool) :=
  .br (decide ((x0 : Int) ≥ x1)) (.ok (decide ((x0 : Int) ≤ x2))) (.ok false)

noncomputable def sl00In (x0 : Int) (x1 : Int) (x2 : Int) : Bool := (sl00In_t x0 x1 x2).val

noncomputable def sl02Finite_l2_t (y0 : List Nat) (y1 : Int) : Tr (Int ⊕ (Unit ⊕ Unit)) :=
  .br (decide ((y1 : Int) < (((List.length y0 : Nat) : Int)))) (.br (decide (0 ≤ (y1 : Int)) && decide ((y1 : Int) < ((List.length y0 : Nat) : Int))) (.br (! (isFin .f32 (List.getD y0 (Int.toNat y1) 0))) (.ok (.inr (.inl ()))) (.ok (.inl (IntKind.wrap .i64 (y1 + 1))))) .bad) (.ok (.inr (.inr ())))

noncomputable def sl02Finite_l2 (y0 : List Nat) (y1 : Int) : Option (Unit ⊕ Unit) := runL (fun s : Int => (sl02Finite_l2_t y0 s).sem) y1

noncomputable def sl02Finite_t (x0 : List Nat) : Tr (Bool) :=
  .br (osome (sl02Finite_l2 x0 0)) (.br (isL (oget (sl02Finite_l2 x0 0))) (.ok false) (.ok true)) .bad

noncomputable def sl02Finite (x0 : List Nat) : Option (Bool) := (sl02Finite_t x0).sem

noncomputable def sl05Ins_t (x0 : List Nat) : Tr (Bool) :=
  .br (decide ((((List.length x0 : Nat) : Int) : Int) ≥ 1)) (.br (decide ((((List.length x0 : Nat) : Int) : Int) ≤ 128)) (.br (osome (sl02Finite x0)) (.ok (oget (sl02Finite x0))) .bad) (.ok false)) (.ok false)

noncomputable def sl05Ins (x0 : List Nat) : Option (Bool) := (sl05Ins_t x0).sem

noncomputable def sl05Shares_t (x0 : Nat) (x1 : Nat) (x2 : Nat) : Tr (Nat × Nat × Nat × Bool) :=
  .br (! (isFin .f32 (fdiv .f32 (fsub .f32 x2 (fmul .f32 (fmul .f32 1073741824 x0) x1)) (fadd .f32 (fmul .f32 (fmul .f32 1073741824 x0) (fsub .f32 1065353216 x1)) x2)))) (.ok (0, 0, 0, false)) (.br (! (isFin .f32 (fdiv .f32 (fadd .f32 x2 (fmul .f32 (fmul .f32 1073741824 x0) x1)) (fadd .f32 (fmul .f32 (fmul .f32 1073741824 x0) (fsub .f32 1065353216 x1)) x2)))) (.ok (0, 0, 0, false)) (.br (! (isFin .f32 (fdiv .f32 (fsub .f32 (fmul .f32 (fmul .f32 1073741824 x0) (fsub .f32 1065353216 x1)) x2) (fadd .f32 (fmul .f32 (fmul .f32 1073741824 x0) (fsub .f32 1065353216 x1)) x2)))) (.ok (0, 0, 0, false)) (.ok (fdiv .f32 (fsub .f32 x2 (fmul .f32 (fmul .f32 1073741824 x0) x1)) (fadd .f32 (fmul .f32 (fmul .f32 1073741824 x0) (fsub .f32 1065353216 x1)) x2), fdiv .f32 (fadd .f32 x2 (fmul .f32 (fmul .f32 1073741824 x0) x1)) (fadd .f32 (fmul .f32 (fmul .f32 1073741824 x0) (fsub .f32 1065353216 x1)) x2), fdiv .f32 (fsub .f32 (fmul .f32 (fmul .f32 1073741824 x0) (fsub .f32 1065353216 x1)) x2) (fadd .f32 (fmul .f32 (fmul .f32 1073741824 x0) (fsub .f32 1065353216 x1)) x2), true))))

noncomputable def sl05Shares (x0 : Nat) (x1 : Nat) (x2 : Nat) : Nat × Nat × Nat × Bool := (sl05Shares_t x0 x1 x2).val

noncomputable def sl05Route_l6_t (y0 : List Nat) (y1 : Nat) (y2 : Nat) (y3 : Nat) (y4 : Int) (y5 : List Nat) : Tr ((Int × List Nat) ⊕ (List Nat)) :=
  .br (decide ((y4 : Int) < (((List.length y0 : Nat) : Int)))) (.br (decide (0 ≤ (y4 : Int)) && decide ((y4 : Int) < ((List.length y0 : Nat) : Int))) (.br (decide (0 ≤ (IntKind.wrap .i64 (y4 - 1) : Int)) && decide ((IntKind.wrap .i64 (y4 - 1) : Int) < ((List.length y0 : Nat) : Int))) (.br (decide (0 ≤ (IntKind.wrap .i64 (y4 - 1) : Int)) && decide ((IntKind.wrap .i64 (y4 - 1) : Int) < ((List.length y5 : Nat) : Int))) (.br (decide ((List.length y5 + List.length [fadd .f32 (fadd .f32 (fmul .f32 y1 (List.getD y0 (Int.toNat y4) 0)) (fmul .f32 y2 (List.getD y0 (Int.toNat (IntKind.wrap .i64 (y4 - 1))) 0))) (fmul .f32 y3 (List.getD y5 (Int.toNat (IntKind.wrap .i64 (y4 - 1))) 0))]) * 4 ≤ 140737488355328)) (.ok (.inl (IntKind.wrap .i64 (y4 + 1), y5 ++ [fadd .f32 (fadd .f32 (fmul .f32 y1 (List.getD y0 (Int.toNat y4) 0)) (fmul .f32 y2 (List.getD y0 (Int.toNat (IntKind.wrap .i64 (y4 - 1))) 0))) (fmul .f32 y3 (List.getD y5 (Int.toNat (IntKind.wrap .i64 (y4 - 1))) 0))]))) .bad) .bad) .bad) .bad) (.ok (.inr y5))

noncomputable def sl05Route_l6 (y0 : List Nat) (y1 : Nat) (y2 : Nat) (y3 : Nat) (y4 : Int) (y5 : List Nat) : Option (List Nat) := runL (fun s : Int × List Nat => (sl05Route_l6_t y0 y1 y2 y3 s.1 s.2).sem) (y4, y5)

noncomputable def sl05Route_t (x0 : Nat) (x1 : Nat) (x2 : List Nat) (x3 : Nat) (x4 : Nat) : Tr (Unit ⊕ (List Nat)) :=
  .br (! ((((sl05Shares x0 x1 x3).2).2).2)) (.ok (.inl ())) (.br (osome (sl05Route_l6 x2 ((sl05Shares x0 x1 x3).1) (((sl05Shares x0 x1 x3).2).1) ((((sl05Shares x0 x1 x3).2).2).1) 1 [x4])) (.br (osome (sl02Finite (oget (sl05Route_l6 x2 ((sl05Shares x0 x1 x3).1) (((sl05Shares x0 x1 x3).2).1) ((((sl05Shares x0 x1 x3).2).2).1) 1 [x4])))) (.br (!(oget (sl02Finite (oget (sl05Route_l6 x2 ((sl05Shares x0 x1 x3).1) (((sl05Shares x0 x1 x3).2).1) ((((sl05Shares x0 x1 x3).2).2).1) 1 [x4]))))) (.ok (.inl ())) (.ok (.inr (oget (sl05Route_l6 x2 ((sl05Shares x0 x1 x3).1) (((sl05Shares x0 x1 x3).2).1) ((((sl05Shares x0 x1 x3).2).2).1) 1 [x4]))))) .bad) .bad)

noncomputable def sl05Route (x0 : Nat) (x1 : Nat) (x2 : List Nat) (x3 : Nat) (x4 : Nat) : Option (Unit ⊕ (List Nat)) := (sl05Route_t x0 x1 x2 x3 x4).sem

noncomputable def sl05Chain_l3_t (y0 : List (Nat × Nat)) (y1 : Nat) (y2 : Int) (y3 : Int) (y4 : List Nat) : Tr ((Int × List Nat) ⊕ (Unit ⊕ (List Nat))) :=
  .br (decide ((y3 : Int) < y2)) (.br (decide (0 ≤ (y3 : Int)) && decide ((y3 : Int) < ((List.length y0 : Nat) : Int))) (.br (decide (0 ≤ (0 : Int)) && decide ((0 : Int) < ((List.length y4 : Nat) : Int))) (.br (osome (sl05Route ((List.getD y0 (Int.toNat y3) (0, 0)).1) ((List.getD y0 (Int.toNat y3) (0, 0)).2) y4 y1 (List.getD y4 (Int.toNat 0) 0))) (.br (isL (oget (sl05Route ((List.getD y0 (Int.toNat y3) (0, 0)).1) ((List.getD y0 (Int.toNat y3) (0, 0)).2) y4 y1 (List.getD y4 (Int.toNat 0) 0)))) (.ok (.inr (.inl ()))) (.ok (.inl (IntKind.wrap .i64 (y3 + 1), unR (oget (sl05Route ((List.getD y0 (Int.toNat y3) (0, 0)).1) ((List.getD y0 (Int.toNat y3) (0, 0)).2) y4 y1 (List.getD y4 (Int.toNat 0) 0))))))) .bad) .bad) .bad) (.ok (.inr (.inr y4)))

noncomputable def sl05Chain_l3 (y0 : List (Nat × Nat)) (y1 : Nat) (y2 : Int) (y3 : Int) (y4 : List Nat) : Option (Unit ⊕ (List Nat)) := runL (fun s : Int × List Nat => (sl05Chain_l3_t y0 y1 y2 s.1 s.2).sem) (y3, y4)

noncomputable def sl05Chain_t (x0 : List (Nat × Nat)) (x1 : List Nat) (x2 : Nat) : Tr (Unit ⊕ (List Nat)) :=
  .br (decide ((List.length ([] : List Nat) + List.length x1) * 4 ≤ 140737488355328)) (.br (osome (sl05Chain_l3 x0 x2 (((List.length x0 : Nat) : Int)) 0 ([] ++ x1))) (.br (isL (oget (sl05Chain_l3 x0 x2 (((List.length x0 : Nat) : Int)) 0 ([] ++ x1)))) (.ok (.inl ())) (.ok (.inr (unR (oget (sl05Chain_l3 x0 x2 (((List.length x0 : Nat) : Int)) 0 ([] ++ x1))))))) .bad) .bad

noncomputable def sl05Chain (x0 : List (Nat × Nat)) (x1 : List Nat) (x2 : Nat) : Option (Unit ⊕ (List Nat)) := (sl05Chain_t x0 x1 x2).sem

noncomputable def sRouteShared_l5_t (y0 : List (Nat × Nat)) (y1 : List (List Nat)) (y2 : Nat) (y3 : Int) (y4 : Int) (y5 : List (List Nat)) : Tr ((Int × List (List Nat)) ⊕ (Unit ⊕ (List (List Nat)))) :=
  .br (decide ((y4 : Int) < y3)) (.br (decide (0 ≤ (y4 : Int)) && decide ((y4 : Int) < ((List.length y1 : Nat) : Int))) (.br (osome (sl05Ins (List.getD y1 (Int.toNat y4) []))) (.br (!(oget (sl05Ins (List.getD y1 (Int.toNat y4) [])))) (.ok (.inr (.inl ()))) (.br (decide (0 ≤ (y4 : Int)) && decide ((y4 : Int) < ((List.length y1 : Nat) : Int))) (.br (osome (sl05Chain y0 (List.getD y1 (Int.toNat y4) []) y2)) (.br (isL (oget (sl05Chain y0 (List.getD y1 (Int.toNat y4) []) y2))) (.ok (.inr (.inl ()))) (.br (decide ((List.length y5 + List.length [unR (oget (sl05Chain y0 (List.getD y1 (Int.toNat y4) []) y2))]) * 24 ≤ 140737488355328)) (.ok (.inl (IntKind.wrap .i64 (y4 + 1), y5 ++ [unR (oget (sl05Chain y0 (List.getD y1 (Int.toNat y4) []) y2))]))) .bad)) .bad) .bad)) .bad) .bad) (.ok (.inr (.inr y5)))

noncomputable def sRouteShared_l5 (y0 : List (Nat × Nat)) (y1 : List (List Nat)) (y2 : Nat) (y3 : Int) (y4 : Int) (y5 : List (List Nat)) : Option (Unit ⊕ (List (List Nat))) := runL (fun s : Int × List (List Nat) => (sRouteShared_l5_t y0 y1 y2 y3 s.1 s.2).sem) (y4, y5)

noncomputable def sRouteShared_t (x0 : List (Nat × Nat)) (x1 : List (List Nat)) (x2 : Nat) (x3 : Int) : Tr (Unit ⊕ (List (List Nat))) :=
  .br (osome (sl05List x0)) (.br (!(oget (sl05List x0))) (.ok (.inl ())) (.br (decide ((((List.length x1 : Nat) : Int) : Int) > 12)) (.ok (.inl ())) (.br (! (isLen x2)) (.ok (.inl ())) (.br (! (sl00In x3 1 8)) (.ok (.inl ())) (.br (osome (sRouteShared_l5 x0 x1 x2 (((List.length x1 : Nat) : Int)) 0 [])) (.br (isL (oget (sRouteShared_l5 x0 x1 x2 (((List.length x1 : Nat) : Int)) 0 []))) (.ok (.inl ())) (.ok (.inr (unR (oget (sRouteShared_l5 x0 x1 x2 (((List.length x1 : Nat) : Int)) 0 [])))))) .bad))))) .bad

noncomputable def sRouteShared (x0 : List (Nat × Nat)) (x1 : List (List Nat)) (x2 : Nat) (x3 : Int) : Option (Unit ⊕ (List (List Nat))) := (sRouteShared_t x0 x1 x2 x3).sem

noncomputable def iwithin_t (x0 : Int) (x1 : Int) (x2 : Int) : Tr (Bool) :=
  .br (decide ((x1 : Int) ≤ x0)) (.ok (decide ((x0 : Int) ≤ x2))) (.ok false)

noncomputable def iwithin (x0 : Int) (x1 : Int) (x2 : Int) : Bool := (iwithin_t x0 x1 x2).val

noncomputable def iValidReach_t (x0 : Nat) (x1 : Nat) : Tr (Bool) :=
  .br (isLen x0) (.br (fge .f32 x1 0) (.ok (fle .f32 x1 1056964608)) (.ok false)) (.ok false)

noncomputable def iValidReach (x0 : Nat) (x1 : Nat) : Bool := (iValidReach_t x0 x1).val

noncomputable def iareReaches_1_t (x0 : Nat) (x1 : Nat) : Tr (Bool) :=
  .ok (! (iValidReach x0 x1))

noncomputable def iareReaches_1 (x0 : Nat) (x1 : Nat) : Bool := (iareReaches_1_t x0 x1).val

noncomputable def lIndexFunc_iareReaches_1_l2_t (y0 : List (Nat × Nat)) (y1 : Int) (y2 : Int) : Tr (Int ⊕ (Int ⊕ Unit)) :=
  .br (decide ((y2 : Int) < y1)) (.br (decide (0 ≤ (y2 : Int)) && decide ((y2 : Int) < ((List.length y0 : Nat) : Int))) (.br (iareReaches_1 ((List.getD y0 (Int.toNat y2) (0, 0)).1) ((List.getD y0 (Int.toNat y2) (0, 0)).2)) (.ok (.inr (.inl y2))) (.ok (.inl (IntKind.wrap .i64 (y2 + 1))))) .bad) (.ok (.inr (.inr ())))

noncomputable def lIndexFunc_iareReaches_1_l2 (y0 : List (Nat × Nat)) (y1 : Int) (y2 : Int) : Option (Int ⊕ Unit) := runL (fun s : Int => (lIndexFunc_iareReaches_1_l2_t y0 y1 s).sem) y2

noncomputable def lIndexFunc_iareReaches_1_t (x0 : List (Nat × Nat)) : Tr (Int) :=
  .br (osome (lIndexFunc_iareReaches_1_l2 x0 (((List.length x0 : Nat) : Int)) 0)) (.br (isL (oget (lIndexFunc_iareReaches_1_l2 x0 (((List.length x0 : Nat) : Int)) 0))) (.ok (unL (oget (lIndexFunc_iareReaches_1_l2 x0 (((List.length x0 : Nat) : Int)) 0)))) (.ok (-1))) .bad

noncomputable def lIndexFunc_iareReaches_1 (x0 : List (Nat × Nat)) : Option (Int) := (lIndexFunc_iareReaches_1_t x0).sem

noncomputable def lContainsFunc_iareReaches_1_t (x0 : List (Nat × Nat)) : Tr (Bool) :=
  .br (osome (lIndexFunc_iareReaches_1 x0)) (.ok (decide (((oget (lIndexFunc_iareReaches_1 x0)) : Int) ≥ 0))) .bad

noncomputable def lContainsFunc_iareReaches_1 (x0 : List (Nat × Nat)) : Option (Bool) := (lContainsFunc_iareReaches_1_t x0).sem

noncomputable def iareReaches_t (x0 : List (Nat × Nat)) : Tr (Bool) :=
  .br (iwithin (((List.length x0 : Nat) : Int)) 1 12) (.br (osome (lContainsFunc_iareReaches_1 x0)) (.ok (!(oget (lContainsFunc_iareReaches_1 x0)))) .bad) (.ok false)

noncomputable def iareReaches (x0 : List (Nat × Nat)) : Option (Bool) := (iareReaches_t x0).sem

noncomputable def iareFinite_1_t (x0 : Nat) : Tr (Bool) :=
  .ok (! (isFin .f32 x0))

noncomputable def iareFinite_1 (x0 : Nat) : Bool := (iareFinite_1_t x0).val

noncomputable def lIndexFunc_iareFinite_1_l2_t (y0 : List Nat) (y1 : Int) (y2 : Int) : Tr (Int ⊕ (Int ⊕ Unit)) :=
  .br (decide ((y2 : Int) < y1)) (.br (decide (0 ≤ (y2 : Int)) && decide ((y2 : Int) < ((List.length y0 : Nat) : Int))) (.br (iareFinite_1 (List.getD y0 (Int.toNat y2) 0)) (.ok (.inr (.inl y2))) (.ok (.inl (IntKind.wrap .i64 (y2 + 1))))) .bad) (.ok (.inr (.inr ())))

noncomputable def lIndexFunc_iareFinite_1_l2 (y0 : List Nat) (y1 : Int) (y2 : Int) : Option (Int ⊕ Unit) := runL (fun s : Int => (lIndexFunc_iareFinite_1_l2_t y0 y1 s).sem) y2

noncomputable def lIndexFunc_iareFinite_1_t (x0 : List Nat) : Tr (Int) :=
  .br (osome (lIndexFunc_iareFinite_1_l2 x0 (((List.length x0 : Nat) : Int)) 0)) (.br (isL (oget (lIndexFunc_iareFinite_1_l2 x0 (((List.length x0 : Nat) : Int)) 0))) (.ok (unL (oget (lIndexFunc_iareFinite_1_l2 x0 (((List.length x0 : Nat) : Int)) 0)))) (.ok (-1))) .bad

noncomputable def lIndexFunc_iareFinite_1 (x0 : List Nat) : Option (Int) := (lIndexFunc_iareFinite_1_t x0).sem

noncomputable def lContainsFunc_iareFinite_1_t (x0 : List Nat) : Tr (Bool) :=
  .br (osome (lIndexFunc_iareFinite_1 x0)) (.ok (decide (((oget (lIndexFunc_iareFinite_1 x0)) : Int) ≥ 0))) .bad

noncomputable def lContainsFunc_iareFinite_1 (x0 : List Nat) : Option (Bool) := (lContainsFunc_iareFinite_1_t x0).sem

noncomputable def iareFinite_t (x0 : List Nat) : Tr (Bool) :=
  .br (osome (lContainsFunc_iareFinite_1 x0)) (.ok (!(oget (lContainsFunc_iareFinite_1 x0)))) .bad

noncomputable def iareFinite (x0 : List Nat) : Option (Bool) := (iareFinite_t x0).sem

noncomputable def iareIns_t (x0 : List Nat) : Tr (Bool) :=
  .br (iwithin (((List.length x0 : Nat) : Int)) 1 128) (.br (osome (iareFinite x0)) (.ok (oget (iareFinite x0))) .bad) (.ok false)

noncomputable def iareIns (x0 : List Nat) : Option (Bool) := (iareIns_t x0).sem

noncomputable def iReachShares_t (x0 : Nat) (x1 : Nat) (x2 : Nat) : Tr (Nat × Nat × Nat × Bool) :=
  .br (! (iValidReach x0 x1)) (.ok (0, 0, 0, false)) (.br (! (isLen x2)) (.ok (0, 0, 0, false)) (.br (osome (iareFinite [fdiv .f32 (fsub .f32 x2 (fmul .f32 (fmul .f32 1073741824 x0) x1)) (fadd .f32 (fmul .f32 (fmul .f32 1073741824 x0) (fsub .f32 1065353216 x1)) x2), fdiv .f32 (fadd .f32 x2 (fmul .f32 (fmul .f32 1073741824 x0) x1)) (fadd .f32 (fmul .f32 (fmul .f32 1073741824 x0) (fsub .f32 1065353216 x1)) x2), fdiv .f32 (fsub .f32 (fmul .f32 (fmul .f32 1073741824 x0) (fsub .f32 1065353216 x1)) x2) (fadd .f32 (fmul .f32 (fmul .f32 1073741824 x0) (fsub .f32 1065353216 x1)) x2)])) (.br (!(oget (iareFinite [fdiv .f32 (fsub .f32 x2 (fmul .f32 (fmul .f32 1073741824 x0) x1)) (fadd .f32 (fmul .f32 (fmul .f32 1073741824 x0) (fsub .f32 1065353216 x1)) x2), fdiv .f32 (fadd .f32 x2 (fmul .f32 (fmul .f32 1073741824 x0) x1)) (fadd .f32 (fmul .f32 (fmul .f32 1073741824 x0) (fsub .f32 1065353216 x1)) x2), fdiv .f32 (fsub .f32 (fmul .f32 (fmul .f32 1073741824 x0) (fsub .f32 1065353216 x1)) x2) (fadd .f32 (fmul .f32 (fmul .f32 1073741824 x0) (fsub .f32 1065353216 x1)) x2)]))) (.ok (0, 0, 0, false)) (.ok (fdiv .f32 (fsub .f32 x2 (fmul .f32 (fmul .f32 1073741824 x0) x1)) (fadd .f32 (fmul .f32 (fmul .f32 1073741824 x0) (fsub .f32 1065353216 x1)) x2), fdiv .f32 (fadd .f32 x2 (fmul .f32 (fmul .f32 1073741824 x0) x1)) (fadd .f32 (fmul .f32 (fmul .f32 1073741824 x0) (fsub .f32 1065353216 x1)) x2), fdiv .f32 (fsub .f32 (fmul .f32 (fmul .f32 1073741824 x0) (fsub .f32 1065353216 x1)) x2) (fadd .f32 (fmul .f32 (fmul .f32 1073741824 x0) (fsub .f32 1065353216 x1)) x2), true))) .bad))

noncomputable def iReachShares (x0 : Nat) (x1 : Nat) (x2 : Nat) : Option (Nat × Nat × Nat × Bool) := (iReachShares_t x0 x1 x2).sem

noncomputable def iRouteReach_l6_t (y0 : List Nat) (y1 : Nat) (y2 : Nat) (y3 : Nat) (y4 : Int) (y5 : List Nat) : Tr ((Int × List Nat) ⊕ (List Nat)) :=
  .br (decide ((y4 : Int) < (((List.length y0 : Nat) : Int)))) (.br (decide (0 ≤ (y4 : Int)) && decide ((y4 : Int) < ((List.length y0 : Nat) : Int))) (.br (decide (0 ≤ (IntKind.wrap .i64 (y4 - 1) : Int)) && decide ((IntKind.wrap .i64 (y4 - 1) : Int) < ((List.length y0 : Nat) : Int))) (.br (decide (0 ≤ (IntKind.wrap .i64 (y4 - 1) : Int)) && decide ((IntKind.wrap .i64 (y4 - 1) : Int) < ((List.length y5 : Nat) : Int))) (.br (decide ((List.length y5 + List.length [fadd .f32 (fadd .f32 (fmul .f32 y1 (List.getD y0 (Int.toNat y4) 0)) (fmul .f32 y2 (List.getD y0 (Int.toNat (IntKind.wrap .i64 (y4 - 1))) 0))) (fmul .f32 y3 (List.getD y5 (Int.toNat (IntKind.wrap .i64 (y4 - 1))) 0))]) * 4 ≤ 140737488355328)) (.ok (.inl (IntKind.wrap .i64 (y4 + 1), y5 ++ [fadd .f32 (fadd .f32 (fmul .f32 y1 (List.getD y0 (Int.toNat y4) 0)) (fmul .f32 y2 (List.getD y0 (Int.toNat (IntKind.wrap .i64 (y4 - 1))) 0))) (fmul .f32 y3 (List.getD y5 (Int.toNat (IntKind.wrap .i64 (y4 - 1))) 0))]))) .bad) .bad) .bad) .bad) (.ok (.inr y5))

noncomputable def iRouteReach_l6 (y0 : List Nat) (y1 : Nat) (y2 : Nat) (y3 : Nat) (y4 : Int) (y5 : List Nat) : Option (List Nat) := runL (fun s : Int × List Nat => (iRouteReach_l6_t y0 y1 y2 y3 s.1 s.2).sem) (y4, y5)

noncomputable def iRouteReach_t (x0 : Nat) (x1 : Nat) (x2 : List Nat) (x3 : Nat) (x4 : Nat) : Tr (Unit ⊕ (List Nat)) :=
  .br (osome (iReachShares x0 x1 x3)) (.br (!(oget (iReachShares x0 x1 x3)).2.2.2) (.ok (.inl ())) (.br (osome (iareIns x2)) (.br (!(oget (iareIns x2))) (.ok (.inl ())) (.br (! (isFin .f32 x4)) (.ok (.inl ())) (.br (osome (iRouteReach_l6 x2 (oget (iReachShares x0 x1 x3)).1 (oget (iReachShares x0 x1 x3)).2.1 (oget (iReachShares x0 x1 x3)).2.2.1 1 [x4])) (.br (osome (iareFinite (oget (iRouteReach_l6 x2 (oget (iReachShares x0 x1 x3)).1 (oget (iReachShares x0 x1 x3)).2.1 (oget (iReachShares x0 x1 x3)).2.2.1 1 [x4])))) (.br (!(oget (iareFinite (oget (iRouteReach_l6 x2 (oget (iReachShares x0 x1 x3)).1 (oget (iReachShares x0 x1 x3)).2.1 (oget (iReachShares x0 x1 x3)).2.2.1 1 [x4]))))) (.ok (.inl ())) (.ok (.inr (oget (iRouteReach_l6 x2 (oget (iReachShares x0 x1 x3)).1 (oget (iReachShares x0 x1 x3)).2.1 (oget (iReachShares x0 x1 x3)).2.2.1 1 [x4]))))) .bad) .bad))) .bad)) .bad

noncomputable def iRouteReach (x0 : Nat) (x1 : Nat) (x2 : List Nat) (x3 : Nat) (x4 : Nat) : Option (Unit ⊕ (List Nat)) := (iRouteReach_t x0 x1 x2 x3 x4).sem

noncomputable def iRouteReaches_l4_t0 (y0 : List Nat) (y1 : Nat) (y2 : List (Nat × Nat)) (y3 : Int) (y4 : Int) : Tr (((List Nat × Nat × (List (Nat × Nat)) × Int × Int) ⊕ (Nat × (List (Nat × Nat)) × Int × Int × List Nat)) ⊕ (Unit ⊕ (List Nat) ⊕ (List Nat))) :=
  .br (decide ((y4 : Int) < y3)) (.br (decide (0 ≤ (y4 : Int)) && decide ((y4 : Int) < ((List.length y2 : Nat) : Int))) (.br (decide (0 ≤ (0 : Int)) && decide ((0 : Int) < ((List.length y0 : Nat) : Int))) (.br (osome (iRouteReach ((List.getD y2 (Int.toNat y4) (0, 0)).1) ((List.getD y2 (Int.toNat y4) (0, 0)).2) y0 y1 (List.getD y0 (Int.toNat 0) 0))) (.br (isL (oget (iRouteReach ((List.getD y2 (Int.toNat y4) (0, 0)).1) ((List.getD y2 (Int.toNat y4) (0, 0)).2) y0 y1 (List.getD y0 (Int.toNat 0) 0)))) (.ok (.inr (.inl ()))) (.ok (.inl (.inr (y1, y2, y3, IntKind.wrap .i64 (y4 + 1), unR (oget (iRouteReach ((List.getD y2 (Int.toNat y4) (0, 0)).1) ((List.getD y2 (Int.toNat y4) (0, 0)).2) y0 y1 (List.getD y0 (Int.toNat 0) 0)))))))) .bad) .bad) .bad) (.ok (.inr (.inr (.inl y0))))

noncomputable def iRouteReaches_l4_t1 (y0 : Nat) (y1 : List (Nat × Nat)) (y2 : Int) (y3 : Int) (y4 : List Nat) : Tr (((List Nat × Nat × (List (Nat × Nat)) × Int × Int) ⊕ (Nat × (List (Nat × Nat)) × Int × Int × List Nat)) ⊕ (Unit ⊕ (List Nat) ⊕ (List Nat))) :=
  .br (decide ((y3 : Int) < y2)) (.br (decide (0 ≤ (y3 : Int)) && decide ((y3 : Int) < ((List.length y1 : Nat) : Int))) (.br (decide (0 ≤ (0 : Int)) && decide ((0 : Int) < ((List.length y4 : Nat) : Int))) (.br (osome (iRouteReach ((List.getD y1 (Int.toNat y3) (0, 0)).1) ((List.getD y1 (Int.toNat y3) (0, 0)).2) y4 y0 (List.getD y4 (Int.toNat 0) 0))) (.br (isL (oget (iRouteReach ((List.getD y1 (Int.toNat y3) (0, 0)).1) ((List.getD y1 (Int.toNat y3) (0, 0)).2) y4 y0 (List.getD y4 (Int.toNat 0) 0)))) (.ok (.inr (.inl ()))) (.ok (.inl (.inr (y0, y1, y2, IntKind.wrap .i64 (y3 + 1), unR (oget (iRouteReach ((List.getD y1 (Int.toNat y3) (0, 0)).1) ((List.getD y1 (Int.toNat y3) (0, 0)).2) y4 y0 (List.getD y4 (Int.toNat 0) 0)))))))) .bad) .bad) .bad) (.ok (.inr (.inr (.inr y4))))

noncomputable def iRouteReaches_l4_s : ((List Nat × Nat × (List (Nat × Nat)) × Int × Int) ⊕ (Nat × (List (Nat × Nat)) × Int × Int × List Nat)) → Option (((List Nat × Nat × (List (Nat × Nat)) × Int × Int) ⊕ (Nat × (List (Nat × Nat)) × Int × Int × List Nat)) ⊕ (Unit ⊕ (List Nat) ⊕ (List Nat)))
  | (.inl y) => (iRouteReaches_l4_t0 y.1 y.2.1 y.2.2.1 y.2.2.2.1 y.2.2.2.2).sem
  | (.inr y) => (iRouteReaches_l4_t1 y.1 y.2.1 y.2.2.1 y.2.2.2.1 y.2.2.2.2).sem

noncomputable def iRouteReaches_l4 (x : (List Nat × Nat × (List (Nat × Nat)) × Int × Int) ⊕ (Nat × (List (Nat × Nat)) × Int × Int × List Nat)) : Option (Unit ⊕ (List Nat) ⊕ (List Nat)) := runL iRouteReaches_l4_s x

noncomputable def iRouteReaches_t (x0 : List (Nat × Nat)) (x1 : List Nat) (x2 : Nat) : Tr (Unit ⊕ (List Nat) ⊕ (List Nat)) :=
  .br (osome (iareReaches x0)) (.br (!(oget (iareReaches x0))) (.ok (.inl ())) (.br (osome (iareIns x1)) (.br (!(oget (iareIns x1))) (.ok (.inl ())) (.br (osome (iRouteReaches_l4 (.inl ((x1, (x2, (x0, (((List.length x0 : Nat) : Int), 0)))))))) (.br (isL (oget (iRouteReaches_l4 (.inl ((x1, (x2, (x0, (((List.length x0 : Nat) : Int), 0))))))))) (.ok (.inl ())) (.br (isL (unR (oget (iRouteReaches_l4 (.inl ((x1, (x2, (x0, (((List.length x0 : Nat) : Int), 0)))))))))) (.ok (.inr (.inl (unL (unR (oget (iRouteReaches_l4 (.inl ((x1, (x2, (x0, (((List.length x0 : Nat) : Int), 0))))))))))))) (.ok (.inr (.inr (unR (unR (oget (iRouteReaches_l4 (.inl ((x1, (x2, (x0, (((List.length x0 : Nat) : Int), 0))))))))))))))) .bad)) .bad)) .bad

noncomputable def iRouteReaches (x0 : List (Nat × Nat)) (x1 : List Nat) (x2 : Nat) : Option (Unit ⊕ (List Nat) ⊕ (List Nat)) := (iRouteReaches_t x0 x1 x2).sem

noncomputable def iRouteShared_l5_t (y0 : List (Nat × Nat)) (y1 : Nat) (y2 : List (List Nat)) (y3 : Int) (y4 : Int) (y5 : List (List Nat)) : Tr ((Int × List (List Nat)) ⊕ (Unit ⊕ (List (List Nat)))) :=
  .br (decide ((y4 : Int) < y3)) (.br (decide (0 ≤ (y4 : Int)) && decide ((y4 : Int) < ((List.length y2 : Nat) : Int))) (.br (osome (iRouteReaches y0 (List.getD y2 (Int.toNat y4) []) y1)) (.br (isL (oget (iRouteReaches y0 (List.getD y2 (Int.toNat y4) []) y1))) (.ok (.inr (.inl ()))) (.br (isL (unR (oget (iRouteReaches y0 (List.getD y2 (Int.toNat y4) []) y1)))) .bad (.br (decide ((List.length y5 + List.length [unR (unR (oget (iRouteReaches y0 (List.getD y2 (Int.toNat y4) []) y1)))]) * 24 ≤ 140737488355328)) (.ok (.inl (IntKind.wrap .i64 (y4 + 1), y5 ++ [unR (unR (oget (iRouteReaches y0 (List.getD y2 (Int.toNat y4) []) y1)))]))) .bad))) .bad) .bad) (.ok (.inr (.inr y5)))

noncomputable def iRouteShared_l5 (y0 : List (Nat × Nat)) (y1 : Nat) (y2 : List (List Nat)) (y3 : Int) (y4 : Int) (y5 : List (List Nat)) : Option (Unit ⊕ (List (List Nat))) := runL (fun s : Int × List (List Nat) => (iRouteShared_l5_t y0 y1 y2 y3 s.1 s.2).sem) (y4, y5)

noncomputable def iRouteShared_t (x0 : List (Nat × Nat)) (x1 : List (List Nat)) (x2 : Nat) (x3 : Int) : Tr (Unit ⊕ (List (List Nat))) :=
  .br (osome (iareReaches x0)) (.br (!(oget (iareReaches x0))) (.ok (.inl ())) (.br (decide ((((List.length x1 : Nat) : Int) : Int) > 12)) (.ok (.inl ())) (.br (! (isLen x2)) (.ok (.inl ())) (.br (! (iwithin x3 1 8)) (.ok (.inl ())) (.br (osome (iRouteShared_l5 x0 x2 x1 (((List.length x1 : Nat) : Int)) 0 [])) (.br (isL (oget (iRouteShared_l5 x0 x2 x1 (((List.length x1 : Nat) : Int)) 0 []))) (.ok (.inl ())) (.ok (.inr (unR (oget (iRouteShared_l5 x0 x2 x1 (((List.length x1 : Nat) : Int)) 0 [])))))) .bad))))) .bad

noncomputable def iRouteShared (x0 : List (Nat × Nat)) (x1 : List (List Nat)) (x2 : Nat) (x3 : Int) : Option (Unit ⊕ (List (List Nat))) := (iRouteShared_t x0 x1 x2 x3).sem

noncomputable def weqFloat32S_l4_t (y0 : List Nat) (y1 : List Nat) (y2 : Int) : Tr (Int ⊕ Unit) :=
  .br (decide ((y2 : Int) < (((List.length y0 : Nat) : Int)))) (.br (decide (0 ≤ (y2 : Int)) && decide ((y2 : Int) < ((List.length y0 : Nat) : Int))) (.br (decide (0 ≤ (y2 : Int)) && decide ((y2 : Int) < ((List.length y1 : Nat) : Int))) (.br (natEq (fup (List.getD y0 (Int.toNat y2) 0)) (fup (List.getD y1 (Int.toNat y2) 0))) (.ok (.inl (IntKind.wrap .i64 (y2 + 1)))) .bad) .bad) .bad) (.ok (.inr ()))

noncomputable def weqFloat32S_l4 (y0 : List Nat) (y1 : List Nat) (y2 : Int) : Option (Unit) := runL (fun s : Int => (weqFloat32S_l4_t y0 y1 s).sem) y2

noncomputable def weqFloat32S_t (x0 : List Nat) (x1 : List Nat) : Tr (Bool) :=
  .br ((((List.length x0 : Nat) : Int) : Int) != (((List.length x1 : Nat) : Int))) (.ok false) (.br (osome (weqFloat32S_l4 x0 x1 0)) (.ok true) .bad)

noncomputable def weqFloat32S (x0 : List Nat) (x1 : List Nat) : Option (Bool) := (weqFloat32S_t x0 x1).sem

noncomputable def weqFloat32SS_l4_t (y0 : List (List Nat)) (y1 : List (List Nat)) (y2 : Int) : Tr (Int ⊕ (Unit ⊕ Unit)) :=
  .br (decide ((y2 : Int) < (((List.length y0 : Nat) : Int)))) (.br (decide (0 ≤ (y2 : Int)) && decide ((y2 : Int) < ((List.length y0 : Nat) : Int))) (.br (decide (0 ≤ (y2 : Int)) && decide ((y2 : Int) < ((List.length y1 : Nat) : Int))) (.br (osome (weqFloat32S (List.getD y0 (Int.toNat y2) []) (List.getD y1 (Int.toNat y2) []))) (.br (!(oget (weqFloat32S (List.getD y0 (Int.toNat y2) []) (List.getD y1 (Int.toNat y2) [])))) (.ok (.inr (.inl ()))) (.ok (.inl (IntKind.wrap .i64 (y2 + 1))))) .bad) .bad) .bad) (.ok (.inr (.inr ())))

noncomputable def weqFloat32SS_l4 (y0 : List (List Nat)) (y1 : List (List Nat)) (y2 : Int) : Option (Unit ⊕ Unit) := runL (fun s : Int => (weqFloat32SS_l4_t y0 y1 s).sem) y2

noncomputable def weqFloat32SS_t (x0 : List (List Nat)) (x1 : List (List Nat)) : Tr (Bool) :=
  .br ((((List.length x0 : Nat) : Int) : Int) != (((List.length x1 : Nat) : Int))) (.ok false) (.br (osome (weqFloat32SS_l4 x0 x1 0)) (.br (isL (oget (weqFloat32SS_l4 x0 x1 0))) (.ok false) (.ok true)) .bad)

noncomputable def weqFloat32SS (x0 : List (List Nat)) (x1 : List (List Nat)) : Option (Bool) := (weqFloat32SS_t x0 x1).sem

noncomputable def weqReach_t (x0 : Nat) (x1 : Nat) (x2 : Nat) (x3 : Nat) : Tr (Unit) :=
  .br (natEq (fup x0) (fup x2)) (.br (natEq (fup x1) (fup x3)) (.ok ()) .bad) .bad

noncomputable def weqReach (x0 : Nat) (x1 : Nat) (x2 : Nat) (x3 : Nat) : Option (Unit) := (weqReach_t x0 x1 x2 x3).sem

noncomputable def weqReachS_l4_t (y0 : List (Nat × Nat)) (y1 : List (Nat × Nat)) (y2 : Int) : Tr (Int ⊕ Unit) :=
  .br (decide ((y2 : Int) < (((List.length y0 : Nat) : Int)))) (.br (decide (0 ≤ (y2 : Int)) && decide ((y2 : Int) < ((List.length y0 : Nat) : Int))) (.br (decide (0 ≤ (y2 : Int)) && decide ((y2 : Int) < ((List.length y1 : Nat) : Int))) (.br (osome (weqReach ((List.getD y0 (Int.toNat y2) (0, 0)).1) ((List.getD y0 (Int.toNat y2) (0, 0)).2) ((List.getD y1 (Int.toNat y2) (0, 0)).1) ((List.getD y1 (Int.toNat y2) (0, 0)).2))) (.ok (.inl (IntKind.wrap .i64 (y2 + 1)))) .bad) .bad) .bad) (.ok (.inr ()))

noncomputable def weqReachS_l4 (y0 : List (Nat × Nat)) (y1 : List (Nat × Nat)) (y2 : Int) : Option (Unit) := runL (fun s : Int => (weqReachS_l4_t y0 y1 s).sem) y2

noncomputable def weqReachS_t (x0 : List (Nat × Nat)) (x1 : List (Nat × Nat)) : Tr (Bool) :=
  .br ((((List.length x0 : Nat) : Int) : Int) != (((List.length x1 : Nat) : Int))) (.ok false) (.br (osome (weqReachS_l4 x0 x1 0)) (.ok true) .bad)

noncomputable def weqReachS (x0 : List (Nat × Nat)) (x1 : List (Nat × Nat)) : Option (Bool) := (weqReachS_t x0 x1).sem

noncomputable def wmarkReachS_l2_t  (y0 : Int) (y1 : Int) (y2 : List (Nat × Nat)) : Tr ((Int × Int × (List (Nat × Nat))) ⊕ (Int × (List (Nat × Nat)))) :=
  .br (decide ((y1 : Int) < (((List.length y2 : Nat) : Int)))) (.br (decide (0 ≤ (y1 : Int)) && decide ((y1 : Int) < ((List.length y2 : Nat) : Int))) (.br (decide (0 ≤ (y1 : Int)) && decide ((y1 : Int) < ((List.length (List.set y2 (Int.toNat y1) ((FloatKind.nearest .f32 y0, (List.getD y2 (Int.toNat y1) (0, 0)).2))) : Nat) : Int))) (.ok (.inl (IntKind.wrap .i64 ((IntKind.wrap .i64 (y0 + 1)) + 1), IntKind.wrap .i64 (y1 + 1), List.set (List.set y2 (Int.toNat y1) ((FloatKind.nearest .f32 y0, (List.getD y2 (Int.toNat y1) (0, 0)).2))) (Int.toNat y1) (((List.getD (List.set y2 (Int.toNat y1) ((FloatKind.nearest .f32 y0, (List.getD y2 (Int.toNat y1) (0, 0)).2))) (Int.toNat y1) (0, 0)).1, FloatKind.nearest .f32 (IntKind.wrap .i64 (y0 + 1))))))) .bad) .bad) (.ok (.inr (y0, y2)))

noncomputable def wmarkReachS_l2 (y0 : Int) (y1 : Int) (y2 : List (Nat × Nat)) : Option (Int × (List (Nat × Nat))) := runL (fun s : Int × Int × (List (Nat × Nat)) => (wmarkReachS_l2_t  s.1 s.2.1 s.2.2).sem) (y0, y1, y2)

noncomputable def wmarkReachS_t (x0 : Int) (x1 : List (Nat × Nat)) : Tr (Int × (List (Nat × Nat))) :=
  .br (osome (wmarkReachS_l2 x0 0 x1)) (.ok (oget (wmarkReachS_l2 x0 0 x1))) .bad

noncomputable def wmarkReachS (x0 : Int) (x1 : List (Nat × Nat)) : Option (Int × (List (Nat × Nat))) := (wmarkReachS_t x0 x1).sem

noncomputable def wmarkFloat32S_l2_t  (y0 : Int) (y1 : Int) (y2 : List Nat) : Tr ((Int × Int × List Nat) ⊕ (Int × List Nat)) :=
  .br (decide ((y1 : Int) < (((List.length y2 : Nat) : Int)))) (.br (decide (0 ≤ (y1 : Int)) && decide ((y1 : Int) < ((List.length y2 : Nat) : Int))) (.ok (.inl (IntKind.wrap .i64 (y0 + 1), IntKind.wrap .i64 (y1 + 1), List.set y2 (Int.toNat y1) (FloatKind.nearest .f32 y0)))) .bad) (.ok (.inr (y0, y2)))

noncomputable def wmarkFloat32S_l2 (y0 : Int) (y1 : Int) (y2 : List Nat) : Option (Int × List Nat) := runL (fun s : Int × Int × List Nat => (wmarkFloat32S_l2_t  s.1 s.2.1 s.2.2).sem) (y0, y1, y2)

noncomputable def wmarkFloat32S_t (x0 : Int) (x1 : List Nat) : Tr (Int × List Nat) :=
  .br (osome (wmarkFloat32S_l2 x0 0 x1)) (.ok (oget (wmarkFloat32S_l2 x0 0 x1))) .bad

noncomputable def wmarkFloat32S (x0 : Int) (x1 : List Nat) : Option (Int × List Nat) := (wmarkFloat32S_t x0 x1).sem

noncomputable def wmarkFloat32S_nil_l2_t (y0 : Int) (y1 : Int)  : Tr (Unit ⊕ Int) :=
  .br (decide ((y1 : Int) < 0)) .bad (.ok (.inr y0))

noncomputable def wmarkFloat32S_nil_l2 (y0 : Int) (y1 : Int) : Option (Int) := runL (fun s : Unit => (wmarkFloat32S_nil_l2_t y0 y1 ).sem) ()

noncomputable def wmarkFloat32S_nil_t (x0 : Int) : Tr (Int) :=
  .br (osome (wmarkFloat32S_nil_l2 x0 0)) (.ok (oget (wmarkFloat32S_nil_l2 x0 0))) .bad

noncomputable def wmarkFloat32S_nil (x0 : Int) : Option (Int) := (wmarkFloat32S_nil_t x0).sem

noncomputable def wmarkFloat32SS_l2_t  (y0 : Int) (y1 : Int) (y2 : List (List Nat)) : Tr ((Int × Int × List (List Nat)) ⊕ (Int × List (List Nat))) :=
  .br (decide ((y1 : Int) < (((List.length y2 : Nat) : Int)))) (.br (decide (0 ≤ (y1 : Int)) && decide ((y1 : Int) < ((List.length y2 : Nat) : Int))) (.br (osome (wmarkFloat32S y0 (List.getD y2 (Int.toNat y1) []))) (.br (List.isEmpty (List.getD y2 (Int.toNat y1) [])) (.br (osome (wmarkFloat32S_nil y0)) (.br (((oget (wmarkFloat32S y0 (List.getD y2 (Int.toNat y1) []))).1 : Int) == (oget (wmarkFloat32S_nil y0))) (.ok (.inl ((oget (wmarkFloat32S y0 (List.getD y2 (Int.toNat y1) []))).1, IntKind.wrap .i64 (y1 + 1), List.set y2 (Int.toNat y1) (List.getD y2 (Int.toNat y1) [])))) .bad) .bad) (.ok (.inl ((oget (wmarkFloat32S y0 (List.getD y2 (Int.toNat y1) []))).1, IntKind.wrap .i64 (y1 + 1), List.set y2 (Int.toNat y1) (oget (wmarkFloat32S y0 (List.getD y2 (Int.toNat y1) []))).2)))) .bad) .bad) (.ok (.inr (y0, y2)))

noncomputable def wmarkFloat32SS_l2 (y0 : Int) (y1 : Int) (y2 : List (List Nat)) : Option (Int × List (List Nat)) := runL (fun s : Int × Int × List (List Nat) => (wmarkFloat32SS_l2_t  s.1 s.2.1 s.2.2).sem) (y0, y1, y2)

noncomputable def wmarkFloat32SS_t (x0 : Int) (x1 : List (List Nat)) : Tr (Int × List (List Nat)) :=
  .br (osome (wmarkFloat32SS_l2 x0 0 x1)) (.ok (oget (wmarkFloat32SS_l2 x0 0 x1))) .bad

noncomputable def wmarkFloat32SS (x0 : Int) (x1 : List (List Nat)) : Option (Int × List (List Nat)) := (wmarkFloat32SS_t x0 x1).sem

noncomputable def wheldFloat32S_l2_t (y0 : List Nat) (y1 : Int) (y2 : Int) : Tr ((Int × Int) ⊕ (Int ⊕ Int)) :=
  .br (decide ((y2 : Int) < (((List.length y0 : Nat) : Int)))) (.br (decide (0 ≤ (y2 : Int)) && decide ((y2 : Int) < ((List.length y0 : Nat) : Int))) (.br (! (feq .f32 (List.getD y0 (Int.toNat y2) 0) (FloatKind.nearest .f32 y1))) (.ok (.inr (.inl (-1)))) (.ok (.inl (IntKind.wrap .i64 (y1 + 1), IntKind.wrap .i64 (y2 + 1))))) .bad) (.ok (.inr (.inr y1)))

noncomputable def wheldFloat32S_l2 (y0 : List Nat) (y1 : Int) (y2 : Int) : Option (Int ⊕ Int) := runL (fun s : Int × Int => (wheldFloat32S_l2_t y0 s.1 s.2).sem) (y1, y2)

noncomputable def wheldFloat32S_t (x0 : List Nat) (x1 : Int) : Tr (Int) :=
  .br (osome (wheldFloat32S_l2 x0 x1 0)) (.br (isL (oget (wheldFloat32S_l2 x0 x1 0))) (.ok (unL (oget (wheldFloat32S_l2 x0 x1 0)))) (.ok (unR (oget (wheldFloat32S_l2 x0 x1 0))))) .bad

noncomputable def wheldFloat32S (x0 : List Nat) (x1 : Int) : Option (Int) := (wheldFloat32S_t x0 x1).sem

noncomputable def wheldFloat32SS_l2_t (y0 : List (List Nat)) (y1 : Int) (y2 : Int) : Tr ((Int × Int) ⊕ (Int ⊕ Int)) :=
  .br (decide ((y2 : Int) < (((List.length y0 : Nat) : Int)))) (.br (decide (0 ≤ (y2 : Int)) && decide ((y2 : Int) < ((List.length y0 : Nat) : Int))) (.br (osome (wheldFloat32S (List.getD y0 (Int.toNat y2) []) y1)) (.br (decide (((oget (wheldFloat32S (List.getD y0 (Int.toNat y2) []) y1)) : Int) < 0)) (.ok (.inr (.inl (-1)))) (.ok (.inl ((oget (wheldFloat32S (List.getD y0 (Int.toNat y2) []) y1)), IntKind.wrap .i64 (y2 + 1))))) .bad) .bad) (.ok (.inr (.inr y1)))

noncomputable def wheldFloat32SS_l2 (y0 : List (List Nat)) (y1 : Int) (y2 : Int) : Option (Int ⊕ Int) := runL (fun s : Int × Int => (wheldFloat32SS_l2_t y0 s.1 s.2).sem) (y1, y2)

noncomputable def wheldFloat32SS_t (x0 : List (List Nat)) (x1 : Int) : Tr (Int) :=
  .br (osome (wheldFloat32SS_l2 x0 x1 0)) (.br (isL (oget (wheldFloat32SS_l2 x0 x1 0))) (.ok (unL (oget (wheldFloat32SS_l2 x0 x1 0)))) (.ok (unR (oget (wheldFloat32SS_l2 x0 x1 0))))) .bad

noncomputable def wheldFloat32SS (x0 : List (List Nat)) (x1 : Int) : Option (Int) := (wheldFloat32SS_t x0 x1).sem

noncomputable def wmarkFloat32SS_nil_l2_t (y0 : Int) (y1 : Int)  : Tr (Unit ⊕ Int) :=
  .br (decide ((y1 : Int) < 0)) .bad (.ok (.inr y0))

noncomputable def wmarkFloat32SS_nil_l2 (y0 : Int) (y1 : Int) : Option (Int) := runL (fun s : Unit => (wmarkFloat32SS_nil_l2_t y0 y1 ).sem) ()

noncomputable def wmarkFloat32SS_nil_t (x0 : Int) : Tr (Int) :=
  .br (osome (wmarkFloat32SS_nil_l2 x0 0)) (.ok (oget (wmarkFloat32SS_nil_l2 x0 0))) .bad

noncomputable def wmarkFloat32SS_nil (x0 : Int) : Option (Int) := (wmarkFloat32SS_nil_t x0).sem

noncomputable def wFnExactRouteShared_o1 (v16 : Int) (v22 : Int) : Tr (Bool) :=
  .br (decide ((v22 : Int) < 0)) (.ok false) (.br ((v22 : Int) != v16) (.ok false) (.ok true))

noncomputable def wFnExactRouteShared_o2 (v16 : Int) (v21 : Bool) : Tr (Bool) :=
  .br (!v21) (.ok false) (.br (! (false == false)) (.ok false) (.br (osome (wheldFloat32SS [] 1)) (wFnExactRouteShared_o1 v16 (oget (wheldFloat32SS [] 1))) .bad))

noncomputable def wFnExactRouteShared_o3 (v16 : Int) (v24 : Int) : Tr (Bool) :=
  .br (decide ((v24 : Int) < 0)) (.ok false) (.br ((v24 : Int) != v16) (.ok false) (.ok true))

noncomputable def wFnExactRouteShared_o4 (v16 : Int) (v23 : Bool) : Tr (Bool) :=
  .br (!v23) (.ok false) (.br (! (true == false)) (.ok false) (.br (osome (wheldFloat32SS [] 1)) (wFnExactRouteShared_o3 v16 (oget (wheldFloat32SS [] 1))) .bad))

noncomputable def wFnExactRouteShared_o5 (v16 : Int) (v20 : Unit ⊕ (List (List Nat))) : Tr (Bool) :=
  .br (isL v20) (.br (osome (weqFloat32SS [] [])) (wFnExactRouteShared_o2 v16 (oget (weqFloat32SS [] []))) .bad) (.br (osome (weqFloat32SS (unR v20) [])) (wFnExactRouteShared_o4 v16 (oget (weqFloat32SS (unR v20) []))) .bad)

noncomputable def wFnExactRouteShared_o6 (x2 : Nat) (x3 : Int) (v16 : Int) (v18 : List (Nat × Nat)) (v19 : List (List Nat)) : Tr (Bool) :=
  .br (osome (iRouteShared v18 v19 x2 x3)) (wFnExactRouteShared_o5 v16 (oget (iRouteShared v18 v19 x2 x3))) .bad

noncomputable def wFnExactRouteShared_o7 (x1 : List (List Nat)) (x2 : Nat) (x3 : Int) (v16 : Int) (v18 : List (Nat × Nat)) : Tr (Bool) :=
  .br (osome (wtoFloat32SS x1)) (wFnExactRouteShared_o6 x2 x3 v16 v18 (oget (wtoFloat32SS x1))) .bad

noncomputable def wFnExactRouteShared_o8 (x0 : List (Nat × Nat)) (x1 : List (List Nat)) (x2 : Nat) (x3 : Int) (v16 : Int) (v17 : Int) : Tr (Bool) :=
  .br (decide ((v17 : Int) < 0)) (.ok false) (.br ((v17 : Int) != v16) (.ok false) (.br (osome (wtoReachS x0)) (wFnExactRouteShared_o7 x1 x2 x3 v16 (oget (wtoReachS x0))) .bad))

noncomputable def wFnExactRouteShared_o9 (x0 : List (Nat × Nat)) (x1 : List (List Nat)) (x2 : Nat) (x3 : Int) (v16 : Int) : Tr (Bool) :=
  .br (osome (wheldFloat32SS [] 1)) (wFnExactRouteShared_o8 x0 x1 x2 x3 v16 (oget (wheldFloat32SS [] 1))) .bad

noncomputable def wFnExactRouteShared_o10 (x0 : List (Nat × Nat)) (x1 : List (List Nat)) (x2 : Nat) (x3 : Int) (v15 : Bool) : Tr (Bool) :=
  .br (!v15) (.ok false) (.br (! (false == false)) (.ok false) (.br (osome (wmarkFloat32SS_nil 1)) (wFnExactRouteShared_o9 x0 x1 x2 x3 (oget (wmarkFloat32SS_nil 1))) .bad))

noncomputable def wFnExactRouteShared_o11 (x0 : List (Nat × Nat)) (x1 : List (List Nat)) (x2 : Nat) (x3 : Int) (v14 : Int × (List (List Nat))) : Tr (Bool) :=
  .br (decide ((v14.1 : Int) < 0)) (.ok false) (.br (osome (weqFloat32SS [] [])) (wFnExactRouteShared_o10 x0 x1 x2 x3 (oget (weqFloat32SS [] []))) .bad)

noncomputable def wFnExactRouteShared_o12 (x0 : List (Nat × Nat)) (x1 : List (List Nat)) (x2 : Nat) (x3 : Int) (v6 : List (List Nat)) (v13 : Int × (List (Nat × Nat))) : Tr (Bool) :=
  .br (osome (wmarkFloat32SS v13.1 v6)) (wFnExactRouteShared_o11 x0 x1 x2 x3 (oget (wmarkFloat32SS v13.1 v6))) .bad

noncomputable def wFnExactRouteShared_o13 (x0 : List (Nat × Nat)) (x1 : List (List Nat)) (x2 : Nat) (x3 : Int) (v5 : List (Nat × Nat)) (v6 : List (List Nat)) (v12 : Bool) : Tr (Bool) :=
  .br (!v12) (.ok false) (.br (osome (wmarkReachS 1 v5)) (wFnExactRouteShared_o12 x0 x1 x2 x3 v6 (oget (wmarkReachS 1 v5))) .bad)

noncomputable def wFnExactRouteShared_o14 (x0 : List (Nat × Nat)) (x1 : List (List Nat)) (x2 : Nat) (x3 : Int) (v5 : List (Nat × Nat)) (v6 : List (List Nat)) (v11 : List (List Nat)) : Tr (Bool) :=
  .br (osome (weqFloat32SS v6 v11)) (wFnExactRouteShared_o13 x0 x1 x2 x3 v5 v6 (oget (weqFloat32SS v6 v11))) .bad

noncomputable def wFnExactRouteShared_o15 (x0 : List (Nat × Nat)) (x1 : List (List Nat)) (x2 : Nat) (x3 : Int) (v5 : List (Nat × Nat)) (v6 : List (List Nat)) (v10 : Bool) : Tr (Bool) :=
  .br (!v10) (.ok false) (.br (osome (wtoFloat32SS x1)) (wFnExactRouteShared_o14 x0 x1 x2 x3 v5 v6 (oget (wtoFloat32SS x1))) .bad)

noncomputable def wFnExactRouteShared_o16 (x0 : List (Nat × Nat)) (x1 : List (List Nat)) (x2 : Nat) (x3 : Int) (v5 : List (Nat × Nat)) (v6 : List (List Nat)) (v9 : List (Nat × Nat)) : Tr (Bool) :=
  .br (osome (weqReachS v5 v9)) (wFnExactRouteShared_o15 x0 x1 x2 x3 v5 v6 (oget (weqReachS v5 v9))) .bad

noncomputable def wFnExactRouteShared_o17 (x0 : List (Nat × Nat)) (x1 : List (List Nat)) (x2 : Nat) (x3 : Int) (v5 : List (Nat × Nat)) (v6 : List (List Nat)) (v8 : Bool) : Tr (Bool) :=
  .br (!v8) (.ok false) (.br (! (false == false)) (.ok false) (.br (osome (wtoReachS x0)) (wFnExactRouteShared_o16 x0 x1 x2 x3 v5 v6 (oget (wtoReachS x0))) .bad))

noncomputable def wFnExactRouteShared_o18 (v33 : Int × (List (List Nat))) (v39 : Int) : Tr (Bool) :=
  .br (decide ((v39 : Int) < 0)) (.ok false) (.br ((v39 : Int) != v33.1) (.ok false) (.ok true))

noncomputable def wFnExactRouteShared_o19 (v33 : Int × (List (List Nat))) (v38 : Bool) : Tr (Bool) :=
  .br (!v38) (.ok false) (.br (! (false == false)) (.ok false) (.br (osome (wheldFloat32SS v33.2 1)) (wFnExactRouteShared_o18 v33 (oget (wheldFloat32SS v33.2 1))) .bad))

noncomputable def wFnExactRouteShared_o20 (v33 : Int × (List (List Nat))) (v41 : Int) : Tr (Bool) :=
  .br (decide ((v41 : Int) < 0)) (.ok false) (.br ((v41 : Int) != v33.1) (.ok false) (.ok true))

noncomputable def wFnExactRouteShared_o21 (v33 : Int × (List (List Nat))) (v40 : Bool) : Tr (Bool) :=
  .br (!v40) (.ok false) (.br (! (true == false)) (.ok false) (.br (osome (wheldFloat32SS v33.2 1)) (wFnExactRouteShared_o20 v33 (oget (wheldFloat32SS v33.2 1))) .bad))

noncomputable def wFnExactRouteShared_o22 (v33 : Int × (List (List Nat))) (v37 : Unit ⊕ (List (List Nat))) : Tr (Bool) :=
  .br (isL v37) (.br (osome (weqFloat32SS [] [])) (wFnExactRouteShared_o19 v33 (oget (weqFloat32SS [] []))) .bad) (.br (osome (weqFloat32SS (unR v37) [])) (wFnExactRouteShared_o21 v33 (oget (weqFloat32SS (unR v37) []))) .bad)

noncomputable def wFnExactRouteShared_o23 (x2 : Nat) (x3 : Int) (v33 : Int × (List (List Nat))) (v35 : List (Nat × Nat)) (v36 : List (List Nat)) : Tr (Bool) :=
  .br (osome (iRouteShared v35 v36 x2 x3)) (wFnExactRouteShared_o22 v33 (oget (iRouteShared v35 v36 x2 x3))) .bad

noncomputable def wFnExactRouteShared_o24 (x1 : List (List Nat)) (x2 : Nat) (x3 : Int) (v33 : Int × (List (List Nat))) (v35 : List (Nat × Nat)) : Tr (Bool) :=
  .br (osome (wtoFloat32SS x1)) (wFnExactRouteShared_o23 x2 x3 v33 v35 (oget (wtoFloat32SS x1))) .bad

noncomputable def wFnExactRouteShared_o25 (x0 : List (Nat × Nat)) (x1 : List (List Nat)) (x2 : Nat) (x3 : Int) (v33 : Int × (List (List Nat))) (v34 : Int) : Tr (Bool) :=
  .br (decide ((v34 : Int) < 0)) (.ok false) (.br ((v34 : Int) != v33.1) (.ok false) (.br (osome (wtoReachS x0)) (wFnExactRouteShared_o24 x1 x2 x3 v33 (oget (wtoReachS x0))) .bad))

noncomputable def wFnExactRouteShared_o26 (x0 : List (Nat × Nat)) (x1 : List (List Nat)) (x2 : Nat) (x3 : Int) (v33 : Int × (List (List Nat))) : Tr (Bool) :=
  .br (osome (wheldFloat32SS v33.2 1)) (wFnExactRouteShared_o25 x0 x1 x2 x3 v33 (oget (wheldFloat32SS v33.2 1))) .bad

noncomputable def wFnExactRouteShared_o27 (x0 : List (Nat × Nat)) (x1 : List (List Nat)) (x2 : Nat) (x3 : Int) (v7 : Unit ⊕ (List (List Nat))) (v32 : Bool) : Tr (Bool) :=
  .br (!v32) (.ok false) (.br (! (true == false)) (.ok false) (.br (osome (wmarkFloat32SS 1 (unR v7))) (wFnExactRouteShared_o26 x0 x1 x2 x3 (oget (wmarkFloat32SS 1 (unR v7)))) .bad))

noncomputable def wFnExactRouteShared_o28 (x0 : List (Nat × Nat)) (x1 : List (List Nat)) (x2 : Nat) (x3 : Int) (v7 : Unit ⊕ (List (List Nat))) (v31 : Int × (List (List Nat))) : Tr (Bool) :=
  .br (decide ((v31.1 : Int) < 0)) (.ok false) (.br (osome (weqFloat32SS (unR v7) [])) (wFnExactRouteShared_o27 x0 x1 x2 x3 v7 (oget (weqFloat32SS (unR v7) []))) .bad)

noncomputable def wFnExactRouteShared_o29 (x0 : List (Nat × Nat)) (x1 : List (List Nat)) (x2 : Nat) (x3 : Int) (v6 : List (List Nat)) (v7 : Unit ⊕ (List (List Nat))) (v30 : Int × (List (Nat × Nat))) : Tr (Bool) :=
  .br (osome (wmarkFloat32SS v30.1 v6)) (wFnExactRouteShared_o28 x0 x1 x2 x3 v7 (oget (wmarkFloat32SS v30.1 v6))) .bad

noncomputable def wFnExactRouteShared_o30 (x0 : List (Nat × Nat)) (x1 : List (List Nat)) (x2 : Nat) (x3 : Int) (v5 : List (Nat × Nat)) (v6 : List (List Nat)) (v7 : Unit ⊕ (List (List Nat))) (v29 : Bool) : Tr (Bool) :=
  .br (!v29) (.ok false) (.br (osome (wmarkReachS 1 v5)) (wFnExactRouteShared_o29 x0 x1 x2 x3 v6 v7 (oget (wmarkReachS 1 v5))) .bad)

noncomputable def wFnExactRouteShared_o31 (x0 : List (Nat × Nat)) (x1 : List (List Nat)) (x2 : Nat) (x3 : Int) (v5 : List (Nat × Nat)) (v6 : List (List Nat)) (v7 : Unit ⊕ (List (List Nat))) (v28 : List (List Nat)) : Tr (Bool) :=
  .br (osome (weqFloat32SS v6 v28)) (wFnExactRouteShared_o30 x0 x1 x2 x3 v5 v6 v7 (oget (weqFloat32SS v6 v28))) .bad

noncomputable def wFnExactRouteShared_o32 (x0 : List (Nat × Nat)) (x1 : List (List Nat)) (x2 : Nat) (x3 : Int) (v5 : List (Nat × Nat)) (v6 : List (List Nat)) (v7 : Unit ⊕ (List (List Nat))) (v27 : Bool) : Tr (Bool) :=
  .br (!v27) (.ok false) (.br (osome (wtoFloat32SS x1)) (wFnExactRouteShared_o31 x0 x1 x2 x3 v5 v6 v7 (oget (wtoFloat32SS x1))) .bad)

noncomputable def wFnExactRouteShared_o33 (x0 : List (Nat × Nat)) (x1 : List (List Nat)) (x2 : Nat) (x3 : Int) (v5 : List (Nat × Nat)) (v6 : List (List Nat)) (v7 : Unit ⊕ (List (List Nat))) (v26 : List (Nat × Nat)) : Tr (Bool) :=
  .br (osome (weqReachS v5 v26)) (wFnExactRouteShared_o32 x0 x1 x2 x3 v5 v6 v7 (oget (weqReachS v5 v26))) .bad

noncomputable def wFnExactRouteShared_o34 (x0 : List (Nat × Nat)) (x1 : List (List Nat)) (x2 : Nat) (x3 : Int) (v5 : List (Nat × Nat)) (v6 : List (List Nat)) (v7 : Unit ⊕ (List (List Nat))) (v25 : Bool) : Tr (Bool) :=
  .br (!v25) (.ok false) (.br (! (true == false)) (.ok false) (.br (osome (wtoReachS x0)) (wFnExactRouteShared_o33 x0 x1 x2 x3 v5 v6 v7 (oget (wtoReachS x0))) .bad))

noncomputable def wFnExactRouteShared_o35 (x0 : List (Nat × Nat)) (x1 : List (List Nat)) (x2 : Nat) (x3 : Int) (v5 : List (Nat × Nat)) (v6 : List (List Nat)) (v7 : Unit ⊕ (List (List Nat))) : Tr (Bool) :=
  .br (isL v7) (.br (osome (weqFloat32SS [] [])) (wFnExactRouteShared_o17 x0 x1 x2 x3 v5 v6 (oget (weqFloat32SS [] []))) .bad) (.br (osome (weqFloat32SS (unR v7) [])) (wFnExactRouteShared_o34 x0 x1 x2 x3 v5 v6 v7 (oget (weqFloat32SS (unR v7) []))) .bad)

noncomputable def wFnExactRouteShared_o36 (x0 : List (Nat × Nat)) (x1 : List (List Nat)) (x2 : Nat) (x3 : Int) (v5 : List (Nat × Nat)) (v6 : List (List Nat)) : Tr (Bool) :=
  .br (osome (iRouteShared v5 v6 x2 x3)) (wFnExactRouteShared_o35 x0 x1 x2 x3 v5 v6 (oget (iRouteShared v5 v6 x2 x3))) .bad

noncomputable def wFnExactRouteShared_o37 (x0 : List (Nat × Nat)) (x1 : List (List Nat)) (x2 : Nat) (x3 : Int) (v5 : List (Nat × Nat)) : Tr (Bool) :=
  .br (osome (wtoFloat32SS x1)) (wFnExactRouteShared_o36 x0 x1 x2 x3 v5 (oget (wtoFloat32SS x1))) .bad

noncomputable def wFnExactRouteShared_o38 (v53 : Int) (v59 : Int) : Tr (Bool) :=
  .br (decide ((v59 : Int) < 0)) (.ok false) (.br ((v59 : Int) != v53) (.ok false) (.ok true))

noncomputable def wFnExactRouteShared_o39 (v53 : Int) (v58 : Bool) : Tr (Bool) :=
  .br (!v58) (.ok false) (.br (! (false == true)) (.ok false) (.br (osome (wheldFloat32SS [] 1)) (wFnExactRouteShared_o38 v53 (oget (wheldFloat32SS [] 1))) .bad))

noncomputable def wFnExactRouteShared_o40 (v53 : Int) (v61 : Int) : Tr (Bool) :=
  .br (decide ((v61 : Int) < 0)) (.ok false) (.br ((v61 : Int) != v53) (.ok false) (.ok true))

noncomputable def wFnExactRouteShared_o41 (v53 : Int) (v60 : Bool) : Tr (Bool) :=
  .br (!v60) (.ok false) (.br (! (true == true)) (.ok false) (.br (osome (wheldFloat32SS [] 1)) (wFnExactRouteShared_o40 v53 (oget (wheldFloat32SS [] 1))) .bad))

noncomputable def wFnExactRouteShared_o42 (v4 : Unit ⊕ (List (List Nat))) (v53 : Int) (v57 : Unit ⊕ (List (List Nat))) : Tr (Bool) :=
  .br (isL v57) (.br (osome (weqFloat32SS [] (unR v4))) (wFnExactRouteShared_o39 v53 (oget (weqFloat32SS [] (unR v4)))) .bad) (.br (osome (weqFloat32SS (unR v57) (unR v4))) (wFnExactRouteShared_o41 v53 (oget (weqFloat32SS (unR v57) (unR v4)))) .bad)

noncomputable def wFnExactRouteShared_o43 (x2 : Nat) (x3 : Int) (v4 : Unit ⊕ (List (List Nat))) (v53 : Int) (v55 : List (Nat × Nat)) (v56 : List (List Nat)) : Tr (Bool) :=
  .br (osome (iRouteShared v55 v56 x2 x3)) (wFnExactRouteShared_o42 v4 v53 (oget (iRouteShared v55 v56 x2 x3))) .bad

noncomputable def wFnExactRouteShared_o44 (x1 : List (List Nat)) (x2 : Nat) (x3 : Int) (v4 : Unit ⊕ (List (List Nat))) (v53 : Int) (v55 : List (Nat × Nat)) : Tr (Bool) :=
  .br (osome (wtoFloat32SS x1)) (wFnExactRouteShared_o43 x2 x3 v4 v53 v55 (oget (wtoFloat32SS x1))) .bad

noncomputable def wFnExactRouteShared_o45 (x0 : List (Nat × Nat)) (x1 : List (List Nat)) (x2 : Nat) (x3 : Int) (v4 : Unit ⊕ (List (List Nat))) (v53 : Int) (v54 : Int) : Tr (Bool) :=
  .br (decide ((v54 : Int) < 0)) (.ok false) (.br ((v54 : Int) != v53) (.ok false) (.br (osome (wtoReachS x0)) (wFnExactRouteShared_o44 x1 x2 x3 v4 v53 (oget (wtoReachS x0))) .bad))

noncomputable def wFnExactRouteShared_o46 (x0 : List (Nat × Nat)) (x1 : List (List Nat)) (x2 : Nat) (x3 : Int) (v4 : Unit ⊕ (List (List Nat))) (v53 : Int) : Tr (Bool) :=
  .br (osome (wheldFloat32SS [] 1)) (wFnExactRouteShared_o45 x0 x1 x2 x3 v4 v53 (oget (wheldFloat32SS [] 1))) .bad

noncomputable def wFnExactRouteShared_o47 (x0 : List (Nat × Nat)) (x1 : List (List Nat)) (x2 : Nat) (x3 : Int) (v4 : Unit ⊕ (List (List Nat))) (v52 : Bool) : Tr (Bool) :=
  .br (!v52) (.ok false) (.br (! (false == true)) (.ok false) (.br (osome (wmarkFloat32SS_nil 1)) (wFnExactRouteShared_o46 x0 x1 x2 x3 v4 (oget (wmarkFloat32SS_nil 1))) .bad))

noncomputable def wFnExactRouteShared_o48 (x0 : List (Nat × Nat)) (x1 : List (List Nat)) (x2 : Nat) (x3 : Int) (v4 : Unit ⊕ (List (List Nat))) (v51 : Int × (List (List Nat))) : Tr (Bool) :=
  .br (decide ((v51.1 : Int) < 0)) (.ok false) (.br (osome (weqFloat32SS [] (unR v4))) (wFnExactRouteShared_o47 x0 x1 x2 x3 v4 (oget (weqFloat32SS [] (unR v4)))) .bad)

noncomputable def wFnExactRouteShared_o49 (x0 : List (Nat × Nat)) (x1 : List (List Nat)) (x2 : Nat) (x3 : Int) (v4 : Unit ⊕ (List (List Nat))) (v43 : List (List Nat)) (v50 : Int × (List (Nat × Nat))) : Tr (Bool) :=
  .br (osome (wmarkFloat32SS v50.1 v43)) (wFnExactRouteShared_o48 x0 x1 x2 x3 v4 (oget (wmarkFloat32SS v50.1 v43))) .bad

noncomputable def wFnExactRouteShared_o50 (x0 : List (Nat × Nat)) (x1 : List (List Nat)) (x2 : Nat) (x3 : Int) (v4 : Unit ⊕ (List (List Nat))) (v42 : List (Nat × Nat)) (v43 : List (List Nat)) (v49 : Bool) : Tr (Bool) :=
  .br (!v49) (.ok false) (.br (osome (wmarkReachS 1 v42)) (wFnExactRouteShared_o49 x0 x1 x2 x3 v4 v43 (oget (wmarkReachS 1 v42))) .bad)

noncomputable def wFnExactRouteShared_o51 (x0 : List (Nat × Nat)) (x1 : List (List Nat)) (x2 : Nat) (x3 : Int) (v4 : Unit ⊕ (List (List Nat))) (v42 : List (Nat × Nat)) (v43 : List (List Nat)) (v48 : List (List Nat)) : Tr (Bool) :=
  .br (osome (weqFloat32SS v43 v48)) (wFnExactRouteShared_o50 x0 x1 x2 x3 v4 v42 v43 (oget (weqFloat32SS v43 v48))) .bad

noncomputable def wFnExactRouteShared_o52 (x0 : List (Nat × Nat)) (x1 : List (List Nat)) (x2 : Nat) (x3 : Int) (v4 : Unit ⊕ (List (List Nat))) (v42 : List (Nat × Nat)) (v43 : List (List Nat)) (v47 : Bool) : Tr (Bool) :=
  .br (!v47) (.ok false) (.br (osome (wtoFloat32SS x1)) (wFnExactRouteShared_o51 x0 x1 x2 x3 v4 v42 v43 (oget (wtoFloat32SS x1))) .bad)

noncomputable def wFnExactRouteShared_o53 (x0 : List (Nat × Nat)) (x1 : List (List Nat)) (x2 : Nat) (x3 : Int) (v4 : Unit ⊕ (List (List Nat))) (v42 : List (Nat × Nat)) (v43 : List (List Nat)) (v46 : List (Nat × Nat)) : Tr (Bool) :=
  .br (osome (weqReachS v42 v46)) (wFnExactRouteShared_o52 x0 x1 x2 x3 v4 v42 v43 (oget (weqReachS v42 v46))) .bad

noncomputable def wFnExactRouteShared_o54 (x0 : List (Nat × Nat)) (x1 : List (List Nat)) (x2 : Nat) (x3 : Int) (v4 : Unit ⊕ (List (List Nat))) (v42 : List (Nat × Nat)) (v43 : List (List Nat)) (v45 : Bool) : Tr (Bool) :=
  .br (!v45) (.ok false) (.br (! (false == true)) (.ok false) (.br (osome (wtoReachS x0)) (wFnExactRouteShared_o53 x0 x1 x2 x3 v4 v42 v43 (oget (wtoReachS x0))) .bad))

noncomputable def wFnExactRouteShared_o55 (v70 : Int × (List (List Nat))) (v76 : Int) : Tr (Bool) :=
  .br (decide ((v76 : Int) < 0)) (.ok false) (.br ((v76 : Int) != v70.1) (.ok false) (.ok true))

noncomputable def wFnExactRouteShared_o56 (v70 : Int × (List (List Nat))) (v75 : Bool) : Tr (Bool) :=
  .br (!v75) (.ok false) (.br (! (false == true)) (.ok false) (.br (osome (wheldFloat32SS v70.2 1)) (wFnExactRouteShared_o55 v70 (oget (wheldFloat32SS v70.2 1))) .bad))

noncomputable def wFnExactRouteShared_o57 (v70 : Int × (List (List Nat))) (v78 : Int) : Tr (Bool) :=
  .br (decide ((v78 : Int) < 0)) (.ok false) (.br ((v78 : Int) != v70.1) (.ok false) (.ok true))

noncomputable def wFnExactRouteShared_o58 (v70 : Int × (List (List Nat))) (v77 : Bool) : Tr (Bool) :=
  .br (!v77) (.ok false) (.br (! (true == true)) (.ok false) (.br (osome (wheldFloat32SS v70.2 1)) (wFnExactRouteShared_o57 v70 (oget (wheldFloat32SS v70.2 1))) .bad))

noncomputable def wFnExactRouteShared_o59 (v4 : Unit ⊕ (List (List Nat))) (v70 : Int × (List (List Nat))) (v74 : Unit ⊕ (List (List Nat))) : Tr (Bool) :=
  .br (isL v74) (.br (osome (weqFloat32SS [] (unR v4))) (wFnExactRouteShared_o56 v70 (oget (weqFloat32SS [] (unR v4)))) .bad) (.br (osome (weqFloat32SS (unR v74) (unR v4))) (wFnExactRouteShared_o58 v70 (oget (weqFloat32SS (unR v74) (unR v4)))) .bad)

noncomputable def wFnExactRouteShared_o60 (x2 : Nat) (x3 : Int) (v4 : Unit ⊕ (List (List Nat))) (v70 : Int × (List (List Nat))) (v72 : List (Nat × Nat)) (v73 : List (List Nat)) : Tr (Bool) :=
  .br (osome (iRouteShared v72 v73 x2 x3)) (wFnExactRouteShared_o59 v4 v70 (oget (iRouteShared v72 v73 x2 x3))) .bad

noncomputable def wFnExactRouteShared_o61 (x1 : List (List Nat)) (x2 : Nat) (x3 : Int) (v4 : Unit ⊕ (List (List Nat))) (v70 : Int × (List (List Nat))) (v72 : List (Nat × Nat)) : Tr (Bool) :=
  .br (osome (wtoFloat32SS x1)) (wFnExactRouteShared_o60 x2 x3 v4 v70 v72 (oget (wtoFloat32SS x1))) .bad

noncomputable def wFnExactRouteShared_o62 (x0 : List (Nat × Nat)) (x1 : List (List Nat)) (x2 : Nat) (x3 : Int) (v4 : Unit ⊕ (List (List Nat))) (v70 : Int × (List (List Nat))) (v71 : Int) : Tr (Bool) :=
  .br (decide ((v71 : Int) < 0)) (.ok false) (.br ((v71 : Int) != v70.1) (.ok false) (.br (osome (wtoReachS x0)) (wFnExactRouteShared_o61 x1 x2 x3 v4 v70 (oget (wtoReachS x0))) .bad))

noncomputable def wFnExactRouteShared_o63 (x0 : List (Nat × Nat)) (x1 : List (List Nat)) (x2 : Nat) (x3 : Int) (v4 : Unit ⊕ (List (List Nat))) (v70 : Int × (List (List Nat))) : Tr (Bool) :=
  .br (osome (wheldFloat32SS v70.2 1)) (wFnExactRouteShared_o62 x0 x1 x2 x3 v4 v70 (oget (wheldFloat32SS v70.2 1))) .bad

noncomputable def wFnExactRouteShared_o64 (x0 : List (Nat × Nat)) (x1 : List (List Nat)) (x2 : Nat) (x3 : Int) (v4 : Unit ⊕ (List (List Nat))) (v44 : Unit ⊕ (List (List Nat))) (v69 : Bool) : Tr (Bool) :=
  .br (!v69) (.ok false) (.br (! (true == true)) (.ok false) (.br (osome (wmarkFloat32SS 1 (unR v44))) (wFnExactRouteShared_o63 x0 x1 x2 x3 v4 (oget (wmarkFloat32SS 1 (unR v44)))) .bad))

noncomputable def wFnExactRouteShared_o65 (x0 : List (Nat × Nat)) (x1 : List (List Nat)) (x2 : Nat) (x3 : Int) (v4 : Unit ⊕ (List (List Nat))) (v44 : Unit ⊕ (List (List Nat))) (v68 : Int × (List (List Nat))) : Tr (Bool) :=
  .br (decide ((v68.1 : Int) < 0)) (.ok false) (.br (osome (weqFloat32SS (unR v44) (unR v4))) (wFnExactRouteShared_o64 x0 x1 x2 x3 v4 v44 (oget (weqFloat32SS (unR v44) (unR v4)))) .bad)

noncomputable def wFnExactRouteShared_o66 (x0 : List (Nat × Nat)) (x1 : List (List Nat)) (x2 : Nat) (x3 : Int) (v4 : Unit ⊕ (List (List Nat))) (v43 : List (List Nat)) (v44 : Unit ⊕ (List (List Nat))) (v67 : Int × (List (Nat × Nat))) : Tr (Bool) :=
  .br (osome (wmarkFloat32SS v67.1 v43)) (wFnExactRouteShared_o65 x0 x1 x2 x3 v4 v44 (oget (wmarkFloat32SS v67.1 v43))) .bad

noncomputable def wFnExactRouteShared_o67 (x0 : List (Nat × Nat)) (x1 : List (List Nat)) (x2 : Nat) (x3 : Int) (v4 : Unit ⊕ (List (List Nat))) (v42 : List (Nat × Nat)) (v43 : List (List Nat)) (v44 : Unit ⊕ (List (List Nat))) (v66 : Bool) : Tr (Bool) :=
  .br (!v66) (.ok false) (.br (osome (wmarkReachS 1 v42)) (wFnExactRouteShared_o66 x0 x1 x2 x3 v4 v43 v44 (oget (wmarkReachS 1 v42))) .bad)

noncomputable def wFnExactRouteShared_o68 (x0 : List (Nat × Nat)) (x1 : List (List Nat)) (x2 : Nat) (x3 : Int) (v4 : Unit ⊕ (List (List Nat))) (v42 : List (Nat × Nat)) (v43 : List (List Nat)) (v44 : Unit ⊕ (List (List Nat))) (v65 : List (List Nat)) : Tr (Bool) :=
  .br (osome (weqFloat32SS v43 v65)) (wFnExactRouteShared_o67 x0 x1 x2 x3 v4 v42 v43 v44 (oget (weqFloat32SS v43 v65))) .bad

noncomputable def wFnExactRouteShared_o69 (x0 : List (Nat × Nat)) (x1 : List (List Nat)) (x2 : Nat) (x3 : Int) (v4 : Unit ⊕ (List (List Nat))) (v42 : List (Nat × Nat)) (v43 : List (List Nat)) (v44 : Unit ⊕ (List (List Nat))) (v64 : Bool) : Tr (Bool) :=
  .br (!v64) (.ok false) (.br (osome (wtoFloat32SS x1)) (wFnExactRouteShared_o68 x0 x1 x2 x3 v4 v42 v43 v44 (oget (wtoFloat32SS x1))) .bad)

noncomputable def wFnExactRouteShared_o70 (x0 : List (Nat × Nat)) (x1 : List (List Nat)) (x2 : Nat) (x3 : Int) (v4 : Unit ⊕ (List (List Nat))) (v42 : List (Nat × Nat)) (v43 : List (List Nat)) (v44 : Unit ⊕ (List (List Nat))) (v63 : List (Nat × Nat)) : Tr (Bool) :=
  .br (osome (weqReachS v42 v63)) (wFnExactRouteShared_o69 x0 x1 x2 x3 v4 v42 v43 v44 (oget (weqReachS v42 v63))) .bad

noncomputable def wFnExactRouteShared_o71 (x0 : List (Nat × Nat)) (x1 : List (List Nat)) (x2 : Nat) (x3 : Int) (v4 : Unit ⊕ (List (List Nat))) (v42 : List (Nat × Nat)) (v43 : List (List Nat)) (v44 : Unit ⊕ (List (List Nat))) (v62 : Bool) : Tr (Bool) :=
  .br (!v62) (.ok false) (.br (! (true == true)) (.ok false) (.br (osome (wtoReachS x0)) (wFnExactRouteShared_o70 x0 x1 x2 x3 v4 v42 v43 v44 (oget (wtoReachS x0))) .bad))

noncomputable def wFnExactRouteShared_o72 (x0 : List (Nat × Nat)) (x1 : List (List Nat)) (x2 : Nat) (x3 : Int) (v4 : Unit ⊕ (List (List Nat))) (v42 : List (Nat × Nat)) (v43 : List (List Nat)) (v44 : Unit ⊕ (List (List Nat))) : Tr (Bool) :=
  .br (isL v44) (.br (osome (weqFloat32SS [] (unR v4))) (wFnExactRouteShared_o54 x0 x1 x2 x3 v4 v42 v43 (oget (weqFloat32SS [] (unR v4)))) .bad) (.br (osome (weqFloat32SS (unR v44) (unR v4))) (wFnExactRouteShared_o71 x0 x1 x2 x3 v4 v42 v43 v44 (oget (weqFloat32SS (unR v44) (unR v4)))) .bad)

noncomputable def wFnExactRouteShared_o73 (x0 : List (Nat × Nat)) (x1 : List (List Nat)) (x2 : Nat) (x3 : Int) (v4 : Unit ⊕ (List (List Nat))) (v42 : List (Nat × Nat)) (v43 : List (List Nat)) : Tr (Bool) :=
  .br (osome (iRouteShared v42 v43 x2 x3)) (wFnExactRouteShared_o72 x0 x1 x2 x3 v4 v42 v43 (oget (iRouteShared v42 v43 x2 x3))) .bad

noncomputable def wFnExactRouteShared_o74 (x0 : List (Nat × Nat)) (x1 : List (List Nat)) (x2 : Nat) (x3 : Int) (v4 : Unit ⊕ (List (List Nat))) (v42 : List (Nat × Nat)) : Tr (Bool) :=
  .br (osome (wtoFloat32SS x1)) (wFnExactRouteShared_o73 x0 x1 x2 x3 v4 v42 (oget (wtoFloat32SS x1))) .bad

noncomputable def wFnExactRouteShared_o75 (x0 : List (Nat × Nat)) (x1 : List (List Nat)) (x2 : Nat) (x3 : Int) (v4 : Unit ⊕ (List (List Nat))) : Tr (Bool) :=
  .br (isL v4) (.br (osome (wtoReachS x0)) (wFnExactRouteShared_o37 x0 x1 x2 x3 (oget (wtoReachS x0))) .bad) (.br (osome (wtoReachS x0)) (wFnExactRouteShared_o74 x0 x1 x2 x3 v4 (oget (wtoReachS x0))) .bad)

noncomputable def wFnExactRouteShared_o76 (x0 : List (Nat × Nat)) (x1 : List (List Nat)) (x2 : Nat) (x3 : Int) (v2 : List (Nat × Nat)) (v3 : List (List Nat)) : Tr (Bool) :=
  .br (osome (sRouteShared v2 v3 x2 x3)) (wFnExactRouteShared_o75 x0 x1 x2 x3 (oget (sRouteShared v2 v3 x2 x3))) .bad

noncomputable def wFnExactRouteShared_o77 (x0 : List (Nat × Nat)) (x1 : List (List Nat)) (x2 : Nat) (x3 : Int) (v2 : List (Nat × Nat)) : Tr (Bool) :=
  .br (osome (wtoFloat32SS x1)) (wFnExactRouteShared_o76 x0 x1 x2 x3 v2 (oget (wtoFloat32SS x1))) .bad

noncomputable def wFnExactRouteShared_o78 (x0 : List (Nat × Nat)) (x1 : List (List Nat)) (x2 : Nat) (x3 : Int) (v1 : Int) : Tr (Bool) :=
  .br (decide ((v1 : Int) < 0)) (.ok true) (.br (osome (wtoReachS x0)) (wFnExactRouteShared_o77 x0 x1 x2 x3 (oget (wtoReachS x0))) .bad)

noncomputable def wFnExactRouteShared_t (x0 : List (Nat × Nat)) (x1 : List (List Nat)) (x2 : Nat) (x3 : Int) : Tr (Bool) :=
  .br (decide ((wszReachS x0 1048576 : Int) < 0)) (.ok true) (.br (osome (wszFloat32SS x1 (wszReachS x0 1048576))) (wFnExactRouteShared_o78 x0 x1 x2 x3 (oget (wszFloat32SS x1 (wszReachS x0 1048576)))) .bad)

noncomputable def wFnExactRouteShared (x0 : List (Nat × Nat)) (x1 : List (List Nat)) (x2 : Nat) (x3 : Int) : Option (Bool) := (wFnExactRouteShared_t x0 x1 x2 x3).sem
end Go.Proofs.Ytikmeahdcipanaa
