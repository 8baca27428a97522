/- Functions, as plain functions. Plain functions. -/
import Derived.Test.YtpglfnkkmafhbaaDa
set_option linter.unusedVariables false
set_option linter.unusedSimpArgs false
set_option linter.constructorNameAsVariable false
namespace Go.Proofs.Ytpglfnkkmafhbaa
open Go.RowKit
set_option maxRecDepth 100000
noncomputable def wr8Long_t (x0 : List Int) (x1 : List Int) : Tr (Bool) :=
  .br (decide ((((List.length x0 : Nat) : Int) : Int) > 48)) (.ok true) (.ok (decide ((((List.length x1 : Nat) : Int) : Int) > 48)))

noncomputable def wr8Long (x0 : List Int) (x1 : List Int) : Bool := (wr8Long_t x0 x1).val

noncomputable def sl00From_t (x0 : List Int) : Tr (List Int × Int × Int) :=
  .ok (x0, 0, 0)

noncomputable def sl00From (x0 : List Int) : List Int × Int × Int := (sl00From_t x0).val

noncomputable def sl00Src_next_t (x0 : List Int) (x1 : Int) (x2 : Int) : Tr (Int × List Int × Int × Int) :=
  .br (decide ((x1 : Int) < (((List.length x0 : Nat) : Int)))) (.br (decide (0 ≤ (x1 : Int)) && decide ((x1 : Int) < ((List.length x0 : Nat) : Int))) (.br (decide ((IntKind.wrap .i64 (x1 + 1) : Int) ≤ (((List.length x0 : Nat) : Int)))) (.ok (IntKind.wrap .i64 (List.getD x0 (Int.toNat x1) 0), x0, IntKind.wrap .i64 (x1 + 1), IntKind.wrap .u64 ((IntKind.wrap .u64 ((IntKind.wrap .u64 (x2 * 6364136223846793005)) + (IntKind.wrap .u64 (IntKind.wrap .i64 (List.getD x0 (Int.toNat x1) 0))))) + 1442695040888963407))) (.br (decide ((0 : Int) ≤ 40)) (.ok (IntKind.wrap .i64 (iand .u64 (ishr .u64 (IntKind.wrap .u64 ((IntKind.wrap .u64 ((IntKind.wrap .u64 (x2 * 6364136223846793005)) + (IntKind.wrap .u64 (IntKind.wrap .i64 (List.getD x0 (Int.toNat x1) 0))))) + 1442695040888963407)) 40) 255), x0, IntKind.wrap .i64 (x1 + 1), IntKind.wrap .u64 ((IntKind.wrap .u64 ((IntKind.wrap .u64 (x2 * 6364136223846793005)) + (IntKind.wrap .u64 (IntKind.wrap .i64 (List.getD x0 (Int.toNat x1) 0))))) + 1442695040888963407))) .bad)) .bad) (.br (decide ((IntKind.wrap .i64 (x1 + 1) : Int) ≤ (((List.length x0 : Nat) : Int)))) (.ok (0, x0, IntKind.wrap .i64 (x1 + 1), IntKind.wrap .u64 ((IntKind.wrap .u64 ((IntKind.wrap .u64 (x2 * 6364136223846793005)) + (IntKind.wrap .u64 0))) + 1442695040888963407))) (.br (decide ((0 : Int) ≤ 40)) (.ok (IntKind.wrap .i64 (iand .u64 (ishr .u64 (IntKind.wrap .u64 ((IntKind.wrap .u64 ((IntKind.wrap .u64 (x2 * 6364136223846793005)) + (IntKind.wrap .u64 0))) + 1442695040888963407)) 40) 255), x0, IntKind.wrap .i64 (x1 + 1), IntKind.wrap .u64 ((IntKind.wrap .u64 ((IntKind.wrap .u64 (x2 * 6364136223846793005)) + (IntKind.wrap .u64 0))) + 1442695040888963407))) .bad))

noncomputable def sl00Src_next (x0 : List Int) (x1 : Int) (x2 : Int) : Option (Int × List Int × Int × Int) := (sl00Src_next_t x0 x1 x2).sem

noncomputable def sl00Src_pick_t (x0 : Int) (x1 : List Int) (x2 : Int) (x3 : Int) : Tr (Int × List Int × Int × Int) :=
  .br (decide ((x0 : Int) ≤ 1)) (.ok (0, x1, x2, x3)) (.br (osome (sl00Src_next x1 x2 x3)) (.br (decide ((x0 : Int) > 200)) (.br (osome (sl00Src_next (oget (sl00Src_next x1 x2 x3)).2.1 (oget (sl00Src_next x1 x2 x3)).2.2.1 (oget (sl00Src_next x1 x2 x3)).2.2.2)) (.br (decide (x0 ≠ (0 : Int))) (.ok (Int.tmod (IntKind.wrap .i64 ((IntKind.wrap .i64 ((oget (sl00Src_next x1 x2 x3)).1 * 256)) + (oget (sl00Src_next (oget (sl00Src_next x1 x2 x3)).2.1 (oget (sl00Src_next x1 x2 x3)).2.2.1 (oget (sl00Src_next x1 x2 x3)).2.2.2)).1)) x0, (oget (sl00Src_next (oget (sl00Src_next x1 x2 x3)).2.1 (oget (sl00Src_next x1 x2 x3)).2.2.1 (oget (sl00Src_next x1 x2 x3)).2.2.2)).2.1, (oget (sl00Src_next (oget (sl00Src_next x1 x2 x3)).2.1 (oget (sl00Src_next x1 x2 x3)).2.2.1 (oget (sl00Src_next x1 x2 x3)).2.2.2)).2.2.1, (oget (sl00Src_next (oget (sl00Src_next x1 x2 x3)).2.1 (oget (sl00Src_next x1 x2 x3)).2.2.1 (oget (sl00Src_next x1 x2 x3)).2.2.2)).2.2.2)) .bad) .bad) (.br (decide (x0 ≠ (0 : Int))) (.ok (Int.tmod (oget (sl00Src_next x1 x2 x3)).1 x0, (oget (sl00Src_next x1 x2 x3)).2.1, (oget (sl00Src_next x1 x2 x3)).2.2.1, (oget (sl00Src_next x1 x2 x3)).2.2.2)) .bad)) .bad)

noncomputable def sl00Src_pick (x0 : Int) (x1 : List Int) (x2 : Int) (x3 : Int) : Option (Int × List Int × Int × Int) := (sl00Src_pick_t x0 x1 x2 x3).sem

noncomputable def sl04DrawOk_o1 (v1 : Int × ((List Int) × (Int × Int))) (v2 : Int × ((List Int) × (Int × Int))) (v3 : Int × ((List Int) × (Int × Int))) (v4 : Int × ((List Int) × (Int × Int))) : Tr (Nat × Nat × Nat × Nat × List Int × Int × Int) :=
  .ok (fdiv .f32 (FloatKind.nearest .f32 (IntKind.wrap .i64 (1 + v1.1))) 1073741824, fdiv .f32 (FloatKind.nearest .f32 v2.1) 1073741824, fdiv .f32 (FloatKind.nearest .f32 (IntKind.wrap .i64 (1 + v3.1))) 1149239296, fdiv .f32 (FloatKind.nearest .f32 (IntKind.wrap .i64 (1 + v4.1))) 1115684864, v4.2.1, v4.2.2.1, v4.2.2.2)

noncomputable def sl04DrawOk_o2 (v1 : Int × ((List Int) × (Int × Int))) (v2 : Int × ((List Int) × (Int × Int))) (v3 : Int × ((List Int) × (Int × Int))) : Tr (Nat × Nat × Nat × Nat × List Int × Int × Int) :=
  .br (osome (sl00Src_pick 8 v3.2.1 v3.2.2.1 v3.2.2.2)) (sl04DrawOk_o1 v1 v2 v3 (oget (sl00Src_pick 8 v3.2.1 v3.2.2.1 v3.2.2.2))) .bad

noncomputable def sl04DrawOk_o3 (v1 : Int × ((List Int) × (Int × Int))) (v2 : Int × ((List Int) × (Int × Int))) : Tr (Nat × Nat × Nat × Nat × List Int × Int × Int) :=
  .br (osome (sl00Src_pick 16 v2.2.1 v2.2.2.1 v2.2.2.2)) (sl04DrawOk_o2 v1 v2 (oget (sl00Src_pick 16 v2.2.1 v2.2.2.1 v2.2.2.2))) .bad

noncomputable def sl04DrawOk_o4 (v1 : Int × ((List Int) × (Int × Int))) : Tr (Nat × Nat × Nat × Nat × List Int × Int × Int) :=
  .br (osome (sl00Src_pick 5 v1.2.1 v1.2.2.1 v1.2.2.2)) (sl04DrawOk_o3 v1 (oget (sl00Src_pick 5 v1.2.1 v1.2.2.1 v1.2.2.2))) .bad

noncomputable def sl04DrawOk_t (x0 : List Int) (x1 : Int) (x2 : Int) : Tr (Nat × Nat × Nat × Nat × List Int × Int × Int) :=
  .br (osome (sl00Src_pick 12 x0 x1 x2)) (sl04DrawOk_o4 (oget (sl00Src_pick 12 x0 x1 x2))) .bad

noncomputable def sl04DrawOk (x0 : List Int) (x1 : Int) (x2 : Int) : Option (Nat × Nat × Nat × Nat × List Int × Int × Int) := (sl04DrawOk_t x0 x1 x2).sem

noncomputable def sR8Section_t (x0 : List Int) : Tr (Nat × Nat × Nat × Nat) :=
  .br (osome (sl04DrawOk ((sl00From x0).1) (((sl00From x0).2).1) (((sl00From x0).2).2))) (.ok ((oget (sl04DrawOk ((sl00From x0).1) (((sl00From x0).2).1) (((sl00From x0).2).2))).1, (oget (sl04DrawOk ((sl00From x0).1) (((sl00From x0).2).1) (((sl00From x0).2).2))).2.1, (oget (sl04DrawOk ((sl00From x0).1) (((sl00From x0).2).1) (((sl00From x0).2).2))).2.2.1, (oget (sl04DrawOk ((sl00From x0).1) (((sl00From x0).2).1) (((sl00From x0).2).2))).2.2.2.1)) .bad

noncomputable def sR8Section (x0 : List Int) : Option (Nat × Nat × Nat × Nat) := (sR8Section_t x0).sem

noncomputable def wr8At_t (x0 : List Int) (x1 : Int) (x2 : Int) : Tr (Int) :=
  .br (decide ((x2 : Int) ≤ 1)) (.ok 0) (.br (decide ((x1 : Int) ≥ (((List.length x0 : Nat) : Int)))) (.ok 0) (.br (decide (0 ≤ (x1 : Int)) && decide ((x1 : Int) < ((List.length x0 : Nat) : Int))) (.br (decide (x2 ≠ (0 : Int))) (.ok (Int.tmod (IntKind.wrap .i64 (List.getD x0 (Int.toNat x1) 0)) x2)) .bad) .bad))

noncomputable def wr8At (x0 : List Int) (x1 : Int) (x2 : Int) : Option (Int) := (wr8At_t x0 x1 x2).sem

noncomputable def iareMasses_1_t (x0 : Nat) : Tr (Bool) :=
  .ok (! (isMass x0))

noncomputable def iareMasses_1 (x0 : Nat) : Bool := (iareMasses_1_t x0).val

noncomputable def lIndexFunc_iareMasses_1_l2_t (y0 : List Nat) (y1 : Int) (y2 : Int) : Tr (Int ⊕ (Int ⊕ Unit)) :=
  .br (decide ((y2 : Int) < y1)) (.br (decide (0 ≤ (y2 : Int)) && decide ((y2 : Int) < ((List.length y0 : Nat) : Int))) (.br (iareMasses_1 (List.getD y0 (Int.toNat y2) 0)) (.ok (.inr (.inl y2))) (.ok (.inl (IntKind.wrap .i64 (y2 + 1))))) .bad) (.ok (.inr (.inr ())))

noncomputable def lIndexFunc_iareMasses_1_l2 (y0 : List Nat) (y1 : Int) (y2 : Int) : Option (Int ⊕ Unit) := runL (fun s : Int => (lIndexFunc_iareMasses_1_l2_t y0 y1 s).sem) y2

noncomputable def lIndexFunc_iareMasses_1_t (x0 : List Nat) : Tr (Int) :=
  .br (osome (lIndexFunc_iareMasses_1_l2 x0 (((List.length x0 : Nat) : Int)) 0)) (.br (isL (oget (lIndexFunc_iareMasses_1_l2 x0 (((List.length x0 : Nat) : Int)) 0))) (.ok (unL (oget (lIndexFunc_iareMasses_1_l2 x0 (((List.length x0 : Nat) : Int)) 0)))) (.ok (-1))) .bad

noncomputable def lIndexFunc_iareMasses_1 (x0 : List Nat) : Option (Int) := (lIndexFunc_iareMasses_1_t x0).sem

noncomputable def lContainsFunc_iareMasses_1_t (x0 : List Nat) : Tr (Bool) :=
  .br (osome (lIndexFunc_iareMasses_1 x0)) (.ok (decide (((oget (lIndexFunc_iareMasses_1 x0)) : Int) ≥ 0))) .bad

noncomputable def lContainsFunc_iareMasses_1 (x0 : List Nat) : Option (Bool) := (lContainsFunc_iareMasses_1_t x0).sem

noncomputable def iareMasses_t (x0 : List Nat) : Tr (Bool) :=
  .br (osome (lContainsFunc_iareMasses_1 x0)) (.ok (!(oget (lContainsFunc_iareMasses_1 x0)))) .bad

noncomputable def iareMasses (x0 : List Nat) : Option (Bool) := (iareMasses_t x0).sem

noncomputable def iareLengths_l2_t (y0 : List Nat) (y1 : Int) (y2 : Int) : Tr (Int ⊕ (Unit ⊕ Unit)) :=
  .br (decide ((y2 : Int) < y1)) (.br (decide (0 ≤ (y2 : Int)) && decide ((y2 : Int) < ((List.length y0 : Nat) : Int))) (.br (! (isLen (List.getD y0 (Int.toNat y2) 0))) (.ok (.inr (.inl ()))) (.ok (.inl (IntKind.wrap .i64 (y2 + 1))))) .bad) (.ok (.inr (.inr ())))

noncomputable def iareLengths_l2 (y0 : List Nat) (y1 : Int) (y2 : Int) : Option (Unit ⊕ Unit) := runL (fun s : Int => (iareLengths_l2_t y0 y1 s).sem) y2

noncomputable def iareLengths_t (x0 : List Nat) : Tr (Bool) :=
  .br (osome (iareLengths_l2 x0 (((List.length x0 : Nat) : Int)) 0)) (.br (isL (oget (iareLengths_l2 x0 (((List.length x0 : Nat) : Int)) 0))) (.ok false) (.ok true)) .bad

noncomputable def iareLengths (x0 : List Nat) : Option (Bool) := (iareLengths_t x0).sem

noncomputable def iValidSection_t (x0 : Nat) (x1 : Nat) (x2 : Nat) (x3 : Nat) : Tr (Bool) :=
  .br (osome (iareMasses [x0, x1])) (.br (oget (iareMasses [x0, x1])) (.br (fgt .f32 x0 0) (.br (osome (iareLengths [x2, x3])) (.ok (oget (iareLengths [x2, x3]))) .bad) (.br (fgt .f32 x1 0) (.br (osome (iareLengths [x2, x3])) (.ok (oget (iareLengths [x2, x3]))) .bad) (.ok false))) (.ok false)) .bad

noncomputable def iValidSection (x0 : Nat) (x1 : Nat) (x2 : Nat) (x3 : Nat) : Option (Bool) := (iValidSection_t x0 x1 x2 x3).sem

noncomputable def iSection_isFlow_t (x0 : Nat) (x1 : Nat) (x2 : Nat) (x3 : Nat) (x4 : List Nat) : Tr (Bool) :=
  .br (osome (iValidSection x0 x1 x2 x3)) (.br (oget (iValidSection x0 x1 x2 x3)) (.br (osome (iareLengths x4)) (.ok (oget (iareLengths x4))) .bad) (.ok false)) .bad

noncomputable def iSection_isFlow (x0 : Nat) (x1 : Nat) (x2 : Nat) (x3 : Nat) (x4 : List Nat) : Option (Bool) := (iSection_isFlow_t x0 x1 x2 x3 x4).sem

noncomputable def ifinite32_t (x0 : Nat) : Tr (Nat × Bool) :=
  .br (! (isFin .f32 x0)) (.ok (0, false)) (.ok (x0, true))

noncomputable def ifinite32 (x0 : Nat) : Nat × Bool := (ifinite32_t x0).val

noncomputable def iAreaAt_t (x0 : Nat) (x1 : Nat) (x2 : Nat) (x3 : Nat) (x4 : Nat) : Tr (Nat × Bool) :=
  .br (osome (iSection_isFlow x0 x1 x2 x3 [x4])) (.br (!(oget (iSection_isFlow x0 x1 x2 x3 [x4]))) (.ok (0, false)) (.ok ((ifinite32 (fmul .f32 x4 (fadd .f32 x0 (fmul .f32 x1 x4)))).1, (ifinite32 (fmul .f32 x4 (fadd .f32 x0 (fmul .f32 x1 x4)))).2))) .bad

noncomputable def iAreaAt (x0 : Nat) (x1 : Nat) (x2 : Nat) (x3 : Nat) (x4 : Nat) : Option (Nat × Bool) := (iAreaAt_t x0 x1 x2 x3 x4).sem

noncomputable def iWetAt_t (x0 : Nat) (x1 : Nat) (x2 : Nat) (x3 : Nat) (x4 : Nat) : Tr (Nat × Bool) :=
  .br (osome (iSection_isFlow x0 x1 x2 x3 [x4])) (.br (!(oget (iSection_isFlow x0 x1 x2 x3 [x4]))) (.ok (0, false)) (.ok ((ifinite32 (fadd .f32 x0 (fmul .f32 (fmul .f32 1073741824 x4) (froot (fadd .f32 1065353216 (fmul .f32 x1 x1)))))).1, (ifinite32 (fadd .f32 x0 (fmul .f32 (fmul .f32 1073741824 x4) (froot (fadd .f32 1065353216 (fmul .f32 x1 x1)))))).2))) .bad

noncomputable def iWetAt (x0 : Nat) (x1 : Nat) (x2 : Nat) (x3 : Nat) (x4 : Nat) : Option (Nat × Bool) := (iWetAt_t x0 x1 x2 x3 x4).sem

noncomputable def iMiddleAt_t (x0 : Nat) (x1 : Nat) (x2 : Nat) (x3 : Nat) (x4 : Nat) : Tr (Nat × Bool) :=
  .br (osome (iAreaAt x0 x1 x2 x3 x4)) (.br (osome (iWetAt x0 x1 x2 x3 x4)) (.br (!(oget (iAreaAt x0 x1 x2 x3 x4)).2) (.ok (0, false)) (.br (!(oget (iWetAt x0 x1 x2 x3 x4)).2) (.ok (0, false)) (.ok ((ifinite32 (fdiv .f32 (oget (iAreaAt x0 x1 x2 x3 x4)).1 (oget (iWetAt x0 x1 x2 x3 x4)).1)).1, (ifinite32 (fdiv .f32 (oget (iAreaAt x0 x1 x2 x3 x4)).1 (oget (iWetAt x0 x1 x2 x3 x4)).1)).2)))) .bad) .bad

noncomputable def iMiddleAt (x0 : Nat) (x1 : Nat) (x2 : Nat) (x3 : Nat) (x4 : Nat) : Option (Nat × Bool) := (iMiddleAt_t x0 x1 x2 x3 x4).sem

noncomputable def mNaN_t  : Tr (Nat) :=
  .ok 9221120237041090561

noncomputable def mNaN  : Nat := (mNaN_t ).val

noncomputable def mInf_t (x0 : Int) : Tr (Nat) :=
  .br (decide ((x0 : Int) ≥ 0)) (.ok 9218868437227405312) (.ok 18442240474082181120)

noncomputable def mInf (x0 : Int) : Nat := (mInf_t x0).val

noncomputable def inaturalLog_l2_t  (y0 : Nat) (y1 : Nat) : Tr ((Nat × Nat) ⊕ (Nat × Nat)) :=
  .br (fge .f64 y0 4609434218613702656) (.ok (.inl (fdiv .f64 y0 4611686018427387904, fadd .f64 y1 4607182418800017408))) (.ok (.inr (y0, y1)))

noncomputable def inaturalLog_l2 (y0 : Nat) (y1 : Nat) : Option (Nat × Nat) := runL (fun s : Nat × Nat => (inaturalLog_l2_t  s.1 s.2).sem) (y0, y1)

noncomputable def inaturalLog_l4_t  (y0 : Nat) (y1 : Nat) : Tr ((Nat × Nat) ⊕ (Nat × Nat)) :=
  .br (flt .f64 y0 4604930618986332160) (.ok (.inl (fmul .f64 y0 4611686018427387904, fsub .f64 y1 4607182418800017408))) (.ok (.inr (y0, y1)))

noncomputable def inaturalLog_l4 (y0 : Nat) (y1 : Nat) : Option (Nat × Nat) := runL (fun s : Nat × Nat => (inaturalLog_l4_t  s.1 s.2).sem) (y0, y1)

noncomputable def inaturalLog_l9_t (y0 : Nat) (y1 : Nat) (y2 : Nat) (y3 : Nat) (y4 : Int) : Tr ((Nat × Int) ⊕ (Nat × Nat × Nat)) :=
  .br (decide ((y4 : Int) ≥ 1)) (.ok (.inl (fadd .f64 (fdiv .f64 4607182418800017408 (FloatKind.nearest .f64 y4)) (fmul .f64 y2 y3), IntKind.wrap .i64 (y4 - 2)))) (.ok (.inr (y0, y1, y3)))

noncomputable def inaturalLog_l9 (y0 : Nat) (y1 : Nat) (y2 : Nat) (y3 : Nat) (y4 : Int) : Option (Nat × Nat × Nat) := runL (fun s : Nat × Int => (inaturalLog_l9_t y0 y1 y2 s.1 s.2).sem) (y3, y4)

noncomputable def inaturalLog_t (x0 : Nat) : Tr (Nat) :=
  .br (osome (inaturalLog_l2 x0 0)) (.br (osome (inaturalLog_l4 (oget (inaturalLog_l2 x0 0)).1 (oget (inaturalLog_l2 x0 0)).2)) (.br (osome (inaturalLog_l9 (oget (inaturalLog_l4 (oget (inaturalLog_l2 x0 0)).1 (oget (inaturalLog_l2 x0 0)).2)).2 (fdiv .f64 (fsub .f64 (oget (inaturalLog_l4 (oget (inaturalLog_l2 x0 0)).1 (oget (inaturalLog_l2 x0 0)).2)).1 4607182418800017408) (fadd .f64 (oget (inaturalLog_l4 (oget (inaturalLog_l2 x0 0)).1 (oget (inaturalLog_l2 x0 0)).2)).1 4607182418800017408)) (fmul .f64 (fdiv .f64 (fsub .f64 (oget (inaturalLog_l4 (oget (inaturalLog_l2 x0 0)).1 (oget (inaturalLog_l2 x0 0)).2)).1 4607182418800017408) (fadd .f64 (oget (inaturalLog_l4 (oget (inaturalLog_l2 x0 0)).1 (oget (inaturalLog_l2 x0 0)).2)).1 4607182418800017408)) (fdiv .f64 (fsub .f64 (oget (inaturalLog_l4 (oget (inaturalLog_l2 x0 0)).1 (oget (inaturalLog_l2 x0 0)).2)).1 4607182418800017408) (fadd .f64 (oget (inaturalLog_l4 (oget (inaturalLog_l2 x0 0)).1 (oget (inaturalLog_l2 x0 0)).2)).1 4607182418800017408))) 0 25)) (.ok (fadd .f64 (fmul .f64 4611686018427387904 (fmul .f64 (oget (inaturalLog_l9 (oget (inaturalLog_l4 (oget (inaturalLog_l2 x0 0)).1 (oget (inaturalLog_l2 x0 0)).2)).2 (fdiv .f64 (fsub .f64 (oget (inaturalLog_l4 (oget (inaturalLog_l2 x0 0)).1 (oget (inaturalLog_l2 x0 0)).2)).1 4607182418800017408) (fadd .f64 (oget (inaturalLog_l4 (oget (inaturalLog_l2 x0 0)).1 (oget (inaturalLog_l2 x0 0)).2)).1 4607182418800017408)) (fmul .f64 (fdiv .f64 (fsub .f64 (oget (inaturalLog_l4 (oget (inaturalLog_l2 x0 0)).1 (oget (inaturalLog_l2 x0 0)).2)).1 4607182418800017408) (fadd .f64 (oget (inaturalLog_l4 (oget (inaturalLog_l2 x0 0)).1 (oget (inaturalLog_l2 x0 0)).2)).1 4607182418800017408)) (fdiv .f64 (fsub .f64 (oget (inaturalLog_l4 (oget (inaturalLog_l2 x0 0)).1 (oget (inaturalLog_l2 x0 0)).2)).1 4607182418800017408) (fadd .f64 (oget (inaturalLog_l4 (oget (inaturalLog_l2 x0 0)).1 (oget (inaturalLog_l2 x0 0)).2)).1 4607182418800017408))) 0 25)).2.1 (oget (inaturalLog_l9 (oget (inaturalLog_l4 (oget (inaturalLog_l2 x0 0)).1 (oget (inaturalLog_l2 x0 0)).2)).2 (fdiv .f64 (fsub .f64 (oget (inaturalLog_l4 (oget (inaturalLog_l2 x0 0)).1 (oget (inaturalLog_l2 x0 0)).2)).1 4607182418800017408) (fadd .f64 (oget (inaturalLog_l4 (oget (inaturalLog_l2 x0 0)).1 (oget (inaturalLog_l2 x0 0)).2)).1 4607182418800017408)) (fmul .f64 (fdiv .f64 (fsub .f64 (oget (inaturalLog_l4 (oget (inaturalLog_l2 x0 0)).1 (oget (inaturalLog_l2 x0 0)).2)).1 4607182418800017408) (fadd .f64 (oget (inaturalLog_l4 (oget (inaturalLog_l2 x0 0)).1 (oget (inaturalLog_l2 x0 0)).2)).1 4607182418800017408)) (fdiv .f64 (fsub .f64 (oget (inaturalLog_l4 (oget (inaturalLog_l2 x0 0)).1 (oget (inaturalLog_l2 x0 0)).2)).1 4607182418800017408) (fadd .f64 (oget (inaturalLog_l4 (oget (inaturalLog_l2 x0 0)).1 (oget (inaturalLog_l2 x0 0)).2)).1 4607182418800017408))) 0 25)).2.2)) (fmul .f64 (oget (inaturalLog_l9 (oget (inaturalLog_l4 (oget (inaturalLog_l2 x0 0)).1 (oget (inaturalLog_l2 x0 0)).2)).2 (fdiv .f64 (fsub .f64 (oget (inaturalLog_l4 (oget (inaturalLog_l2 x0 0)).1 (oget (inaturalLog_l2 x0 0)).2)).1 4607182418800017408) (fadd .f64 (oget (inaturalLog_l4 (oget (inaturalLog_l2 x0 0)).1 (oget (inaturalLog_l2 x0 0)).2)).1 4607182418800017408)) (fmul .f64 (fdiv .f64 (fsub .f64 (oget (inaturalLog_l4 (oget (inaturalLog_l2 x0 0)).1 (oget (inaturalLog_l2 x0 0)).2)).1 4607182418800017408) (fadd .f64 (oget (inaturalLog_l4 (oget (inaturalLog_l2 x0 0)).1 (oget (inaturalLog_l2 x0 0)).2)).1 4607182418800017408)) (fdiv .f64 (fsub .f64 (oget (inaturalLog_l4 (oget (inaturalLog_l2 x0 0)).1 (oget (inaturalLog_l2 x0 0)).2)).1 4607182418800017408) (fadd .f64 (oget (inaturalLog_l4 (oget (inaturalLog_l2 x0 0)).1 (oget (inaturalLog_l2 x0 0)).2)).1 4607182418800017408))) 0 25)).1 4604418534313441775))) .bad) .bad) .bad

noncomputable def inaturalLog (x0 : Nat) : Option (Nat) := (inaturalLog_t x0).sem

noncomputable def ilogarithm_t (x0 : Nat) : Tr (Nat) :=
  .br (osome (inaturalLog (fup x0))) (.ok (oget (inaturalLog (fup x0)))) .bad

noncomputable def ilogarithm (x0 : Nat) : Option (Nat) := (ilogarithm_t x0).sem

noncomputable def iLogNumber_t (x0 : Nat) : Tr (Nat) :=
  .br (! (feq .f32 x0 x0)) (.br (! (fover mNaN)) (.ok (fdown mNaN)) .bad) (.br (flt .f32 x0 0) (.br (! (fover mNaN)) (.ok (fdown mNaN)) .bad) (.br (feq .f32 x0 0) (.br (! (fover (mInf (-1)))) (.ok (fdown (mInf (-1)))) .bad) (.br (! (isFin .f32 x0)) (.ok x0) (.br (osome (ilogarithm x0)) (.br (! (fover (oget (ilogarithm x0)))) (.ok (fdown (oget (ilogarithm x0)))) .bad) .bad))))

noncomputable def iLogNumber (x0 : Nat) : Option (Nat) := (iLogNumber_t x0).sem

noncomputable def iExpNumber_l7_t (y0 : Nat) (y1 : Nat) (y2 : Int) : Tr ((Nat × Int) ⊕ Nat) :=
  .br (decide ((y2 : Int) ≥ 1)) (.ok (.inl (fadd .f64 4607182418800017408 (fdiv .f64 (fmul .f64 y0 y1) (FloatKind.nearest .f64 y2)), IntKind.wrap .i64 (y2 - 1)))) (.ok (.inr y1))

noncomputable def iExpNumber_l7 (y0 : Nat) (y1 : Nat) (y2 : Int) : Option (Nat) := runL (fun s : Nat × Int => (iExpNumber_l7_t y0 s.1 s.2).sem) (y1, y2)

noncomputable def iExpNumber_l11_t  (y0 : Nat) (y1 : Int) : Tr ((Nat × Int) ⊕ Nat) :=
  .br (decide ((y1 : Int) < 8)) (.ok (.inl (fmul .f64 y0 y0, IntKind.wrap .i64 (y1 + 1)))) (.ok (.inr y0))

noncomputable def iExpNumber_l11 (y0 : Nat) (y1 : Int) : Option (Nat) := runL (fun s : Nat × Int => (iExpNumber_l11_t  s.1 s.2).sem) (y0, y1)

noncomputable def iExpNumber_t (x0 : Nat) : Tr (Nat) :=
  .br (fgt .f32 x0 1128792064) (.br (! (fover (mInf 1))) (.ok (fdown (mInf 1))) .bad) (.br (flt .f32 x0 3276275712) (.ok 0) (.br (osome (iExpNumber_l7 (fdiv .f64 (fup x0) 4643211215818981376) 4607182418800017408 12)) (.br (osome (iExpNumber_l11 (oget (iExpNumber_l7 (fdiv .f64 (fup x0) 4643211215818981376) 4607182418800017408 12)) 0)) (.br (! (fover (oget (iExpNumber_l11 (oget (iExpNumber_l7 (fdiv .f64 (fup x0) 4643211215818981376) 4607182418800017408 12)) 0)))) (.ok (fdown (oget (iExpNumber_l11 (oget (iExpNumber_l7 (fdiv .f64 (fup x0) 4643211215818981376) 4607182418800017408 12)) 0)))) .bad) .bad) .bad))

noncomputable def iExpNumber (x0 : Nat) : Option (Nat) := (iExpNumber_t x0).sem

noncomputable def iFlowAt_t (x0 : Nat) (x1 : Nat) (x2 : Nat) (x3 : Nat) (x4 : Nat) : Tr (Nat × Bool) :=
  .br (osome (iAreaAt x0 x1 x2 x3 x4)) (.br (osome (iMiddleAt x0 x1 x2 x3 x4)) (.br (!(oget (iAreaAt x0 x1 x2 x3 x4)).2) (.ok (0, false)) (.br (!(oget (iMiddleAt x0 x1 x2 x3 x4)).2) (.ok (0, false)) (.br (osome (iLogNumber (oget (iMiddleAt x0 x1 x2 x3 x4)).1)) (.br (osome (iExpNumber (fmul .f32 1059760811 (oget (iLogNumber (oget (iMiddleAt x0 x1 x2 x3 x4)).1))))) (.ok ((ifinite32 (fdiv .f32 (fmul .f32 (fmul .f32 (oget (iAreaAt x0 x1 x2 x3 x4)).1 (oget (iExpNumber (fmul .f32 1059760811 (oget (iLogNumber (oget (iMiddleAt x0 x1 x2 x3 x4)).1)))))) (froot x2)) x3)).1, (ifinite32 (fdiv .f32 (fmul .f32 (fmul .f32 (oget (iAreaAt x0 x1 x2 x3 x4)).1 (oget (iExpNumber (fmul .f32 1059760811 (oget (iLogNumber (oget (iMiddleAt x0 x1 x2 x3 x4)).1)))))) (froot x2)) x3)).2)) .bad) .bad))) .bad) .bad

noncomputable def iFlowAt (x0 : Nat) (x1 : Nat) (x2 : Nat) (x3 : Nat) (x4 : Nat) : Option (Nat × Bool) := (iFlowAt_t x0 x1 x2 x3 x4).sem

noncomputable def iNormalDepth_1_t (x0 : Nat) (x1 : Nat) (x2 : Nat) (x3 : Nat) (x4 : Nat) (x5 : Nat) : Tr (Bool × Bool) :=
  .br (osome (iFlowAt x1 x2 x3 x4 x0)) (.ok (fgt .f32 (oget (iFlowAt x1 x2 x3 x4 x0)).1 x5, (oget (iFlowAt x1 x2 x3 x4 x0)).2)) .bad

noncomputable def iNormalDepth_1 (x0 : Nat) (x1 : Nat) (x2 : Nat) (x3 : Nat) (x4 : Nat) (x5 : Nat) : Option (Bool × Bool) := (iNormalDepth_1_t x0 x1 x2 x3 x4 x5).sem

noncomputable def ihalve_iNormalDepth_1_l2_t (y2 : Nat) (y3 : Nat) (y4 : Nat) (y5 : Nat) (y6 : Nat) (y0 : Nat) (y1 : Nat) (y7 : Int) : Tr ((Nat × Nat × Int) ⊕ ((Nat × Nat) ⊕ (Nat × Nat))) :=
  .br (decide ((y7 : Int) < 40)) (.br (osome (iNormalDepth_1 (fmul .f32 1056964608 (fadd .f32 y0 y1)) y2 y3 y4 y5 y6)) (.br (!(oget (iNormalDepth_1 (fmul .f32 1056964608 (fadd .f32 y0 y1)) y2 y3 y4 y5 y6)).2) (.ok (.inr (.inl (0, 0)))) (.br ((oget (iNormalDepth_1 (fmul .f32 1056964608 (fadd .f32 y0 y1)) y2 y3 y4 y5 y6)).1) (.ok (.inl (y0, fmul .f32 1056964608 (fadd .f32 y0 y1), IntKind.wrap .i64 (y7 + 1)))) (.ok (.inl (fmul .f32 1056964608 (fadd .f32 y0 y1), y1, IntKind.wrap .i64 (y7 + 1)))))) .bad) (.ok (.inr (.inr (y0, y1))))

noncomputable def ihalve_iNormalDepth_1_l2 (y0 : Nat) (y1 : Nat) (y2 : Nat) (y3 : Nat) (y4 : Nat) (y5 : Nat) (y6 : Nat) (y7 : Int) : Option ((Nat × Nat) ⊕ (Nat × Nat)) := runL (fun s : Nat × Nat × Int => (ihalve_iNormalDepth_1_l2_t y2 y3 y4 y5 y6 s.1 s.2.1 s.2.2).sem) (y0, y1, y7)

noncomputable def ihalve_iNormalDepth_1_t (x0 : Nat) (x1 : Nat) (x2 : Nat) (x3 : Nat) (x4 : Nat) (x5 : Nat) (x6 : Nat) : Tr (Nat × Nat × Bool) :=
  .br (osome (ihalve_iNormalDepth_1_l2 x0 x1 x2 x3 x4 x5 x6 0)) (.br (isL (oget (ihalve_iNormalDepth_1_l2 x0 x1 x2 x3 x4 x5 x6 0))) (.ok ((unL (oget (ihalve_iNormalDepth_1_l2 x0 x1 x2 x3 x4 x5 x6 0))).1, (unL (oget (ihalve_iNormalDepth_1_l2 x0 x1 x2 x3 x4 x5 x6 0))).2, false)) (.ok ((unR (oget (ihalve_iNormalDepth_1_l2 x0 x1 x2 x3 x4 x5 x6 0))).1, (unR (oget (ihalve_iNormalDepth_1_l2 x0 x1 x2 x3 x4 x5 x6 0))).2, true))) .bad

noncomputable def ihalve_iNormalDepth_1 (x0 : Nat) (x1 : Nat) (x2 : Nat) (x3 : Nat) (x4 : Nat) (x5 : Nat) (x6 : Nat) : Option (Nat × Nat × Bool) := (ihalve_iNormalDepth_1_t x0 x1 x2 x3 x4 x5 x6).sem

noncomputable def iNormalDepth_t (x0 : Nat) (x1 : Nat) (x2 : Nat) (x3 : Nat) (x4 : Nat) : Tr (Nat × Bool) :=
  .br (osome (iSection_isFlow x0 x1 x2 x3 [x4])) (.br (!(oget (iSection_isFlow x0 x1 x2 x3 [x4]))) (.ok (0, false)) (.br (osome (ihalve_iNormalDepth_1 0 1148846080 x0 x1 x2 x3 x4)) (.ok ((oget (ihalve_iNormalDepth_1 0 1148846080 x0 x1 x2 x3 x4)).2.1, (oget (ihalve_iNormalDepth_1 0 1148846080 x0 x1 x2 x3 x4)).2.2)) .bad)) .bad

noncomputable def iNormalDepth (x0 : Nat) (x1 : Nat) (x2 : Nat) (x3 : Nat) (x4 : Nat) : Option (Nat × Bool) := (iNormalDepth_t x0 x1 x2 x3 x4).sem

noncomputable def iTopAt_t (x0 : Nat) (x1 : Nat) (x2 : Nat) (x3 : Nat) (x4 : Nat) : Tr (Nat × Bool) :=
  .br (osome (iSection_isFlow x0 x1 x2 x3 [x4])) (.br (!(oget (iSection_isFlow x0 x1 x2 x3 [x4]))) (.ok (0, false)) (.ok ((ifinite32 (fadd .f32 x0 (fmul .f32 (fmul .f32 1073741824 x1) x4))).1, (ifinite32 (fadd .f32 x0 (fmul .f32 (fmul .f32 1073741824 x1) x4))).2))) .bad

noncomputable def iTopAt (x0 : Nat) (x1 : Nat) (x2 : Nat) (x3 : Nat) (x4 : Nat) : Option (Nat × Bool) := (iTopAt_t x0 x1 x2 x3 x4).sem

noncomputable def iCriticalDepth_1_t (x0 : Nat) (x1 : Nat) (x2 : Nat) (x3 : Nat) (x4 : Nat) (x5 : Nat) : Tr (Bool × Bool) :=
  .br (osome (iAreaAt x1 x2 x3 x4 x0)) (.br (osome (iTopAt x1 x2 x3 x4 x0)) (.br ((oget (iAreaAt x1 x2 x3 x4 x0)).2) (.ok (fgt .f32 (fmul .f32 1092416963 (fmul .f32 (fmul .f32 (oget (iAreaAt x1 x2 x3 x4 x0)).1 (oget (iAreaAt x1 x2 x3 x4 x0)).1) (oget (iAreaAt x1 x2 x3 x4 x0)).1)) (fmul .f32 (fmul .f32 x5 x5) (oget (iTopAt x1 x2 x3 x4 x0)).1), (oget (iTopAt x1 x2 x3 x4 x0)).2)) (.ok (fgt .f32 (fmul .f32 1092416963 (fmul .f32 (fmul .f32 (oget (iAreaAt x1 x2 x3 x4 x0)).1 (oget (iAreaAt x1 x2 x3 x4 x0)).1) (oget (iAreaAt x1 x2 x3 x4 x0)).1)) (fmul .f32 (fmul .f32 x5 x5) (oget (iTopAt x1 x2 x3 x4 x0)).1), false))) .bad) .bad

noncomputable def iCriticalDepth_1 (x0 : Nat) (x1 : Nat) (x2 : Nat) (x3 : Nat) (x4 : Nat) (x5 : Nat) : Option (Bool × Bool) := (iCriticalDepth_1_t x0 x1 x2 x3 x4 x5).sem

noncomputable def ihalve_iCriticalDepth_1_l2_t (y2 : Nat) (y3 : Nat) (y4 : Nat) (y5 : Nat) (y6 : Nat) (y0 : Nat) (y1 : Nat) (y7 : Int) : Tr ((Nat × Nat × Int) ⊕ ((Nat × Nat) ⊕ (Nat × Nat))) :=
  .br (decide ((y7 : Int) < 40)) (.br (osome (iCriticalDepth_1 (fmul .f32 1056964608 (fadd .f32 y0 y1)) y2 y3 y4 y5 y6)) (.br (!(oget (iCriticalDepth_1 (fmul .f32 1056964608 (fadd .f32 y0 y1)) y2 y3 y4 y5 y6)).2) (.ok (.inr (.inl (0, 0)))) (.br ((oget (iCriticalDepth_1 (fmul .f32 1056964608 (fadd .f32 y0 y1)) y2 y3 y4 y5 y6)).1) (.ok (.inl (y0, fmul .f32 1056964608 (fadd .f32 y0 y1), IntKind.wrap .i64 (y7 + 1)))) (.ok (.inl (fmul .f32 1056964608 (fadd .f32 y0 y1), y1, IntKind.wrap .i64 (y7 + 1)))))) .bad) (.ok (.inr (.inr (y0, y1))))

noncomputable def ihalve_iCriticalDepth_1_l2 (y0 : Nat) (y1 : Nat) (y2 : Nat) (y3 : Nat) (y4 : Nat) (y5 : Nat) (y6 : Nat) (y7 : Int) : Option ((Nat × Nat) ⊕ (Nat × Nat)) := runL (fun s : Nat × Nat × Int => (ihalve_iCriticalDepth_1_l2_t y2 y3 y4 y5 y6 s.1 s.2.1 s.2.2).sem) (y0, y1, y7)

noncomputable def ihalve_iCriticalDepth_1_t (x0 : Nat) (x1 : Nat) (x2 : Nat) (x3 : Nat) (x4 : Nat) (x5 : Nat) (x6 : Nat) : Tr (Nat × Nat × Bool) :=
  .br (osome (ihalve_iCriticalDepth_1_l2 x0 x1 x2 x3 x4 x5 x6 0)) (.br (isL (oget (ihalve_iCriticalDepth_1_l2 x0 x1 x2 x3 x4 x5 x6 0))) (.ok ((unL (oget (ihalve_iCriticalDepth_1_l2 x0 x1 x2 x3 x4 x5 x6 0))).1, (unL (oget (ihalve_iCriticalDepth_1_l2 x0 x1 x2 x3 x4 x5 x6 0))).2, false)) (.ok ((unR (oget (ihalve_iCriticalDepth_1_l2 x0 x1 x2 x3 x4 x5 x6 0))).1, (unR (oget (ihalve_iCriticalDepth_1_l2 x0 x1 x2 x3 x4 x5 x6 0))).2, true))) .bad

noncomputable def ihalve_iCriticalDepth_1 (x0 : Nat) (x1 : Nat) (x2 : Nat) (x3 : Nat) (x4 : Nat) (x5 : Nat) (x6 : Nat) : Option (Nat × Nat × Bool) := (ihalve_iCriticalDepth_1_t x0 x1 x2 x3 x4 x5 x6).sem

noncomputable def iCriticalDepth_t (x0 : Nat) (x1 : Nat) (x2 : Nat) (x3 : Nat) (x4 : Nat) : Tr (Nat × Bool) :=
  .br (osome (iSection_isFlow x0 x1 x2 x3 [x4])) (.br (!(oget (iSection_isFlow x0 x1 x2 x3 [x4]))) (.ok (0, false)) (.br (osome (ihalve_iCriticalDepth_1 0 1148846080 x0 x1 x2 x3 x4)) (.ok ((oget (ihalve_iCriticalDepth_1 0 1148846080 x0 x1 x2 x3 x4)).2.1, (oget (ihalve_iCriticalDepth_1 0 1148846080 x0 x1 x2 x3 x4)).2.2)) .bad)) .bad

noncomputable def iCriticalDepth (x0 : Nat) (x1 : Nat) (x2 : Nat) (x3 : Nat) (x4 : Nat) : Option (Nat × Bool) := (iCriticalDepth_t x0 x1 x2 x3 x4).sem

noncomputable def iSpeedAt_t (x0 : Nat) (x1 : Nat) (x2 : Nat) (x3 : Nat) (x4 : Nat) (x5 : Nat) : Tr (Nat × Bool) :=
  .br (osome (iAreaAt x0 x1 x2 x3 x4)) (.br (!(oget (iAreaAt x0 x1 x2 x3 x4)).2) (.ok (0, false)) (.br (! (isLen x5)) (.ok (0, false)) (.ok ((ifinite32 (fdiv .f32 x5 (oget (iAreaAt x0 x1 x2 x3 x4)).1)).1, (ifinite32 (fdiv .f32 x5 (oget (iAreaAt x0 x1 x2 x3 x4)).1)).2)))) .bad

noncomputable def iSpeedAt (x0 : Nat) (x1 : Nat) (x2 : Nat) (x3 : Nat) (x4 : Nat) (x5 : Nat) : Option (Nat × Bool) := (iSpeedAt_t x0 x1 x2 x3 x4 x5).sem

noncomputable def iSteepnessAt_t (x0 : Nat) (x1 : Nat) (x2 : Nat) (x3 : Nat) (x4 : Nat) (x5 : Nat) : Tr (Nat × Bool) :=
  .br (osome (iSpeedAt x0 x1 x2 x3 x4 x5)) (.br (osome (iMiddleAt x0 x1 x2 x3 x4)) (.br (!(oget (iSpeedAt x0 x1 x2 x3 x4 x5)).2) (.ok (0, false)) (.br (!(oget (iMiddleAt x0 x1 x2 x3 x4)).2) (.ok (0, false)) (.br (osome (iLogNumber (oget (iMiddleAt x0 x1 x2 x3 x4)).1)) (.br (osome (iExpNumber (fmul .f32 1068149419 (oget (iLogNumber (oget (iMiddleAt x0 x1 x2 x3 x4)).1))))) (.ok ((ifinite32 (fdiv .f32 (fmul .f32 (fmul .f32 x3 (oget (iSpeedAt x0 x1 x2 x3 x4 x5)).1) (fmul .f32 x3 (oget (iSpeedAt x0 x1 x2 x3 x4 x5)).1)) (oget (iExpNumber (fmul .f32 1068149419 (oget (iLogNumber (oget (iMiddleAt x0 x1 x2 x3 x4)).1))))))).1, (ifinite32 (fdiv .f32 (fmul .f32 (fmul .f32 x3 (oget (iSpeedAt x0 x1 x2 x3 x4 x5)).1) (fmul .f32 x3 (oget (iSpeedAt x0 x1 x2 x3 x4 x5)).1)) (oget (iExpNumber (fmul .f32 1068149419 (oget (iLogNumber (oget (iMiddleAt x0 x1 x2 x3 x4)).1))))))).2)) .bad) .bad))) .bad) .bad

noncomputable def iSteepnessAt (x0 : Nat) (x1 : Nat) (x2 : Nat) (x3 : Nat) (x4 : Nat) (x5 : Nat) : Option (Nat × Bool) := (iSteepnessAt_t x0 x1 x2 x3 x4 x5).sem

noncomputable def iareFinite_1_t (x0 : Nat) : Tr (Bool) :=
  .ok (! (isFin .f32 x0))

noncomputable def iareFinite_1 (x0 : Nat) : Bool := (iareFinite_1_t x0).val

noncomputable def lIndexFunc_iareFinite_1_l2_t (y0 : List Nat) (y1 : Int) (y2 : Int) : Tr (Int ⊕ (Int ⊕ Unit)) :=
  .br (decide ((y2 : Int) < y1)) (.br (decide (0 ≤ (y2 : Int)) && decide ((y2 : Int) < ((List.length y0 : Nat) : Int))) (.br (iareFinite_1 (List.getD y0 (Int.toNat y2) 0)) (.ok (.inr (.inl y2))) (.ok (.inl (IntKind.wrap .i64 (y2 + 1))))) .bad) (.ok (.inr (.inr ())))

noncomputable def lIndexFunc_iareFinite_1_l2 (y0 : List Nat) (y1 : Int) (y2 : Int) : Option (Int ⊕ Unit) := runL (fun s : Int => (lIndexFunc_iareFinite_1_l2_t y0 y1 s).sem) y2

noncomputable def lIndexFunc_iareFinite_1_t (x0 : List Nat) : Tr (Int) :=
  .br (osome (lIndexFunc_iareFinite_1_l2 x0 (((List.length x0 : Nat) : Int)) 0)) (.br (isL (oget (lIndexFunc_iareFinite_1_l2 x0 (((List.length x0 : Nat) : Int)) 0))) (.ok (unL (oget (lIndexFunc_iareFinite_1_l2 x0 (((List.length x0 : Nat) : Int)) 0)))) (.ok (-1))) .bad

noncomputable def lIndexFunc_iareFinite_1 (x0 : List Nat) : Option (Int) := (lIndexFunc_iareFinite_1_t x0).sem

noncomputable def lContainsFunc_iareFinite_1_t (x0 : List Nat) : Tr (Bool) :=
  .br (osome (lIndexFunc_iareFinite_1 x0)) (.ok (decide (((oget (lIndexFunc_iareFinite_1 x0)) : Int) ≥ 0))) .bad

noncomputable def lContainsFunc_iareFinite_1 (x0 : List Nat) : Option (Bool) := (lContainsFunc_iareFinite_1_t x0).sem

noncomputable def iareFinite_t (x0 : List Nat) : Tr (Bool) :=
  .br (osome (lContainsFunc_iareFinite_1 x0)) (.ok (!(oget (lContainsFunc_iareFinite_1 x0)))) .bad

noncomputable def iareFinite (x0 : List Nat) : Option (Bool) := (iareFinite_t x0).sem

noncomputable def iWeirOver_t (x0 : Nat) (x1 : Nat) (x2 : Nat) (x3 : Nat) : Tr (Nat × Bool) :=
  .br (! (isMass x0)) (.ok (0, false)) (.br (osome (iareFinite [x1, x2, x3])) (.br (!(oget (iareFinite [x1, x2, x3]))) (.ok (0, false)) (.br (! (fgt .f32 (fsub .f32 x2 x1) 0)) (.ok (0, true)) (.br (fgt .f32 x3 x1) (.br (! (flt .f32 (fdiv .f32 (fsub .f32 x3 x1) (fsub .f32 x2 x1)) 1065353216)) (.ok (0, true)) (.ok ((ifinite32 (fmul .f32 (fmul .f32 (fmul .f32 x0 (fsub .f32 x2 x1)) (froot (fsub .f32 x2 x1))) (froot (fsub .f32 1065353216 (fmul .f32 (fdiv .f32 (fsub .f32 x3 x1) (fsub .f32 x2 x1)) (fdiv .f32 (fsub .f32 x3 x1) (fsub .f32 x2 x1))))))).1, (ifinite32 (fmul .f32 (fmul .f32 (fmul .f32 x0 (fsub .f32 x2 x1)) (froot (fsub .f32 x2 x1))) (froot (fsub .f32 1065353216 (fmul .f32 (fdiv .f32 (fsub .f32 x3 x1) (fsub .f32 x2 x1)) (fdiv .f32 (fsub .f32 x3 x1) (fsub .f32 x2 x1))))))).2))) (.ok ((ifinite32 (fmul .f32 (fmul .f32 x0 (fsub .f32 x2 x1)) (froot (fsub .f32 x2 x1)))).1, (ifinite32 (fmul .f32 (fmul .f32 x0 (fsub .f32 x2 x1)) (froot (fsub .f32 x2 x1)))).2))))) .bad)

noncomputable def iWeirOver (x0 : Nat) (x1 : Nat) (x2 : Nat) (x3 : Nat) : Option (Nat × Bool) := (iWeirOver_t x0 x1 x2 x3).sem

noncomputable def iHeadAt_t (x0 : Nat) (x1 : Nat) (x2 : Nat) (x3 : Nat) (x4 : Nat) (x5 : Nat) : Tr (Nat × Bool) :=
  .br (osome (iSpeedAt x0 x1 x2 x3 x4 x5)) (.br (!(oget (iSpeedAt x0 x1 x2 x3 x4 x5)).2) (.ok (0, false)) (.ok ((ifinite32 (fadd .f32 x4 (fdiv .f32 (fmul .f32 (oget (iSpeedAt x0 x1 x2 x3 x4 x5)).1 (oget (iSpeedAt x0 x1 x2 x3 x4 x5)).1) 1100805571))).1, (ifinite32 (fadd .f32 x4 (fdiv .f32 (fmul .f32 (oget (iSpeedAt x0 x1 x2 x3 x4 x5)).1 (oget (iSpeedAt x0 x1 x2 x3 x4 x5)).1) 1100805571))).2))) .bad

noncomputable def iHeadAt (x0 : Nat) (x1 : Nat) (x2 : Nat) (x3 : Nat) (x4 : Nat) (x5 : Nat) : Option (Nat × Bool) := (iHeadAt_t x0 x1 x2 x3 x4 x5).sem

noncomputable def iBackStep_1_t (x0 : Nat) (x1 : Nat) (x2 : Nat) (x3 : Nat) (x4 : Nat) (x5 : Nat) (x6 : Nat) (x7 : Nat) (x8 : Nat) : Tr (Bool × Bool) :=
  .br (osome (iHeadAt x1 x2 x3 x4 x0 x5)) (.br (osome (iSteepnessAt x1 x2 x3 x4 x0 x5)) (.br ((oget (iHeadAt x1 x2 x3 x4 x0 x5)).2) (.ok (fgt .f32 (fadd .f32 (oget (iHeadAt x1 x2 x3 x4 x0 x5)).1 (fmul .f32 x3 x6)) (fadd .f32 x7 (fmul .f32 x6 (fmul .f32 1056964608 (fadd .f32 x8 (oget (iSteepnessAt x1 x2 x3 x4 x0 x5)).1)))), (oget (iSteepnessAt x1 x2 x3 x4 x0 x5)).2)) (.ok (fgt .f32 (fadd .f32 (oget (iHeadAt x1 x2 x3 x4 x0 x5)).1 (fmul .f32 x3 x6)) (fadd .f32 x7 (fmul .f32 x6 (fmul .f32 1056964608 (fadd .f32 x8 (oget (iSteepnessAt x1 x2 x3 x4 x0 x5)).1)))), false))) .bad) .bad

noncomputable def iBackStep_1 (x0 : Nat) (x1 : Nat) (x2 : Nat) (x3 : Nat) (x4 : Nat) (x5 : Nat) (x6 : Nat) (x7 : Nat) (x8 : Nat) : Option (Bool × Bool) := (iBackStep_1_t x0 x1 x2 x3 x4 x5 x6 x7 x8).sem

noncomputable def ihalve_iBackStep_1_l2_t (y2 : Nat) (y3 : Nat) (y4 : Nat) (y5 : Nat) (y6 : Nat) (y7 : Nat) (y8 : Nat) (y9 : Nat) (y0 : Nat) (y1 : Nat) (y10 : Int) : Tr ((Nat × Nat × Int) ⊕ ((Nat × Nat) ⊕ (Nat × Nat))) :=
  .br (decide ((y10 : Int) < 40)) (.br (osome (iBackStep_1 (fmul .f32 1056964608 (fadd .f32 y0 y1)) y2 y3 y4 y5 y6 y7 y8 y9)) (.br (!(oget (iBackStep_1 (fmul .f32 1056964608 (fadd .f32 y0 y1)) y2 y3 y4 y5 y6 y7 y8 y9)).2) (.ok (.inr (.inl (0, 0)))) (.br ((oget (iBackStep_1 (fmul .f32 1056964608 (fadd .f32 y0 y1)) y2 y3 y4 y5 y6 y7 y8 y9)).1) (.ok (.inl (y0, fmul .f32 1056964608 (fadd .f32 y0 y1), IntKind.wrap .i64 (y10 + 1)))) (.ok (.inl (fmul .f32 1056964608 (fadd .f32 y0 y1), y1, IntKind.wrap .i64 (y10 + 1)))))) .bad) (.ok (.inr (.inr (y0, y1))))

noncomputable def ihalve_iBackStep_1_l2 (y0 : Nat) (y1 : Nat) (y2 : Nat) (y3 : Nat) (y4 : Nat) (y5 : Nat) (y6 : Nat) (y7 : Nat) (y8 : Nat) (y9 : Nat) (y10 : Int) : Option ((Nat × Nat) ⊕ (Nat × Nat)) := runL (fun s : Nat × Nat × Int => (ihalve_iBackStep_1_l2_t y2 y3 y4 y5 y6 y7 y8 y9 s.1 s.2.1 s.2.2).sem) (y0, y1, y10)

noncomputable def ihalve_iBackStep_1_t (x0 : Nat) (x1 : Nat) (x2 : Nat) (x3 : Nat) (x4 : Nat) (x5 : Nat) (x6 : Nat) (x7 : Nat) (x8 : Nat) (x9 : Nat) : Tr (Nat × Nat × Bool) :=
  .br (osome (ihalve_iBackStep_1_l2 x0 x1 x2 x3 x4 x5 x6 x7 x8 x9 0)) (.br (isL (oget (ihalve_iBackStep_1_l2 x0 x1 x2 x3 x4 x5 x6 x7 x8 x9 0))) (.ok ((unL (oget (ihalve_iBackStep_1_l2 x0 x1 x2 x3 x4 x5 x6 x7 x8 x9 0))).1, (unL (oget (ihalve_iBackStep_1_l2 x0 x1 x2 x3 x4 x5 x6 x7 x8 x9 0))).2, false)) (.ok ((unR (oget (ihalve_iBackStep_1_l2 x0 x1 x2 x3 x4 x5 x6 x7 x8 x9 0))).1, (unR (oget (ihalve_iBackStep_1_l2 x0 x1 x2 x3 x4 x5 x6 x7 x8 x9 0))).2, true))) .bad

noncomputable def ihalve_iBackStep_1 (x0 : Nat) (x1 : Nat) (x2 : Nat) (x3 : Nat) (x4 : Nat) (x5 : Nat) (x6 : Nat) (x7 : Nat) (x8 : Nat) (x9 : Nat) : Option (Nat × Nat × Bool) := (ihalve_iBackStep_1_t x0 x1 x2 x3 x4 x5 x6 x7 x8 x9).sem

noncomputable def iBackStep_t (x0 : Nat) (x1 : Nat) (x2 : Nat) (x3 : Nat) (x4 : Nat) (x5 : Nat) (x6 : Nat) : Tr (Nat × Bool) :=
  .br (osome (iCriticalDepth x0 x1 x2 x3 x5)) (.br (osome (iHeadAt x0 x1 x2 x3 x4 x5)) (.br (osome (iSteepnessAt x0 x1 x2 x3 x4 x5)) (.br (!(oget (iCriticalDepth x0 x1 x2 x3 x5)).2) (.ok (0, false)) (.br (!(oget (iHeadAt x0 x1 x2 x3 x4 x5)).2) (.ok (0, false)) (.br (!(oget (iSteepnessAt x0 x1 x2 x3 x4 x5)).2) (.ok (0, false)) (.br (! (isLen x6)) (.ok (0, false)) (.br (! (fgt .f32 x4 (oget (iCriticalDepth x0 x1 x2 x3 x5)).1)) (.ok (0, false)) (.br (osome (ihalve_iBackStep_1 (oget (iCriticalDepth x0 x1 x2 x3 x5)).1 1148846080 x0 x1 x2 x3 x5 x6 (oget (iHeadAt x0 x1 x2 x3 x4 x5)).1 (oget (iSteepnessAt x0 x1 x2 x3 x4 x5)).1)) (.ok ((oget (ihalve_iBackStep_1 (oget (iCriticalDepth x0 x1 x2 x3 x5)).1 1148846080 x0 x1 x2 x3 x5 x6 (oget (iHeadAt x0 x1 x2 x3 x4 x5)).1 (oget (iSteepnessAt x0 x1 x2 x3 x4 x5)).1)).2.1, (oget (ihalve_iBackStep_1 (oget (iCriticalDepth x0 x1 x2 x3 x5)).1 1148846080 x0 x1 x2 x3 x5 x6 (oget (iHeadAt x0 x1 x2 x3 x4 x5)).1 (oget (iSteepnessAt x0 x1 x2 x3 x4 x5)).1)).2.2)) .bad)))))) .bad) .bad) .bad

noncomputable def iBackStep (x0 : Nat) (x1 : Nat) (x2 : Nat) (x3 : Nat) (x4 : Nat) (x5 : Nat) (x6 : Nat) : Option (Nat × Bool) := (iBackStep_t x0 x1 x2 x3 x4 x5 x6).sem

noncomputable def iLevelFor_t (x0 : Nat) (x1 : Nat) (x2 : Nat) : Tr (Nat × Bool) :=
  .br (osome (iareLengths [x0, x2])) (.br (!(oget (iareLengths [x0, x2]))) (.ok (0, false)) (.br (! (isFin .f32 x1)) (.ok (0, false)) (.br (osome (iLogNumber (fdiv .f32 x2 x0))) (.br (osome (iExpNumber (fmul .f32 1059760811 (oget (iLogNumber (fdiv .f32 x2 x0)))))) (.ok ((ifinite32 (fadd .f32 x1 (oget (iExpNumber (fmul .f32 1059760811 (oget (iLogNumber (fdiv .f32 x2 x0)))))))).1, (ifinite32 (fadd .f32 x1 (oget (iExpNumber (fmul .f32 1059760811 (oget (iLogNumber (fdiv .f32 x2 x0)))))))).2)) .bad) .bad))) .bad

noncomputable def iLevelFor (x0 : Nat) (x1 : Nat) (x2 : Nat) : Option (Nat × Bool) := (iLevelFor_t x0 x1 x2).sem

noncomputable def wr8Gap_t (x0 : Nat) (x1 : Nat) : Tr (Nat) :=
  .ok (fmax .f64 (fsub .f64 x0 x1) (fsub .f64 x1 x0))

noncomputable def wr8Gap (x0 : Nat) (x1 : Nat) : Nat := (wr8Gap_t x0 x1).val

noncomputable def iGateUnder_t (x0 : Nat) (x1 : Nat) (x2 : Nat) (x3 : Nat) : Tr (Nat × Bool) :=
  .br (osome (iareMasses [x0, x1])) (.br (!(oget (iareMasses [x0, x1]))) (.ok (0, false)) (.br (osome (iareFinite [x2, x3])) (.br (!(oget (iareFinite [x2, x3]))) (.ok (0, false)) (.br (! (fgt .f32 (fsub .f32 x2 (fmax .f32 x3 (fdiv .f32 x1 1073741824))) 0)) (.ok (0, true)) (.ok ((ifinite32 (fmul .f32 (fmul .f32 x0 x1) (froot (fmul .f32 1100805571 (fsub .f32 x2 (fmax .f32 x3 (fdiv .f32 x1 1073741824))))))).1, (ifinite32 (fmul .f32 (fmul .f32 x0 x1) (froot (fmul .f32 1100805571 (fsub .f32 x2 (fmax .f32 x3 (fdiv .f32 x1 1073741824))))))).2)))) .bad)) .bad

noncomputable def iGateUnder (x0 : Nat) (x1 : Nat) (x2 : Nat) (x3 : Nat) : Option (Nat × Bool) := (iGateUnder_t x0 x1 x2 x3).sem

noncomputable def iwithin_t (x0 : Int) (x1 : Int) (x2 : Int) : Tr (Bool) :=
  .br (decide ((x1 : Int) ≤ x0)) (.ok (decide ((x0 : Int) ≤ x2))) (.ok false)

noncomputable def iwithin (x0 : Int) (x1 : Int) (x2 : Int) : Bool := (iwithin_t x0 x1 x2).val

noncomputable def iBackWater_l5_t (y1 : Nat) (y2 : Nat) (y3 : Int) (y5 : Nat) (y6 : Nat) (y7 : Nat) (y8 : Nat) (y0 : Nat) (y4 : Int) (y9 : List Nat) : Tr ((Nat × Int × List Nat) ⊕ (Unit ⊕ (List Nat))) :=
  .br (decide ((y4 : Int) < y3)) (.br (osome (iBackStep y5 y6 y7 y8 y0 y1 y2)) (.br (!(oget (iBackStep y5 y6 y7 y8 y0 y1 y2)).2) (.ok (.inr (.inl ()))) (.br (decide ((List.length y9 + List.length [(oget (iBackStep y5 y6 y7 y8 y0 y1 y2)).1]) * 4 ≤ 140737488355328)) (.ok (.inl ((oget (iBackStep y5 y6 y7 y8 y0 y1 y2)).1, IntKind.wrap .i64 (y4 + 1), y9 ++ [(oget (iBackStep y5 y6 y7 y8 y0 y1 y2)).1]))) .bad)) .bad) (.ok (.inr (.inr y9)))

noncomputable def iBackWater_l5 (y0 : Nat) (y1 : Nat) (y2 : Nat) (y3 : Int) (y4 : Int) (y5 : Nat) (y6 : Nat) (y7 : Nat) (y8 : Nat) (y9 : List Nat) : Option (Unit ⊕ (List Nat)) := runL (fun s : Nat × Int × List Nat => (iBackWater_l5_t y1 y2 y3 y5 y6 y7 y8 s.1 s.2.1 s.2.2).sem) (y0, y4, y9)

noncomputable def iBackWater_t (x0 : Nat) (x1 : Nat) (x2 : Nat) (x3 : Nat) (x4 : Nat) (x5 : Nat) (x6 : Nat) (x7 : Int) : Tr (Unit ⊕ (List Nat)) :=
  .br (osome (iSection_isFlow x0 x1 x2 x3 [x4, x5, x6])) (.br (!(oget (iSection_isFlow x0 x1 x2 x3 [x4, x5, x6]))) (.ok (.inl ())) (.br (! (iwithin x7 0 64)) (.ok (.inl ())) (.br (osome (iBackWater_l5 x4 x5 x6 x7 0 x0 x1 x2 x3 [])) (.br (isL (oget (iBackWater_l5 x4 x5 x6 x7 0 x0 x1 x2 x3 []))) (.ok (.inl ())) (.ok (.inr (unR (oget (iBackWater_l5 x4 x5 x6 x7 0 x0 x1 x2 x3 [])))))) .bad))) .bad

noncomputable def iBackWater (x0 : Nat) (x1 : Nat) (x2 : Nat) (x3 : Nat) (x4 : Nat) (x5 : Nat) (x6 : Nat) (x7 : Int) : Option (Unit ⊕ (List Nat)) := (iBackWater_t x0 x1 x2 x3 x4 x5 x6 x7).sem

noncomputable def iCulvertFlow_t (x0 : Nat) (x1 : Nat) (x2 : Nat) (x3 : Nat) (x4 : Nat) : Tr (Nat × Bool) :=
  .br (osome (iWeirOver x0 x1 x3 x4)) (.br (osome (iGateUnder x0 x2 (fsub .f32 x3 x1) (fsub .f32 x4 x1))) (.br (!(oget (iWeirOver x0 x1 x3 x4)).2) (.ok (0, false)) (.br (!(oget (iGateUnder x0 x2 (fsub .f32 x3 x1) (fsub .f32 x4 x1))).2) (.ok (0, false)) (.br (! (isLen x2)) (.ok (0, false)) (.br (flt .f32 (oget (iGateUnder x0 x2 (fsub .f32 x3 x1) (fsub .f32 x4 x1))).1 (oget (iWeirOver x0 x1 x3 x4)).1) (.ok ((oget (iGateUnder x0 x2 (fsub .f32 x3 x1) (fsub .f32 x4 x1))).1, true)) (.ok ((oget (iWeirOver x0 x1 x3 x4)).1, true)))))) .bad) .bad

noncomputable def iCulvertFlow (x0 : Nat) (x1 : Nat) (x2 : Nat) (x3 : Nat) (x4 : Nat) : Option (Nat × Bool) := (iCulvertFlow_t x0 x1 x2 x3 x4).sem

noncomputable def ipipe_t (x0 : Nat) : Tr (Nat) :=
  .ok (fmul .f32 (fmul .f32 1061752795 x0) x0)

noncomputable def ipipe (x0 : Nat) : Nat := (ipipe_t x0).val

noncomputable def iPipeFlow_t (x0 : Nat) (x1 : Nat) (x2 : Nat) (x3 : Nat) : Tr (Nat × Bool) :=
  .br (! (isMass x0)) (.ok (0, false)) (.br (osome (iareLengths [x1, x2, x3])) (.br (!(oget (iareLengths [x1, x2, x3]))) (.ok (0, false)) (.ok ((ifinite32 (fmul .f32 (ipipe x1) (froot (fdiv .f32 (fmul .f32 (fmul .f32 1100805571 x0) x1) (fmul .f32 x3 x2))))).1, (ifinite32 (fmul .f32 (ipipe x1) (froot (fdiv .f32 (fmul .f32 (fmul .f32 1100805571 x0) x1) (fmul .f32 x3 x2))))).2))) .bad)

noncomputable def iPipeFlow (x0 : Nat) (x1 : Nat) (x2 : Nat) (x3 : Nat) : Option (Nat × Bool) := (iPipeFlow_t x0 x1 x2 x3).sem

noncomputable def iabsolute_t (x0 : Nat) : Tr (Nat) :=
  .br (! (fover (fabs .f64 (fup x0)))) (.ok (fdown (fabs .f64 (fup x0)))) .bad

noncomputable def iabsolute (x0 : Nat) : Option (Nat) := (iabsolute_t x0).sem

noncomputable def iPipeLoss_t (x0 : Nat) (x1 : Nat) (x2 : Nat) (x3 : Nat) : Tr (Nat × Bool) :=
  .br (! (isFin .f32 x0)) (.ok (0, false)) (.br (osome (iareLengths [x1, x2, x3])) (.br (!(oget (iareLengths [x1, x2, x3]))) (.ok (0, false)) (.br (osome (iabsolute (fdiv .f32 x0 (ipipe x1)))) (.ok ((ifinite32 (fdiv .f32 (fmul .f32 (fmul .f32 (fmul .f32 x3 (fdiv .f32 x2 x1)) (fdiv .f32 x0 (ipipe x1))) (oget (iabsolute (fdiv .f32 x0 (ipipe x1))))) 1100805571)).1, (ifinite32 (fdiv .f32 (fmul .f32 (fmul .f32 (fmul .f32 x3 (fdiv .f32 x2 x1)) (fdiv .f32 x0 (ipipe x1))) (oget (iabsolute (fdiv .f32 x0 (ipipe x1))))) 1100805571)).2)) .bad)) .bad)

noncomputable def iPipeLoss (x0 : Nat) (x1 : Nat) (x2 : Nat) (x3 : Nat) : Option (Nat × Bool) := (iPipeLoss_t x0 x1 x2 x3).sem

noncomputable def wFnBacked_o1 (v8 : Unit ⊕ (List Nat)) : Tr (Bool) :=
  .br (isL v8) (.ok false) (.ok false)

noncomputable def wFnBacked_o2 (v22 : Int) (v23 : Nat × Bool) (v24 : Nat × Bool) (v25 : Nat × Bool) : Tr (Bool) :=
  .br v23.2 (.br v24.2 (.br v25.2 (.br (flt .f64 (wr8Gap (fup v24.1) (fup (fdiv .f32 (FloatKind.nearest .f32 v22) 1082130432))) (fmul .f64 4562254508917369340 (fadd .f64 4607182418800017408 (fup (fdiv .f32 (FloatKind.nearest .f32 v22) 1082130432))))) (.ok (feq .f32 v25.1 (fneg .f32 v24.1))) (.ok false)) (.ok false)) (.ok false)) (.ok false)

noncomputable def wFnBacked_o3 (v21 : Int) (v22 : Int) (v23 : Nat × Bool) (v24 : Nat × Bool) : Tr (Bool) :=
  .br (osome (iPipeLoss (fneg .f32 v23.1) (fdiv .f32 (FloatKind.nearest .f32 (IntKind.wrap .i64 (1 + v21))) 1082130432) 1109393408 1023410176)) (wFnBacked_o2 v22 v23 v24 (oget (iPipeLoss (fneg .f32 v23.1) (fdiv .f32 (FloatKind.nearest .f32 (IntKind.wrap .i64 (1 + v21))) 1082130432) 1109393408 1023410176))) .bad

noncomputable def wFnBacked_o4 (v21 : Int) (v22 : Int) (v23 : Nat × Bool) : Tr (Bool) :=
  .br (osome (iPipeLoss v23.1 (fdiv .f32 (FloatKind.nearest .f32 (IntKind.wrap .i64 (1 + v21))) 1082130432) 1109393408 1023410176)) (wFnBacked_o3 v21 v22 v23 (oget (iPipeLoss v23.1 (fdiv .f32 (FloatKind.nearest .f32 (IntKind.wrap .i64 (1 + v21))) 1082130432) 1109393408 1023410176))) .bad

noncomputable def wFnBacked_o5 (v21 : Int) (v22 : Int) : Tr (Bool) :=
  .br (osome (iPipeFlow (fdiv .f32 (FloatKind.nearest .f32 v22) 1082130432) (fdiv .f32 (FloatKind.nearest .f32 (IntKind.wrap .i64 (1 + v21))) 1082130432) 1109393408 1023410176)) (wFnBacked_o4 v21 v22 (oget (iPipeFlow (fdiv .f32 (FloatKind.nearest .f32 v22) 1082130432) (fdiv .f32 (FloatKind.nearest .f32 (IntKind.wrap .i64 (1 + v21))) 1082130432) 1109393408 1023410176))) .bad

noncomputable def wFnBacked_o6 (x1 : List Int) (v21 : Int) : Tr (Bool) :=
  .br (osome (wr8At x1 4 17)) (wFnBacked_o5 v21 (oget (wr8At x1 4 17))) .bad

noncomputable def wFnBacked_o7 (v27 : Int) (v28 : Nat × Bool) (v29 : Nat × Bool) (v30 : Nat × Bool) : Tr (Bool) :=
  .br v28.2 (.br v29.2 (.br v30.2 (.br (flt .f64 (wr8Gap (fup v29.1) (fup (fdiv .f32 (FloatKind.nearest .f32 v27) 1082130432))) (fmul .f64 4562254508917369340 (fadd .f64 4607182418800017408 (fup (fdiv .f32 (FloatKind.nearest .f32 v27) 1082130432))))) (.ok (feq .f32 v30.1 (fneg .f32 v29.1))) (.ok false)) (.ok false)) (.ok false)) (.ok false)

noncomputable def wFnBacked_o8 (v26 : Int) (v27 : Int) (v28 : Nat × Bool) (v29 : Nat × Bool) : Tr (Bool) :=
  .br (osome (iPipeLoss (fneg .f32 v28.1) (fdiv .f32 (FloatKind.nearest .f32 (IntKind.wrap .i64 (1 + v26))) 1082130432) 1109393408 1023410176)) (wFnBacked_o7 v27 v28 v29 (oget (iPipeLoss (fneg .f32 v28.1) (fdiv .f32 (FloatKind.nearest .f32 (IntKind.wrap .i64 (1 + v26))) 1082130432) 1109393408 1023410176))) .bad

noncomputable def wFnBacked_o9 (v26 : Int) (v27 : Int) (v28 : Nat × Bool) : Tr (Bool) :=
  .br (osome (iPipeLoss v28.1 (fdiv .f32 (FloatKind.nearest .f32 (IntKind.wrap .i64 (1 + v26))) 1082130432) 1109393408 1023410176)) (wFnBacked_o8 v26 v27 v28 (oget (iPipeLoss v28.1 (fdiv .f32 (FloatKind.nearest .f32 (IntKind.wrap .i64 (1 + v26))) 1082130432) 1109393408 1023410176))) .bad

noncomputable def wFnBacked_o10 (v26 : Int) (v27 : Int) : Tr (Bool) :=
  .br (osome (iPipeFlow (fdiv .f32 (FloatKind.nearest .f32 v27) 1082130432) (fdiv .f32 (FloatKind.nearest .f32 (IntKind.wrap .i64 (1 + v26))) 1082130432) 1109393408 1023410176)) (wFnBacked_o9 v26 v27 (oget (iPipeFlow (fdiv .f32 (FloatKind.nearest .f32 v27) 1082130432) (fdiv .f32 (FloatKind.nearest .f32 (IntKind.wrap .i64 (1 + v26))) 1082130432) 1109393408 1023410176))) .bad

noncomputable def wFnBacked_o11 (x1 : List Int) (v26 : Int) : Tr (Bool) :=
  .br (osome (wr8At x1 4 17)) (wFnBacked_o10 v26 (oget (wr8At x1 4 17))) .bad

noncomputable def wFnBacked_o12 (x1 : List Int) (v12 : Int) (v13 : Nat × Bool) (v14 : Nat × Bool) (v15 : Nat × Bool) (v16 : Nat × Bool) (v17 : Nat × Bool) (v18 : Nat × Bool) (v19 : Nat × Bool) (v20 : Nat × Bool) : Tr (Bool) :=
  .br (!v13.2) (.ok false) (.br (!v14.2) (.ok false) (.br (!v15.2) (.ok false) (.br (!v16.2) (.ok false) (.br (!v17.2) (.ok false) (.br (!v18.2) (.ok false) (.br (!v19.2) (.ok false) (.br (!v20.2) (.ok false) (.br (fgt .f32 v14.1 v13.1) (.ok false) (.br (! (feq .f32 v15.1 0)) (.ok false) (.br (! (feq .f32 v19.1 0)) (.ok false) (.br (fgt .f64 (wr8Gap (fup v16.1) (fup (fdiv .f32 (FloatKind.nearest .f32 (IntKind.wrap .i64 (1 + v12))) 1082130432))) (fmul .f64 4562254508917369340 (fadd .f64 4607182418800017408 (fup (fdiv .f32 (FloatKind.nearest .f32 (IntKind.wrap .i64 (1 + v12))) 1082130432))))) (.ok false) (.br (fgt .f32 (fdiv .f32 (FloatKind.nearest .f32 (IntKind.wrap .i64 (1 + v12))) 1082130432) 1065353216) (.br (fgt .f32 v17.1 v18.1) (.ok false) (.br (! (feq .f32 v20.1 (fmin .f32 v13.1 v17.1))) (.ok false) (.br (osome (wr8At x1 3 8)) (wFnBacked_o6 x1 (oget (wr8At x1 3 8))) .bad))) (.br (! (feq .f32 v20.1 (fmin .f32 v13.1 v17.1))) (.ok false) (.br (osome (wr8At x1 3 8)) (wFnBacked_o11 x1 (oget (wr8At x1 3 8))) .bad))))))))))))))

noncomputable def wFnBacked_o13 (x1 : List Int) (v11 : Int) (v12 : Int) (v13 : Nat × Bool) (v14 : Nat × Bool) (v15 : Nat × Bool) (v16 : Nat × Bool) (v17 : Nat × Bool) (v18 : Nat × Bool) (v19 : Nat × Bool) : Tr (Bool) :=
  .br (osome (iCulvertFlow (fdiv .f32 (FloatKind.nearest .f32 (IntKind.wrap .i64 (1 + v11))) 1073741824) 0 1056964608 (fdiv .f32 (FloatKind.nearest .f32 (IntKind.wrap .i64 (1 + v12))) 1082130432) 0)) (wFnBacked_o12 x1 v12 v13 v14 v15 v16 v17 v18 v19 (oget (iCulvertFlow (fdiv .f32 (FloatKind.nearest .f32 (IntKind.wrap .i64 (1 + v11))) 1073741824) 0 1056964608 (fdiv .f32 (FloatKind.nearest .f32 (IntKind.wrap .i64 (1 + v12))) 1082130432) 0))) .bad

noncomputable def wFnBacked_o14 (x1 : List Int) (v11 : Int) (v12 : Int) (v13 : Nat × Bool) (v14 : Nat × Bool) (v15 : Nat × Bool) (v16 : Nat × Bool) (v17 : Nat × Bool) (v18 : Nat × Bool) : Tr (Bool) :=
  .br (osome (iGateUnder (fdiv .f32 (FloatKind.nearest .f32 (IntKind.wrap .i64 (1 + v11))) 1073741824) 1056964608 (fdiv .f32 (FloatKind.nearest .f32 (IntKind.wrap .i64 (1 + v12))) 1082130432) (fdiv .f32 (FloatKind.nearest .f32 (IntKind.wrap .i64 (1 + v12))) 1082130432))) (wFnBacked_o13 x1 v11 v12 v13 v14 v15 v16 v17 v18 (oget (iGateUnder (fdiv .f32 (FloatKind.nearest .f32 (IntKind.wrap .i64 (1 + v11))) 1073741824) 1056964608 (fdiv .f32 (FloatKind.nearest .f32 (IntKind.wrap .i64 (1 + v12))) 1082130432) (fdiv .f32 (FloatKind.nearest .f32 (IntKind.wrap .i64 (1 + v12))) 1082130432)))) .bad

noncomputable def wFnBacked_o15 (x1 : List Int) (v11 : Int) (v12 : Int) (v13 : Nat × Bool) (v14 : Nat × Bool) (v15 : Nat × Bool) (v16 : Nat × Bool) (v17 : Nat × Bool) : Tr (Bool) :=
  .br (osome (iGateUnder (fdiv .f32 (FloatKind.nearest .f32 (IntKind.wrap .i64 (1 + v11))) 1073741824) 1065353216 (fdiv .f32 (FloatKind.nearest .f32 (IntKind.wrap .i64 (1 + v12))) 1082130432) 0)) (wFnBacked_o14 x1 v11 v12 v13 v14 v15 v16 v17 (oget (iGateUnder (fdiv .f32 (FloatKind.nearest .f32 (IntKind.wrap .i64 (1 + v11))) 1073741824) 1065353216 (fdiv .f32 (FloatKind.nearest .f32 (IntKind.wrap .i64 (1 + v12))) 1082130432) 0))) .bad

noncomputable def wFnBacked_o16 (x1 : List Int) (v11 : Int) (v12 : Int) (v13 : Nat × Bool) (v14 : Nat × Bool) (v15 : Nat × Bool) (v16 : Nat × Bool) : Tr (Bool) :=
  .br (osome (iGateUnder (fdiv .f32 (FloatKind.nearest .f32 (IntKind.wrap .i64 (1 + v11))) 1073741824) 1056964608 (fdiv .f32 (FloatKind.nearest .f32 (IntKind.wrap .i64 (1 + v12))) 1082130432) 0)) (wFnBacked_o15 x1 v11 v12 v13 v14 v15 v16 (oget (iGateUnder (fdiv .f32 (FloatKind.nearest .f32 (IntKind.wrap .i64 (1 + v11))) 1073741824) 1056964608 (fdiv .f32 (FloatKind.nearest .f32 (IntKind.wrap .i64 (1 + v12))) 1082130432) 0))) .bad

noncomputable def wFnBacked_o17 (x1 : List Int) (v11 : Int) (v12 : Int) (v13 : Nat × Bool) (v14 : Nat × Bool) (v15 : Nat × Bool) : Tr (Bool) :=
  .br (osome (iLevelFor (fdiv .f32 (FloatKind.nearest .f32 (IntKind.wrap .i64 (1 + v11))) 1073741824) 0 v13.1)) (wFnBacked_o16 x1 v11 v12 v13 v14 v15 (oget (iLevelFor (fdiv .f32 (FloatKind.nearest .f32 (IntKind.wrap .i64 (1 + v11))) 1073741824) 0 v13.1))) .bad

noncomputable def wFnBacked_o18 (x1 : List Int) (v11 : Int) (v12 : Int) (v13 : Nat × Bool) (v14 : Nat × Bool) : Tr (Bool) :=
  .br (osome (iWeirOver (fdiv .f32 (FloatKind.nearest .f32 (IntKind.wrap .i64 (1 + v11))) 1073741824) 0 (fdiv .f32 (FloatKind.nearest .f32 (IntKind.wrap .i64 (1 + v12))) 1082130432) (fdiv .f32 (FloatKind.nearest .f32 (IntKind.wrap .i64 (1 + v12))) 1082130432))) (wFnBacked_o17 x1 v11 v12 v13 v14 (oget (iWeirOver (fdiv .f32 (FloatKind.nearest .f32 (IntKind.wrap .i64 (1 + v11))) 1073741824) 0 (fdiv .f32 (FloatKind.nearest .f32 (IntKind.wrap .i64 (1 + v12))) 1082130432) (fdiv .f32 (FloatKind.nearest .f32 (IntKind.wrap .i64 (1 + v12))) 1082130432)))) .bad

noncomputable def wFnBacked_o19 (x1 : List Int) (v11 : Int) (v12 : Int) (v13 : Nat × Bool) : Tr (Bool) :=
  .br (osome (iWeirOver (fdiv .f32 (FloatKind.nearest .f32 (IntKind.wrap .i64 (1 + v11))) 1073741824) 0 (fdiv .f32 (FloatKind.nearest .f32 (IntKind.wrap .i64 (1 + v12))) 1082130432) (fdiv .f32 (fdiv .f32 (FloatKind.nearest .f32 (IntKind.wrap .i64 (1 + v12))) 1082130432) 1073741824))) (wFnBacked_o18 x1 v11 v12 v13 (oget (iWeirOver (fdiv .f32 (FloatKind.nearest .f32 (IntKind.wrap .i64 (1 + v11))) 1073741824) 0 (fdiv .f32 (FloatKind.nearest .f32 (IntKind.wrap .i64 (1 + v12))) 1082130432) (fdiv .f32 (fdiv .f32 (FloatKind.nearest .f32 (IntKind.wrap .i64 (1 + v12))) 1082130432) 1073741824)))) .bad

noncomputable def wFnBacked_o20 (x1 : List Int) (v11 : Int) (v12 : Int) : Tr (Bool) :=
  .br (osome (iWeirOver (fdiv .f32 (FloatKind.nearest .f32 (IntKind.wrap .i64 (1 + v11))) 1073741824) 0 (fdiv .f32 (FloatKind.nearest .f32 (IntKind.wrap .i64 (1 + v12))) 1082130432) 0)) (wFnBacked_o19 x1 v11 v12 (oget (iWeirOver (fdiv .f32 (FloatKind.nearest .f32 (IntKind.wrap .i64 (1 + v11))) 1073741824) 0 (fdiv .f32 (FloatKind.nearest .f32 (IntKind.wrap .i64 (1 + v12))) 1082130432) 0))) .bad

noncomputable def wFnBacked_o21 (x1 : List Int) (v11 : Int) : Tr (Bool) :=
  .br (osome (wr8At x1 2 16)) (wFnBacked_o20 x1 v11 (oget (wr8At x1 2 16))) .bad

noncomputable def wFnBacked_o22 (x1 : List Int) (v7 : Unit ⊕ (List Nat)) (v9 : Unit ⊕ (List Nat)) (v10 : Unit ⊕ (List Nat)) : Tr (Bool) :=
  .br (isL v10) (.ok false) (.br ((((List.length (unR v10) : Nat) : Int) : Int) != 2) (.ok false) (.br (decide (0 ≤ (0 : Int)) && decide ((0 : Int) < ((List.length (unR v9) : Nat) : Int))) (.br (decide (0 ≤ (0 : Int)) && decide ((0 : Int) < ((List.length (unR v7) : Nat) : Int))) (.br (! (feq .f32 (List.getD (unR v9) (Int.toNat 0) 0) (List.getD (unR v7) (Int.toNat 0) 0))) (.ok false) (.br (decide (0 ≤ (1 : Int)) && decide ((1 : Int) < ((List.length (unR v9) : Nat) : Int))) (.br (decide (0 ≤ (1 : Int)) && decide ((1 : Int) < ((List.length (unR v7) : Nat) : Int))) (.br (! (feq .f32 (List.getD (unR v9) (Int.toNat 1) 0) (List.getD (unR v7) (Int.toNat 1) 0))) (.ok false) (.br (decide (0 ≤ (0 : Int)) && decide ((0 : Int) < ((List.length (unR v10) : Nat) : Int))) (.br (decide (0 ≤ (2 : Int)) && decide ((2 : Int) < ((List.length (unR v7) : Nat) : Int))) (.br (! (feq .f32 (List.getD (unR v10) (Int.toNat 0) 0) (List.getD (unR v7) (Int.toNat 2) 0))) (.ok false) (.br (decide (0 ≤ (1 : Int)) && decide ((1 : Int) < ((List.length (unR v10) : Nat) : Int))) (.br (decide (0 ≤ (3 : Int)) && decide ((3 : Int) < ((List.length (unR v7) : Nat) : Int))) (.br (! (feq .f32 (List.getD (unR v10) (Int.toNat 1) 0) (List.getD (unR v7) (Int.toNat 3) 0))) (.ok false) (.br (osome (wr8At x1 1 8)) (wFnBacked_o21 x1 (oget (wr8At x1 1 8))) .bad)) .bad) .bad)) .bad) .bad)) .bad) .bad)) .bad) .bad))

noncomputable def wFnBacked_o23 (x1 : List Int) (v1 : Nat × (Nat × (Nat × Nat))) (v2 : Int) (v7 : Unit ⊕ (List Nat)) (v9 : Unit ⊕ (List Nat)) : Tr (Bool) :=
  .br (isL v9) (.ok false) (.br ((((List.length (unR v7) : Nat) : Int) : Int) != 4) (.ok false) (.br ((((List.length (unR v9) : Nat) : Int) : Int) != 2) (.ok false) (.br (decide (0 ≤ (1 : Int)) && decide ((1 : Int) < ((List.length (unR v9) : Nat) : Int))) (.br (osome (iBackWater v1.1 v1.2.1 v1.2.2.1 v1.2.2.2 (List.getD (unR v9) (Int.toNat 1) 0) (fdiv .f32 (FloatKind.nearest .f32 (IntKind.wrap .i64 (1 + v2))) 1082130432) 1098907648 2)) (wFnBacked_o22 x1 v7 v9 (oget (iBackWater v1.1 v1.2.1 v1.2.2.1 v1.2.2.2 (List.getD (unR v9) (Int.toNat 1) 0) (fdiv .f32 (FloatKind.nearest .f32 (IntKind.wrap .i64 (1 + v2))) 1082130432) 1098907648 2))) .bad) .bad)))

noncomputable def wFnBacked_o24 (x1 : List Int) (v1 : Nat × (Nat × (Nat × Nat))) (v2 : Int) (v3 : Nat × Bool) (v7 : Unit ⊕ (List Nat)) : Tr (Bool) :=
  .br (isL v7) (.br (osome (iBackWater v1.1 v1.2.1 v1.2.2.1 v1.2.2.2 (fmul .f32 v3.1 1069547520) (fdiv .f32 (FloatKind.nearest .f32 (IntKind.wrap .i64 (1 + v2))) 1082130432) 1098907648 2)) (wFnBacked_o1 (oget (iBackWater v1.1 v1.2.1 v1.2.2.1 v1.2.2.2 (fmul .f32 v3.1 1069547520) (fdiv .f32 (FloatKind.nearest .f32 (IntKind.wrap .i64 (1 + v2))) 1082130432) 1098907648 2))) .bad) (.br (osome (iBackWater v1.1 v1.2.1 v1.2.2.1 v1.2.2.2 (fmul .f32 v3.1 1069547520) (fdiv .f32 (FloatKind.nearest .f32 (IntKind.wrap .i64 (1 + v2))) 1082130432) 1098907648 2)) (wFnBacked_o23 x1 v1 v2 v7 (oget (iBackWater v1.1 v1.2.1 v1.2.2.1 v1.2.2.2 (fmul .f32 v3.1 1069547520) (fdiv .f32 (FloatKind.nearest .f32 (IntKind.wrap .i64 (1 + v2))) 1082130432) 1098907648 2))) .bad)

noncomputable def wFnBacked_o25 (x1 : List Int) (v1 : Nat × (Nat × (Nat × Nat))) (v2 : Int) (v3 : Nat × Bool) (v5 : Nat × Bool) (v6 : Nat × Bool) : Tr (Bool) :=
  .br (!v5.2) (.ok false) (.br (!v6.2) (.ok false) (.br (fgt .f64 (wr8Gap (fup v5.1) (fup v1.2.2.1)) (fadd .f64 (fmul .f64 4587366580439587226 (fup v1.2.2.1)) 4547007122018943789)) (.ok false) (.br (fgt .f64 (wr8Gap (fup v6.1) (fup v3.1)) (fmul .f64 4587366580439587226 (fadd .f64 4607182418800017408 (fup v3.1)))) (.ok false) (.br (osome (iBackWater v1.1 v1.2.1 v1.2.2.1 v1.2.2.2 (fmul .f32 v3.1 1069547520) (fdiv .f32 (FloatKind.nearest .f32 (IntKind.wrap .i64 (1 + v2))) 1082130432) 1098907648 4)) (wFnBacked_o24 x1 v1 v2 v3 (oget (iBackWater v1.1 v1.2.1 v1.2.2.1 v1.2.2.2 (fmul .f32 v3.1 1069547520) (fdiv .f32 (FloatKind.nearest .f32 (IntKind.wrap .i64 (1 + v2))) 1082130432) 1098907648 4))) .bad))))

noncomputable def wFnBacked_o26 (x1 : List Int) (v1 : Nat × (Nat × (Nat × Nat))) (v2 : Int) (v3 : Nat × Bool) (v5 : Nat × Bool) : Tr (Bool) :=
  .br (osome (iBackStep v1.1 v1.2.1 v1.2.2.1 v1.2.2.2 v3.1 (fdiv .f32 (FloatKind.nearest .f32 (IntKind.wrap .i64 (1 + v2))) 1082130432) 1098907648)) (wFnBacked_o25 x1 v1 v2 v3 v5 (oget (iBackStep v1.1 v1.2.1 v1.2.2.1 v1.2.2.2 v3.1 (fdiv .f32 (FloatKind.nearest .f32 (IntKind.wrap .i64 (1 + v2))) 1082130432) 1098907648))) .bad

noncomputable def wFnBacked_o27 (v42 : Int) (v43 : Nat × Bool) (v44 : Nat × Bool) (v45 : Nat × Bool) : Tr (Bool) :=
  .br v43.2 (.br v44.2 (.br v45.2 (.br (flt .f64 (wr8Gap (fup v44.1) (fup (fdiv .f32 (FloatKind.nearest .f32 v42) 1082130432))) (fmul .f64 4562254508917369340 (fadd .f64 4607182418800017408 (fup (fdiv .f32 (FloatKind.nearest .f32 v42) 1082130432))))) (.ok (feq .f32 v45.1 (fneg .f32 v44.1))) (.ok false)) (.ok false)) (.ok false)) (.ok false)

noncomputable def wFnBacked_o28 (v41 : Int) (v42 : Int) (v43 : Nat × Bool) (v44 : Nat × Bool) : Tr (Bool) :=
  .br (osome (iPipeLoss (fneg .f32 v43.1) (fdiv .f32 (FloatKind.nearest .f32 (IntKind.wrap .i64 (1 + v41))) 1082130432) 1109393408 1023410176)) (wFnBacked_o27 v42 v43 v44 (oget (iPipeLoss (fneg .f32 v43.1) (fdiv .f32 (FloatKind.nearest .f32 (IntKind.wrap .i64 (1 + v41))) 1082130432) 1109393408 1023410176))) .bad

noncomputable def wFnBacked_o29 (v41 : Int) (v42 : Int) (v43 : Nat × Bool) : Tr (Bool) :=
  .br (osome (iPipeLoss v43.1 (fdiv .f32 (FloatKind.nearest .f32 (IntKind.wrap .i64 (1 + v41))) 1082130432) 1109393408 1023410176)) (wFnBacked_o28 v41 v42 v43 (oget (iPipeLoss v43.1 (fdiv .f32 (FloatKind.nearest .f32 (IntKind.wrap .i64 (1 + v41))) 1082130432) 1109393408 1023410176))) .bad

noncomputable def wFnBacked_o30 (v41 : Int) (v42 : Int) : Tr (Bool) :=
  .br (osome (iPipeFlow (fdiv .f32 (FloatKind.nearest .f32 v42) 1082130432) (fdiv .f32 (FloatKind.nearest .f32 (IntKind.wrap .i64 (1 + v41))) 1082130432) 1109393408 1023410176)) (wFnBacked_o29 v41 v42 (oget (iPipeFlow (fdiv .f32 (FloatKind.nearest .f32 v42) 1082130432) (fdiv .f32 (FloatKind.nearest .f32 (IntKind.wrap .i64 (1 + v41))) 1082130432) 1109393408 1023410176))) .bad

noncomputable def wFnBacked_o31 (x1 : List Int) (v41 : Int) : Tr (Bool) :=
  .br (osome (wr8At x1 4 17)) (wFnBacked_o30 v41 (oget (wr8At x1 4 17))) .bad

noncomputable def wFnBacked_o32 (v47 : Int) (v48 : Nat × Bool) (v49 : Nat × Bool) (v50 : Nat × Bool) : Tr (Bool) :=
  .br v48.2 (.br v49.2 (.br v50.2 (.br (flt .f64 (wr8Gap (fup v49.1) (fup (fdiv .f32 (FloatKind.nearest .f32 v47) 1082130432))) (fmul .f64 4562254508917369340 (fadd .f64 4607182418800017408 (fup (fdiv .f32 (FloatKind.nearest .f32 v47) 1082130432))))) (.ok (feq .f32 v50.1 (fneg .f32 v49.1))) (.ok false)) (.ok false)) (.ok false)) (.ok false)

noncomputable def wFnBacked_o33 (v46 : Int) (v47 : Int) (v48 : Nat × Bool) (v49 : Nat × Bool) : Tr (Bool) :=
  .br (osome (iPipeLoss (fneg .f32 v48.1) (fdiv .f32 (FloatKind.nearest .f32 (IntKind.wrap .i64 (1 + v46))) 1082130432) 1109393408 1023410176)) (wFnBacked_o32 v47 v48 v49 (oget (iPipeLoss (fneg .f32 v48.1) (fdiv .f32 (FloatKind.nearest .f32 (IntKind.wrap .i64 (1 + v46))) 1082130432) 1109393408 1023410176))) .bad

noncomputable def wFnBacked_o34 (v46 : Int) (v47 : Int) (v48 : Nat × Bool) : Tr (Bool) :=
  .br (osome (iPipeLoss v48.1 (fdiv .f32 (FloatKind.nearest .f32 (IntKind.wrap .i64 (1 + v46))) 1082130432) 1109393408 1023410176)) (wFnBacked_o33 v46 v47 v48 (oget (iPipeLoss v48.1 (fdiv .f32 (FloatKind.nearest .f32 (IntKind.wrap .i64 (1 + v46))) 1082130432) 1109393408 1023410176))) .bad

noncomputable def wFnBacked_o35 (v46 : Int) (v47 : Int) : Tr (Bool) :=
  .br (osome (iPipeFlow (fdiv .f32 (FloatKind.nearest .f32 v47) 1082130432) (fdiv .f32 (FloatKind.nearest .f32 (IntKind.wrap .i64 (1 + v46))) 1082130432) 1109393408 1023410176)) (wFnBacked_o34 v46 v47 (oget (iPipeFlow (fdiv .f32 (FloatKind.nearest .f32 v47) 1082130432) (fdiv .f32 (FloatKind.nearest .f32 (IntKind.wrap .i64 (1 + v46))) 1082130432) 1109393408 1023410176))) .bad

noncomputable def wFnBacked_o36 (x1 : List Int) (v46 : Int) : Tr (Bool) :=
  .br (osome (wr8At x1 4 17)) (wFnBacked_o35 v46 (oget (wr8At x1 4 17))) .bad

noncomputable def wFnBacked_o37 (x1 : List Int) (v32 : Int) (v33 : Nat × Bool) (v34 : Nat × Bool) (v35 : Nat × Bool) (v36 : Nat × Bool) (v37 : Nat × Bool) (v38 : Nat × Bool) (v39 : Nat × Bool) (v40 : Nat × Bool) : Tr (Bool) :=
  .br (!v33.2) (.ok false) (.br (!v34.2) (.ok false) (.br (!v35.2) (.ok false) (.br (!v36.2) (.ok false) (.br (!v37.2) (.ok false) (.br (!v38.2) (.ok false) (.br (!v39.2) (.ok false) (.br (!v40.2) (.ok false) (.br (fgt .f32 v34.1 v33.1) (.ok false) (.br (! (feq .f32 v35.1 0)) (.ok false) (.br (! (feq .f32 v39.1 0)) (.ok false) (.br (fgt .f64 (wr8Gap (fup v36.1) (fup (fdiv .f32 (FloatKind.nearest .f32 (IntKind.wrap .i64 (1 + v32))) 1082130432))) (fmul .f64 4562254508917369340 (fadd .f64 4607182418800017408 (fup (fdiv .f32 (FloatKind.nearest .f32 (IntKind.wrap .i64 (1 + v32))) 1082130432))))) (.ok false) (.br (fgt .f32 (fdiv .f32 (FloatKind.nearest .f32 (IntKind.wrap .i64 (1 + v32))) 1082130432) 1065353216) (.br (fgt .f32 v37.1 v38.1) (.ok false) (.br (! (feq .f32 v40.1 (fmin .f32 v33.1 v37.1))) (.ok false) (.br (osome (wr8At x1 3 8)) (wFnBacked_o31 x1 (oget (wr8At x1 3 8))) .bad))) (.br (! (feq .f32 v40.1 (fmin .f32 v33.1 v37.1))) (.ok false) (.br (osome (wr8At x1 3 8)) (wFnBacked_o36 x1 (oget (wr8At x1 3 8))) .bad))))))))))))))

noncomputable def wFnBacked_o38 (x1 : List Int) (v31 : Int) (v32 : Int) (v33 : Nat × Bool) (v34 : Nat × Bool) (v35 : Nat × Bool) (v36 : Nat × Bool) (v37 : Nat × Bool) (v38 : Nat × Bool) (v39 : Nat × Bool) : Tr (Bool) :=
  .br (osome (iCulvertFlow (fdiv .f32 (FloatKind.nearest .f32 (IntKind.wrap .i64 (1 + v31))) 1073741824) 0 1056964608 (fdiv .f32 (FloatKind.nearest .f32 (IntKind.wrap .i64 (1 + v32))) 1082130432) 0)) (wFnBacked_o37 x1 v32 v33 v34 v35 v36 v37 v38 v39 (oget (iCulvertFlow (fdiv .f32 (FloatKind.nearest .f32 (IntKind.wrap .i64 (1 + v31))) 1073741824) 0 1056964608 (fdiv .f32 (FloatKind.nearest .f32 (IntKind.wrap .i64 (1 + v32))) 1082130432) 0))) .bad

noncomputable def wFnBacked_o39 (x1 : List Int) (v31 : Int) (v32 : Int) (v33 : Nat × Bool) (v34 : Nat × Bool) (v35 : Nat × Bool) (v36 : Nat × Bool) (v37 : Nat × Bool) (v38 : Nat × Bool) : Tr (Bool) :=
  .br (osome (iGateUnder (fdiv .f32 (FloatKind.nearest .f32 (IntKind.wrap .i64 (1 + v31))) 1073741824) 1056964608 (fdiv .f32 (FloatKind.nearest .f32 (IntKind.wrap .i64 (1 + v32))) 1082130432) (fdiv .f32 (FloatKind.nearest .f32 (IntKind.wrap .i64 (1 + v32))) 1082130432))) (wFnBacked_o38 x1 v31 v32 v33 v34 v35 v36 v37 v38 (oget (iGateUnder (fdiv .f32 (FloatKind.nearest .f32 (IntKind.wrap .i64 (1 + v31))) 1073741824) 1056964608 (fdiv .f32 (FloatKind.nearest .f32 (IntKind.wrap .i64 (1 + v32))) 1082130432) (fdiv .f32 (FloatKind.nearest .f32 (IntKind.wrap .i64 (1 + v32))) 1082130432)))) .bad

noncomputable def wFnBacked_o40 (x1 : List Int) (v31 : Int) (v32 : Int) (v33 : Nat × Bool) (v34 : Nat × Bool) (v35 : Nat × Bool) (v36 : Nat × Bool) (v37 : Nat × Bool) : Tr (Bool) :=
  .br (osome (iGateUnder (fdiv .f32 (FloatKind.nearest .f32 (IntKind.wrap .i64 (1 + v31))) 1073741824) 1065353216 (fdiv .f32 (FloatKind.nearest .f32 (IntKind.wrap .i64 (1 + v32))) 1082130432) 0)) (wFnBacked_o39 x1 v31 v32 v33 v34 v35 v36 v37 (oget (iGateUnder (fdiv .f32 (FloatKind.nearest .f32 (IntKind.wrap .i64 (1 + v31))) 1073741824) 1065353216 (fdiv .f32 (FloatKind.nearest .f32 (IntKind.wrap .i64 (1 + v32))) 1082130432) 0))) .bad

noncomputable def wFnBacked_o41 (x1 : List Int) (v31 : Int) (v32 : Int) (v33 : Nat × Bool) (v34 : Nat × Bool) (v35 : Nat × Bool) (v36 : Nat × Bool) : Tr (Bool) :=
  .br (osome (iGateUnder (fdiv .f32 (FloatKind.nearest .f32 (IntKind.wrap .i64 (1 + v31))) 1073741824) 1056964608 (fdiv .f32 (FloatKind.nearest .f32 (IntKind.wrap .i64 (1 + v32))) 1082130432) 0)) (wFnBacked_o40 x1 v31 v32 v33 v34 v35 v36 (oget (iGateUnder (fdiv .f32 (FloatKind.nearest .f32 (IntKind.wrap .i64 (1 + v31))) 1073741824) 1056964608 (fdiv .f32 (FloatKind.nearest .f32 (IntKind.wrap .i64 (1 + v32))) 1082130432) 0))) .bad

noncomputable def wFnBacked_o42 (x1 : List Int) (v31 : Int) (v32 : Int) (v33 : Nat × Bool) (v34 : Nat × Bool) (v35 : Nat × Bool) : Tr (Bool) :=
  .br (osome (iLevelFor (fdiv .f32 (FloatKind.nearest .f32 (IntKind.wrap .i64 (1 + v31))) 1073741824) 0 v33.1)) (wFnBacked_o41 x1 v31 v32 v33 v34 v35 (oget (iLevelFor (fdiv .f32 (FloatKind.nearest .f32 (IntKind.wrap .i64 (1 + v31))) 1073741824) 0 v33.1))) .bad

noncomputable def wFnBacked_o43 (x1 : List Int) (v31 : Int) (v32 : Int) (v33 : Nat × Bool) (v34 : Nat × Bool) : Tr (Bool) :=
  .br (osome (iWeirOver (fdiv .f32 (FloatKind.nearest .f32 (IntKind.wrap .i64 (1 + v31))) 1073741824) 0 (fdiv .f32 (FloatKind.nearest .f32 (IntKind.wrap .i64 (1 + v32))) 1082130432) (fdiv .f32 (FloatKind.nearest .f32 (IntKind.wrap .i64 (1 + v32))) 1082130432))) (wFnBacked_o42 x1 v31 v32 v33 v34 (oget (iWeirOver (fdiv .f32 (FloatKind.nearest .f32 (IntKind.wrap .i64 (1 + v31))) 1073741824) 0 (fdiv .f32 (FloatKind.nearest .f32 (IntKind.wrap .i64 (1 + v32))) 1082130432) (fdiv .f32 (FloatKind.nearest .f32 (IntKind.wrap .i64 (1 + v32))) 1082130432)))) .bad

noncomputable def wFnBacked_o44 (x1 : List Int) (v31 : Int) (v32 : Int) (v33 : Nat × Bool) : Tr (Bool) :=
  .br (osome (iWeirOver (fdiv .f32 (FloatKind.nearest .f32 (IntKind.wrap .i64 (1 + v31))) 1073741824) 0 (fdiv .f32 (FloatKind.nearest .f32 (IntKind.wrap .i64 (1 + v32))) 1082130432) (fdiv .f32 (fdiv .f32 (FloatKind.nearest .f32 (IntKind.wrap .i64 (1 + v32))) 1082130432) 1073741824))) (wFnBacked_o43 x1 v31 v32 v33 (oget (iWeirOver (fdiv .f32 (FloatKind.nearest .f32 (IntKind.wrap .i64 (1 + v31))) 1073741824) 0 (fdiv .f32 (FloatKind.nearest .f32 (IntKind.wrap .i64 (1 + v32))) 1082130432) (fdiv .f32 (fdiv .f32 (FloatKind.nearest .f32 (IntKind.wrap .i64 (1 + v32))) 1082130432) 1073741824)))) .bad

noncomputable def wFnBacked_o45 (x1 : List Int) (v31 : Int) (v32 : Int) : Tr (Bool) :=
  .br (osome (iWeirOver (fdiv .f32 (FloatKind.nearest .f32 (IntKind.wrap .i64 (1 + v31))) 1073741824) 0 (fdiv .f32 (FloatKind.nearest .f32 (IntKind.wrap .i64 (1 + v32))) 1082130432) 0)) (wFnBacked_o44 x1 v31 v32 (oget (iWeirOver (fdiv .f32 (FloatKind.nearest .f32 (IntKind.wrap .i64 (1 + v31))) 1073741824) 0 (fdiv .f32 (FloatKind.nearest .f32 (IntKind.wrap .i64 (1 + v32))) 1082130432) 0))) .bad

noncomputable def wFnBacked_o46 (x1 : List Int) (v31 : Int) : Tr (Bool) :=
  .br (osome (wr8At x1 2 16)) (wFnBacked_o45 x1 v31 (oget (wr8At x1 2 16))) .bad

noncomputable def wFnBacked_o47 (x1 : List Int) (v1 : Nat × (Nat × (Nat × Nat))) (v2 : Int) (v3 : Nat × Bool) (v4 : Nat × Bool) : Tr (Bool) :=
  .br (!v3.2) (.ok false) (.br (!v4.2) (.ok false) (.br (fgt .f64 (fup v3.1) (fmul .f64 4608083138725491507 (fup v4.1))) (.br (osome (iSteepnessAt v1.1 v1.2.1 v1.2.2.1 v1.2.2.2 v3.1 (fdiv .f32 (FloatKind.nearest .f32 (IntKind.wrap .i64 (1 + v2))) 1082130432))) (wFnBacked_o26 x1 v1 v2 v3 (oget (iSteepnessAt v1.1 v1.2.1 v1.2.2.1 v1.2.2.2 v3.1 (fdiv .f32 (FloatKind.nearest .f32 (IntKind.wrap .i64 (1 + v2))) 1082130432)))) .bad) (.br (osome (wr8At x1 1 8)) (wFnBacked_o46 x1 (oget (wr8At x1 1 8))) .bad)))

noncomputable def wFnBacked_o48 (x1 : List Int) (v1 : Nat × (Nat × (Nat × Nat))) (v2 : Int) (v3 : Nat × Bool) : Tr (Bool) :=
  .br (osome (iCriticalDepth v1.1 v1.2.1 v1.2.2.1 v1.2.2.2 (fdiv .f32 (FloatKind.nearest .f32 (IntKind.wrap .i64 (1 + v2))) 1082130432))) (wFnBacked_o47 x1 v1 v2 v3 (oget (iCriticalDepth v1.1 v1.2.1 v1.2.2.1 v1.2.2.2 (fdiv .f32 (FloatKind.nearest .f32 (IntKind.wrap .i64 (1 + v2))) 1082130432)))) .bad

noncomputable def wFnBacked_o49 (x1 : List Int) (v1 : Nat × (Nat × (Nat × Nat))) (v2 : Int) : Tr (Bool) :=
  .br (osome (iNormalDepth v1.1 v1.2.1 v1.2.2.1 v1.2.2.2 (fdiv .f32 (FloatKind.nearest .f32 (IntKind.wrap .i64 (1 + v2))) 1082130432))) (wFnBacked_o48 x1 v1 v2 (oget (iNormalDepth v1.1 v1.2.1 v1.2.2.1 v1.2.2.2 (fdiv .f32 (FloatKind.nearest .f32 (IntKind.wrap .i64 (1 + v2))) 1082130432)))) .bad

noncomputable def wFnBacked_o50 (x1 : List Int) (v1 : Nat × (Nat × (Nat × Nat))) : Tr (Bool) :=
  .br (osome (wr8At x1 0 32)) (wFnBacked_o49 x1 v1 (oget (wr8At x1 0 32))) .bad

noncomputable def wFnBacked_t (x0 : List Int) (x1 : List Int) : Tr (Bool) :=
  .br (wr8Long x0 x1) (.ok true) (.br (osome (sR8Section x0)) (wFnBacked_o50 x1 (oget (sR8Section x0))) .bad)

noncomputable def wFnBacked (x0 : List Int) (x1 : List Int) : Option (Bool) := (wFnBacked_t x0 x1).sem
end Go.Proofs.Ytpglfnkkmafhbaa
