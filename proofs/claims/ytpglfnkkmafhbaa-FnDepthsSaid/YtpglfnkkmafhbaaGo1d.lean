/- Functions, as plain functions. Plain functions. -/
import Derived.Test.YtpglfnkkmafhbaaDa
set_option linter.unusedVariables false
set_option linter.unusedSimpArgs false
set_option linter.constructorNameAsVariable false
namespace Go.Proofs.Ytpglfnkkmafhbaa
open Go.RowKit
set_option maxRecDepth 100000
noncomputable def wr8Long_t (x0 : List Int) (x1 : List Int) : Tr (Bool) :=
  .br (decide ((((List.length x0 : Nat) : Int) : Int) > 48)) (.ok true) (.ok (decide ((((List.length x1 : Nat) : Int) : Int) > 48)))

noncomputable def wr8Long (x0 : List Int) (x1 : List Int) : Bool := (wr8Long_t x0 x1).val

noncomputable def sl00From_t (x0 : List Int) : Tr (List Int × Int × Int) :=
  .ok (x0, 0, 0)

noncomputable def sl00From (x0 : List Int) : List Int × Int × Int := (sl00From_t x0).val

noncomputable def sl00Src_next_t (x0 : List Int) (x1 : Int) (x2 : Int) : Tr (Int × List Int × Int × Int) :=
  .br (decide ((x1 : Int) < (((List.length x0 : Nat) : Int)))) (.br (decide (0 ≤ (x1 : Int)) && decide ((x1 : Int) < ((List.length x0 : Nat) : Int))) (.br (decide ((IntKind.wrap .i64 (x1 + 1) : Int) ≤ (((List.length x0 : Nat) : Int)))) (.ok (IntKind.wrap .i64 (List.getD x0 (Int.toNat x1) 0), x0, IntKind.wrap .i64 (x1 + 1), IntKind.wrap .u64 ((IntKind.wrap .u64 ((IntKind.wrap .u64 (x2 * 6364136223846793005)) + (IntKind.wrap .u64 (IntKind.wrap .i64 (List.getD x0 (Int.toNat x1) 0))))) + 1442695040888963407))) (.br (decide ((0 : Int) ≤ 40)) (.ok (IntKind.wrap .i64 (iand .u64 (ishr .u64 (IntKind.wrap .u64 ((IntKind.wrap .u64 ((IntKind.wrap .u64 (x2 * 6364136223846793005)) + (IntKind.wrap .u64 (IntKind.wrap .i64 (List.getD x0 (Int.toNat x1) 0))))) + 1442695040888963407)) 40) 255), x0, IntKind.wrap .i64 (x1 + 1), IntKind.wrap .u64 ((IntKind.wrap .u64 ((IntKind.wrap .u64 (x2 * 6364136223846793005)) + (IntKind.wrap .u64 (IntKind.wrap .i64 (List.getD x0 (Int.toNat x1) 0))))) + 1442695040888963407))) .bad)) .bad) (.br (decide ((IntKind.wrap .i64 (x1 + 1) : Int) ≤ (((List.length x0 : Nat) : Int)))) (.ok (0, x0, IntKind.wrap .i64 (x1 + 1), IntKind.wrap .u64 ((IntKind.wrap .u64 ((IntKind.wrap .u64 (x2 * 6364136223846793005)) + (IntKind.wrap .u64 0))) + 1442695040888963407))) (.br (decide ((0 : Int) ≤ 40)) (.ok (IntKind.wrap .i64 (iand .u64 (ishr .u64 (IntKind.wrap .u64 ((IntKind.wrap .u64 ((IntKind.wrap .u64 (x2 * 6364136223846793005)) + (IntKind.wrap .u64 0))) + 1442695040888963407)) 40) 255), x0, IntKind.wrap .i64 (x1 + 1), IntKind.wrap .u64 ((IntKind.wrap .u64 ((IntKind.wrap .u64 (x2 * 6364136223846793005)) + (IntKind.wrap .u64 0))) + 1442695040888963407))) .bad))

noncomputable def sl00Src_next (x0 : List Int) (x1 : Int) (x2 : Int) : Option (Int × List Int × Int × Int) := (sl00Src_next_t x0 x1 x2).sem

noncomputable def sl00Src_pick_t (x0 : Int) (x1 : List Int) (x2 : Int) (x3 : Int) : Tr (Int × List Int × Int × Int) :=
  .br (decide ((x0 : Int) ≤ 1)) (.ok (0, x1, x2, x3)) (.br (osome (sl00Src_next x1 x2 x3)) (.br (decide ((x0 : Int) > 200)) (.br (osome (sl00Src_next (oget (sl00Src_next x1 x2 x3)).2.1 (oget (sl00Src_next x1 x2 x3)).2.2.1 (oget (sl00Src_next x1 x2 x3)).2.2.2)) (.br (decide (x0 ≠ (0 : Int))) (.ok (Int.tmod (IntKind.wrap .i64 ((IntKind.wrap .i64 ((oget (sl00Src_next x1 x2 x3)).1 * 256)) + (oget (sl00Src_next (oget (sl00Src_next x1 x2 x3)).2.1 (oget (sl00Src_next x1 x2 x3)).2.2.1 (oget (sl00Src_next x1 x2 x3)).2.2.2)).1)) x0, (oget (sl00Src_next (oget (sl00Src_next x1 x2 x3)).2.1 (oget (sl00Src_next x1 x2 x3)).2.2.1 (oget (sl00Src_next x1 x2 x3)).2.2.2)).2.1, (oget (sl00Src_next (oget (sl00Src_next x1 x2 x3)).2.1 (oget (sl00Src_next x1 x2 x3)).2.2.1 (oget (sl00Src_next x1 x2 x3)).2.2.2)).2.2.1, (oget (sl00Src_next (oget (sl00Src_next x1 x2 x3)).2.1 (oget (sl00Src_next x1 x2 x3)).2.2.1 (oget (sl00Src_next x1 x2 x3)).2.2.2)).2.2.2)) .bad) .bad) (.br (decide (x0 ≠ (0 : Int))) (.ok (Int.tmod (oget (sl00Src_next x1 x2 x3)).1 x0, (oget (sl00Src_next x1 x2 x3)).2.1, (oget (sl00Src_next x1 x2 x3)).2.2.1, (oget (sl00Src_next x1 x2 x3)).2.2.2)) .bad)) .bad)

noncomputable def sl00Src_pick (x0 : Int) (x1 : List Int) (x2 : Int) (x3 : Int) : Option (Int × List Int × Int × Int) := (sl00Src_pick_t x0 x1 x2 x3).sem

noncomputable def sl04DrawOk_o1 (v1 : Int × ((List Int) × (Int × Int))) (v2 : Int × ((List Int) × (Int × Int))) (v3 : Int × ((List Int) × (Int × Int))) (v4 : Int × ((List Int) × (Int × Int))) : Tr (Nat × Nat × Nat × Nat × List Int × Int × Int) :=
  .ok (fdiv .f32 (FloatKind.nearest .f32 (IntKind.wrap .i64 (1 + v1.1))) 1073741824, fdiv .f32 (FloatKind.nearest .f32 v2.1) 1073741824, fdiv .f32 (FloatKind.nearest .f32 (IntKind.wrap .i64 (1 + v3.1))) 1149239296, fdiv .f32 (FloatKind.nearest .f32 (IntKind.wrap .i64 (1 + v4.1))) 1115684864, v4.2.1, v4.2.2.1, v4.2.2.2)

noncomputable def sl04DrawOk_o2 (v1 : Int × ((List Int) × (Int × Int))) (v2 : Int × ((List Int) × (Int × Int))) (v3 : Int × ((List Int) × (Int × Int))) : Tr (Nat × Nat × Nat × Nat × List Int × Int × Int) :=
  .br (osome (sl00Src_pick 8 v3.2.1 v3.2.2.1 v3.2.2.2)) (sl04DrawOk_o1 v1 v2 v3 (oget (sl00Src_pick 8 v3.2.1 v3.2.2.1 v3.2.2.2))) .bad

noncomputable def sl04DrawOk_o3 (v1 : Int × ((List Int) × (Int × Int))) (v2 : Int × ((List Int) × (Int × Int))) : Tr (Nat × Nat × Nat × Nat × List Int × Int × Int) :=
  .br (osome (sl00Src_pick 16 v2.2.1 v2.2.2.1 v2.2.2.2)) (sl04DrawOk_o2 v1 v2 (oget (sl00Src_pick 16 v2.2.1 v2.2.2.1 v2.2.2.2))) .bad

noncomputable def sl04DrawOk_o4 (v1 : Int × ((List Int) × (Int × Int))) : Tr (Nat × Nat × Nat × Nat × List Int × Int × Int) :=
  .br (osome (sl00Src_pick 5 v1.2.1 v1.2.2.1 v1.2.2.2)) (sl04DrawOk_o3 v1 (oget (sl00Src_pick 5 v1.2.1 v1.2.2.1 v1.2.2.2))) .bad

noncomputable def sl04DrawOk_t (x0 : List Int) (x1 : Int) (x2 : Int) : Tr (Nat × Nat × Nat × Nat × List Int × Int × Int) :=
  .br (osome (sl00Src_pick 12 x0 x1 x2)) (sl04DrawOk_o4 (oget (sl00Src_pick 12 x0 x1 x2))) .bad

noncomputable def sl04DrawOk (x0 : List Int) (x1 : Int) (x2 : Int) : Option (Nat × Nat × Nat × Nat × List Int × Int × Int) := (sl04DrawOk_t x0 x1 x2).sem

noncomputable def sR8Section_t (x0 : List Int) : Tr (Nat × Nat × Nat × Nat) :=
  .br (osome (sl04DrawOk ((sl00From x0).1) (((sl00From x0).2).1) (((sl00From x0).2).2))) (.ok ((oget (sl04DrawOk ((sl00From x0).1) (((sl00From x0).2).1) (((sl00From x0).2).2))).1, (oget (sl04DrawOk ((sl00From x0).1) (((sl00From x0).2).1) (((sl00From x0).2).2))).2.1, (oget (sl04DrawOk ((sl00From x0).1) (((sl00From x0).2).1) (((sl00From x0).2).2))).2.2.1, (oget (sl04DrawOk ((sl00From x0).1) (((sl00From x0).2).1) (((sl00From x0).2).2))).2.2.2.1)) .bad

noncomputable def sR8Section (x0 : List Int) : Option (Nat × Nat × Nat × Nat) := (sR8Section_t x0).sem

noncomputable def wr8At_t (x0 : List Int) (x1 : Int) (x2 : Int) : Tr (Int) :=
  .br (decide ((x2 : Int) ≤ 1)) (.ok 0) (.br (decide ((x1 : Int) ≥ (((List.length x0 : Nat) : Int)))) (.ok 0) (.br (decide (0 ≤ (x1 : Int)) && decide ((x1 : Int) < ((List.length x0 : Nat) : Int))) (.br (decide (x2 ≠ (0 : Int))) (.ok (Int.tmod (IntKind.wrap .i64 (List.getD x0 (Int.toNat x1) 0)) x2)) .bad) .bad))

noncomputable def wr8At (x0 : List Int) (x1 : Int) (x2 : Int) : Option (Int) := (wr8At_t x0 x1 x2).sem

noncomputable def iareMasses_1_t (x0 : Nat) : Tr (Bool) :=
  .ok (! (isMass x0))

noncomputable def iareMasses_1 (x0 : Nat) : Bool := (iareMasses_1_t x0).val

noncomputable def lIndexFunc_iareMasses_1_l2_t (y0 : List Nat) (y1 : Int) (y2 : Int) : Tr (Int ⊕ (Int ⊕ Unit)) :=
  .br (decide ((y2 : Int) < y1)) (.br (decide (0 ≤ (y2 : Int)) && decide ((y2 : Int) < ((List.length y0 : Nat) : Int))) (.br (iareMasses_1 (List.getD y0 (Int.toNat y2) 0)) (.ok (.inr (.inl y2))) (.ok (.inl (IntKind.wrap .i64 (y2 + 1))))) .bad) (.ok (.inr (.inr ())))

noncomputable def lIndexFunc_iareMasses_1_l2 (y0 : List Nat) (y1 : Int) (y2 : Int) : Option (Int ⊕ Unit) := runL (fun s : Int => (lIndexFunc_iareMasses_1_l2_t y0 y1 s).sem) y2

noncomputable def lIndexFunc_iareMasses_1_t (x0 : List Nat) : Tr (Int) :=
  .br (osome (lIndexFunc_iareMasses_1_l2 x0 (((List.length x0 : Nat) : Int)) 0)) (.br (isL (oget (lIndexFunc_iareMasses_1_l2 x0 (((List.length x0 : Nat) : Int)) 0))) (.ok (unL (oget (lIndexFunc_iareMasses_1_l2 x0 (((List.length x0 : Nat) : Int)) 0)))) (.ok (-1))) .bad

noncomputable def lIndexFunc_iareMasses_1 (x0 : List Nat) : Option (Int) := (lIndexFunc_iareMasses_1_t x0).sem

noncomputable def lContainsFunc_iareMasses_1_t (x0 : List Nat) : Tr (Bool) :=
  .br (osome (lIndexFunc_iareMasses_1 x0)) (.ok (decide (((oget (lIndexFunc_iareMasses_1 x0)) : Int) ≥ 0))) .bad

noncomputable def lContainsFunc_iareMasses_1 (x0 : List Nat) : Option (Bool) := (lContainsFunc_iareMasses_1_t x0).sem

noncomputable def iareMasses_t (x0 : List Nat) : Tr (Bool) :=
  .br (osome (lContainsFunc_iareMasses_1 x0)) (.ok (!(oget (lContainsFunc_iareMasses_1 x0)))) .bad

noncomputable def iareMasses (x0 : List Nat) : Option (Bool) := (iareMasses_t x0).sem

noncomputable def iareLengths_l2_t (y0 : List Nat) (y1 : Int) (y2 : Int) : Tr (Int ⊕ (Unit ⊕ Unit)) :=
  .br (decide ((y2 : Int) < y1)) (.br (decide (0 ≤ (y2 : Int)) && decide ((y2 : Int) < ((List.length y0 : Nat) : Int))) (.br (! (isLen (List.getD y0 (Int.toNat y2) 0))) (.ok (.inr (.inl ()))) (.ok (.inl (IntKind.wrap .i64 (y2 + 1))))) .bad) (.ok (.inr (.inr ())))

noncomputable def iareLengths_l2 (y0 : List Nat) (y1 : Int) (y2 : Int) : Option (Unit ⊕ Unit) := runL (fun s : Int => (iareLengths_l2_t y0 y1 s).sem) y2

noncomputable def iareLengths_t (x0 : List Nat) : Tr (Bool) :=
  .br (osome (iareLengths_l2 x0 (((List.length x0 : Nat) : Int)) 0)) (.br (isL (oget (iareLengths_l2 x0 (((List.length x0 : Nat) : Int)) 0))) (.ok false) (.ok true)) .bad

noncomputable def iareLengths (x0 : List Nat) : Option (Bool) := (iareLengths_t x0).sem

noncomputable def iValidSection_t (x0 : Nat) (x1 : Nat) (x2 : Nat) (x3 : Nat) : Tr (Bool) :=
  .br (osome (iareMasses [x0, x1])) (.br (oget (iareMasses [x0, x1])) (.br (fgt .f32 x0 0) (.br (osome (iareLengths [x2, x3])) (.ok (oget (iareLengths [x2, x3]))) .bad) (.br (fgt .f32 x1 0) (.br (osome (iareLengths [x2, x3])) (.ok (oget (iareLengths [x2, x3]))) .bad) (.ok false))) (.ok false)) .bad

noncomputable def iValidSection (x0 : Nat) (x1 : Nat) (x2 : Nat) (x3 : Nat) : Option (Bool) := (iValidSection_t x0 x1 x2 x3).sem

noncomputable def iSection_isFlow_t (x0 : Nat) (x1 : Nat) (x2 : Nat) (x3 : Nat) (x4 : List Nat) : Tr (Bool) :=
  .br (osome (iValidSection x0 x1 x2 x3)) (.br (oget (iValidSection x0 x1 x2 x3)) (.br (osome (iareLengths x4)) (.ok (oget (iareLengths x4))) .bad) (.ok false)) .bad

noncomputable def iSection_isFlow (x0 : Nat) (x1 : Nat) (x2 : Nat) (x3 : Nat) (x4 : List Nat) : Option (Bool) := (iSection_isFlow_t x0 x1 x2 x3 x4).sem

noncomputable def ifinite32_t (x0 : Nat) : Tr (Nat × Bool) :=
  .br (! (isFin .f32 x0)) (.ok (0, false)) (.ok (x0, true))

noncomputable def ifinite32 (x0 : Nat) : Nat × Bool := (ifinite32_t x0).val

noncomputable def iAreaAt_t (x0 : Nat) (x1 : Nat) (x2 : Nat) (x3 : Nat) (x4 : Nat) : Tr (Nat × Bool) :=
  .br (osome (iSection_isFlow x0 x1 x2 x3 [x4])) (.br (!(oget (iSection_isFlow x0 x1 x2 x3 [x4]))) (.ok (0, false)) (.ok ((ifinite32 (fmul .f32 x4 (fadd .f32 x0 (fmul .f32 x1 x4)))).1, (ifinite32 (fmul .f32 x4 (fadd .f32 x0 (fmul .f32 x1 x4)))).2))) .bad

noncomputable def iAreaAt (x0 : Nat) (x1 : Nat) (x2 : Nat) (x3 : Nat) (x4 : Nat) : Option (Nat × Bool) := (iAreaAt_t x0 x1 x2 x3 x4).sem

noncomputable def iWetAt_t (x0 : Nat) (x1 : Nat) (x2 : Nat) (x3 : Nat) (x4 : Nat) : Tr (Nat × Bool) :=
  .br (osome (iSection_isFlow x0 x1 x2 x3 [x4])) (.br (!(oget (iSection_isFlow x0 x1 x2 x3 [x4]))) (.ok (0, false)) (.ok ((ifinite32 (fadd .f32 x0 (fmul .f32 (fmul .f32 1073741824 x4) (froot (fadd .f32 1065353216 (fmul .f32 x1 x1)))))).1, (ifinite32 (fadd .f32 x0 (fmul .f32 (fmul .f32 1073741824 x4) (froot (fadd .f32 1065353216 (fmul .f32 x1 x1)))))).2))) .bad

noncomputable def iWetAt (x0 : Nat) (x1 : Nat) (x2 : Nat) (x3 : Nat) (x4 : Nat) : Option (Nat × Bool) := (iWetAt_t x0 x1 x2 x3 x4).sem

noncomputable def iMiddleAt_t (x0 : Nat) (x1 : Nat) (x2 : Nat) (x3 : Nat) (x4 : Nat) : Tr (Nat × Bool) :=
  .br (osome (iAreaAt x0 x1 x2 x3 x4)) (.br (osome (iWetAt x0 x1 x2 x3 x4)) (.br (!(oget (iAreaAt x0 x1 x2 x3 x4)).2) (.ok (0, false)) (.br (!(oget (iWetAt x0 x1 x2 x3 x4)).2) (.ok (0, false)) (.ok ((ifinite32 (fdiv .f32 (oget (iAreaAt x0 x1 x2 x3 x4)).1 (oget (iWetAt x0 x1 x2 x3 x4)).1)).1, (ifinite32 (fdiv .f32 (oget (iAreaAt x0 x1 x2 x3 x4)).1 (oget (iWetAt x0 x1 x2 x3 x4)).1)).2)))) .bad) .bad

noncomputable def iMiddleAt (x0 : Nat) (x1 : Nat) (x2 : Nat) (x3 : Nat) (x4 : Nat) : Option (Nat × Bool) := (iMiddleAt_t x0 x1 x2 x3 x4).sem

noncomputable def mNaN_t  : Tr (Nat) :=
  .ok 9221120237041090561

noncomputable def mNaN  : Nat := (mNaN_t ).val

noncomputable def mInf_t (x0 : Int) : Tr (Nat) :=
  .br (decide ((x0 : Int) ≥ 0)) (.ok 9218868437227405312) (.ok 18442240474082181120)

noncomputable def mInf (x0 : Int) : Nat := (mInf_t x0).val

noncomputable def inaturalLog_l2_t  (y0 : Nat) (y1 : Nat) : Tr ((Nat × Nat) ⊕ (Nat × Nat)) :=
  .br (fge .f64 y0 4609434218613702656) (.ok (.inl (fdiv .f64 y0 4611686018427387904, fadd .f64 y1 4607182418800017408))) (.ok (.inr (y0, y1)))

noncomputable def inaturalLog_l2 (y0 : Nat) (y1 : Nat) : Option (Nat × Nat) := runL (fun s : Nat × Nat => (inaturalLog_l2_t  s.1 s.2).sem) (y0, y1)

noncomputable def inaturalLog_l4_t  (y0 : Nat) (y1 : Nat) : Tr ((Nat × Nat) ⊕ (Nat × Nat)) :=
  .br (flt .f64 y0 4604930618986332160) (.ok (.inl (fmul .f64 y0 4611686018427387904, fsub .f64 y1 4607182418800017408))) (.ok (.inr (y0, y1)))

noncomputable def inaturalLog_l4 (y0 : Nat) (y1 : Nat) : Option (Nat × Nat) := runL (fun s : Nat × Nat => (inaturalLog_l4_t  s.1 s.2).sem) (y0, y1)

noncomputable def inaturalLog_l9_t (y0 : Nat) (y1 : Nat) (y2 : Nat) (y3 : Nat) (y4 : Int) : Tr ((Nat × Int) ⊕ (Nat × Nat × Nat)) :=
  .br (decide ((y4 : Int) ≥ 1)) (.ok (.inl (fadd .f64 (fdiv .f64 4607182418800017408 (FloatKind.nearest .f64 y4)) (fmul .f64 y2 y3), IntKind.wrap .i64 (y4 - 2)))) (.ok (.inr (y0, y1, y3)))

noncomputable def inaturalLog_l9 (y0 : Nat) (y1 : Nat) (y2 : Nat) (y3 : Nat) (y4 : Int) : Option (Nat × Nat × Nat) := runL (fun s : Nat × Int => (inaturalLog_l9_t y0 y1 y2 s.1 s.2).sem) (y3, y4)

noncomputable def inaturalLog_t (x0 : Nat) : Tr (Nat) :=
  .br (osome (inaturalLog_l2 x0 0)) (.br (osome (inaturalLog_l4 (oget (inaturalLog_l2 x0 0)).1 (oget (inaturalLog_l2 x0 0)).2)) (.br (osome (inaturalLog_l9 (oget (inaturalLog_l4 (oget (inaturalLog_l2 x0 0)).1 (oget (inaturalLog_l2 x0 0)).2)).2 (fdiv .f64 (fsub .f64 (oget (inaturalLog_l4 (oget (inaturalLog_l2 x0 0)).1 (oget (inaturalLog_l2 x0 0)).2)).1 4607182418800017408) (fadd .f64 (oget (inaturalLog_l4 (oget (inaturalLog_l2 x0 0)).1 (oget (inaturalLog_l2 x0 0)).2)).1 4607182418800017408)) (fmul .f64 (fdiv .f64 (fsub .f64 (oget (inaturalLog_l4 (oget (inaturalLog_l2 x0 0)).1 (oget (inaturalLog_l2 x0 0)).2)).1 4607182418800017408) (fadd .f64 (oget (inaturalLog_l4 (oget (inaturalLog_l2 x0 0)).1 (oget (inaturalLog_l2 x0 0)).2)).1 4607182418800017408)) (fdiv .f64 (fsub .f64 (oget (inaturalLog_l4 (oget (inaturalLog_l2 x0 0)).1 (oget (inaturalLog_l2 x0 0)).2)).1 4607182418800017408) (fadd .f64 (oget (inaturalLog_l4 (oget (inaturalLog_l2 x0 0)).1 (oget (inaturalLog_l2 x0 0)).2)).1 4607182418800017408))) 0 25)) (.ok (fadd .f64 (fmul .f64 4611686018427387904 (fmul .f64 (oget (inaturalLog_l9 (oget (inaturalLog_l4 (oget (inaturalLog_l2 x0 0)).1 (oget (inaturalLog_l2 x0 0)).2)).2 (fdiv .f64 (fsub .f64 (oget (inaturalLog_l4 (oget (inaturalLog_l2 x0 0)).1 (oget (inaturalLog_l2 x0 0)).2)).1 4607182418800017408) (fadd .f64 (oget (inaturalLog_l4 (oget (inaturalLog_l2 x0 0)).1 (oget (inaturalLog_l2 x0 0)).2)).1 4607182418800017408)) (fmul .f64 (fdiv .f64 (fsub .f64 (oget (inaturalLog_l4 (oget (inaturalLog_l2 x0 0)).1 (oget (inaturalLog_l2 x0 0)).2)).1 4607182418800017408) (fadd .f64 (oget (inaturalLog_l4 (oget (inaturalLog_l2 x0 0)).1 (oget (inaturalLog_l2 x0 0)).2)).1 4607182418800017408)) (fdiv .f64 (fsub .f64 (oget (inaturalLog_l4 (oget (inaturalLog_l2 x0 0)).1 (oget (inaturalLog_l2 x0 0)).2)).1 4607182418800017408) (fadd .f64 (oget (inaturalLog_l4 (oget (inaturalLog_l2 x0 0)).1 (oget (inaturalLog_l2 x0 0)).2)).1 4607182418800017408))) 0 25)).2.1 (oget (inaturalLog_l9 (oget (inaturalLog_l4 (oget (inaturalLog_l2 x0 0)).1 (oget (inaturalLog_l2 x0 0)).2)).2 (fdiv .f64 (fsub .f64 (oget (inaturalLog_l4 (oget (inaturalLog_l2 x0 0)).1 (oget (inaturalLog_l2 x0 0)).2)).1 4607182418800017408) (fadd .f64 (oget (inaturalLog_l4 (oget (inaturalLog_l2 x0 0)).1 (oget (inaturalLog_l2 x0 0)).2)).1 4607182418800017408)) (fmul .f64 (fdiv .f64 (fsub .f64 (oget (inaturalLog_l4 (oget (inaturalLog_l2 x0 0)).1 (oget (inaturalLog_l2 x0 0)).2)).1 4607182418800017408) (fadd .f64 (oget (inaturalLog_l4 (oget (inaturalLog_l2 x0 0)).1 (oget (inaturalLog_l2 x0 0)).2)).1 4607182418800017408)) (fdiv .f64 (fsub .f64 (oget (inaturalLog_l4 (oget (inaturalLog_l2 x0 0)).1 (oget (inaturalLog_l2 x0 0)).2)).1 4607182418800017408) (fadd .f64 (oget (inaturalLog_l4 (oget (inaturalLog_l2 x0 0)).1 (oget (inaturalLog_l2 x0 0)).2)).1 4607182418800017408))) 0 25)).2.2)) (fmul .f64 (oget (inaturalLog_l9 (oget (inaturalLog_l4 (oget (inaturalLog_l2 x0 0)).1 (oget (inaturalLog_l2 x0 0)).2)).2 (fdiv .f64 (fsub .f64 (oget (inaturalLog_l4 (oget (inaturalLog_l2 x0 0)).1 (oget (inaturalLog_l2 x0 0)).2)).1 4607182418800017408) (fadd .f64 (oget (inaturalLog_l4 (oget (inaturalLog_l2 x0 0)).1 (oget (inaturalLog_l2 x0 0)).2)).1 4607182418800017408)) (fmul .f64 (fdiv .f64 (fsub .f64 (oget (inaturalLog_l4 (oget (inaturalLog_l2 x0 0)).1 (oget (inaturalLog_l2 x0 0)).2)).1 4607182418800017408) (fadd .f64 (oget (inaturalLog_l4 (oget (inaturalLog_l2 x0 0)).1 (oget (inaturalLog_l2 x0 0)).2)).1 4607182418800017408)) (fdiv .f64 (fsub .f64 (oget (inaturalLog_l4 (oget (inaturalLog_l2 x0 0)).1 (oget (inaturalLog_l2 x0 0)).2)).1 4607182418800017408) (fadd .f64 (oget (inaturalLog_l4 (oget (inaturalLog_l2 x0 0)).1 (oget (inaturalLog_l2 x0 0)).2)).1 4607182418800017408))) 0 25)).1 4604418534313441775))) .bad) .bad) .bad

noncomputable def inaturalLog (x0 : Nat) : Option (Nat) := (inaturalLog_t x0).sem

noncomputable def ilogarithm_t (x0 : Nat) : Tr (Nat) :=
  .br (osome (inaturalLog (fup x0))) (.ok (oget (inaturalLog (fup x0)))) .bad

noncomputable def ilogarithm (x0 : Nat) : Option (Nat) := (ilogarithm_t x0).sem

noncomputable def iLogNumber_t (x0 : Nat) : Tr (Nat) :=
  .br (! (feq .f32 x0 x0)) (.br (! (fover mNaN)) (.ok (fdown mNaN)) .bad) (.br (flt .f32 x0 0) (.br (! (fover mNaN)) (.ok (fdown mNaN)) .bad) (.br (feq .f32 x0 0) (.br (! (fover (mInf (-1)))) (.ok (fdown (mInf (-1)))) .bad) (.br (! (isFin .f32 x0)) (.ok x0) (.br (osome (ilogarithm x0)) (.br (! (fover (oget (ilogarithm x0)))) (.ok (fdown (oget (ilogarithm x0)))) .bad) .bad))))

noncomputable def iLogNumber (x0 : Nat) : Option (Nat) := (iLogNumber_t x0).sem

noncomputable def iExpNumber_l7_t (y0 : Nat) (y1 : Nat) (y2 : Int) : Tr ((Nat × Int) ⊕ Nat) :=
  .br (decide ((y2 : Int) ≥ 1)) (.ok (.inl (fadd .f64 4607182418800017408 (fdiv .f64 (fmul .f64 y0 y1) (FloatKind.nearest .f64 y2)), IntKind.wrap .i64 (y2 - 1)))) (.ok (.inr y1))

noncomputable def iExpNumber_l7 (y0 : Nat) (y1 : Nat) (y2 : Int) : Option (Nat) := runL (fun s : Nat × Int => (iExpNumber_l7_t y0 s.1 s.2).sem) (y1, y2)

noncomputable def iExpNumber_l11_t  (y0 : Nat) (y1 : Int) : Tr ((Nat × Int) ⊕ Nat) :=
  .br (decide ((y1 : Int) < 8)) (.ok (.inl (fmul .f64 y0 y0, IntKind.wrap .i64 (y1 + 1)))) (.ok (.inr y0))

noncomputable def iExpNumber_l11 (y0 : Nat) (y1 : Int) : Option (Nat) := runL (fun s : Nat × Int => (iExpNumber_l11_t  s.1 s.2).sem) (y0, y1)

noncomputable def iExpNumber_t (x0 : Nat) : Tr (Nat) :=
  .br (fgt .f32 x0 1128792064) (.br (! (fover (mInf 1))) (.ok (fdown (mInf 1))) .bad) (.br (flt .f32 x0 3276275712) (.ok 0) (.br (osome (iExpNumber_l7 (fdiv .f64 (fup x0) 4643211215818981376) 4607182418800017408 12)) (.br (osome (iExpNumber_l11 (oget (iExpNumber_l7 (fdiv .f64 (fup x0) 4643211215818981376) 4607182418800017408 12)) 0)) (.br (! (fover (oget (iExpNumber_l11 (oget (iExpNumber_l7 (fdiv .f64 (fup x0) 4643211215818981376) 4607182418800017408 12)) 0)))) (.ok (fdown (oget (iExpNumber_l11 (oget (iExpNumber_l7 (fdiv .f64 (fup x0) 4643211215818981376) 4607182418800017408 12)) 0)))) .bad) .bad) .bad))

noncomputable def iExpNumber (x0 : Nat) : Option (Nat) := (iExpNumber_t x0).sem

noncomputable def iFlowAt_t (x0 : Nat) (x1 : Nat) (x2 : Nat) (x3 : Nat) (x4 : Nat) : Tr (Nat × Bool) :=
  .br (osome (iAreaAt x0 x1 x2 x3 x4)) (.br (osome (iMiddleAt x0 x1 x2 x3 x4)) (.br (!(oget (iAreaAt x0 x1 x2 x3 x4)).2) (.ok (0, false)) (.br (!(oget (iMiddleAt x0 x1 x2 x3 x4)).2) (.ok (0, false)) (.br (osome (iLogNumber (oget (iMiddleAt x0 x1 x2 x3 x4)).1)) (.br (osome (iExpNumber (fmul .f32 1059760811 (oget (iLogNumber (oget (iMiddleAt x0 x1 x2 x3 x4)).1))))) (.ok ((ifinite32 (fdiv .f32 (fmul .f32 (fmul .f32 (oget (iAreaAt x0 x1 x2 x3 x4)).1 (oget (iExpNumber (fmul .f32 1059760811 (oget (iLogNumber (oget (iMiddleAt x0 x1 x2 x3 x4)).1)))))) (froot x2)) x3)).1, (ifinite32 (fdiv .f32 (fmul .f32 (fmul .f32 (oget (iAreaAt x0 x1 x2 x3 x4)).1 (oget (iExpNumber (fmul .f32 1059760811 (oget (iLogNumber (oget (iMiddleAt x0 x1 x2 x3 x4)).1)))))) (froot x2)) x3)).2)) .bad) .bad))) .bad) .bad

noncomputable def iFlowAt (x0 : Nat) (x1 : Nat) (x2 : Nat) (x3 : Nat) (x4 : Nat) : Option (Nat × Bool) := (iFlowAt_t x0 x1 x2 x3 x4).sem

noncomputable def iNormalDepth_1_t (x0 : Nat) (x1 : Nat) (x2 : Nat) (x3 : Nat) (x4 : Nat) (x5 : Nat) : Tr (Bool × Bool) :=
  .br (osome (iFlowAt x1 x2 x3 x4 x0)) (.ok (fgt .f32 (oget (iFlowAt x1 x2 x3 x4 x0)).1 x5, (oget (iFlowAt x1 x2 x3 x4 x0)).2)) .bad

noncomputable def iNormalDepth_1 (x0 : Nat) (x1 : Nat) (x2 : Nat) (x3 : Nat) (x4 : Nat) (x5 : Nat) : Option (Bool × Bool) := (iNormalDepth_1_t x0 x1 x2 x3 x4 x5).sem

noncomputable def ihalve_iNormalDepth_1_l2_t (y2 : Nat) (y3 : Nat) (y4 : Nat) (y5 : Nat) (y6 : Nat) (y0 : Nat) (y1 : Nat) (y7 : Int) : Tr ((Nat × Nat × Int) ⊕ ((Nat × Nat) ⊕ (Nat × Nat))) :=
  .br (decide ((y7 : Int) < 40)) (.br (osome (iNormalDepth_1 (fmul .f32 1056964608 (fadd .f32 y0 y1)) y2 y3 y4 y5 y6)) (.br (!(oget (iNormalDepth_1 (fmul .f32 1056964608 (fadd .f32 y0 y1)) y2 y3 y4 y5 y6)).2) (.ok (.inr (.inl (0, 0)))) (.br ((oget (iNormalDepth_1 (fmul .f32 1056964608 (fadd .f32 y0 y1)) y2 y3 y4 y5 y6)).1) (.ok (.inl (y0, fmul .f32 1056964608 (fadd .f32 y0 y1), IntKind.wrap .i64 (y7 + 1)))) (.ok (.inl (fmul .f32 1056964608 (fadd .f32 y0 y1), y1, IntKind.wrap .i64 (y7 + 1)))))) .bad) (.ok (.inr (.inr (y0, y1))))

noncomputable def ihalve_iNormalDepth_1_l2 (y0 : Nat) (y1 : Nat) (y2 : Nat) (y3 : Nat) (y4 : Nat) (y5 : Nat) (y6 : Nat) (y7 : Int) : Option ((Nat × Nat) ⊕ (Nat × Nat)) := runL (fun s : Nat × Nat × Int => (ihalve_iNormalDepth_1_l2_t y2 y3 y4 y5 y6 s.1 s.2.1 s.2.2).sem) (y0, y1, y7)

noncomputable def ihalve_iNormalDepth_1_t (x0 : Nat) (x1 : Nat) (x2 : Nat) (x3 : Nat) (x4 : Nat) (x5 : Nat) (x6 : Nat) : Tr (Nat × Nat × Bool) :=
  .br (osome (ihalve_iNormalDepth_1_l2 x0 x1 x2 x3 x4 x5 x6 0)) (.br (isL (oget (ihalve_iNormalDepth_1_l2 x0 x1 x2 x3 x4 x5 x6 0))) (.ok ((unL (oget (ihalve_iNormalDepth_1_l2 x0 x1 x2 x3 x4 x5 x6 0))).1, (unL (oget (ihalve_iNormalDepth_1_l2 x0 x1 x2 x3 x4 x5 x6 0))).2, false)) (.ok ((unR (oget (ihalve_iNormalDepth_1_l2 x0 x1 x2 x3 x4 x5 x6 0))).1, (unR (oget (ihalve_iNormalDepth_1_l2 x0 x1 x2 x3 x4 x5 x6 0))).2, true))) .bad

noncomputable def ihalve_iNormalDepth_1 (x0 : Nat) (x1 : Nat) (x2 : Nat) (x3 : Nat) (x4 : Nat) (x5 : Nat) (x6 : Nat) : Option (Nat × Nat × Bool) := (ihalve_iNormalDepth_1_t x0 x1 x2 x3 x4 x5 x6).sem

noncomputable def iNormalDepth_t (x0 : Nat) (x1 : Nat) (x2 : Nat) (x3 : Nat) (x4 : Nat) : Tr (Nat × Bool) :=
  .br (osome (iSection_isFlow x0 x1 x2 x3 [x4])) (.br (!(oget (iSection_isFlow x0 x1 x2 x3 [x4]))) (.ok (0, false)) (.br (osome (ihalve_iNormalDepth_1 0 1148846080 x0 x1 x2 x3 x4)) (.ok ((oget (ihalve_iNormalDepth_1 0 1148846080 x0 x1 x2 x3 x4)).2.1, (oget (ihalve_iNormalDepth_1 0 1148846080 x0 x1 x2 x3 x4)).2.2)) .bad)) .bad

noncomputable def iNormalDepth (x0 : Nat) (x1 : Nat) (x2 : Nat) (x3 : Nat) (x4 : Nat) : Option (Nat × Bool) := (iNormalDepth_t x0 x1 x2 x3 x4).sem

noncomputable def iTopAt_t (x0 : Nat) (x1 : Nat) (x2 : Nat) (x3 : Nat) (x4 : Nat) : Tr (Nat × Bool) :=
  .br (osome (iSection_isFlow x0 x1 x2 x3 [x4])) (.br (!(oget (iSection_isFlow x0 x1 x2 x3 [x4]))) (.ok (0, false)) (.ok ((ifinite32 (fadd .f32 x0 (fmul .f32 (fmul .f32 1073741824 x1) x4))).1, (ifinite32 (fadd .f32 x0 (fmul .f32 (fmul .f32 1073741824 x1) x4))).2))) .bad

noncomputable def iTopAt (x0 : Nat) (x1 : Nat) (x2 : Nat) (x3 : Nat) (x4 : Nat) : Option (Nat × Bool) := (iTopAt_t x0 x1 x2 x3 x4).sem

noncomputable def iCriticalDepth_1_t (x0 : Nat) (x1 : Nat) (x2 : Nat) (x3 : Nat) (x4 : Nat) (x5 : Nat) : Tr (Bool × Bool) :=
  .br (osome (iAreaAt x1 x2 x3 x4 x0)) (.br (osome (iTopAt x1 x2 x3 x4 x0)) (.br ((oget (iAreaAt x1 x2 x3 x4 x0)).2) (.ok (fgt .f32 (fmul .f32 1092416963 (fmul .f32 (fmul .f32 (oget (iAreaAt x1 x2 x3 x4 x0)).1 (oget (iAreaAt x1 x2 x3 x4 x0)).1) (oget (iAreaAt x1 x2 x3 x4 x0)).1)) (fmul .f32 (fmul .f32 x5 x5) (oget (iTopAt x1 x2 x3 x4 x0)).1), (oget (iTopAt x1 x2 x3 x4 x0)).2)) (.ok (fgt .f32 (fmul .f32 1092416963 (fmul .f32 (fmul .f32 (oget (iAreaAt x1 x2 x3 x4 x0)).1 (oget (iAreaAt x1 x2 x3 x4 x0)).1) (oget (iAreaAt x1 x2 x3 x4 x0)).1)) (fmul .f32 (fmul .f32 x5 x5) (oget (iTopAt x1 x2 x3 x4 x0)).1), false))) .bad) .bad

noncomputable def iCriticalDepth_1 (x0 : Nat) (x1 : Nat) (x2 : Nat) (x3 : Nat) (x4 : Nat) (x5 : Nat) : Option (Bool × Bool) := (iCriticalDepth_1_t x0 x1 x2 x3 x4 x5).sem

noncomputable def ihalve_iCriticalDepth_1_l2_t (y2 : Nat) (y3 : Nat) (y4 : Nat) (y5 : Nat) (y6 : Nat) (y0 : Nat) (y1 : Nat) (y7 : Int) : Tr ((Nat × Nat × Int) ⊕ ((Nat × Nat) ⊕ (Nat × Nat))) :=
  .br (decide ((y7 : Int) < 40)) (.br (osome (iCriticalDepth_1 (fmul .f32 1056964608 (fadd .f32 y0 y1)) y2 y3 y4 y5 y6)) (.br (!(oget (iCriticalDepth_1 (fmul .f32 1056964608 (fadd .f32 y0 y1)) y2 y3 y4 y5 y6)).2) (.ok (.inr (.inl (0, 0)))) (.br ((oget (iCriticalDepth_1 (fmul .f32 1056964608 (fadd .f32 y0 y1)) y2 y3 y4 y5 y6)).1) (.ok (.inl (y0, fmul .f32 1056964608 (fadd .f32 y0 y1), IntKind.wrap .i64 (y7 + 1)))) (.ok (.inl (fmul .f32 1056964608 (fadd .f32 y0 y1), y1, IntKind.wrap .i64 (y7 + 1)))))) .bad) (.ok (.inr (.inr (y0, y1))))

noncomputable def ihalve_iCriticalDepth_1_l2 (y0 : Nat) (y1 : Nat) (y2 : Nat) (y3 : Nat) (y4 : Nat) (y5 : Nat) (y6 : Nat) (y7 : Int) : Option ((Nat × Nat) ⊕ (Nat × Nat)) := runL (fun s : Nat × Nat × Int => (ihalve_iCriticalDepth_1_l2_t y2 y3 y4 y5 y6 s.1 s.2.1 s.2.2).sem) (y0, y1, y7)

noncomputable def ihalve_iCriticalDepth_1_t (x0 : Nat) (x1 : Nat) (x2 : Nat) (x3 : Nat) (x4 : Nat) (x5 : Nat) (x6 : Nat) : Tr (Nat × Nat × Bool) :=
  .br (osome (ihalve_iCriticalDepth_1_l2 x0 x1 x2 x3 x4 x5 x6 0)) (.br (isL (oget (ihalve_iCriticalDepth_1_l2 x0 x1 x2 x3 x4 x5 x6 0))) (.ok ((unL (oget (ihalve_iCriticalDepth_1_l2 x0 x1 x2 x3 x4 x5 x6 0))).1, (unL (oget (ihalve_iCriticalDepth_1_l2 x0 x1 x2 x3 x4 x5 x6 0))).2, false)) (.ok ((unR (oget (ihalve_iCriticalDepth_1_l2 x0 x1 x2 x3 x4 x5 x6 0))).1, (unR (oget (ihalve_iCriticalDepth_1_l2 x0 x1 x2 x3 x4 x5 x6 0))).2, true))) .bad

noncomputable def ihalve_iCriticalDepth_1 (x0 : Nat) (x1 : Nat) (x2 : Nat) (x3 : Nat) (x4 : Nat) (x5 : Nat) (x6 : Nat) : Option (Nat × Nat × Bool) := (ihalve_iCriticalDepth_1_t x0 x1 x2 x3 x4 x5 x6).sem

noncomputable def iCriticalDepth_t (x0 : Nat) (x1 : Nat) (x2 : Nat) (x3 : Nat) (x4 : Nat) : Tr (Nat × Bool) :=
  .br (osome (iSection_isFlow x0 x1 x2 x3 [x4])) (.br (!(oget (iSection_isFlow x0 x1 x2 x3 [x4]))) (.ok (0, false)) (.br (osome (ihalve_iCriticalDepth_1 0 1148846080 x0 x1 x2 x3 x4)) (.ok ((oget (ihalve_iCriticalDepth_1 0 1148846080 x0 x1 x2 x3 x4)).2.1, (oget (ihalve_iCriticalDepth_1 0 1148846080 x0 x1 x2 x3 x4)).2.2)) .bad)) .bad

noncomputable def iCriticalDepth (x0 : Nat) (x1 : Nat) (x2 : Nat) (x3 : Nat) (x4 : Nat) : Option (Nat × Bool) := (iCriticalDepth_t x0 x1 x2 x3 x4).sem

noncomputable def iSpeedAt_t (x0 : Nat) (x1 : Nat) (x2 : Nat) (x3 : Nat) (x4 : Nat) (x5 : Nat) : Tr (Nat × Bool) :=
  .br (osome (iAreaAt x0 x1 x2 x3 x4)) (.br (!(oget (iAreaAt x0 x1 x2 x3 x4)).2) (.ok (0, false)) (.br (! (isLen x5)) (.ok (0, false)) (.ok ((ifinite32 (fdiv .f32 x5 (oget (iAreaAt x0 x1 x2 x3 x4)).1)).1, (ifinite32 (fdiv .f32 x5 (oget (iAreaAt x0 x1 x2 x3 x4)).1)).2)))) .bad

noncomputable def iSpeedAt (x0 : Nat) (x1 : Nat) (x2 : Nat) (x3 : Nat) (x4 : Nat) (x5 : Nat) : Option (Nat × Bool) := (iSpeedAt_t x0 x1 x2 x3 x4 x5).sem

noncomputable def iSwiftnessAt_t (x0 : Nat) (x1 : Nat) (x2 : Nat) (x3 : Nat) (x4 : Nat) (x5 : Nat) : Tr (Nat × Bool) :=
  .br (osome (iSpeedAt x0 x1 x2 x3 x4 x5)) (.br (osome (iAreaAt x0 x1 x2 x3 x4)) (.br (osome (iTopAt x0 x1 x2 x3 x4)) (.br (!(oget (iSpeedAt x0 x1 x2 x3 x4 x5)).2) (.ok (0, false)) (.br (!(oget (iAreaAt x0 x1 x2 x3 x4)).2) (.ok (0, false)) (.br (!(oget (iTopAt x0 x1 x2 x3 x4)).2) (.ok (0, false)) (.ok ((ifinite32 (fdiv .f32 (oget (iSpeedAt x0 x1 x2 x3 x4 x5)).1 (froot (fmul .f32 1092416963 (fdiv .f32 (oget (iAreaAt x0 x1 x2 x3 x4)).1 (oget (iTopAt x0 x1 x2 x3 x4)).1))))).1, (ifinite32 (fdiv .f32 (oget (iSpeedAt x0 x1 x2 x3 x4 x5)).1 (froot (fmul .f32 1092416963 (fdiv .f32 (oget (iAreaAt x0 x1 x2 x3 x4)).1 (oget (iTopAt x0 x1 x2 x3 x4)).1))))).2))))) .bad) .bad) .bad

noncomputable def iSwiftnessAt (x0 : Nat) (x1 : Nat) (x2 : Nat) (x3 : Nat) (x4 : Nat) (x5 : Nat) : Option (Nat × Bool) := (iSwiftnessAt_t x0 x1 x2 x3 x4 x5).sem

noncomputable def iIsMild_t (x0 : Nat) (x1 : Nat) (x2 : Nat) (x3 : Nat) (x4 : Nat) : Tr (Bool × Bool) :=
  .br (osome (iNormalDepth x0 x1 x2 x3 x4)) (.br (osome (iCriticalDepth x0 x1 x2 x3 x4)) (.br ((oget (iNormalDepth x0 x1 x2 x3 x4)).2) (.br ((oget (iCriticalDepth x0 x1 x2 x3 x4)).2) (.br ((oget (iNormalDepth x0 x1 x2 x3 x4)).2) (.ok (fgt .f32 (oget (iNormalDepth x0 x1 x2 x3 x4)).1 (oget (iCriticalDepth x0 x1 x2 x3 x4)).1, (oget (iCriticalDepth x0 x1 x2 x3 x4)).2)) (.ok (fgt .f32 (oget (iNormalDepth x0 x1 x2 x3 x4)).1 (oget (iCriticalDepth x0 x1 x2 x3 x4)).1, false))) (.br ((oget (iNormalDepth x0 x1 x2 x3 x4)).2) (.ok (false, (oget (iCriticalDepth x0 x1 x2 x3 x4)).2)) (.ok (false, false)))) (.br ((oget (iNormalDepth x0 x1 x2 x3 x4)).2) (.ok (false, (oget (iCriticalDepth x0 x1 x2 x3 x4)).2)) (.ok (false, false)))) .bad) .bad

noncomputable def iIsMild (x0 : Nat) (x1 : Nat) (x2 : Nat) (x3 : Nat) (x4 : Nat) : Option (Bool × Bool) := (iIsMild_t x0 x1 x2 x3 x4).sem

noncomputable def wr8Gap_t (x0 : Nat) (x1 : Nat) : Tr (Nat) :=
  .ok (fmax .f64 (fsub .f64 x0 x1) (fsub .f64 x1 x0))

noncomputable def wr8Gap (x0 : Nat) (x1 : Nat) : Nat := (wr8Gap_t x0 x1).val

noncomputable def iHeadAt_t (x0 : Nat) (x1 : Nat) (x2 : Nat) (x3 : Nat) (x4 : Nat) (x5 : Nat) : Tr (Nat × Bool) :=
  .br (osome (iSpeedAt x0 x1 x2 x3 x4 x5)) (.br (!(oget (iSpeedAt x0 x1 x2 x3 x4 x5)).2) (.ok (0, false)) (.ok ((ifinite32 (fadd .f32 x4 (fdiv .f32 (fmul .f32 (oget (iSpeedAt x0 x1 x2 x3 x4 x5)).1 (oget (iSpeedAt x0 x1 x2 x3 x4 x5)).1) 1100805571))).1, (ifinite32 (fadd .f32 x4 (fdiv .f32 (fmul .f32 (oget (iSpeedAt x0 x1 x2 x3 x4 x5)).1 (oget (iSpeedAt x0 x1 x2 x3 x4 x5)).1) 1100805571))).2))) .bad

noncomputable def iHeadAt (x0 : Nat) (x1 : Nat) (x2 : Nat) (x3 : Nat) (x4 : Nat) (x5 : Nat) : Option (Nat × Bool) := (iHeadAt_t x0 x1 x2 x3 x4 x5).sem

noncomputable def iother_1_iHeadAt_t (x0 : Nat) (x1 : Nat) (x2 : Nat) (x3 : Nat) (x4 : Nat) (x5 : Nat) (x6 : Nat) : Tr (Bool × Bool) :=
  .br (osome (iHeadAt x1 x2 x3 x4 x0 x5)) (.ok (fgt .f32 (oget (iHeadAt x1 x2 x3 x4 x0 x5)).1 x6, (oget (iHeadAt x1 x2 x3 x4 x0 x5)).2)) .bad

noncomputable def iother_1_iHeadAt (x0 : Nat) (x1 : Nat) (x2 : Nat) (x3 : Nat) (x4 : Nat) (x5 : Nat) (x6 : Nat) : Option (Bool × Bool) := (iother_1_iHeadAt_t x0 x1 x2 x3 x4 x5 x6).sem

noncomputable def ihalve_iother_1_iHeadAt_l2_t (y2 : Nat) (y3 : Nat) (y4 : Nat) (y5 : Nat) (y6 : Nat) (y7 : Nat) (y0 : Nat) (y1 : Nat) (y8 : Int) : Tr ((Nat × Nat × Int) ⊕ ((Nat × Nat) ⊕ (Nat × Nat))) :=
  .br (decide ((y8 : Int) < 40)) (.br (osome (iother_1_iHeadAt (fmul .f32 1056964608 (fadd .f32 y0 y1)) y2 y3 y4 y5 y6 y7)) (.br (!(oget (iother_1_iHeadAt (fmul .f32 1056964608 (fadd .f32 y0 y1)) y2 y3 y4 y5 y6 y7)).2) (.ok (.inr (.inl (0, 0)))) (.br ((oget (iother_1_iHeadAt (fmul .f32 1056964608 (fadd .f32 y0 y1)) y2 y3 y4 y5 y6 y7)).1) (.ok (.inl (y0, fmul .f32 1056964608 (fadd .f32 y0 y1), IntKind.wrap .i64 (y8 + 1)))) (.ok (.inl (fmul .f32 1056964608 (fadd .f32 y0 y1), y1, IntKind.wrap .i64 (y8 + 1)))))) .bad) (.ok (.inr (.inr (y0, y1))))

noncomputable def ihalve_iother_1_iHeadAt_l2 (y0 : Nat) (y1 : Nat) (y2 : Nat) (y3 : Nat) (y4 : Nat) (y5 : Nat) (y6 : Nat) (y7 : Nat) (y8 : Int) : Option ((Nat × Nat) ⊕ (Nat × Nat)) := runL (fun s : Nat × Nat × Int => (ihalve_iother_1_iHeadAt_l2_t y2 y3 y4 y5 y6 y7 s.1 s.2.1 s.2.2).sem) (y0, y1, y8)

noncomputable def ihalve_iother_1_iHeadAt_t (x0 : Nat) (x1 : Nat) (x2 : Nat) (x3 : Nat) (x4 : Nat) (x5 : Nat) (x6 : Nat) (x7 : Nat) : Tr (Nat × Nat × Bool) :=
  .br (osome (ihalve_iother_1_iHeadAt_l2 x0 x1 x2 x3 x4 x5 x6 x7 0)) (.br (isL (oget (ihalve_iother_1_iHeadAt_l2 x0 x1 x2 x3 x4 x5 x6 x7 0))) (.ok ((unL (oget (ihalve_iother_1_iHeadAt_l2 x0 x1 x2 x3 x4 x5 x6 x7 0))).1, (unL (oget (ihalve_iother_1_iHeadAt_l2 x0 x1 x2 x3 x4 x5 x6 x7 0))).2, false)) (.ok ((unR (oget (ihalve_iother_1_iHeadAt_l2 x0 x1 x2 x3 x4 x5 x6 x7 0))).1, (unR (oget (ihalve_iother_1_iHeadAt_l2 x0 x1 x2 x3 x4 x5 x6 x7 0))).2, true))) .bad

noncomputable def ihalve_iother_1_iHeadAt (x0 : Nat) (x1 : Nat) (x2 : Nat) (x3 : Nat) (x4 : Nat) (x5 : Nat) (x6 : Nat) (x7 : Nat) : Option (Nat × Nat × Bool) := (ihalve_iother_1_iHeadAt_t x0 x1 x2 x3 x4 x5 x6 x7).sem

noncomputable def iother_2_iHeadAt_t (x0 : Nat) (x1 : Nat) (x2 : Nat) (x3 : Nat) (x4 : Nat) (x5 : Nat) (x6 : Nat) : Tr (Bool × Bool) :=
  .br (osome (iHeadAt x1 x2 x3 x4 x0 x5)) (.ok (flt .f32 (oget (iHeadAt x1 x2 x3 x4 x0 x5)).1 x6, (oget (iHeadAt x1 x2 x3 x4 x0 x5)).2)) .bad

noncomputable def iother_2_iHeadAt (x0 : Nat) (x1 : Nat) (x2 : Nat) (x3 : Nat) (x4 : Nat) (x5 : Nat) (x6 : Nat) : Option (Bool × Bool) := (iother_2_iHeadAt_t x0 x1 x2 x3 x4 x5 x6).sem

noncomputable def ihalve_iother_2_iHeadAt_l2_t (y2 : Nat) (y3 : Nat) (y4 : Nat) (y5 : Nat) (y6 : Nat) (y7 : Nat) (y0 : Nat) (y1 : Nat) (y8 : Int) : Tr ((Nat × Nat × Int) ⊕ ((Nat × Nat) ⊕ (Nat × Nat))) :=
  .br (decide ((y8 : Int) < 40)) (.br (osome (iother_2_iHeadAt (fmul .f32 1056964608 (fadd .f32 y0 y1)) y2 y3 y4 y5 y6 y7)) (.br (!(oget (iother_2_iHeadAt (fmul .f32 1056964608 (fadd .f32 y0 y1)) y2 y3 y4 y5 y6 y7)).2) (.ok (.inr (.inl (0, 0)))) (.br ((oget (iother_2_iHeadAt (fmul .f32 1056964608 (fadd .f32 y0 y1)) y2 y3 y4 y5 y6 y7)).1) (.ok (.inl (y0, fmul .f32 1056964608 (fadd .f32 y0 y1), IntKind.wrap .i64 (y8 + 1)))) (.ok (.inl (fmul .f32 1056964608 (fadd .f32 y0 y1), y1, IntKind.wrap .i64 (y8 + 1)))))) .bad) (.ok (.inr (.inr (y0, y1))))

noncomputable def ihalve_iother_2_iHeadAt_l2 (y0 : Nat) (y1 : Nat) (y2 : Nat) (y3 : Nat) (y4 : Nat) (y5 : Nat) (y6 : Nat) (y7 : Nat) (y8 : Int) : Option ((Nat × Nat) ⊕ (Nat × Nat)) := runL (fun s : Nat × Nat × Int => (ihalve_iother_2_iHeadAt_l2_t y2 y3 y4 y5 y6 y7 s.1 s.2.1 s.2.2).sem) (y0, y1, y8)

noncomputable def ihalve_iother_2_iHeadAt_t (x0 : Nat) (x1 : Nat) (x2 : Nat) (x3 : Nat) (x4 : Nat) (x5 : Nat) (x6 : Nat) (x7 : Nat) : Tr (Nat × Nat × Bool) :=
  .br (osome (ihalve_iother_2_iHeadAt_l2 x0 x1 x2 x3 x4 x5 x6 x7 0)) (.br (isL (oget (ihalve_iother_2_iHeadAt_l2 x0 x1 x2 x3 x4 x5 x6 x7 0))) (.ok ((unL (oget (ihalve_iother_2_iHeadAt_l2 x0 x1 x2 x3 x4 x5 x6 x7 0))).1, (unL (oget (ihalve_iother_2_iHeadAt_l2 x0 x1 x2 x3 x4 x5 x6 x7 0))).2, false)) (.ok ((unR (oget (ihalve_iother_2_iHeadAt_l2 x0 x1 x2 x3 x4 x5 x6 x7 0))).1, (unR (oget (ihalve_iother_2_iHeadAt_l2 x0 x1 x2 x3 x4 x5 x6 x7 0))).2, true))) .bad

noncomputable def ihalve_iother_2_iHeadAt (x0 : Nat) (x1 : Nat) (x2 : Nat) (x3 : Nat) (x4 : Nat) (x5 : Nat) (x6 : Nat) (x7 : Nat) : Option (Nat × Nat × Bool) := (ihalve_iother_2_iHeadAt_t x0 x1 x2 x3 x4 x5 x6 x7).sem

noncomputable def iother_iHeadAt_t (x0 : Nat) (x1 : Nat) (x2 : Nat) (x3 : Nat) (x4 : Nat) (x5 : Nat) : Tr (Nat × Bool) :=
  .br (osome (iCriticalDepth x0 x1 x2 x3 x5)) (.br (osome (iHeadAt x0 x1 x2 x3 x4 x5)) (.br (!(oget (iCriticalDepth x0 x1 x2 x3 x5)).2) (.ok (0, false)) (.br (!(oget (iHeadAt x0 x1 x2 x3 x4 x5)).2) (.ok (0, false)) (.br (flt .f32 x4 (oget (iCriticalDepth x0 x1 x2 x3 x5)).1) (.br (osome (ihalve_iother_1_iHeadAt (oget (iCriticalDepth x0 x1 x2 x3 x5)).1 1148846080 x0 x1 x2 x3 x5 (oget (iHeadAt x0 x1 x2 x3 x4 x5)).1)) (.ok ((oget (ihalve_iother_1_iHeadAt (oget (iCriticalDepth x0 x1 x2 x3 x5)).1 1148846080 x0 x1 x2 x3 x5 (oget (iHeadAt x0 x1 x2 x3 x4 x5)).1)).1, (oget (ihalve_iother_1_iHeadAt (oget (iCriticalDepth x0 x1 x2 x3 x5)).1 1148846080 x0 x1 x2 x3 x5 (oget (iHeadAt x0 x1 x2 x3 x4 x5)).1)).2.2)) .bad) (.br (osome (ihalve_iother_2_iHeadAt 981668463 (oget (iCriticalDepth x0 x1 x2 x3 x5)).1 x0 x1 x2 x3 x5 (oget (iHeadAt x0 x1 x2 x3 x4 x5)).1)) (.ok ((oget (ihalve_iother_2_iHeadAt 981668463 (oget (iCriticalDepth x0 x1 x2 x3 x5)).1 x0 x1 x2 x3 x5 (oget (iHeadAt x0 x1 x2 x3 x4 x5)).1)).2.1, (oget (ihalve_iother_2_iHeadAt 981668463 (oget (iCriticalDepth x0 x1 x2 x3 x5)).1 x0 x1 x2 x3 x5 (oget (iHeadAt x0 x1 x2 x3 x4 x5)).1)).2.2)) .bad)))) .bad) .bad

noncomputable def iother_iHeadAt (x0 : Nat) (x1 : Nat) (x2 : Nat) (x3 : Nat) (x4 : Nat) (x5 : Nat) : Option (Nat × Bool) := (iother_iHeadAt_t x0 x1 x2 x3 x4 x5).sem

noncomputable def iOtherDepth_t (x0 : Nat) (x1 : Nat) (x2 : Nat) (x3 : Nat) (x4 : Nat) (x5 : Nat) : Tr (Nat × Bool) :=
  .br (osome (iother_iHeadAt x0 x1 x2 x3 x4 x5)) (.ok (oget (iother_iHeadAt x0 x1 x2 x3 x4 x5))) .bad

noncomputable def iOtherDepth (x0 : Nat) (x1 : Nat) (x2 : Nat) (x3 : Nat) (x4 : Nat) (x5 : Nat) : Option (Nat × Bool) := (iOtherDepth_t x0 x1 x2 x3 x4 x5).sem

noncomputable def iPushAt_t (x0 : Nat) (x1 : Nat) (x2 : Nat) (x3 : Nat) (x4 : Nat) (x5 : Nat) : Tr (Nat × Bool) :=
  .br (osome (iSpeedAt x0 x1 x2 x3 x4 x5)) (.br (!(oget (iSpeedAt x0 x1 x2 x3 x4 x5)).2) (.ok (0, false)) (.ok ((ifinite32 (fadd .f32 (fmul .f32 1092416963 (fmul .f32 (fmul .f32 x4 x4) (fadd .f32 (fdiv .f32 x0 1073741824) (fdiv .f32 (fmul .f32 x1 x4) 1077936128)))) (fmul .f32 x5 (oget (iSpeedAt x0 x1 x2 x3 x4 x5)).1))).1, (ifinite32 (fadd .f32 (fmul .f32 1092416963 (fmul .f32 (fmul .f32 x4 x4) (fadd .f32 (fdiv .f32 x0 1073741824) (fdiv .f32 (fmul .f32 x1 x4) 1077936128)))) (fmul .f32 x5 (oget (iSpeedAt x0 x1 x2 x3 x4 x5)).1))).2))) .bad

noncomputable def iPushAt (x0 : Nat) (x1 : Nat) (x2 : Nat) (x3 : Nat) (x4 : Nat) (x5 : Nat) : Option (Nat × Bool) := (iPushAt_t x0 x1 x2 x3 x4 x5).sem

noncomputable def iother_1_iPushAt_t (x0 : Nat) (x1 : Nat) (x2 : Nat) (x3 : Nat) (x4 : Nat) (x5 : Nat) (x6 : Nat) : Tr (Bool × Bool) :=
  .br (osome (iPushAt x1 x2 x3 x4 x0 x5)) (.ok (fgt .f32 (oget (iPushAt x1 x2 x3 x4 x0 x5)).1 x6, (oget (iPushAt x1 x2 x3 x4 x0 x5)).2)) .bad

noncomputable def iother_1_iPushAt (x0 : Nat) (x1 : Nat) (x2 : Nat) (x3 : Nat) (x4 : Nat) (x5 : Nat) (x6 : Nat) : Option (Bool × Bool) := (iother_1_iPushAt_t x0 x1 x2 x3 x4 x5 x6).sem

noncomputable def ihalve_iother_1_iPushAt_l2_t (y2 : Nat) (y3 : Nat) (y4 : Nat) (y5 : Nat) (y6 : Nat) (y7 : Nat) (y0 : Nat) (y1 : Nat) (y8 : Int) : Tr ((Nat × Nat × Int) ⊕ ((Nat × Nat) ⊕ (Nat × Nat))) :=
  .br (decide ((y8 : Int) < 40)) (.br (osome (iother_1_iPushAt (fmul .f32 1056964608 (fadd .f32 y0 y1)) y2 y3 y4 y5 y6 y7)) (.br (!(oget (iother_1_iPushAt (fmul .f32 1056964608 (fadd .f32 y0 y1)) y2 y3 y4 y5 y6 y7)).2) (.ok (.inr (.inl (0, 0)))) (.br ((oget (iother_1_iPushAt (fmul .f32 1056964608 (fadd .f32 y0 y1)) y2 y3 y4 y5 y6 y7)).1) (.ok (.inl (y0, fmul .f32 1056964608 (fadd .f32 y0 y1), IntKind.wrap .i64 (y8 + 1)))) (.ok (.inl (fmul .f32 1056964608 (fadd .f32 y0 y1), y1, IntKind.wrap .i64 (y8 + 1)))))) .bad) (.ok (.inr (.inr (y0, y1))))

noncomputable def ihalve_iother_1_iPushAt_l2 (y0 : Nat) (y1 : Nat) (y2 : Nat) (y3 : Nat) (y4 : Nat) (y5 : Nat) (y6 : Nat) (y7 : Nat) (y8 : Int) : Option ((Nat × Nat) ⊕ (Nat × Nat)) := runL (fun s : Nat × Nat × Int => (ihalve_iother_1_iPushAt_l2_t y2 y3 y4 y5 y6 y7 s.1 s.2.1 s.2.2).sem) (y0, y1, y8)

noncomputable def ihalve_iother_1_iPushAt_t (x0 : Nat) (x1 : Nat) (x2 : Nat) (x3 : Nat) (x4 : Nat) (x5 : Nat) (x6 : Nat) (x7 : Nat) : Tr (Nat × Nat × Bool) :=
  .br (osome (ihalve_iother_1_iPushAt_l2 x0 x1 x2 x3 x4 x5 x6 x7 0)) (.br (isL (oget (ihalve_iother_1_iPushAt_l2 x0 x1 x2 x3 x4 x5 x6 x7 0))) (.ok ((unL (oget (ihalve_iother_1_iPushAt_l2 x0 x1 x2 x3 x4 x5 x6 x7 0))).1, (unL (oget (ihalve_iother_1_iPushAt_l2 x0 x1 x2 x3 x4 x5 x6 x7 0))).2, false)) (.ok ((unR (oget (ihalve_iother_1_iPushAt_l2 x0 x1 x2 x3 x4 x5 x6 x7 0))).1, (unR (oget (ihalve_iother_1_iPushAt_l2 x0 x1 x2 x3 x4 x5 x6 x7 0))).2, true))) .bad

noncomputable def ihalve_iother_1_iPushAt (x0 : Nat) (x1 : Nat) (x2 : Nat) (x3 : Nat) (x4 : Nat) (x5 : Nat) (x6 : Nat) (x7 : Nat) : Option (Nat × Nat × Bool) := (ihalve_iother_1_iPushAt_t x0 x1 x2 x3 x4 x5 x6 x7).sem

noncomputable def iother_2_iPushAt_t (x0 : Nat) (x1 : Nat) (x2 : Nat) (x3 : Nat) (x4 : Nat) (x5 : Nat) (x6 : Nat) : Tr (Bool × Bool) :=
  .br (osome (iPushAt x1 x2 x3 x4 x0 x5)) (.ok (flt .f32 (oget (iPushAt x1 x2 x3 x4 x0 x5)).1 x6, (oget (iPushAt x1 x2 x3 x4 x0 x5)).2)) .bad

noncomputable def iother_2_iPushAt (x0 : Nat) (x1 : Nat) (x2 : Nat) (x3 : Nat) (x4 : Nat) (x5 : Nat) (x6 : Nat) : Option (Bool × Bool) := (iother_2_iPushAt_t x0 x1 x2 x3 x4 x5 x6).sem

noncomputable def ihalve_iother_2_iPushAt_l2_t (y2 : Nat) (y3 : Nat) (y4 : Nat) (y5 : Nat) (y6 : Nat) (y7 : Nat) (y0 : Nat) (y1 : Nat) (y8 : Int) : Tr ((Nat × Nat × Int) ⊕ ((Nat × Nat) ⊕ (Nat × Nat))) :=
  .br (decide ((y8 : Int) < 40)) (.br (osome (iother_2_iPushAt (fmul .f32 1056964608 (fadd .f32 y0 y1)) y2 y3 y4 y5 y6 y7)) (.br (!(oget (iother_2_iPushAt (fmul .f32 1056964608 (fadd .f32 y0 y1)) y2 y3 y4 y5 y6 y7)).2) (.ok (.inr (.inl (0, 0)))) (.br ((oget (iother_2_iPushAt (fmul .f32 1056964608 (fadd .f32 y0 y1)) y2 y3 y4 y5 y6 y7)).1) (.ok (.inl (y0, fmul .f32 1056964608 (fadd .f32 y0 y1), IntKind.wrap .i64 (y8 + 1)))) (.ok (.inl (fmul .f32 1056964608 (fadd .f32 y0 y1), y1, IntKind.wrap .i64 (y8 + 1)))))) .bad) (.ok (.inr (.inr (y0, y1))))

noncomputable def ihalve_iother_2_iPushAt_l2 (y0 : Nat) (y1 : Nat) (y2 : Nat) (y3 : Nat) (y4 : Nat) (y5 : Nat) (y6 : Nat) (y7 : Nat) (y8 : Int) : Option ((Nat × Nat) ⊕ (Nat × Nat)) := runL (fun s : Nat × Nat × Int => (ihalve_iother_2_iPushAt_l2_t y2 y3 y4 y5 y6 y7 s.1 s.2.1 s.2.2).sem) (y0, y1, y8)

noncomputable def ihalve_iother_2_iPushAt_t (x0 : Nat) (x1 : Nat) (x2 : Nat) (x3 : Nat) (x4 : Nat) (x5 : Nat) (x6 : Nat) (x7 : Nat) : Tr (Nat × Nat × Bool) :=
  .br (osome (ihalve_iother_2_iPushAt_l2 x0 x1 x2 x3 x4 x5 x6 x7 0)) (.br (isL (oget (ihalve_iother_2_iPushAt_l2 x0 x1 x2 x3 x4 x5 x6 x7 0))) (.ok ((unL (oget (ihalve_iother_2_iPushAt_l2 x0 x1 x2 x3 x4 x5 x6 x7 0))).1, (unL (oget (ihalve_iother_2_iPushAt_l2 x0 x1 x2 x3 x4 x5 x6 x7 0))).2, false)) (.ok ((unR (oget (ihalve_iother_2_iPushAt_l2 x0 x1 x2 x3 x4 x5 x6 x7 0))).1, (unR (oget (ihalve_iother_2_iPushAt_l2 x0 x1 x2 x3 x4 x5 x6 x7 0))).2, true))) .bad

noncomputable def ihalve_iother_2_iPushAt (x0 : Nat) (x1 : Nat) (x2 : Nat) (x3 : Nat) (x4 : Nat) (x5 : Nat) (x6 : Nat) (x7 : Nat) : Option (Nat × Nat × Bool) := (ihalve_iother_2_iPushAt_t x0 x1 x2 x3 x4 x5 x6 x7).sem

noncomputable def iother_iPushAt_t (x0 : Nat) (x1 : Nat) (x2 : Nat) (x3 : Nat) (x4 : Nat) (x5 : Nat) : Tr (Nat × Bool) :=
  .br (osome (iCriticalDepth x0 x1 x2 x3 x5)) (.br (osome (iPushAt x0 x1 x2 x3 x4 x5)) (.br (!(oget (iCriticalDepth x0 x1 x2 x3 x5)).2) (.ok (0, false)) (.br (!(oget (iPushAt x0 x1 x2 x3 x4 x5)).2) (.ok (0, false)) (.br (flt .f32 x4 (oget (iCriticalDepth x0 x1 x2 x3 x5)).1) (.br (osome (ihalve_iother_1_iPushAt (oget (iCriticalDepth x0 x1 x2 x3 x5)).1 1148846080 x0 x1 x2 x3 x5 (oget (iPushAt x0 x1 x2 x3 x4 x5)).1)) (.ok ((oget (ihalve_iother_1_iPushAt (oget (iCriticalDepth x0 x1 x2 x3 x5)).1 1148846080 x0 x1 x2 x3 x5 (oget (iPushAt x0 x1 x2 x3 x4 x5)).1)).1, (oget (ihalve_iother_1_iPushAt (oget (iCriticalDepth x0 x1 x2 x3 x5)).1 1148846080 x0 x1 x2 x3 x5 (oget (iPushAt x0 x1 x2 x3 x4 x5)).1)).2.2)) .bad) (.br (osome (ihalve_iother_2_iPushAt 981668463 (oget (iCriticalDepth x0 x1 x2 x3 x5)).1 x0 x1 x2 x3 x5 (oget (iPushAt x0 x1 x2 x3 x4 x5)).1)) (.ok ((oget (ihalve_iother_2_iPushAt 981668463 (oget (iCriticalDepth x0 x1 x2 x3 x5)).1 x0 x1 x2 x3 x5 (oget (iPushAt x0 x1 x2 x3 x4 x5)).1)).2.1, (oget (ihalve_iother_2_iPushAt 981668463 (oget (iCriticalDepth x0 x1 x2 x3 x5)).1 x0 x1 x2 x3 x5 (oget (iPushAt x0 x1 x2 x3 x4 x5)).1)).2.2)) .bad)))) .bad) .bad

noncomputable def iother_iPushAt (x0 : Nat) (x1 : Nat) (x2 : Nat) (x3 : Nat) (x4 : Nat) (x5 : Nat) : Option (Nat × Bool) := (iother_iPushAt_t x0 x1 x2 x3 x4 x5).sem

noncomputable def iJumpDepth_t (x0 : Nat) (x1 : Nat) (x2 : Nat) (x3 : Nat) (x4 : Nat) (x5 : Nat) : Tr (Nat × Bool) :=
  .br (osome (iother_iPushAt x0 x1 x2 x3 x4 x5)) (.ok (oget (iother_iPushAt x0 x1 x2 x3 x4 x5))) .bad

noncomputable def iJumpDepth (x0 : Nat) (x1 : Nat) (x2 : Nat) (x3 : Nat) (x4 : Nat) (x5 : Nat) : Option (Nat × Bool) := (iJumpDepth_t x0 x1 x2 x3 x4 x5).sem

noncomputable def iJumpLoss_t (x0 : Nat) (x1 : Nat) (x2 : Nat) (x3 : Nat) (x4 : Nat) (x5 : Nat) : Tr (Nat × Bool) :=
  .br (osome (iCriticalDepth x0 x1 x2 x3 x5)) (.br (osome (iJumpDepth x0 x1 x2 x3 x4 x5)) (.br (!(oget (iCriticalDepth x0 x1 x2 x3 x5)).2) (.ok (0, false)) (.br (!(oget (iJumpDepth x0 x1 x2 x3 x4 x5)).2) (.ok (0, false)) (.br (! (flt .f32 x4 (oget (iCriticalDepth x0 x1 x2 x3 x5)).1)) (.ok (0, false)) (.br (osome (iHeadAt x0 x1 x2 x3 x4 x5)) (.br (osome (iHeadAt x0 x1 x2 x3 (oget (iJumpDepth x0 x1 x2 x3 x4 x5)).1 x5)) (.br (!(oget (iHeadAt x0 x1 x2 x3 x4 x5)).2) (.ok (0, false)) (.br (!(oget (iHeadAt x0 x1 x2 x3 (oget (iJumpDepth x0 x1 x2 x3 x4 x5)).1 x5)).2) (.ok (0, false)) (.ok ((ifinite32 (fsub .f32 (oget (iHeadAt x0 x1 x2 x3 x4 x5)).1 (oget (iHeadAt x0 x1 x2 x3 (oget (iJumpDepth x0 x1 x2 x3 x4 x5)).1 x5)).1)).1, (ifinite32 (fsub .f32 (oget (iHeadAt x0 x1 x2 x3 x4 x5)).1 (oget (iHeadAt x0 x1 x2 x3 (oget (iJumpDepth x0 x1 x2 x3 x4 x5)).1 x5)).1)).2)))) .bad) .bad)))) .bad) .bad

noncomputable def iJumpLoss (x0 : Nat) (x1 : Nat) (x2 : Nat) (x3 : Nat) (x4 : Nat) (x5 : Nat) : Option (Nat × Bool) := (iJumpLoss_t x0 x1 x2 x3 x4 x5).sem

noncomputable def wFnDepths_o1 (v1 : Nat × (Nat × (Nat × Nat))) (v2 : Int) (v5 : Nat × Bool) (v17 : Nat × Bool) (v18 : Nat × Bool) (v19 : Nat × Bool) (v20 : Nat × Bool) (v21 : Nat × Bool) (v22 : Nat × Bool) : Tr (Bool) :=
  .br v17.2 (.br v18.2 (.br v19.2 (.br v20.2 (.br v21.2 (.br v22.2 (.br (fge .f32 v18.1 (fsub .f32 v20.1 v1.1)) (.br (flt .f64 (wr8Gap (fmul .f64 (fup v19.1) (fup v18.1)) (fup v17.1)) (fmul .f64 4562254508917369340 (fadd .f64 4607182418800017408 (fup v17.1)))) (.br (flt .f64 (wr8Gap (fmul .f64 (fup v21.1) (fup v17.1)) (fup (fdiv .f32 (FloatKind.nearest .f32 (IntKind.wrap .i64 (1 + v2))) 1082130432))) (fmul .f64 4562254508917369340 (fadd .f64 4607182418800017408 (fup (fdiv .f32 (FloatKind.nearest .f32 (IntKind.wrap .i64 (1 + v2))) 1082130432))))) (.ok (fgt .f32 v22.1 v5.1)) (.ok false)) (.ok false)) (.ok false)) (.ok false)) (.ok false)) (.ok false)) (.ok false)) (.ok false)) (.ok false)

noncomputable def wFnDepths_o2 (v1 : Nat × (Nat × (Nat × Nat))) (v2 : Int) (v3 : Nat × Bool) (v5 : Nat × Bool) (v17 : Nat × Bool) (v18 : Nat × Bool) (v19 : Nat × Bool) (v20 : Nat × Bool) (v21 : Nat × Bool) : Tr (Bool) :=
  .br (osome (iFlowAt v1.1 v1.2.1 v1.2.2.1 v1.2.2.2 (fmul .f32 v3.1 1073741824))) (wFnDepths_o1 v1 v2 v5 v17 v18 v19 v20 v21 (oget (iFlowAt v1.1 v1.2.1 v1.2.2.1 v1.2.2.2 (fmul .f32 v3.1 1073741824)))) .bad

noncomputable def wFnDepths_o3 (v1 : Nat × (Nat × (Nat × Nat))) (v2 : Int) (v3 : Nat × Bool) (v4 : Nat × Bool) (v5 : Nat × Bool) (v8 : Int) (v17 : Nat × Bool) (v18 : Nat × Bool) (v19 : Nat × Bool) (v20 : Nat × Bool) : Tr (Bool) :=
  .br (osome (iSpeedAt v1.1 v1.2.1 v1.2.2.1 v1.2.2.2 (fmul .f32 v4.1 (fadd .f32 1069547520 (fdiv .f32 (FloatKind.nearest .f32 v8) 1082130432))) (fdiv .f32 (FloatKind.nearest .f32 (IntKind.wrap .i64 (1 + v2))) 1082130432))) (wFnDepths_o2 v1 v2 v3 v5 v17 v18 v19 v20 (oget (iSpeedAt v1.1 v1.2.1 v1.2.2.1 v1.2.2.2 (fmul .f32 v4.1 (fadd .f32 1069547520 (fdiv .f32 (FloatKind.nearest .f32 v8) 1082130432))) (fdiv .f32 (FloatKind.nearest .f32 (IntKind.wrap .i64 (1 + v2))) 1082130432)))) .bad

noncomputable def wFnDepths_o4 (v1 : Nat × (Nat × (Nat × Nat))) (v2 : Int) (v3 : Nat × Bool) (v4 : Nat × Bool) (v5 : Nat × Bool) (v8 : Int) (v17 : Nat × Bool) (v18 : Nat × Bool) (v19 : Nat × Bool) : Tr (Bool) :=
  .br (osome (iTopAt v1.1 v1.2.1 v1.2.2.1 v1.2.2.2 (fmul .f32 v4.1 (fadd .f32 1069547520 (fdiv .f32 (FloatKind.nearest .f32 v8) 1082130432))))) (wFnDepths_o3 v1 v2 v3 v4 v5 v8 v17 v18 v19 (oget (iTopAt v1.1 v1.2.1 v1.2.2.1 v1.2.2.2 (fmul .f32 v4.1 (fadd .f32 1069547520 (fdiv .f32 (FloatKind.nearest .f32 v8) 1082130432)))))) .bad

noncomputable def wFnDepths_o5 (v1 : Nat × (Nat × (Nat × Nat))) (v2 : Int) (v3 : Nat × Bool) (v4 : Nat × Bool) (v5 : Nat × Bool) (v8 : Int) (v17 : Nat × Bool) (v18 : Nat × Bool) : Tr (Bool) :=
  .br (osome (iMiddleAt v1.1 v1.2.1 v1.2.2.1 v1.2.2.2 (fmul .f32 v4.1 (fadd .f32 1069547520 (fdiv .f32 (FloatKind.nearest .f32 v8) 1082130432))))) (wFnDepths_o4 v1 v2 v3 v4 v5 v8 v17 v18 (oget (iMiddleAt v1.1 v1.2.1 v1.2.2.1 v1.2.2.2 (fmul .f32 v4.1 (fadd .f32 1069547520 (fdiv .f32 (FloatKind.nearest .f32 v8) 1082130432)))))) .bad

noncomputable def wFnDepths_o6 (v1 : Nat × (Nat × (Nat × Nat))) (v2 : Int) (v3 : Nat × Bool) (v4 : Nat × Bool) (v5 : Nat × Bool) (v8 : Int) (v17 : Nat × Bool) : Tr (Bool) :=
  .br (osome (iWetAt v1.1 v1.2.1 v1.2.2.1 v1.2.2.2 (fmul .f32 v4.1 (fadd .f32 1069547520 (fdiv .f32 (FloatKind.nearest .f32 v8) 1082130432))))) (wFnDepths_o5 v1 v2 v3 v4 v5 v8 v17 (oget (iWetAt v1.1 v1.2.1 v1.2.2.1 v1.2.2.2 (fmul .f32 v4.1 (fadd .f32 1069547520 (fdiv .f32 (FloatKind.nearest .f32 v8) 1082130432)))))) .bad

noncomputable def wFnDepths_o7 (v1 : Nat × (Nat × (Nat × Nat))) (v2 : Int) (v3 : Nat × Bool) (v4 : Nat × Bool) (v5 : Nat × Bool) (v8 : Int) (v13 : Nat × Bool) (v14 : Nat × Bool) (v15 : Nat × Bool) (v16 : Nat × Bool) : Tr (Bool) :=
  .br (!v13.2) (.ok false) (.br (!v14.2) (.ok false) (.br (!v15.2) (.ok false) (.br (!v16.2) (.ok false) (.br (flt .f32 v13.1 v4.1) (.ok false) (.br (fgt .f64 (wr8Gap (fup v14.1) (fup v15.1)) (fmul .f64 4581421828931458171 (fadd .f64 4607182418800017408 (fup v14.1)))) (.ok false) (.br (flt .f64 (fup v16.1) 13800290266158863483) (.ok false) (.br (osome (iAreaAt v1.1 v1.2.1 v1.2.2.1 v1.2.2.2 (fmul .f32 v4.1 (fadd .f32 1069547520 (fdiv .f32 (FloatKind.nearest .f32 v8) 1082130432))))) (wFnDepths_o6 v1 v2 v3 v4 v5 v8 (oget (iAreaAt v1.1 v1.2.1 v1.2.2.1 v1.2.2.2 (fmul .f32 v4.1 (fadd .f32 1069547520 (fdiv .f32 (FloatKind.nearest .f32 v8) 1082130432)))))) .bad)))))))

noncomputable def wFnDepths_o8 (v1 : Nat × (Nat × (Nat × Nat))) (v2 : Int) (v3 : Nat × Bool) (v4 : Nat × Bool) (v5 : Nat × Bool) (v8 : Int) (v13 : Nat × Bool) (v14 : Nat × Bool) (v15 : Nat × Bool) : Tr (Bool) :=
  .br (osome (iJumpLoss v1.1 v1.2.1 v1.2.2.1 v1.2.2.2 (fmul .f32 v4.1 1061158912) (fdiv .f32 (FloatKind.nearest .f32 (IntKind.wrap .i64 (1 + v2))) 1082130432))) (wFnDepths_o7 v1 v2 v3 v4 v5 v8 v13 v14 v15 (oget (iJumpLoss v1.1 v1.2.1 v1.2.2.1 v1.2.2.2 (fmul .f32 v4.1 1061158912) (fdiv .f32 (FloatKind.nearest .f32 (IntKind.wrap .i64 (1 + v2))) 1082130432)))) .bad

noncomputable def wFnDepths_o9 (v1 : Nat × (Nat × (Nat × Nat))) (v2 : Int) (v3 : Nat × Bool) (v4 : Nat × Bool) (v5 : Nat × Bool) (v8 : Int) (v13 : Nat × Bool) (v14 : Nat × Bool) : Tr (Bool) :=
  .br (osome (iPushAt v1.1 v1.2.1 v1.2.2.1 v1.2.2.2 v13.1 (fdiv .f32 (FloatKind.nearest .f32 (IntKind.wrap .i64 (1 + v2))) 1082130432))) (wFnDepths_o8 v1 v2 v3 v4 v5 v8 v13 v14 (oget (iPushAt v1.1 v1.2.1 v1.2.2.1 v1.2.2.2 v13.1 (fdiv .f32 (FloatKind.nearest .f32 (IntKind.wrap .i64 (1 + v2))) 1082130432)))) .bad

noncomputable def wFnDepths_o10 (v1 : Nat × (Nat × (Nat × Nat))) (v2 : Int) (v3 : Nat × Bool) (v4 : Nat × Bool) (v5 : Nat × Bool) (v8 : Int) (v13 : Nat × Bool) : Tr (Bool) :=
  .br (osome (iPushAt v1.1 v1.2.1 v1.2.2.1 v1.2.2.2 (fmul .f32 v4.1 1061158912) (fdiv .f32 (FloatKind.nearest .f32 (IntKind.wrap .i64 (1 + v2))) 1082130432))) (wFnDepths_o9 v1 v2 v3 v4 v5 v8 v13 (oget (iPushAt v1.1 v1.2.1 v1.2.2.1 v1.2.2.2 (fmul .f32 v4.1 1061158912) (fdiv .f32 (FloatKind.nearest .f32 (IntKind.wrap .i64 (1 + v2))) 1082130432)))) .bad

noncomputable def wFnDepths_o11 (v1 : Nat × (Nat × (Nat × Nat))) (v2 : Int) (v5 : Nat × Bool) (v27 : Nat × Bool) (v28 : Nat × Bool) (v29 : Nat × Bool) (v30 : Nat × Bool) (v31 : Nat × Bool) (v32 : Nat × Bool) : Tr (Bool) :=
  .br v27.2 (.br v28.2 (.br v29.2 (.br v30.2 (.br v31.2 (.br v32.2 (.br (fge .f32 v28.1 (fsub .f32 v30.1 v1.1)) (.br (flt .f64 (wr8Gap (fmul .f64 (fup v29.1) (fup v28.1)) (fup v27.1)) (fmul .f64 4562254508917369340 (fadd .f64 4607182418800017408 (fup v27.1)))) (.br (flt .f64 (wr8Gap (fmul .f64 (fup v31.1) (fup v27.1)) (fup (fdiv .f32 (FloatKind.nearest .f32 (IntKind.wrap .i64 (1 + v2))) 1082130432))) (fmul .f64 4562254508917369340 (fadd .f64 4607182418800017408 (fup (fdiv .f32 (FloatKind.nearest .f32 (IntKind.wrap .i64 (1 + v2))) 1082130432))))) (.ok (fgt .f32 v32.1 v5.1)) (.ok false)) (.ok false)) (.ok false)) (.ok false)) (.ok false)) (.ok false)) (.ok false)) (.ok false)) (.ok false)

noncomputable def wFnDepths_o12 (v1 : Nat × (Nat × (Nat × Nat))) (v2 : Int) (v3 : Nat × Bool) (v5 : Nat × Bool) (v27 : Nat × Bool) (v28 : Nat × Bool) (v29 : Nat × Bool) (v30 : Nat × Bool) (v31 : Nat × Bool) : Tr (Bool) :=
  .br (osome (iFlowAt v1.1 v1.2.1 v1.2.2.1 v1.2.2.2 (fmul .f32 v3.1 1073741824))) (wFnDepths_o11 v1 v2 v5 v27 v28 v29 v30 v31 (oget (iFlowAt v1.1 v1.2.1 v1.2.2.1 v1.2.2.2 (fmul .f32 v3.1 1073741824)))) .bad

noncomputable def wFnDepths_o13 (v1 : Nat × (Nat × (Nat × Nat))) (v2 : Int) (v3 : Nat × Bool) (v4 : Nat × Bool) (v5 : Nat × Bool) (v8 : Int) (v27 : Nat × Bool) (v28 : Nat × Bool) (v29 : Nat × Bool) (v30 : Nat × Bool) : Tr (Bool) :=
  .br (osome (iSpeedAt v1.1 v1.2.1 v1.2.2.1 v1.2.2.2 (fmul .f32 v4.1 (fadd .f32 1069547520 (fdiv .f32 (FloatKind.nearest .f32 v8) 1082130432))) (fdiv .f32 (FloatKind.nearest .f32 (IntKind.wrap .i64 (1 + v2))) 1082130432))) (wFnDepths_o12 v1 v2 v3 v5 v27 v28 v29 v30 (oget (iSpeedAt v1.1 v1.2.1 v1.2.2.1 v1.2.2.2 (fmul .f32 v4.1 (fadd .f32 1069547520 (fdiv .f32 (FloatKind.nearest .f32 v8) 1082130432))) (fdiv .f32 (FloatKind.nearest .f32 (IntKind.wrap .i64 (1 + v2))) 1082130432)))) .bad

noncomputable def wFnDepths_o14 (v1 : Nat × (Nat × (Nat × Nat))) (v2 : Int) (v3 : Nat × Bool) (v4 : Nat × Bool) (v5 : Nat × Bool) (v8 : Int) (v27 : Nat × Bool) (v28 : Nat × Bool) (v29 : Nat × Bool) : Tr (Bool) :=
  .br (osome (iTopAt v1.1 v1.2.1 v1.2.2.1 v1.2.2.2 (fmul .f32 v4.1 (fadd .f32 1069547520 (fdiv .f32 (FloatKind.nearest .f32 v8) 1082130432))))) (wFnDepths_o13 v1 v2 v3 v4 v5 v8 v27 v28 v29 (oget (iTopAt v1.1 v1.2.1 v1.2.2.1 v1.2.2.2 (fmul .f32 v4.1 (fadd .f32 1069547520 (fdiv .f32 (FloatKind.nearest .f32 v8) 1082130432)))))) .bad

noncomputable def wFnDepths_o15 (v1 : Nat × (Nat × (Nat × Nat))) (v2 : Int) (v3 : Nat × Bool) (v4 : Nat × Bool) (v5 : Nat × Bool) (v8 : Int) (v27 : Nat × Bool) (v28 : Nat × Bool) : Tr (Bool) :=
  .br (osome (iMiddleAt v1.1 v1.2.1 v1.2.2.1 v1.2.2.2 (fmul .f32 v4.1 (fadd .f32 1069547520 (fdiv .f32 (FloatKind.nearest .f32 v8) 1082130432))))) (wFnDepths_o14 v1 v2 v3 v4 v5 v8 v27 v28 (oget (iMiddleAt v1.1 v1.2.1 v1.2.2.1 v1.2.2.2 (fmul .f32 v4.1 (fadd .f32 1069547520 (fdiv .f32 (FloatKind.nearest .f32 v8) 1082130432)))))) .bad

noncomputable def wFnDepths_o16 (v1 : Nat × (Nat × (Nat × Nat))) (v2 : Int) (v3 : Nat × Bool) (v4 : Nat × Bool) (v5 : Nat × Bool) (v8 : Int) (v27 : Nat × Bool) : Tr (Bool) :=
  .br (osome (iWetAt v1.1 v1.2.1 v1.2.2.1 v1.2.2.2 (fmul .f32 v4.1 (fadd .f32 1069547520 (fdiv .f32 (FloatKind.nearest .f32 v8) 1082130432))))) (wFnDepths_o15 v1 v2 v3 v4 v5 v8 v27 (oget (iWetAt v1.1 v1.2.1 v1.2.2.1 v1.2.2.2 (fmul .f32 v4.1 (fadd .f32 1069547520 (fdiv .f32 (FloatKind.nearest .f32 v8) 1082130432)))))) .bad

noncomputable def wFnDepths_o17 (v1 : Nat × (Nat × (Nat × Nat))) (v2 : Int) (v3 : Nat × Bool) (v4 : Nat × Bool) (v5 : Nat × Bool) (v8 : Int) (v23 : Nat × Bool) (v24 : Nat × Bool) (v25 : Nat × Bool) (v26 : Nat × Bool) : Tr (Bool) :=
  .br (!v23.2) (.ok false) (.br (!v24.2) (.ok false) (.br (!v25.2) (.ok false) (.br (!v26.2) (.ok false) (.br (flt .f32 v23.1 v4.1) (.ok false) (.br (fgt .f64 (wr8Gap (fup v24.1) (fup v25.1)) (fmul .f64 4581421828931458171 (fadd .f64 4607182418800017408 (fup v24.1)))) (.ok false) (.br (flt .f64 (fup v26.1) 13800290266158863483) (.ok false) (.br (osome (iAreaAt v1.1 v1.2.1 v1.2.2.1 v1.2.2.2 (fmul .f32 v4.1 (fadd .f32 1069547520 (fdiv .f32 (FloatKind.nearest .f32 v8) 1082130432))))) (wFnDepths_o16 v1 v2 v3 v4 v5 v8 (oget (iAreaAt v1.1 v1.2.1 v1.2.2.1 v1.2.2.2 (fmul .f32 v4.1 (fadd .f32 1069547520 (fdiv .f32 (FloatKind.nearest .f32 v8) 1082130432)))))) .bad)))))))

noncomputable def wFnDepths_o18 (v1 : Nat × (Nat × (Nat × Nat))) (v2 : Int) (v3 : Nat × Bool) (v4 : Nat × Bool) (v5 : Nat × Bool) (v8 : Int) (v23 : Nat × Bool) (v24 : Nat × Bool) (v25 : Nat × Bool) : Tr (Bool) :=
  .br (osome (iJumpLoss v1.1 v1.2.1 v1.2.2.1 v1.2.2.2 (fmul .f32 v4.1 1061158912) (fdiv .f32 (FloatKind.nearest .f32 (IntKind.wrap .i64 (1 + v2))) 1082130432))) (wFnDepths_o17 v1 v2 v3 v4 v5 v8 v23 v24 v25 (oget (iJumpLoss v1.1 v1.2.1 v1.2.2.1 v1.2.2.2 (fmul .f32 v4.1 1061158912) (fdiv .f32 (FloatKind.nearest .f32 (IntKind.wrap .i64 (1 + v2))) 1082130432)))) .bad

noncomputable def wFnDepths_o19 (v1 : Nat × (Nat × (Nat × Nat))) (v2 : Int) (v3 : Nat × Bool) (v4 : Nat × Bool) (v5 : Nat × Bool) (v8 : Int) (v23 : Nat × Bool) (v24 : Nat × Bool) : Tr (Bool) :=
  .br (osome (iPushAt v1.1 v1.2.1 v1.2.2.1 v1.2.2.2 v23.1 (fdiv .f32 (FloatKind.nearest .f32 (IntKind.wrap .i64 (1 + v2))) 1082130432))) (wFnDepths_o18 v1 v2 v3 v4 v5 v8 v23 v24 (oget (iPushAt v1.1 v1.2.1 v1.2.2.1 v1.2.2.2 v23.1 (fdiv .f32 (FloatKind.nearest .f32 (IntKind.wrap .i64 (1 + v2))) 1082130432)))) .bad

noncomputable def wFnDepths_o20 (v1 : Nat × (Nat × (Nat × Nat))) (v2 : Int) (v3 : Nat × Bool) (v4 : Nat × Bool) (v5 : Nat × Bool) (v8 : Int) (v23 : Nat × Bool) : Tr (Bool) :=
  .br (osome (iPushAt v1.1 v1.2.1 v1.2.2.1 v1.2.2.2 (fmul .f32 v4.1 1061158912) (fdiv .f32 (FloatKind.nearest .f32 (IntKind.wrap .i64 (1 + v2))) 1082130432))) (wFnDepths_o19 v1 v2 v3 v4 v5 v8 v23 (oget (iPushAt v1.1 v1.2.1 v1.2.2.1 v1.2.2.2 (fmul .f32 v4.1 1061158912) (fdiv .f32 (FloatKind.nearest .f32 (IntKind.wrap .i64 (1 + v2))) 1082130432)))) .bad

noncomputable def wFnDepths_o21 (v1 : Nat × (Nat × (Nat × Nat))) (v2 : Int) (v3 : Nat × Bool) (v4 : Nat × Bool) (v5 : Nat × Bool) (v8 : Int) (v9 : Nat × Bool) (v10 : Nat × Bool) (v11 : Nat × Bool) (v12 : Nat × Bool) : Tr (Bool) :=
  .br (!v9.2) (.ok false) (.br (!v10.2) (.ok false) (.br (!v11.2) (.ok false) (.br (!v12.2) (.ok false) (.br (fgt .f32 v9.1 v4.1) (.ok false) (.br (fgt .f32 v9.1 990057071) (.br (fgt .f64 (wr8Gap (fup v10.1) (fup v11.1)) (fmul .f64 4581421828931458171 (fadd .f64 4607182418800017408 (fup v10.1)))) (.ok false) (.br (fgt .f64 (fup v12.1) (fadd .f64 (fup v10.1) 4562254508917369340)) (.ok false) (.br (osome (iJumpDepth v1.1 v1.2.1 v1.2.2.1 v1.2.2.2 (fmul .f32 v4.1 1061158912) (fdiv .f32 (FloatKind.nearest .f32 (IntKind.wrap .i64 (1 + v2))) 1082130432))) (wFnDepths_o10 v1 v2 v3 v4 v5 v8 (oget (iJumpDepth v1.1 v1.2.1 v1.2.2.1 v1.2.2.2 (fmul .f32 v4.1 1061158912) (fdiv .f32 (FloatKind.nearest .f32 (IntKind.wrap .i64 (1 + v2))) 1082130432)))) .bad))) (.br (fgt .f64 (fup v12.1) (fadd .f64 (fup v10.1) 4562254508917369340)) (.ok false) (.br (osome (iJumpDepth v1.1 v1.2.1 v1.2.2.1 v1.2.2.2 (fmul .f32 v4.1 1061158912) (fdiv .f32 (FloatKind.nearest .f32 (IntKind.wrap .i64 (1 + v2))) 1082130432))) (wFnDepths_o20 v1 v2 v3 v4 v5 v8 (oget (iJumpDepth v1.1 v1.2.1 v1.2.2.1 v1.2.2.2 (fmul .f32 v4.1 1061158912) (fdiv .f32 (FloatKind.nearest .f32 (IntKind.wrap .i64 (1 + v2))) 1082130432)))) .bad)))))))

noncomputable def wFnDepths_o22 (v1 : Nat × (Nat × (Nat × Nat))) (v2 : Int) (v3 : Nat × Bool) (v4 : Nat × Bool) (v5 : Nat × Bool) (v8 : Int) (v9 : Nat × Bool) (v10 : Nat × Bool) (v11 : Nat × Bool) : Tr (Bool) :=
  .br (osome (iHeadAt v1.1 v1.2.1 v1.2.2.1 v1.2.2.2 v4.1 (fdiv .f32 (FloatKind.nearest .f32 (IntKind.wrap .i64 (1 + v2))) 1082130432))) (wFnDepths_o21 v1 v2 v3 v4 v5 v8 v9 v10 v11 (oget (iHeadAt v1.1 v1.2.1 v1.2.2.1 v1.2.2.2 v4.1 (fdiv .f32 (FloatKind.nearest .f32 (IntKind.wrap .i64 (1 + v2))) 1082130432)))) .bad

noncomputable def wFnDepths_o23 (v1 : Nat × (Nat × (Nat × Nat))) (v2 : Int) (v3 : Nat × Bool) (v4 : Nat × Bool) (v5 : Nat × Bool) (v8 : Int) (v9 : Nat × Bool) (v10 : Nat × Bool) : Tr (Bool) :=
  .br (osome (iHeadAt v1.1 v1.2.1 v1.2.2.1 v1.2.2.2 v9.1 (fdiv .f32 (FloatKind.nearest .f32 (IntKind.wrap .i64 (1 + v2))) 1082130432))) (wFnDepths_o22 v1 v2 v3 v4 v5 v8 v9 v10 (oget (iHeadAt v1.1 v1.2.1 v1.2.2.1 v1.2.2.2 v9.1 (fdiv .f32 (FloatKind.nearest .f32 (IntKind.wrap .i64 (1 + v2))) 1082130432)))) .bad

noncomputable def wFnDepths_o24 (v1 : Nat × (Nat × (Nat × Nat))) (v2 : Int) (v3 : Nat × Bool) (v4 : Nat × Bool) (v5 : Nat × Bool) (v8 : Int) (v9 : Nat × Bool) : Tr (Bool) :=
  .br (osome (iHeadAt v1.1 v1.2.1 v1.2.2.1 v1.2.2.2 (fmul .f32 v4.1 (fadd .f32 1069547520 (fdiv .f32 (FloatKind.nearest .f32 v8) 1082130432))) (fdiv .f32 (FloatKind.nearest .f32 (IntKind.wrap .i64 (1 + v2))) 1082130432))) (wFnDepths_o23 v1 v2 v3 v4 v5 v8 v9 (oget (iHeadAt v1.1 v1.2.1 v1.2.2.1 v1.2.2.2 (fmul .f32 v4.1 (fadd .f32 1069547520 (fdiv .f32 (FloatKind.nearest .f32 v8) 1082130432))) (fdiv .f32 (FloatKind.nearest .f32 (IntKind.wrap .i64 (1 + v2))) 1082130432)))) .bad

noncomputable def wFnDepths_o25 (v1 : Nat × (Nat × (Nat × Nat))) (v2 : Int) (v3 : Nat × Bool) (v4 : Nat × Bool) (v5 : Nat × Bool) (v8 : Int) : Tr (Bool) :=
  .br (osome (iOtherDepth v1.1 v1.2.1 v1.2.2.1 v1.2.2.2 (fmul .f32 v4.1 (fadd .f32 1069547520 (fdiv .f32 (FloatKind.nearest .f32 v8) 1082130432))) (fdiv .f32 (FloatKind.nearest .f32 (IntKind.wrap .i64 (1 + v2))) 1082130432))) (wFnDepths_o24 v1 v2 v3 v4 v5 v8 (oget (iOtherDepth v1.1 v1.2.1 v1.2.2.1 v1.2.2.2 (fmul .f32 v4.1 (fadd .f32 1069547520 (fdiv .f32 (FloatKind.nearest .f32 v8) 1082130432))) (fdiv .f32 (FloatKind.nearest .f32 (IntKind.wrap .i64 (1 + v2))) 1082130432)))) .bad

noncomputable def wFnDepths_o26 (x1 : List Int) (v1 : Nat × (Nat × (Nat × Nat))) (v2 : Int) (v3 : Nat × Bool) (v4 : Nat × Bool) (v5 : Nat × Bool) (v6 : Nat × Bool) (v7 : Bool × Bool) : Tr (Bool) :=
  .br (!v3.2) (.ok false) (.br (!v4.2) (.ok false) (.br (!v5.2) (.ok false) (.br (!v6.2) (.ok false) (.br (!v7.2) (.ok false) (.br (fgt .f64 (wr8Gap (fup v5.1) (fup (fdiv .f32 (FloatKind.nearest .f32 (IntKind.wrap .i64 (1 + v2))) 1082130432))) (fmul .f64 4576918229304087675 (fadd .f64 4607182418800017408 (fup (fdiv .f32 (FloatKind.nearest .f32 (IntKind.wrap .i64 (1 + v2))) 1082130432))))) (.ok false) (.br (fgt .f64 (wr8Gap (fup v6.1) 4607182418800017408) 4576918229304087675) (.ok false) (.br (! (v7.1 == (fgt .f32 v3.1 v4.1))) (.ok false) (.br (osome (wr8At x1 1 8)) (wFnDepths_o25 v1 v2 v3 v4 v5 (oget (wr8At x1 1 8))) .bad))))))))

noncomputable def wFnDepths_o27 (x1 : List Int) (v1 : Nat × (Nat × (Nat × Nat))) (v2 : Int) (v3 : Nat × Bool) (v4 : Nat × Bool) (v5 : Nat × Bool) (v6 : Nat × Bool) : Tr (Bool) :=
  .br (osome (iIsMild v1.1 v1.2.1 v1.2.2.1 v1.2.2.2 (fdiv .f32 (FloatKind.nearest .f32 (IntKind.wrap .i64 (1 + v2))) 1082130432))) (wFnDepths_o26 x1 v1 v2 v3 v4 v5 v6 (oget (iIsMild v1.1 v1.2.1 v1.2.2.1 v1.2.2.2 (fdiv .f32 (FloatKind.nearest .f32 (IntKind.wrap .i64 (1 + v2))) 1082130432)))) .bad

noncomputable def wFnDepths_o28 (x1 : List Int) (v1 : Nat × (Nat × (Nat × Nat))) (v2 : Int) (v3 : Nat × Bool) (v4 : Nat × Bool) (v5 : Nat × Bool) : Tr (Bool) :=
  .br (osome (iSwiftnessAt v1.1 v1.2.1 v1.2.2.1 v1.2.2.2 v4.1 (fdiv .f32 (FloatKind.nearest .f32 (IntKind.wrap .i64 (1 + v2))) 1082130432))) (wFnDepths_o27 x1 v1 v2 v3 v4 v5 (oget (iSwiftnessAt v1.1 v1.2.1 v1.2.2.1 v1.2.2.2 v4.1 (fdiv .f32 (FloatKind.nearest .f32 (IntKind.wrap .i64 (1 + v2))) 1082130432)))) .bad

noncomputable def wFnDepths_o29 (x1 : List Int) (v1 : Nat × (Nat × (Nat × Nat))) (v2 : Int) (v3 : Nat × Bool) (v4 : Nat × Bool) : Tr (Bool) :=
  .br (osome (iFlowAt v1.1 v1.2.1 v1.2.2.1 v1.2.2.2 v3.1)) (wFnDepths_o28 x1 v1 v2 v3 v4 (oget (iFlowAt v1.1 v1.2.1 v1.2.2.1 v1.2.2.2 v3.1))) .bad

noncomputable def wFnDepths_o30 (x1 : List Int) (v1 : Nat × (Nat × (Nat × Nat))) (v2 : Int) (v3 : Nat × Bool) : Tr (Bool) :=
  .br (osome (iCriticalDepth v1.1 v1.2.1 v1.2.2.1 v1.2.2.2 (fdiv .f32 (FloatKind.nearest .f32 (IntKind.wrap .i64 (1 + v2))) 1082130432))) (wFnDepths_o29 x1 v1 v2 v3 (oget (iCriticalDepth v1.1 v1.2.1 v1.2.2.1 v1.2.2.2 (fdiv .f32 (FloatKind.nearest .f32 (IntKind.wrap .i64 (1 + v2))) 1082130432)))) .bad

noncomputable def wFnDepths_o31 (x1 : List Int) (v1 : Nat × (Nat × (Nat × Nat))) (v2 : Int) : Tr (Bool) :=
  .br (osome (iNormalDepth v1.1 v1.2.1 v1.2.2.1 v1.2.2.2 (fdiv .f32 (FloatKind.nearest .f32 (IntKind.wrap .i64 (1 + v2))) 1082130432))) (wFnDepths_o30 x1 v1 v2 (oget (iNormalDepth v1.1 v1.2.1 v1.2.2.1 v1.2.2.2 (fdiv .f32 (FloatKind.nearest .f32 (IntKind.wrap .i64 (1 + v2))) 1082130432)))) .bad

noncomputable def wFnDepths_o32 (x1 : List Int) (v1 : Nat × (Nat × (Nat × Nat))) : Tr (Bool) :=
  .br (osome (wr8At x1 0 32)) (wFnDepths_o31 x1 v1 (oget (wr8At x1 0 32))) .bad

noncomputable def wFnDepths_t (x0 : List Int) (x1 : List Int) : Tr (Bool) :=
  .br (wr8Long x0 x1) (.ok true) (.br (osome (sR8Section x0)) (wFnDepths_o32 x1 (oget (sR8Section x0))) .bad)

noncomputable def wFnDepths (x0 : List Int) (x1 : List Int) : Option (Bool) := (wFnDepths_t x0 x1).sem
end Go.Proofs.Ytpglfnkkmafhbaa
