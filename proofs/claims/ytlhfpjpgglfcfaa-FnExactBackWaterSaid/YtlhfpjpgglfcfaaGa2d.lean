/- Functions, as plain functions. Plain functions. -/
import Derived.Test.YtlhfpjpgglfcfaaGa1d
set_option linter.unusedVariables false
set_option linter.unusedSimpArgs false
set_option linter.constructorNameAsVariable false
namespace Go.Proofs.Ytlhfpjpgglfcfaa
open Go.RowKit
set_option maxRecDepth 100000
noncomputable def sCriticalDepth_t (x0 : Nat) (x1 : Nat) (x2 : Nat) (x3 : Nat) (x4 : Nat) : Tr (Nat × Bool) :=
  .br (! (sl04Is x0 x1 x2 x3)) (.ok (0, false)) (.br (! (isLen x4)) (.ok (0, false)) (.br (osome (sl04Critical x0 x1 x2 x3 x4)) (.ok ((oget (sl04Critical x0 x1 x2 x3 x4)).1, (oget (sl04Critical x0 x1 x2 x3 x4)).2)) .bad))

noncomputable def sCriticalDepth (x0 : Nat) (x1 : Nat) (x2 : Nat) (x3 : Nat) (x4 : Nat) : Option (Nat × Bool) := (sCriticalDepth_t x0 x1 x2 x3 x4).sem

noncomputable def sHeadAt_t (x0 : Nat) (x1 : Nat) (x2 : Nat) (x3 : Nat) (x4 : Nat) (x5 : Nat) : Tr (Nat × Bool) :=
  .br (! (sl04Both x0 x1 x2 x3 x4 x5)) (.ok (0, false)) (.ok ((sl04Head x0 x1 x2 x3 x4 x5).1, (sl04Head x0 x1 x2 x3 x4 x5).2))

noncomputable def sHeadAt (x0 : Nat) (x1 : Nat) (x2 : Nat) (x3 : Nat) (x4 : Nat) (x5 : Nat) : Nat × Bool := (sHeadAt_t x0 x1 x2 x3 x4 x5).val

noncomputable def sJumpLoss_t (x0 : Nat) (x1 : Nat) (x2 : Nat) (x3 : Nat) (x4 : Nat) (x5 : Nat) : Tr (Nat × Bool) :=
  .br (osome (sJumpDepth x0 x1 x2 x3 x4 x5)) (.br (osome (sCriticalDepth x0 x1 x2 x3 x5)) (.br (! ((oget (sJumpDepth x0 x1 x2 x3 x4 x5)).2)) (.ok (0, false)) (.br (! ((oget (sCriticalDepth x0 x1 x2 x3 x5)).2)) (.ok (0, false)) (.br (! (flt .f32 x4 ((oget (sCriticalDepth x0 x1 x2 x3 x5)).1))) (.ok (0, false)) (.br (! ((sHeadAt x0 x1 x2 x3 x4 x5).2)) (.ok (0, false)) (.br (! ((sHeadAt x0 x1 x2 x3 ((oget (sJumpDepth x0 x1 x2 x3 x4 x5)).1) x5).2)) (.ok (0, false)) (.ok ((sl02Number (fsub .f32 ((sHeadAt x0 x1 x2 x3 x4 x5).1) ((sHeadAt x0 x1 x2 x3 ((oget (sJumpDepth x0 x1 x2 x3 x4 x5)).1) x5).1))).1, (sl02Number (fsub .f32 ((sHeadAt x0 x1 x2 x3 x4 x5).1) ((sHeadAt x0 x1 x2 x3 ((oget (sJumpDepth x0 x1 x2 x3 x4 x5)).1) x5).1))).2))))))) .bad) .bad

noncomputable def sJumpLoss (x0 : Nat) (x1 : Nat) (x2 : Nat) (x3 : Nat) (x4 : Nat) (x5 : Nat) : Option (Nat × Bool) := (sJumpLoss_t x0 x1 x2 x3 x4 x5).sem

noncomputable def iJumpLoss_t (x0 : Nat) (x1 : Nat) (x2 : Nat) (x3 : Nat) (x4 : Nat) (x5 : Nat) : Tr (Nat × Bool) :=
  .br (osome (iCriticalDepth x0 x1 x2 x3 x5)) (.br (osome (iJumpDepth x0 x1 x2 x3 x4 x5)) (.br (! ((oget (iCriticalDepth x0 x1 x2 x3 x5)).2)) (.ok (0, false)) (.br (! ((oget (iJumpDepth x0 x1 x2 x3 x4 x5)).2)) (.ok (0, false)) (.br (! (flt .f32 x4 ((oget (iCriticalDepth x0 x1 x2 x3 x5)).1))) (.ok (0, false)) (.br (osome (iHeadAt x0 x1 x2 x3 x4 x5)) (.br (osome (iHeadAt x0 x1 x2 x3 ((oget (iJumpDepth x0 x1 x2 x3 x4 x5)).1) x5)) (.br (! ((oget (iHeadAt x0 x1 x2 x3 x4 x5)).2)) (.ok (0, false)) (.br (! ((oget (iHeadAt x0 x1 x2 x3 ((oget (iJumpDepth x0 x1 x2 x3 x4 x5)).1) x5)).2)) (.ok (0, false)) (.ok ((ifinite32 (fsub .f32 ((oget (iHeadAt x0 x1 x2 x3 x4 x5)).1) ((oget (iHeadAt x0 x1 x2 x3 ((oget (iJumpDepth x0 x1 x2 x3 x4 x5)).1) x5)).1))).1, (ifinite32 (fsub .f32 ((oget (iHeadAt x0 x1 x2 x3 x4 x5)).1) ((oget (iHeadAt x0 x1 x2 x3 ((oget (iJumpDepth x0 x1 x2 x3 x4 x5)).1) x5)).1))).2)))) .bad) .bad)))) .bad) .bad

noncomputable def iJumpLoss (x0 : Nat) (x1 : Nat) (x2 : Nat) (x3 : Nat) (x4 : Nat) (x5 : Nat) : Option (Nat × Bool) := (iJumpLoss_t x0 x1 x2 x3 x4 x5).sem

noncomputable def wFnExactJumpLoss_t (x0 : Nat) (x1 : Nat) (x2 : Nat) (x3 : Nat) (x4 : Nat) (x5 : Nat) : Tr (Bool) :=
  .br (osome (sJumpLoss ((wtoSection x0 x1 x2 x3).1) (((wtoSection x0 x1 x2 x3).2).1) ((((wtoSection x0 x1 x2 x3).2).2).1) ((((wtoSection x0 x1 x2 x3).2).2).2) x4 x5)) (.br (osome (iJumpLoss ((wtoSection x0 x1 x2 x3).1) (((wtoSection x0 x1 x2 x3).2).1) ((((wtoSection x0 x1 x2 x3).2).2).1) ((((wtoSection x0 x1 x2 x3).2).2).2) x4 x5)) (.br (natEq (fup ((oget (iJumpLoss ((wtoSection x0 x1 x2 x3).1) (((wtoSection x0 x1 x2 x3).2).1) ((((wtoSection x0 x1 x2 x3).2).2).1) ((((wtoSection x0 x1 x2 x3).2).2).2) x4 x5)).1)) (fup ((oget (sJumpLoss ((wtoSection x0 x1 x2 x3).1) (((wtoSection x0 x1 x2 x3).2).1) ((((wtoSection x0 x1 x2 x3).2).2).1) ((((wtoSection x0 x1 x2 x3).2).2).2) x4 x5)).1))) (.br (! (((oget (iJumpLoss ((wtoSection x0 x1 x2 x3).1) (((wtoSection x0 x1 x2 x3).2).1) ((((wtoSection x0 x1 x2 x3).2).2).1) ((((wtoSection x0 x1 x2 x3).2).2).2) x4 x5)).2) == ((oget (sJumpLoss ((wtoSection x0 x1 x2 x3).1) (((wtoSection x0 x1 x2 x3).2).1) ((((wtoSection x0 x1 x2 x3).2).2).1) ((((wtoSection x0 x1 x2 x3).2).2).2) x4 x5)).2))) (.ok false) (.ok true)) .bad) .bad) .bad

noncomputable def wFnExactJumpLoss (x0 : Nat) (x1 : Nat) (x2 : Nat) (x3 : Nat) (x4 : Nat) (x5 : Nat) : Option (Bool) := (wFnExactJumpLoss_t x0 x1 x2 x3 x4 x5).sem

noncomputable def sl04Wet_t (x0 : Nat) (x1 : Nat) (x2 : Nat) (x3 : Nat) (x4 : Nat) : Tr (Nat) :=
  .ok (fadd .f32 x0 (fmul .f32 (fmul .f32 1073741824 x4) (froot (fadd .f32 1065353216 (fmul .f32 x1 x1)))))

noncomputable def sl04Wet (x0 : Nat) (x1 : Nat) (x2 : Nat) (x3 : Nat) (x4 : Nat) : Nat := (sl04Wet_t x0 x1 x2 x3 x4).val

noncomputable def sl04Middle_t (x0 : Nat) (x1 : Nat) (x2 : Nat) (x3 : Nat) (x4 : Nat) : Tr (Nat × Bool) :=
  .br ((sl02Number (fdiv .f32 (sl04Area x0 x1 x2 x3 x4) (sl04Wet x0 x1 x2 x3 x4))).2) (.br (isFin .f32 (sl04Area x0 x1 x2 x3 x4)) (.ok ((sl02Number (fdiv .f32 (sl04Area x0 x1 x2 x3 x4) (sl04Wet x0 x1 x2 x3 x4))).1, isFin .f32 (sl04Wet x0 x1 x2 x3 x4))) (.ok ((sl02Number (fdiv .f32 (sl04Area x0 x1 x2 x3 x4) (sl04Wet x0 x1 x2 x3 x4))).1, false))) (.ok ((sl02Number (fdiv .f32 (sl04Area x0 x1 x2 x3 x4) (sl04Wet x0 x1 x2 x3 x4))).1, false))

noncomputable def sl04Middle (x0 : Nat) (x1 : Nat) (x2 : Nat) (x3 : Nat) (x4 : Nat) : Nat × Bool := (sl04Middle_t x0 x1 x2 x3 x4).val

noncomputable def mNaN_t  : Tr (Nat) :=
  .ok 9221120237041090561

noncomputable def mNaN  : Nat := (mNaN_t ).val

noncomputable def mInf_t (x0 : Int) : Tr (Nat) :=
  .br (decide ((x0 : Int) ≥ 0)) (.ok 9218868437227405312) (.ok 18442240474082181120)

noncomputable def mInf (x0 : Int) : Nat := (mInf_t x0).val

noncomputable def mIsInf_t (x0 : Nat) (x1 : Int) : Tr (Bool) :=
  .br ((x1 : Int) == 0) (.ok (fgt .f64 (fabs .f64 x0) 9218868437227405311)) (.br (decide ((x1 : Int) < 0)) (.ok (fgt .f64 (fneg .f64 x0) 9218868437227405311)) (.ok (fgt .f64 x0 9218868437227405311)))

noncomputable def mIsInf (x0 : Nat) (x1 : Int) : Bool := (mIsInf_t x0 x1).val

noncomputable def sl01LogWide_l8_t  (y0 : Nat) (y1 : Int) : Tr ((Nat × Int) ⊕ (Nat × Int)) :=
  .br (fge .f64 y0 4609434218613702656) (.ok (.inl (fdiv .f64 y0 4611686018427387904, IntKind.wrap .i64 (y1 + 1)))) (.ok (.inr (y0, y1)))

noncomputable def sl01LogWide_l8 (y0 : Nat) (y1 : Int) : Option (Nat × Int) := runL (fun s : Nat × Int => (sl01LogWide_l8_t  s.1 s.2).sem) (y0, y1)

noncomputable def sl01LogWide_l11_t  (y0 : Nat) (y1 : Int) : Tr ((Nat × Int) ⊕ (Nat × Int)) :=
  .br (flt .f64 y0 4604930618986332160) (.ok (.inl (fmul .f64 y0 4611686018427387904, IntKind.wrap .i64 (y1 - 1)))) (.ok (.inr (y0, y1)))

noncomputable def sl01LogWide_l11 (y0 : Nat) (y1 : Int) : Option (Nat × Int) := runL (fun s : Nat × Int => (sl01LogWide_l11_t  s.1 s.2).sem) (y0, y1)

noncomputable def sl01LogWide_l18_t (y0 : Int) (y1 : Nat) (y2 : Nat) (y3 : Nat) (y4 : Int) : Tr ((Nat × Int) ⊕ (Int × Nat × Nat)) :=
  .br (decide ((y4 : Int) ≥ 1)) (.ok (.inl (fadd .f64 (fdiv .f64 4607182418800017408 (FloatKind.nearest .f64 y4)) (fmul .f64 y2 y3), IntKind.wrap .i64 (y4 - 2)))) (.ok (.inr (y0, y1, y3)))

noncomputable def sl01LogWide_l18 (y0 : Int) (y1 : Nat) (y2 : Nat) (y3 : Nat) (y4 : Int) : Option (Int × Nat × Nat) := runL (fun s : Nat × Int => (sl01LogWide_l18_t y0 y1 y2 s.1 s.2).sem) (y3, y4)

noncomputable def sl01LogWide_t (x0 : Nat) : Tr (Nat) :=
  .br (! (feq .f64 x0 x0)) (.ok mNaN) (.br (flt .f64 x0 0) (.ok mNaN) (.br (feq .f64 x0 0) (.ok (mInf (-1))) (.br (mIsInf x0 1) (.ok x0) (.br (osome (sl01LogWide_l8 x0 0)) (.br (osome (sl01LogWide_l11 ((oget (sl01LogWide_l8 x0 0)).1) ((oget (sl01LogWide_l8 x0 0)).2))) (.br (osome (sl01LogWide_l18 ((oget (sl01LogWide_l11 ((oget (sl01LogWide_l8 x0 0)).1) ((oget (sl01LogWide_l8 x0 0)).2))).2) (fdiv .f64 (fsub .f64 ((oget (sl01LogWide_l11 ((oget (sl01LogWide_l8 x0 0)).1) ((oget (sl01LogWide_l8 x0 0)).2))).1) 4607182418800017408) (fadd .f64 ((oget (sl01LogWide_l11 ((oget (sl01LogWide_l8 x0 0)).1) ((oget (sl01LogWide_l8 x0 0)).2))).1) 4607182418800017408)) (fmul .f64 (fdiv .f64 (fsub .f64 ((oget (sl01LogWide_l11 ((oget (sl01LogWide_l8 x0 0)).1) ((oget (sl01LogWide_l8 x0 0)).2))).1) 4607182418800017408) (fadd .f64 ((oget (sl01LogWide_l11 ((oget (sl01LogWide_l8 x0 0)).1) ((oget (sl01LogWide_l8 x0 0)).2))).1) 4607182418800017408)) (fdiv .f64 (fsub .f64 ((oget (sl01LogWide_l11 ((oget (sl01LogWide_l8 x0 0)).1) ((oget (sl01LogWide_l8 x0 0)).2))).1) 4607182418800017408) (fadd .f64 ((oget (sl01LogWide_l11 ((oget (sl01LogWide_l8 x0 0)).1) ((oget (sl01LogWide_l8 x0 0)).2))).1) 4607182418800017408))) 0 25)) (.ok (fadd .f64 (fmul .f64 4611686018427387904 (fmul .f64 (((oget (sl01LogWide_l18 ((oget (sl01LogWide_l11 ((oget (sl01LogWide_l8 x0 0)).1) ((oget (sl01LogWide_l8 x0 0)).2))).2) (fdiv .f64 (fsub .f64 ((oget (sl01LogWide_l11 ((oget (sl01LogWide_l8 x0 0)).1) ((oget (sl01LogWide_l8 x0 0)).2))).1) 4607182418800017408) (fadd .f64 ((oget (sl01LogWide_l11 ((oget (sl01LogWide_l8 x0 0)).1) ((oget (sl01LogWide_l8 x0 0)).2))).1) 4607182418800017408)) (fmul .f64 (fdiv .f64 (fsub .f64 ((oget (sl01LogWide_l11 ((oget (sl01LogWide_l8 x0 0)).1) ((oget (sl01LogWide_l8 x0 0)).2))).1) 4607182418800017408) (fadd .f64 ((oget (sl01LogWide_l11 ((oget (sl01LogWide_l8 x0 0)).1) ((oget (sl01LogWide_l8 x0 0)).2))).1) 4607182418800017408)) (fdiv .f64 (fsub .f64 ((oget (sl01LogWide_l11 ((oget (sl01LogWide_l8 x0 0)).1) ((oget (sl01LogWide_l8 x0 0)).2))).1) 4607182418800017408) (fadd .f64 ((oget (sl01LogWide_l11 ((oget (sl01LogWide_l8 x0 0)).1) ((oget (sl01LogWide_l8 x0 0)).2))).1) 4607182418800017408))) 0 25)).2).1) (((oget (sl01LogWide_l18 ((oget (sl01LogWide_l11 ((oget (sl01LogWide_l8 x0 0)).1) ((oget (sl01LogWide_l8 x0 0)).2))).2) (fdiv .f64 (fsub .f64 ((oget (sl01LogWide_l11 ((oget (sl01LogWide_l8 x0 0)).1) ((oget (sl01LogWide_l8 x0 0)).2))).1) 4607182418800017408) (fadd .f64 ((oget (sl01LogWide_l11 ((oget (sl01LogWide_l8 x0 0)).1) ((oget (sl01LogWide_l8 x0 0)).2))).1) 4607182418800017408)) (fmul .f64 (fdiv .f64 (fsub .f64 ((oget (sl01LogWide_l11 ((oget (sl01LogWide_l8 x0 0)).1) ((oget (sl01LogWide_l8 x0 0)).2))).1) 4607182418800017408) (fadd .f64 ((oget (sl01LogWide_l11 ((oget (sl01LogWide_l8 x0 0)).1) ((oget (sl01LogWide_l8 x0 0)).2))).1) 4607182418800017408)) (fdiv .f64 (fsub .f64 ((oget (sl01LogWide_l11 ((oget (sl01LogWide_l8 x0 0)).1) ((oget (sl01LogWide_l8 x0 0)).2))).1) 4607182418800017408) (fadd .f64 ((oget (sl01LogWide_l11 ((oget (sl01LogWide_l8 x0 0)).1) ((oget (sl01LogWide_l8 x0 0)).2))).1) 4607182418800017408))) 0 25)).2).2))) (fmul .f64 (FloatKind.nearest .f64 ((oget (sl01LogWide_l18 ((oget (sl01LogWide_l11 ((oget (sl01LogWide_l8 x0 0)).1) ((oget (sl01LogWide_l8 x0 0)).2))).2) (fdiv .f64 (fsub .f64 ((oget (sl01LogWide_l11 ((oget (sl01LogWide_l8 x0 0)).1) ((oget (sl01LogWide_l8 x0 0)).2))).1) 4607182418800017408) (fadd .f64 ((oget (sl01LogWide_l11 ((oget (sl01LogWide_l8 x0 0)).1) ((oget (sl01LogWide_l8 x0 0)).2))).1) 4607182418800017408)) (fmul .f64 (fdiv .f64 (fsub .f64 ((oget (sl01LogWide_l11 ((oget (sl01LogWide_l8 x0 0)).1) ((oget (sl01LogWide_l8 x0 0)).2))).1) 4607182418800017408) (fadd .f64 ((oget (sl01LogWide_l11 ((oget (sl01LogWide_l8 x0 0)).1) ((oget (sl01LogWide_l8 x0 0)).2))).1) 4607182418800017408)) (fdiv .f64 (fsub .f64 ((oget (sl01LogWide_l11 ((oget (sl01LogWide_l8 x0 0)).1) ((oget (sl01LogWide_l8 x0 0)).2))).1) 4607182418800017408) (fadd .f64 ((oget (sl01LogWide_l11 ((oget (sl01LogWide_l8 x0 0)).1) ((oget (sl01LogWide_l8 x0 0)).2))).1) 4607182418800017408))) 0 25)).1)) 4604418534313441775))) .bad) .bad) .bad))))

noncomputable def sl01LogWide (x0 : Nat) : Option (Nat) := (sl01LogWide_t x0).sem

noncomputable def sl01Narrow_t (x0 : Nat) : Tr (Nat) :=
  .br (! (fover x0)) (.ok (fdown x0)) .bad

noncomputable def sl01Narrow (x0 : Nat) : Option (Nat) := (sl01Narrow_t x0).sem

noncomputable def sl01Log_t (x0 : Nat) : Tr (Nat) :=
  .br (osome (sl01LogWide (fup x0))) (.br (osome (sl01Narrow (oget (sl01LogWide (fup x0))))) (.ok (oget (sl01Narrow (oget (sl01LogWide (fup x0)))))) .bad) .bad

noncomputable def sl01Log (x0 : Nat) : Option (Nat) := (sl01Log_t x0).sem

noncomputable def sl01ExpWide_l10_t (y0 : Nat) (y1 : Nat) (y2 : Int) : Tr ((Nat × Int) ⊕ Nat) :=
  .br (decide ((y2 : Int) ≥ 1)) (.ok (.inl (fadd .f64 4607182418800017408 (fdiv .f64 (fmul .f64 y0 y1) (FloatKind.nearest .f64 y2)), IntKind.wrap .i64 (y2 - 1)))) (.ok (.inr y1))

noncomputable def sl01ExpWide_l10 (y0 : Nat) (y1 : Nat) (y2 : Int) : Option (Nat) := runL (fun s : Nat × Int => (sl01ExpWide_l10_t y0 s.1 s.2).sem) (y1, y2)

noncomputable def sl01ExpWide_l14_t  (y0 : Nat) (y1 : Int) : Tr ((Nat × Int) ⊕ Nat) :=
  .br (decide ((y1 : Int) < 8)) (.ok (.inl (fmul .f64 y0 y0, IntKind.wrap .i64 (y1 + 1)))) (.ok (.inr y0))

noncomputable def sl01ExpWide_l14 (y0 : Nat) (y1 : Int) : Option (Nat) := runL (fun s : Nat × Int => (sl01ExpWide_l14_t  s.1 s.2).sem) (y0, y1)

noncomputable def sl01ExpWide_t (x0 : Nat) : Tr (Nat) :=
  .br (! (feq .f64 x0 x0)) (.ok x0) (.br (fgt .f64 x0 4641240890982006784) (.ok (mInf 1)) (.br (flt .f64 x0 13864612927836782592) (.ok 0) (.br (osome (sl01ExpWide_l10 (fdiv .f64 x0 4643211215818981376) 4607182418800017408 12)) (.br (osome (sl01ExpWide_l14 (oget (sl01ExpWide_l10 (fdiv .f64 x0 4643211215818981376) 4607182418800017408 12)) 0)) (.ok (oget (sl01ExpWide_l14 (oget (sl01ExpWide_l10 (fdiv .f64 x0 4643211215818981376) 4607182418800017408 12)) 0))) .bad) .bad)))

noncomputable def sl01ExpWide (x0 : Nat) : Option (Nat) := (sl01ExpWide_t x0).sem

noncomputable def sl01Exp_t (x0 : Nat) : Tr (Nat) :=
  .br (osome (sl01ExpWide (fup x0))) (.br (osome (sl01Narrow (oget (sl01ExpWide (fup x0))))) (.ok (oget (sl01Narrow (oget (sl01ExpWide (fup x0)))))) .bad) .bad

noncomputable def sl01Exp (x0 : Nat) : Option (Nat) := (sl01Exp_t x0).sem

noncomputable def sl04Flow_t (x0 : Nat) (x1 : Nat) (x2 : Nat) (x3 : Nat) (x4 : Nat) : Tr (Nat × Bool) :=
  .br (! ((sl04Middle x0 x1 x2 x3 x4).2)) (.ok (0, false)) (.br (osome (sl01Log ((sl04Middle x0 x1 x2 x3 x4).1))) (.br (osome (sl01Exp (fmul .f32 1059760811 (oget (sl01Log ((sl04Middle x0 x1 x2 x3 x4).1)))))) (.ok ((sl02Number (fdiv .f32 (fmul .f32 (fmul .f32 (sl04Area x0 x1 x2 x3 x4) (oget (sl01Exp (fmul .f32 1059760811 (oget (sl01Log ((sl04Middle x0 x1 x2 x3 x4).1))))))) (froot x2)) x3)).1, (sl02Number (fdiv .f32 (fmul .f32 (fmul .f32 (sl04Area x0 x1 x2 x3 x4) (oget (sl01Exp (fmul .f32 1059760811 (oget (sl01Log ((sl04Middle x0 x1 x2 x3 x4).1))))))) (froot x2)) x3)).2)) .bad) .bad)

noncomputable def sl04Flow (x0 : Nat) (x1 : Nat) (x2 : Nat) (x3 : Nat) (x4 : Nat) : Option (Nat × Bool) := (sl04Flow_t x0 x1 x2 x3 x4).sem

noncomputable def sFlowAt_t (x0 : Nat) (x1 : Nat) (x2 : Nat) (x3 : Nat) (x4 : Nat) : Tr (Nat × Bool) :=
  .br (! (sl04Can x0 x1 x2 x3 x4)) (.ok (0, false)) (.br (osome (sl04Flow x0 x1 x2 x3 x4)) (.ok ((oget (sl04Flow x0 x1 x2 x3 x4)).1, (oget (sl04Flow x0 x1 x2 x3 x4)).2)) .bad)

noncomputable def sFlowAt (x0 : Nat) (x1 : Nat) (x2 : Nat) (x3 : Nat) (x4 : Nat) : Option (Nat × Bool) := (sFlowAt_t x0 x1 x2 x3 x4).sem

noncomputable def iWetAt_t (x0 : Nat) (x1 : Nat) (x2 : Nat) (x3 : Nat) (x4 : Nat) : Tr (Nat × Bool) :=
  .br (osome (iSection_isFlow x0 x1 x2 x3 [x4])) (.br (! (oget (iSection_isFlow x0 x1 x2 x3 [x4]))) (.ok (0, false)) (.ok ((ifinite32 (fadd .f32 x0 (fmul .f32 (fmul .f32 1073741824 x4) (froot (fadd .f32 1065353216 (fmul .f32 x1 x1)))))).1, (ifinite32 (fadd .f32 x0 (fmul .f32 (fmul .f32 1073741824 x4) (froot (fadd .f32 1065353216 (fmul .f32 x1 x1)))))).2))) .bad

noncomputable def iWetAt (x0 : Nat) (x1 : Nat) (x2 : Nat) (x3 : Nat) (x4 : Nat) : Option (Nat × Bool) := (iWetAt_t x0 x1 x2 x3 x4).sem

noncomputable def iMiddleAt_t (x0 : Nat) (x1 : Nat) (x2 : Nat) (x3 : Nat) (x4 : Nat) : Tr (Nat × Bool) :=
  .br (osome (iAreaAt x0 x1 x2 x3 x4)) (.br (osome (iWetAt x0 x1 x2 x3 x4)) (.br (! ((oget (iAreaAt x0 x1 x2 x3 x4)).2)) (.ok (0, false)) (.br (! ((oget (iWetAt x0 x1 x2 x3 x4)).2)) (.ok (0, false)) (.ok ((ifinite32 (fdiv .f32 ((oget (iAreaAt x0 x1 x2 x3 x4)).1) ((oget (iWetAt x0 x1 x2 x3 x4)).1))).1, (ifinite32 (fdiv .f32 ((oget (iAreaAt x0 x1 x2 x3 x4)).1) ((oget (iWetAt x0 x1 x2 x3 x4)).1))).2)))) .bad) .bad

noncomputable def iMiddleAt (x0 : Nat) (x1 : Nat) (x2 : Nat) (x3 : Nat) (x4 : Nat) : Option (Nat × Bool) := (iMiddleAt_t x0 x1 x2 x3 x4).sem

noncomputable def inaturalLog_l2_t  (y0 : Nat) (y1 : Nat) : Tr ((Nat × Nat) ⊕ (Nat × Nat)) :=
  .br (fge .f64 y0 4609434218613702656) (.ok (.inl (fdiv .f64 y0 4611686018427387904, fadd .f64 y1 4607182418800017408))) (.ok (.inr (y0, y1)))

noncomputable def inaturalLog_l2 (y0 : Nat) (y1 : Nat) : Option (Nat × Nat) := runL (fun s : Nat × Nat => (inaturalLog_l2_t  s.1 s.2).sem) (y0, y1)

noncomputable def inaturalLog_l4_t  (y0 : Nat) (y1 : Nat) : Tr ((Nat × Nat) ⊕ (Nat × Nat)) :=
  .br (flt .f64 y0 4604930618986332160) (.ok (.inl (fmul .f64 y0 4611686018427387904, fsub .f64 y1 4607182418800017408))) (.ok (.inr (y0, y1)))

noncomputable def inaturalLog_l4 (y0 : Nat) (y1 : Nat) : Option (Nat × Nat) := runL (fun s : Nat × Nat => (inaturalLog_l4_t  s.1 s.2).sem) (y0, y1)

noncomputable def inaturalLog_l9_t (y0 : Nat) (y1 : Nat) (y2 : Nat) (y3 : Nat) (y4 : Int) : Tr ((Nat × Int) ⊕ (Nat × Nat × Nat)) :=
  .br (decide ((y4 : Int) ≥ 1)) (.ok (.inl (fadd .f64 (fdiv .f64 4607182418800017408 (FloatKind.nearest .f64 y4)) (fmul .f64 y2 y3), IntKind.wrap .i64 (y4 - 2)))) (.ok (.inr (y0, y1, y3)))

noncomputable def inaturalLog_l9 (y0 : Nat) (y1 : Nat) (y2 : Nat) (y3 : Nat) (y4 : Int) : Option (Nat × Nat × Nat) := runL (fun s : Nat × Int => (inaturalLog_l9_t y0 y1 y2 s.1 s.2).sem) (y3, y4)

noncomputable def inaturalLog_t (x0 : Nat) : Tr (Nat) :=
  .br (osome (inaturalLog_l2 x0 0)) (.br (osome (inaturalLog_l4 ((oget (inaturalLog_l2 x0 0)).1) ((oget (inaturalLog_l2 x0 0)).2))) (.br (osome (inaturalLog_l9 ((oget (inaturalLog_l4 ((oget (inaturalLog_l2 x0 0)).1) ((oget (inaturalLog_l2 x0 0)).2))).2) (fdiv .f64 (fsub .f64 ((oget (inaturalLog_l4 ((oget (inaturalLog_l2 x0 0)).1) ((oget (inaturalLog_l2 x0 0)).2))).1) 4607182418800017408) (fadd .f64 ((oget (inaturalLog_l4 ((oget (inaturalLog_l2 x0 0)).1) ((oget (inaturalLog_l2 x0 0)).2))).1) 4607182418800017408)) (fmul .f64 (fdiv .f64 (fsub .f64 ((oget (inaturalLog_l4 ((oget (inaturalLog_l2 x0 0)).1) ((oget (inaturalLog_l2 x0 0)).2))).1) 4607182418800017408) (fadd .f64 ((oget (inaturalLog_l4 ((oget (inaturalLog_l2 x0 0)).1) ((oget (inaturalLog_l2 x0 0)).2))).1) 4607182418800017408)) (fdiv .f64 (fsub .f64 ((oget (inaturalLog_l4 ((oget (inaturalLog_l2 x0 0)).1) ((oget (inaturalLog_l2 x0 0)).2))).1) 4607182418800017408) (fadd .f64 ((oget (inaturalLog_l4 ((oget (inaturalLog_l2 x0 0)).1) ((oget (inaturalLog_l2 x0 0)).2))).1) 4607182418800017408))) 0 25)) (.ok (fadd .f64 (fmul .f64 4611686018427387904 (fmul .f64 (((oget (inaturalLog_l9 ((oget (inaturalLog_l4 ((oget (inaturalLog_l2 x0 0)).1) ((oget (inaturalLog_l2 x0 0)).2))).2) (fdiv .f64 (fsub .f64 ((oget (inaturalLog_l4 ((oget (inaturalLog_l2 x0 0)).1) ((oget (inaturalLog_l2 x0 0)).2))).1) 4607182418800017408) (fadd .f64 ((oget (inaturalLog_l4 ((oget (inaturalLog_l2 x0 0)).1) ((oget (inaturalLog_l2 x0 0)).2))).1) 4607182418800017408)) (fmul .f64 (fdiv .f64 (fsub .f64 ((oget (inaturalLog_l4 ((oget (inaturalLog_l2 x0 0)).1) ((oget (inaturalLog_l2 x0 0)).2))).1) 4607182418800017408) (fadd .f64 ((oget (inaturalLog_l4 ((oget (inaturalLog_l2 x0 0)).1) ((oget (inaturalLog_l2 x0 0)).2))).1) 4607182418800017408)) (fdiv .f64 (fsub .f64 ((oget (inaturalLog_l4 ((oget (inaturalLog_l2 x0 0)).1) ((oget (inaturalLog_l2 x0 0)).2))).1) 4607182418800017408) (fadd .f64 ((oget (inaturalLog_l4 ((oget (inaturalLog_l2 x0 0)).1) ((oget (inaturalLog_l2 x0 0)).2))).1) 4607182418800017408))) 0 25)).2).1) (((oget (inaturalLog_l9 ((oget (inaturalLog_l4 ((oget (inaturalLog_l2 x0 0)).1) ((oget (inaturalLog_l2 x0 0)).2))).2) (fdiv .f64 (fsub .f64 ((oget (inaturalLog_l4 ((oget (inaturalLog_l2 x0 0)).1) ((oget (inaturalLog_l2 x0 0)).2))).1) 4607182418800017408) (fadd .f64 ((oget (inaturalLog_l4 ((oget (inaturalLog_l2 x0 0)).1) ((oget (inaturalLog_l2 x0 0)).2))).1) 4607182418800017408)) (fmul .f64 (fdiv .f64 (fsub .f64 ((oget (inaturalLog_l4 ((oget (inaturalLog_l2 x0 0)).1) ((oget (inaturalLog_l2 x0 0)).2))).1) 4607182418800017408) (fadd .f64 ((oget (inaturalLog_l4 ((oget (inaturalLog_l2 x0 0)).1) ((oget (inaturalLog_l2 x0 0)).2))).1) 4607182418800017408)) (fdiv .f64 (fsub .f64 ((oget (inaturalLog_l4 ((oget (inaturalLog_l2 x0 0)).1) ((oget (inaturalLog_l2 x0 0)).2))).1) 4607182418800017408) (fadd .f64 ((oget (inaturalLog_l4 ((oget (inaturalLog_l2 x0 0)).1) ((oget (inaturalLog_l2 x0 0)).2))).1) 4607182418800017408))) 0 25)).2).2))) (fmul .f64 ((oget (inaturalLog_l9 ((oget (inaturalLog_l4 ((oget (inaturalLog_l2 x0 0)).1) ((oget (inaturalLog_l2 x0 0)).2))).2) (fdiv .f64 (fsub .f64 ((oget (inaturalLog_l4 ((oget (inaturalLog_l2 x0 0)).1) ((oget (inaturalLog_l2 x0 0)).2))).1) 4607182418800017408) (fadd .f64 ((oget (inaturalLog_l4 ((oget (inaturalLog_l2 x0 0)).1) ((oget (inaturalLog_l2 x0 0)).2))).1) 4607182418800017408)) (fmul .f64 (fdiv .f64 (fsub .f64 ((oget (inaturalLog_l4 ((oget (inaturalLog_l2 x0 0)).1) ((oget (inaturalLog_l2 x0 0)).2))).1) 4607182418800017408) (fadd .f64 ((oget (inaturalLog_l4 ((oget (inaturalLog_l2 x0 0)).1) ((oget (inaturalLog_l2 x0 0)).2))).1) 4607182418800017408)) (fdiv .f64 (fsub .f64 ((oget (inaturalLog_l4 ((oget (inaturalLog_l2 x0 0)).1) ((oget (inaturalLog_l2 x0 0)).2))).1) 4607182418800017408) (fadd .f64 ((oget (inaturalLog_l4 ((oget (inaturalLog_l2 x0 0)).1) ((oget (inaturalLog_l2 x0 0)).2))).1) 4607182418800017408))) 0 25)).1) 4604418534313441775))) .bad) .bad) .bad

noncomputable def inaturalLog (x0 : Nat) : Option (Nat) := (inaturalLog_t x0).sem

noncomputable def ilogarithm_t (x0 : Nat) : Tr (Nat) :=
  .br (osome (inaturalLog (fup x0))) (.ok (oget (inaturalLog (fup x0)))) .bad

noncomputable def ilogarithm (x0 : Nat) : Option (Nat) := (ilogarithm_t x0).sem

noncomputable def iLogNumber_t (x0 : Nat) : Tr (Nat) :=
  .br (! (feq .f32 x0 x0)) (.br (! (fover mNaN)) (.ok (fdown mNaN)) .bad) (.br (flt .f32 x0 0) (.br (! (fover mNaN)) (.ok (fdown mNaN)) .bad) (.br (feq .f32 x0 0) (.br (! (fover (mInf (-1)))) (.ok (fdown (mInf (-1)))) .bad) (.br (! (isFin .f32 x0)) (.ok x0) (.br (osome (ilogarithm x0)) (.br (! (fover (oget (ilogarithm x0)))) (.ok (fdown (oget (ilogarithm x0)))) .bad) .bad))))

noncomputable def iLogNumber (x0 : Nat) : Option (Nat) := (iLogNumber_t x0).sem

noncomputable def iExpNumber_l7_t (y0 : Nat) (y1 : Nat) (y2 : Int) : Tr ((Nat × Int) ⊕ Nat) :=
  .br (decide ((y2 : Int) ≥ 1)) (.ok (.inl (fadd .f64 4607182418800017408 (fdiv .f64 (fmul .f64 y0 y1) (FloatKind.nearest .f64 y2)), IntKind.wrap .i64 (y2 - 1)))) (.ok (.inr y1))

noncomputable def iExpNumber_l7 (y0 : Nat) (y1 : Nat) (y2 : Int) : Option (Nat) := runL (fun s : Nat × Int => (iExpNumber_l7_t y0 s.1 s.2).sem) (y1, y2)

noncomputable def iExpNumber_l11_t  (y0 : Nat) (y1 : Int) : Tr ((Nat × Int) ⊕ Nat) :=
  .br (decide ((y1 : Int) < 8)) (.ok (.inl (fmul .f64 y0 y0, IntKind.wrap .i64 (y1 + 1)))) (.ok (.inr y0))

noncomputable def iExpNumber_l11 (y0 : Nat) (y1 : Int) : Option (Nat) := runL (fun s : Nat × Int => (iExpNumber_l11_t  s.1 s.2).sem) (y0, y1)

noncomputable def iExpNumber_t (x0 : Nat) : Tr (Nat) :=
  .br (fgt .f32 x0 1128792064) (.br (! (fover (mInf 1))) (.ok (fdown (mInf 1))) .bad) (.br (flt .f32 x0 3276275712) (.ok 0) (.br (osome (iExpNumber_l7 (fdiv .f64 (fup x0) 4643211215818981376) 4607182418800017408 12)) (.br (osome (iExpNumber_l11 (oget (iExpNumber_l7 (fdiv .f64 (fup x0) 4643211215818981376) 4607182418800017408 12)) 0)) (.br (! (fover (oget (iExpNumber_l11 (oget (iExpNumber_l7 (fdiv .f64 (fup x0) 4643211215818981376) 4607182418800017408 12)) 0)))) (.ok (fdown (oget (iExpNumber_l11 (oget (iExpNumber_l7 (fdiv .f64 (fup x0) 4643211215818981376) 4607182418800017408 12)) 0)))) .bad) .bad) .bad))

noncomputable def iExpNumber (x0 : Nat) : Option (Nat) := (iExpNumber_t x0).sem

noncomputable def iFlowAt_t (x0 : Nat) (x1 : Nat) (x2 : Nat) (x3 : Nat) (x4 : Nat) : Tr (Nat × Bool) :=
  .br (osome (iAreaAt x0 x1 x2 x3 x4)) (.br (osome (iMiddleAt x0 x1 x2 x3 x4)) (.br (! ((oget (iAreaAt x0 x1 x2 x3 x4)).2)) (.ok (0, false)) (.br (! ((oget (iMiddleAt x0 x1 x2 x3 x4)).2)) (.ok (0, false)) (.br (osome (iLogNumber ((oget (iMiddleAt x0 x1 x2 x3 x4)).1))) (.br (osome (iExpNumber (fmul .f32 1059760811 (oget (iLogNumber ((oget (iMiddleAt x0 x1 x2 x3 x4)).1)))))) (.ok ((ifinite32 (fdiv .f32 (fmul .f32 (fmul .f32 ((oget (iAreaAt x0 x1 x2 x3 x4)).1) (oget (iExpNumber (fmul .f32 1059760811 (oget (iLogNumber ((oget (iMiddleAt x0 x1 x2 x3 x4)).1))))))) (froot x2)) x3)).1, (ifinite32 (fdiv .f32 (fmul .f32 (fmul .f32 ((oget (iAreaAt x0 x1 x2 x3 x4)).1) (oget (iExpNumber (fmul .f32 1059760811 (oget (iLogNumber ((oget (iMiddleAt x0 x1 x2 x3 x4)).1))))))) (froot x2)) x3)).2)) .bad) .bad))) .bad) .bad

noncomputable def iFlowAt (x0 : Nat) (x1 : Nat) (x2 : Nat) (x3 : Nat) (x4 : Nat) : Option (Nat × Bool) := (iFlowAt_t x0 x1 x2 x3 x4).sem

noncomputable def wFnExactFlowAt_t (x0 : Nat) (x1 : Nat) (x2 : Nat) (x3 : Nat) (x4 : Nat) : Tr (Bool) :=
  .br (osome (sFlowAt ((wtoSection x0 x1 x2 x3).1) (((wtoSection x0 x1 x2 x3).2).1) ((((wtoSection x0 x1 x2 x3).2).2).1) ((((wtoSection x0 x1 x2 x3).2).2).2) x4)) (.br (osome (iFlowAt ((wtoSection x0 x1 x2 x3).1) (((wtoSection x0 x1 x2 x3).2).1) ((((wtoSection x0 x1 x2 x3).2).2).1) ((((wtoSection x0 x1 x2 x3).2).2).2) x4)) (.br (natEq (fup ((oget (iFlowAt ((wtoSection x0 x1 x2 x3).1) (((wtoSection x0 x1 x2 x3).2).1) ((((wtoSection x0 x1 x2 x3).2).2).1) ((((wtoSection x0 x1 x2 x3).2).2).2) x4)).1)) (fup ((oget (sFlowAt ((wtoSection x0 x1 x2 x3).1) (((wtoSection x0 x1 x2 x3).2).1) ((((wtoSection x0 x1 x2 x3).2).2).1) ((((wtoSection x0 x1 x2 x3).2).2).2) x4)).1))) (.br (! (((oget (iFlowAt ((wtoSection x0 x1 x2 x3).1) (((wtoSection x0 x1 x2 x3).2).1) ((((wtoSection x0 x1 x2 x3).2).2).1) ((((wtoSection x0 x1 x2 x3).2).2).2) x4)).2) == ((oget (sFlowAt ((wtoSection x0 x1 x2 x3).1) (((wtoSection x0 x1 x2 x3).2).1) ((((wtoSection x0 x1 x2 x3).2).2).1) ((((wtoSection x0 x1 x2 x3).2).2).2) x4)).2))) (.ok false) (.ok true)) .bad) .bad) .bad

noncomputable def wFnExactFlowAt (x0 : Nat) (x1 : Nat) (x2 : Nat) (x3 : Nat) (x4 : Nat) : Option (Bool) := (wFnExactFlowAt_t x0 x1 x2 x3 x4).sem

noncomputable def sNormalDepth_l6_t (y0 : Nat) (y4 : Nat) (y5 : Nat) (y6 : Nat) (y7 : Nat) (y1 : Nat) (y2 : Nat) (y3 : Int) : Tr ((Nat × Nat × Int) ⊕ (Nat ⊕ Nat)) :=
  .br (decide ((y3 : Int) < 40)) (.br (osome (sFlowAt y4 y5 y6 y7 (fmul .f32 1056964608 (fadd .f32 y1 y2)))) (.br (! ((oget (sFlowAt y4 y5 y6 y7 (fmul .f32 1056964608 (fadd .f32 y1 y2)))).2)) (.ok (.inr (.inl 0))) (.br (fgt .f32 ((oget (sFlowAt y4 y5 y6 y7 (fmul .f32 1056964608 (fadd .f32 y1 y2)))).1) y0) (.ok (.inl (y1, fmul .f32 1056964608 (fadd .f32 y1 y2), IntKind.wrap .i64 (y3 + 1)))) (.ok (.inl (fmul .f32 1056964608 (fadd .f32 y1 y2), y2, IntKind.wrap .i64 (y3 + 1)))))) .bad) (.ok (.inr (.inr y2)))

noncomputable def sNormalDepth_l6 (y0 : Nat) (y1 : Nat) (y2 : Nat) (y3 : Int) (y4 : Nat) (y5 : Nat) (y6 : Nat) (y7 : Nat) : Option (Nat ⊕ Nat) := runL (fun s : Nat × Nat × Int => (sNormalDepth_l6_t y0 y4 y5 y6 y7 s.1 s.2.1 s.2.2).sem) (y1, y2, y3)

noncomputable def sNormalDepth_t (x0 : Nat) (x1 : Nat) (x2 : Nat) (x3 : Nat) (x4 : Nat) : Tr (Nat × Bool) :=
  .br (! (sl04Is x0 x1 x2 x3)) (.ok (0, false)) (.br (! (isLen x4)) (.ok (0, false)) (.br (osome (sNormalDepth_l6 x4 0 1148846080 0 x0 x1 x2 x3)) (.br (isL (oget (sNormalDepth_l6 x4 0 1148846080 0 x0 x1 x2 x3))) (.ok (unL (oget (sNormalDepth_l6 x4 0 1148846080 0 x0 x1 x2 x3)), false)) (.ok (unR (oget (sNormalDepth_l6 x4 0 1148846080 0 x0 x1 x2 x3)), true))) .bad))

noncomputable def sNormalDepth (x0 : Nat) (x1 : Nat) (x2 : Nat) (x3 : Nat) (x4 : Nat) : Option (Nat × Bool) := (sNormalDepth_t x0 x1 x2 x3 x4).sem

noncomputable def iNormalDepth_1_t (x0 : Nat) (x1 : Nat) (x2 : Nat) (x3 : Nat) (x4 : Nat) (x5 : Nat) : Tr (Bool × Bool) :=
  .br (osome (iFlowAt x1 x2 x3 x4 x0)) (.ok (fgt .f32 ((oget (iFlowAt x1 x2 x3 x4 x0)).1) x5, (oget (iFlowAt x1 x2 x3 x4 x0)).2)) .bad

noncomputable def iNormalDepth_1 (x0 : Nat) (x1 : Nat) (x2 : Nat) (x3 : Nat) (x4 : Nat) (x5 : Nat) : Option (Bool × Bool) := (iNormalDepth_1_t x0 x1 x2 x3 x4 x5).sem

noncomputable def ihalve_iNormalDepth_1_l2_t (y2 : Nat) (y3 : Nat) (y4 : Nat) (y5 : Nat) (y6 : Nat) (y0 : Nat) (y1 : Nat) (y7 : Int) : Tr ((Nat × Nat × Int) ⊕ ((Nat × Nat) ⊕ (Nat × Nat))) :=
  .br (decide ((y7 : Int) < 40)) (.br (osome (iNormalDepth_1 (fmul .f32 1056964608 (fadd .f32 y0 y1)) y2 y3 y4 y5 y6)) (.br (! ((oget (iNormalDepth_1 (fmul .f32 1056964608 (fadd .f32 y0 y1)) y2 y3 y4 y5 y6)).2)) (.ok (.inr (.inl (0, 0)))) (.br ((oget (iNormalDepth_1 (fmul .f32 1056964608 (fadd .f32 y0 y1)) y2 y3 y4 y5 y6)).1) (.ok (.inl (y0, fmul .f32 1056964608 (fadd .f32 y0 y1), IntKind.wrap .i64 (y7 + 1)))) (.ok (.inl (fmul .f32 1056964608 (fadd .f32 y0 y1), y1, IntKind.wrap .i64 (y7 + 1)))))) .bad) (.ok (.inr (.inr (y0, y1))))

noncomputable def ihalve_iNormalDepth_1_l2 (y0 : Nat) (y1 : Nat) (y2 : Nat) (y3 : Nat) (y4 : Nat) (y5 : Nat) (y6 : Nat) (y7 : Int) : Option ((Nat × Nat) ⊕ (Nat × Nat)) := runL (fun s : Nat × Nat × Int => (ihalve_iNormalDepth_1_l2_t y2 y3 y4 y5 y6 s.1 s.2.1 s.2.2).sem) (y0, y1, y7)

noncomputable def ihalve_iNormalDepth_1_t (x0 : Nat) (x1 : Nat) (x2 : Nat) (x3 : Nat) (x4 : Nat) (x5 : Nat) (x6 : Nat) : Tr (Nat × Nat × Bool) :=
  .br (osome (ihalve_iNormalDepth_1_l2 x0 x1 x2 x3 x4 x5 x6 0)) (.br (isL (oget (ihalve_iNormalDepth_1_l2 x0 x1 x2 x3 x4 x5 x6 0))) (.ok ((unL (oget (ihalve_iNormalDepth_1_l2 x0 x1 x2 x3 x4 x5 x6 0))).1, (unL (oget (ihalve_iNormalDepth_1_l2 x0 x1 x2 x3 x4 x5 x6 0))).2, false)) (.ok ((unR (oget (ihalve_iNormalDepth_1_l2 x0 x1 x2 x3 x4 x5 x6 0))).1, (unR (oget (ihalve_iNormalDepth_1_l2 x0 x1 x2 x3 x4 x5 x6 0))).2, true))) .bad

noncomputable def ihalve_iNormalDepth_1 (x0 : Nat) (x1 : Nat) (x2 : Nat) (x3 : Nat) (x4 : Nat) (x5 : Nat) (x6 : Nat) : Option (Nat × Nat × Bool) := (ihalve_iNormalDepth_1_t x0 x1 x2 x3 x4 x5 x6).sem

noncomputable def iNormalDepth_t (x0 : Nat) (x1 : Nat) (x2 : Nat) (x3 : Nat) (x4 : Nat) : Tr (Nat × Bool) :=
  .br (osome (iSection_isFlow x0 x1 x2 x3 [x4])) (.br (! (oget (iSection_isFlow x0 x1 x2 x3 [x4]))) (.ok (0, false)) (.br (osome (ihalve_iNormalDepth_1 0 1148846080 x0 x1 x2 x3 x4)) (.ok (((oget (ihalve_iNormalDepth_1 0 1148846080 x0 x1 x2 x3 x4)).2).1, ((oget (ihalve_iNormalDepth_1 0 1148846080 x0 x1 x2 x3 x4)).2).2)) .bad)) .bad

noncomputable def iNormalDepth (x0 : Nat) (x1 : Nat) (x2 : Nat) (x3 : Nat) (x4 : Nat) : Option (Nat × Bool) := (iNormalDepth_t x0 x1 x2 x3 x4).sem

noncomputable def wFnExactNormalDepth_t (x0 : Nat) (x1 : Nat) (x2 : Nat) (x3 : Nat) (x4 : Nat) : Tr (Bool) :=
  .br (osome (sNormalDepth ((wtoSection x0 x1 x2 x3).1) (((wtoSection x0 x1 x2 x3).2).1) ((((wtoSection x0 x1 x2 x3).2).2).1) ((((wtoSection x0 x1 x2 x3).2).2).2) x4)) (.br (osome (iNormalDepth ((wtoSection x0 x1 x2 x3).1) (((wtoSection x0 x1 x2 x3).2).1) ((((wtoSection x0 x1 x2 x3).2).2).1) ((((wtoSection x0 x1 x2 x3).2).2).2) x4)) (.br (natEq (fup ((oget (iNormalDepth ((wtoSection x0 x1 x2 x3).1) (((wtoSection x0 x1 x2 x3).2).1) ((((wtoSection x0 x1 x2 x3).2).2).1) ((((wtoSection x0 x1 x2 x3).2).2).2) x4)).1)) (fup ((oget (sNormalDepth ((wtoSection x0 x1 x2 x3).1) (((wtoSection x0 x1 x2 x3).2).1) ((((wtoSection x0 x1 x2 x3).2).2).1) ((((wtoSection x0 x1 x2 x3).2).2).2) x4)).1))) (.br (! (((oget (iNormalDepth ((wtoSection x0 x1 x2 x3).1) (((wtoSection x0 x1 x2 x3).2).1) ((((wtoSection x0 x1 x2 x3).2).2).1) ((((wtoSection x0 x1 x2 x3).2).2).2) x4)).2) == ((oget (sNormalDepth ((wtoSection x0 x1 x2 x3).1) (((wtoSection x0 x1 x2 x3).2).1) ((((wtoSection x0 x1 x2 x3).2).2).1) ((((wtoSection x0 x1 x2 x3).2).2).2) x4)).2))) (.ok false) (.ok true)) .bad) .bad) .bad

noncomputable def wFnExactNormalDepth (x0 : Nat) (x1 : Nat) (x2 : Nat) (x3 : Nat) (x4 : Nat) : Option (Bool) := (wFnExactNormalDepth_t x0 x1 x2 x3 x4).sem

noncomputable def sSpeedAt_t (x0 : Nat) (x1 : Nat) (x2 : Nat) (x3 : Nat) (x4 : Nat) (x5 : Nat) : Tr (Nat × Bool) :=
  .br (! (sl04Both x0 x1 x2 x3 x4 x5)) (.ok (0, false)) (.br (! ((sl04Speed x0 x1 x2 x3 x4 x5).2)) (.ok (0, false)) (.ok ((sl04Speed x0 x1 x2 x3 x4 x5).1, true)))

noncomputable def sSpeedAt (x0 : Nat) (x1 : Nat) (x2 : Nat) (x3 : Nat) (x4 : Nat) (x5 : Nat) : Nat × Bool := (sSpeedAt_t x0 x1 x2 x3 x4 x5).val

noncomputable def sMiddleAt_t (x0 : Nat) (x1 : Nat) (x2 : Nat) (x3 : Nat) (x4 : Nat) : Tr (Nat × Bool) :=
  .br (! (sl04Can x0 x1 x2 x3 x4)) (.ok (0, false)) (.br (! ((sl04Middle x0 x1 x2 x3 x4).2)) (.ok (0, false)) (.ok ((sl04Middle x0 x1 x2 x3 x4).1, true)))

noncomputable def sMiddleAt (x0 : Nat) (x1 : Nat) (x2 : Nat) (x3 : Nat) (x4 : Nat) : Nat × Bool := (sMiddleAt_t x0 x1 x2 x3 x4).val

noncomputable def sSteepnessAt_t (x0 : Nat) (x1 : Nat) (x2 : Nat) (x3 : Nat) (x4 : Nat) (x5 : Nat) : Tr (Nat × Bool) :=
  .br (! ((sSpeedAt x0 x1 x2 x3 x4 x5).2)) (.ok (0, false)) (.br (! ((sMiddleAt x0 x1 x2 x3 x4).2)) (.ok (0, false)) (.br (osome (sl01Log ((sMiddleAt x0 x1 x2 x3 x4).1))) (.br (osome (sl01Exp (fmul .f32 1068149419 (oget (sl01Log ((sMiddleAt x0 x1 x2 x3 x4).1)))))) (.ok ((sl02Number (fdiv .f32 (fmul .f32 (fmul .f32 x3 ((sSpeedAt x0 x1 x2 x3 x4 x5).1)) (fmul .f32 x3 ((sSpeedAt x0 x1 x2 x3 x4 x5).1))) (oget (sl01Exp (fmul .f32 1068149419 (oget (sl01Log ((sMiddleAt x0 x1 x2 x3 x4).1)))))))).1, (sl02Number (fdiv .f32 (fmul .f32 (fmul .f32 x3 ((sSpeedAt x0 x1 x2 x3 x4 x5).1)) (fmul .f32 x3 ((sSpeedAt x0 x1 x2 x3 x4 x5).1))) (oget (sl01Exp (fmul .f32 1068149419 (oget (sl01Log ((sMiddleAt x0 x1 x2 x3 x4).1)))))))).2)) .bad) .bad))

noncomputable def sSteepnessAt (x0 : Nat) (x1 : Nat) (x2 : Nat) (x3 : Nat) (x4 : Nat) (x5 : Nat) : Option (Nat × Bool) := (sSteepnessAt_t x0 x1 x2 x3 x4 x5).sem

noncomputable def iSteepnessAt_t (x0 : Nat) (x1 : Nat) (x2 : Nat) (x3 : Nat) (x4 : Nat) (x5 : Nat) : Tr (Nat × Bool) :=
  .br (osome (iSpeedAt x0 x1 x2 x3 x4 x5)) (.br (osome (iMiddleAt x0 x1 x2 x3 x4)) (.br (! ((oget (iSpeedAt x0 x1 x2 x3 x4 x5)).2)) (.ok (0, false)) (.br (! ((oget (iMiddleAt x0 x1 x2 x3 x4)).2)) (.ok (0, false)) (.br (osome (iLogNumber ((oget (iMiddleAt x0 x1 x2 x3 x4)).1))) (.br (osome (iExpNumber (fmul .f32 1068149419 (oget (iLogNumber ((oget (iMiddleAt x0 x1 x2 x3 x4)).1)))))) (.ok ((ifinite32 (fdiv .f32 (fmul .f32 (fmul .f32 x3 ((oget (iSpeedAt x0 x1 x2 x3 x4 x5)).1)) (fmul .f32 x3 ((oget (iSpeedAt x0 x1 x2 x3 x4 x5)).1))) (oget (iExpNumber (fmul .f32 1068149419 (oget (iLogNumber ((oget (iMiddleAt x0 x1 x2 x3 x4)).1)))))))).1, (ifinite32 (fdiv .f32 (fmul .f32 (fmul .f32 x3 ((oget (iSpeedAt x0 x1 x2 x3 x4 x5)).1)) (fmul .f32 x3 ((oget (iSpeedAt x0 x1 x2 x3 x4 x5)).1))) (oget (iExpNumber (fmul .f32 1068149419 (oget (iLogNumber ((oget (iMiddleAt x0 x1 x2 x3 x4)).1)))))))).2)) .bad) .bad))) .bad) .bad

noncomputable def iSteepnessAt (x0 : Nat) (x1 : Nat) (x2 : Nat) (x3 : Nat) (x4 : Nat) (x5 : Nat) : Option (Nat × Bool) := (iSteepnessAt_t x0 x1 x2 x3 x4 x5).sem

noncomputable def wFnExactSteepnessAt_t (x0 : Nat) (x1 : Nat) (x2 : Nat) (x3 : Nat) (x4 : Nat) (x5 : Nat) : Tr (Bool) :=
  .br (osome (sSteepnessAt ((wtoSection x0 x1 x2 x3).1) (((wtoSection x0 x1 x2 x3).2).1) ((((wtoSection x0 x1 x2 x3).2).2).1) ((((wtoSection x0 x1 x2 x3).2).2).2) x4 x5)) (.br (osome (iSteepnessAt ((wtoSection x0 x1 x2 x3).1) (((wtoSection x0 x1 x2 x3).2).1) ((((wtoSection x0 x1 x2 x3).2).2).1) ((((wtoSection x0 x1 x2 x3).2).2).2) x4 x5)) (.br (natEq (fup ((oget (iSteepnessAt ((wtoSection x0 x1 x2 x3).1) (((wtoSection x0 x1 x2 x3).2).1) ((((wtoSection x0 x1 x2 x3).2).2).1) ((((wtoSection x0 x1 x2 x3).2).2).2) x4 x5)).1)) (fup ((oget (sSteepnessAt ((wtoSection x0 x1 x2 x3).1) (((wtoSection x0 x1 x2 x3).2).1) ((((wtoSection x0 x1 x2 x3).2).2).1) ((((wtoSection x0 x1 x2 x3).2).2).2) x4 x5)).1))) (.br (! (((oget (iSteepnessAt ((wtoSection x0 x1 x2 x3).1) (((wtoSection x0 x1 x2 x3).2).1) ((((wtoSection x0 x1 x2 x3).2).2).1) ((((wtoSection x0 x1 x2 x3).2).2).2) x4 x5)).2) == ((oget (sSteepnessAt ((wtoSection x0 x1 x2 x3).1) (((wtoSection x0 x1 x2 x3).2).1) ((((wtoSection x0 x1 x2 x3).2).2).1) ((((wtoSection x0 x1 x2 x3).2).2).2) x4 x5)).2))) (.ok false) (.ok true)) .bad) .bad) .bad

noncomputable def wFnExactSteepnessAt (x0 : Nat) (x1 : Nat) (x2 : Nat) (x3 : Nat) (x4 : Nat) (x5 : Nat) : Option (Bool) := (wFnExactSteepnessAt_t x0 x1 x2 x3 x4 x5).sem

noncomputable def sIsMild_t (x0 : Nat) (x1 : Nat) (x2 : Nat) (x3 : Nat) (x4 : Nat) : Tr (Bool × Bool) :=
  .br (osome (sNormalDepth x0 x1 x2 x3 x4)) (.br (osome (sCriticalDepth x0 x1 x2 x3 x4)) (.br (! ((oget (sNormalDepth x0 x1 x2 x3 x4)).2)) (.ok (false, false)) (.br (! ((oget (sCriticalDepth x0 x1 x2 x3 x4)).2)) (.ok (false, false)) (.ok (fgt .f32 ((oget (sNormalDepth x0 x1 x2 x3 x4)).1) ((oget (sCriticalDepth x0 x1 x2 x3 x4)).1), true)))) .bad) .bad

noncomputable def sIsMild (x0 : Nat) (x1 : Nat) (x2 : Nat) (x3 : Nat) (x4 : Nat) : Option (Bool × Bool) := (sIsMild_t x0 x1 x2 x3 x4).sem

noncomputable def iIsMild_t (x0 : Nat) (x1 : Nat) (x2 : Nat) (x3 : Nat) (x4 : Nat) : Tr (Bool × Bool) :=
  .br (osome (iNormalDepth x0 x1 x2 x3 x4)) (.br (osome (iCriticalDepth x0 x1 x2 x3 x4)) (.br ((oget (iNormalDepth x0 x1 x2 x3 x4)).2) (.br ((oget (iCriticalDepth x0 x1 x2 x3 x4)).2) (.br ((oget (iNormalDepth x0 x1 x2 x3 x4)).2) (.ok (fgt .f32 ((oget (iNormalDepth x0 x1 x2 x3 x4)).1) ((oget (iCriticalDepth x0 x1 x2 x3 x4)).1), (oget (iCriticalDepth x0 x1 x2 x3 x4)).2)) (.ok (fgt .f32 ((oget (iNormalDepth x0 x1 x2 x3 x4)).1) ((oget (iCriticalDepth x0 x1 x2 x3 x4)).1), false))) (.br ((oget (iNormalDepth x0 x1 x2 x3 x4)).2) (.ok (false, (oget (iCriticalDepth x0 x1 x2 x3 x4)).2)) (.ok (false, false)))) (.br ((oget (iNormalDepth x0 x1 x2 x3 x4)).2) (.ok (false, (oget (iCriticalDepth x0 x1 x2 x3 x4)).2)) (.ok (false, false)))) .bad) .bad

noncomputable def iIsMild (x0 : Nat) (x1 : Nat) (x2 : Nat) (x3 : Nat) (x4 : Nat) : Option (Bool × Bool) := (iIsMild_t x0 x1 x2 x3 x4).sem

noncomputable def wFnExactIsMild_t (x0 : Nat) (x1 : Nat) (x2 : Nat) (x3 : Nat) (x4 : Nat) : Tr (Bool) :=
  .br (osome (sIsMild ((wtoSection x0 x1 x2 x3).1) (((wtoSection x0 x1 x2 x3).2).1) ((((wtoSection x0 x1 x2 x3).2).2).1) ((((wtoSection x0 x1 x2 x3).2).2).2) x4)) (.br (osome (iIsMild ((wtoSection x0 x1 x2 x3).1) (((wtoSection x0 x1 x2 x3).2).1) ((((wtoSection x0 x1 x2 x3).2).2).1) ((((wtoSection x0 x1 x2 x3).2).2).2) x4)) (.br (! (((oget (iIsMild ((wtoSection x0 x1 x2 x3).1) (((wtoSection x0 x1 x2 x3).2).1) ((((wtoSection x0 x1 x2 x3).2).2).1) ((((wtoSection x0 x1 x2 x3).2).2).2) x4)).1) == ((oget (sIsMild ((wtoSection x0 x1 x2 x3).1) (((wtoSection x0 x1 x2 x3).2).1) ((((wtoSection x0 x1 x2 x3).2).2).1) ((((wtoSection x0 x1 x2 x3).2).2).2) x4)).1))) (.ok false) (.br (! (((oget (iIsMild ((wtoSection x0 x1 x2 x3).1) (((wtoSection x0 x1 x2 x3).2).1) ((((wtoSection x0 x1 x2 x3).2).2).1) ((((wtoSection x0 x1 x2 x3).2).2).2) x4)).2) == ((oget (sIsMild ((wtoSection x0 x1 x2 x3).1) (((wtoSection x0 x1 x2 x3).2).1) ((((wtoSection x0 x1 x2 x3).2).2).1) ((((wtoSection x0 x1 x2 x3).2).2).2) x4)).2))) (.ok false) (.ok true))) .bad) .bad

noncomputable def wFnExactIsMild (x0 : Nat) (x1 : Nat) (x2 : Nat) (x3 : Nat) (x4 : Nat) : Option (Bool) := (wFnExactIsMild_t x0 x1 x2 x3 x4).sem

noncomputable def sBackStep_l9_t (y0 : Nat) (y1 : Nat) (y2 : Nat) (y3 : Nat) (y7 : Nat) (y8 : Nat) (y9 : Nat) (y10 : Nat) (y4 : Nat) (y5 : Nat) (y6 : Int) : Tr ((Nat × Nat × Int) ⊕ (Nat ⊕ Nat)) :=
  .br (decide ((y6 : Int) < 40)) (.br (osome (sSteepnessAt y7 y8 y9 y10 (fmul .f32 1056964608 (fadd .f32 y4 y5)) y0)) (.br (! ((sHeadAt y7 y8 y9 y10 (fmul .f32 1056964608 (fadd .f32 y4 y5)) y0).2)) (.ok (.inr (.inl 0))) (.br (! ((oget (sSteepnessAt y7 y8 y9 y10 (fmul .f32 1056964608 (fadd .f32 y4 y5)) y0)).2)) (.ok (.inr (.inl 0))) (.br (fgt .f32 (fadd .f32 ((sHeadAt y7 y8 y9 y10 (fmul .f32 1056964608 (fadd .f32 y4 y5)) y0).1) (fmul .f32 y9 y1)) (fadd .f32 y2 (fmul .f32 y1 (fmul .f32 1056964608 (fadd .f32 y3 ((oget (sSteepnessAt y7 y8 y9 y10 (fmul .f32 1056964608 (fadd .f32 y4 y5)) y0)).1)))))) (.ok (.inl (y4, fmul .f32 1056964608 (fadd .f32 y4 y5), IntKind.wrap .i64 (y6 + 1)))) (.ok (.inl (fmul .f32 1056964608 (fadd .f32 y4 y5), y5, IntKind.wrap .i64 (y6 + 1))))))) .bad) (.ok (.inr (.inr y5)))

noncomputable def sBackStep_l9 (y0 : Nat) (y1 : Nat) (y2 : Nat) (y3 : Nat) (y4 : Nat) (y5 : Nat) (y6 : Int) (y7 : Nat) (y8 : Nat) (y9 : Nat) (y10 : Nat) : Option (Nat ⊕ Nat) := runL (fun s : Nat × Nat × Int => (sBackStep_l9_t y0 y1 y2 y3 y7 y8 y9 y10 s.1 s.2.1 s.2.2).sem) (y4, y5, y6)

noncomputable def sBackStep_t (x0 : Nat) (x1 : Nat) (x2 : Nat) (x3 : Nat) (x4 : Nat) (x5 : Nat) (x6 : Nat) : Tr (Nat × Bool) :=
  .br (osome (sCriticalDepth x0 x1 x2 x3 x5)) (.br (osome (sSteepnessAt x0 x1 x2 x3 x4 x5)) (.br (! ((oget (sCriticalDepth x0 x1 x2 x3 x5)).2)) (.ok (0, false)) (.br (! ((sHeadAt x0 x1 x2 x3 x4 x5).2)) (.ok (0, false)) (.br (! ((oget (sSteepnessAt x0 x1 x2 x3 x4 x5)).2)) (.ok (0, false)) (.br (! (isLen x6)) (.ok (0, false)) (.br (! (fgt .f32 x4 ((oget (sCriticalDepth x0 x1 x2 x3 x5)).1))) (.ok (0, false)) (.br (osome (sBackStep_l9 x5 x6 ((sHeadAt x0 x1 x2 x3 x4 x5).1) ((oget (sSteepnessAt x0 x1 x2 x3 x4 x5)).1) ((oget (sCriticalDepth x0 x1 x2 x3 x5)).1) 1148846080 0 x0 x1 x2 x3)) (.br (isL (oget (sBackStep_l9 x5 x6 ((sHeadAt x0 x1 x2 x3 x4 x5).1) ((oget (sSteepnessAt x0 x1 x2 x3 x4 x5)).1) ((oget (sCriticalDepth x0 x1 x2 x3 x5)).1) 1148846080 0 x0 x1 x2 x3))) (.ok (unL (oget (sBackStep_l9 x5 x6 ((sHeadAt x0 x1 x2 x3 x4 x5).1) ((oget (sSteepnessAt x0 x1 x2 x3 x4 x5)).1) ((oget (sCriticalDepth x0 x1 x2 x3 x5)).1) 1148846080 0 x0 x1 x2 x3)), false)) (.ok (unR (oget (sBackStep_l9 x5 x6 ((sHeadAt x0 x1 x2 x3 x4 x5).1) ((oget (sSteepnessAt x0 x1 x2 x3 x4 x5)).1) ((oget (sCriticalDepth x0 x1 x2 x3 x5)).1) 1148846080 0 x0 x1 x2 x3)), true))) .bad)))))) .bad) .bad

noncomputable def sBackStep (x0 : Nat) (x1 : Nat) (x2 : Nat) (x3 : Nat) (x4 : Nat) (x5 : Nat) (x6 : Nat) : Option (Nat × Bool) := (sBackStep_t x0 x1 x2 x3 x4 x5 x6).sem

noncomputable def iBackStep_1_t (x0 : Nat) (x1 : Nat) (x2 : Nat) (x3 : Nat) (x4 : Nat) (x5 : Nat) (x6 : Nat) (x7 : Nat) (x8 : Nat) : Tr (Bool × Bool) :=
  .br (osome (iHeadAt x1 x2 x3 x4 x0 x5)) (.br (osome (iSteepnessAt x1 x2 x3 x4 x0 x5)) (.br ((oget (iHeadAt x1 x2 x3 x4 x0 x5)).2) (.ok (fgt .f32 (fadd .f32 ((oget (iHeadAt x1 x2 x3 x4 x0 x5)).1) (fmul .f32 x3 x6)) (fadd .f32 x7 (fmul .f32 x6 (fmul .f32 1056964608 (fadd .f32 x8 ((oget (iSteepnessAt x1 x2 x3 x4 x0 x5)).1))))), (oget (iSteepnessAt x1 x2 x3 x4 x0 x5)).2)) (.ok (fgt .f32 (fadd .f32 ((oget (iHeadAt x1 x2 x3 x4 x0 x5)).1) (fmul .f32 x3 x6)) (fadd .f32 x7 (fmul .f32 x6 (fmul .f32 1056964608 (fadd .f32 x8 ((oget (iSteepnessAt x1 x2 x3 x4 x0 x5)).1))))), false))) .bad) .bad

noncomputable def iBackStep_1 (x0 : Nat) (x1 : Nat) (x2 : Nat) (x3 : Nat) (x4 : Nat) (x5 : Nat) (x6 : Nat) (x7 : Nat) (x8 : Nat) : Option (Bool × Bool) := (iBackStep_1_t x0 x1 x2 x3 x4 x5 x6 x7 x8).sem

noncomputable def ihalve_iBackStep_1_l2_t (y2 : Nat) (y3 : Nat) (y4 : Nat) (y5 : Nat) (y6 : Nat) (y7 : Nat) (y8 : Nat) (y9 : Nat) (y0 : Nat) (y1 : Nat) (y10 : Int) : Tr ((Nat × Nat × Int) ⊕ ((Nat × Nat) ⊕ (Nat × Nat))) :=
  .br (decide ((y10 : Int) < 40)) (.br (osome (iBackStep_1 (fmul .f32 1056964608 (fadd .f32 y0 y1)) y2 y3 y4 y5 y6 y7 y8 y9)) (.br (! ((oget (iBackStep_1 (fmul .f32 1056964608 (fadd .f32 y0 y1)) y2 y3 y4 y5 y6 y7 y8 y9)).2)) (.ok (.inr (.inl (0, 0)))) (.br ((oget (iBackStep_1 (fmul .f32 1056964608 (fadd .f32 y0 y1)) y2 y3 y4 y5 y6 y7 y8 y9)).1) (.ok (.inl (y0, fmul .f32 1056964608 (fadd .f32 y0 y1), IntKind.wrap .i64 (y10 + 1)))) (.ok (.inl (fmul .f32 1056964608 (fadd .f32 y0 y1), y1, IntKind.wrap .i64 (y10 + 1)))))) .bad) (.ok (.inr (.inr (y0, y1))))

noncomputable def ihalve_iBackStep_1_l2 (y0 : Nat) (y1 : Nat) (y2 : Nat) (y3 : Nat) (y4 : Nat) (y5 : Nat) (y6 : Nat) (y7 : Nat) (y8 : Nat) (y9 : Nat) (y10 : Int) : Option ((Nat × Nat) ⊕ (Nat × Nat)) := runL (fun s : Nat × Nat × Int => (ihalve_iBackStep_1_l2_t y2 y3 y4 y5 y6 y7 y8 y9 s.1 s.2.1 s.2.2).sem) (y0, y1, y10)

noncomputable def ihalve_iBackStep_1_t (x0 : Nat) (x1 : Nat) (x2 : Nat) (x3 : Nat) (x4 : Nat) (x5 : Nat) (x6 : Nat) (x7 : Nat) (x8 : Nat) (x9 : Nat) : Tr (Nat × Nat × Bool) :=
  .br (osome (ihalve_iBackStep_1_l2 x0 x1 x2 x3 x4 x5 x6 x7 x8 x9 0)) (.br (isL (oget (ihalve_iBackStep_1_l2 x0 x1 x2 x3 x4 x5 x6 x7 x8 x9 0))) (.ok ((unL (oget (ihalve_iBackStep_1_l2 x0 x1 x2 x3 x4 x5 x6 x7 x8 x9 0))).1, (unL (oget (ihalve_iBackStep_1_l2 x0 x1 x2 x3 x4 x5 x6 x7 x8 x9 0))).2, false)) (.ok ((unR (oget (ihalve_iBackStep_1_l2 x0 x1 x2 x3 x4 x5 x6 x7 x8 x9 0))).1, (unR (oget (ihalve_iBackStep_1_l2 x0 x1 x2 x3 x4 x5 x6 x7 x8 x9 0))).2, true))) .bad

noncomputable def ihalve_iBackStep_1 (x0 : Nat) (x1 : Nat) (x2 : Nat) (x3 : Nat) (x4 : Nat) (x5 : Nat) (x6 : Nat) (x7 : Nat) (x8 : Nat) (x9 : Nat) : Option (Nat × Nat × Bool) := (ihalve_iBackStep_1_t x0 x1 x2 x3 x4 x5 x6 x7 x8 x9).sem

noncomputable def iBackStep_t (x0 : Nat) (x1 : Nat) (x2 : Nat) (x3 : Nat) (x4 : Nat) (x5 : Nat) (x6 : Nat) : Tr (Nat × Bool) :=
  .br (osome (iCriticalDepth x0 x1 x2 x3 x5)) (.br (osome (iHeadAt x0 x1 x2 x3 x4 x5)) (.br (osome (iSteepnessAt x0 x1 x2 x3 x4 x5)) (.br (! ((oget (iCriticalDepth x0 x1 x2 x3 x5)).2)) (.ok (0, false)) (.br (! ((oget (iHeadAt x0 x1 x2 x3 x4 x5)).2)) (.ok (0, false)) (.br (! ((oget (iSteepnessAt x0 x1 x2 x3 x4 x5)).2)) (.ok (0, false)) (.br (! (isLen x6)) (.ok (0, false)) (.br (! (fgt .f32 x4 ((oget (iCriticalDepth x0 x1 x2 x3 x5)).1))) (.ok (0, false)) (.br (osome (ihalve_iBackStep_1 ((oget (iCriticalDepth x0 x1 x2 x3 x5)).1) 1148846080 x0 x1 x2 x3 x5 x6 ((oget (iHeadAt x0 x1 x2 x3 x4 x5)).1) ((oget (iSteepnessAt x0 x1 x2 x3 x4 x5)).1))) (.ok (((oget (ihalve_iBackStep_1 ((oget (iCriticalDepth x0 x1 x2 x3 x5)).1) 1148846080 x0 x1 x2 x3 x5 x6 ((oget (iHeadAt x0 x1 x2 x3 x4 x5)).1) ((oget (iSteepnessAt x0 x1 x2 x3 x4 x5)).1))).2).1, ((oget (ihalve_iBackStep_1 ((oget (iCriticalDepth x0 x1 x2 x3 x5)).1) 1148846080 x0 x1 x2 x3 x5 x6 ((oget (iHeadAt x0 x1 x2 x3 x4 x5)).1) ((oget (iSteepnessAt x0 x1 x2 x3 x4 x5)).1))).2).2)) .bad)))))) .bad) .bad) .bad

noncomputable def iBackStep (x0 : Nat) (x1 : Nat) (x2 : Nat) (x3 : Nat) (x4 : Nat) (x5 : Nat) (x6 : Nat) : Option (Nat × Bool) := (iBackStep_t x0 x1 x2 x3 x4 x5 x6).sem

noncomputable def wFnExactBackStep_t (x0 : Nat) (x1 : Nat) (x2 : Nat) (x3 : Nat) (x4 : Nat) (x5 : Nat) (x6 : Nat) : Tr (Bool) :=
  .br (osome (sBackStep ((wtoSection x0 x1 x2 x3).1) (((wtoSection x0 x1 x2 x3).2).1) ((((wtoSection x0 x1 x2 x3).2).2).1) ((((wtoSection x0 x1 x2 x3).2).2).2) x4 x5 x6)) (.br (osome (iBackStep ((wtoSection x0 x1 x2 x3).1) (((wtoSection x0 x1 x2 x3).2).1) ((((wtoSection x0 x1 x2 x3).2).2).1) ((((wtoSection x0 x1 x2 x3).2).2).2) x4 x5 x6)) (.br (natEq (fup ((oget (iBackStep ((wtoSection x0 x1 x2 x3).1) (((wtoSection x0 x1 x2 x3).2).1) ((((wtoSection x0 x1 x2 x3).2).2).1) ((((wtoSection x0 x1 x2 x3).2).2).2) x4 x5 x6)).1)) (fup ((oget (sBackStep ((wtoSection x0 x1 x2 x3).1) (((wtoSection x0 x1 x2 x3).2).1) ((((wtoSection x0 x1 x2 x3).2).2).1) ((((wtoSection x0 x1 x2 x3).2).2).2) x4 x5 x6)).1))) (.br (! (((oget (iBackStep ((wtoSection x0 x1 x2 x3).1) (((wtoSection x0 x1 x2 x3).2).1) ((((wtoSection x0 x1 x2 x3).2).2).1) ((((wtoSection x0 x1 x2 x3).2).2).2) x4 x5 x6)).2) == ((oget (sBackStep ((wtoSection x0 x1 x2 x3).1) (((wtoSection x0 x1 x2 x3).2).1) ((((wtoSection x0 x1 x2 x3).2).2).1) ((((wtoSection x0 x1 x2 x3).2).2).2) x4 x5 x6)).2))) (.ok false) (.ok true)) .bad) .bad) .bad

noncomputable def wFnExactBackStep (x0 : Nat) (x1 : Nat) (x2 : Nat) (x3 : Nat) (x4 : Nat) (x5 : Nat) (x6 : Nat) : Option (Bool) := (wFnExactBackStep_t x0 x1 x2 x3 x4 x5 x6).sem

noncomputable def sl00In_t (x0 : Int) (x1 : Int) (x2 : Int) : Tr (Bool) :=
  .br (decide ((x0 : Int) ≥ x1)) (.ok (decide ((x0 : Int) ≤ x2))) (.ok false)

noncomputable def sl00In (x0 : Int) (x1 : Int) (x2 : Int) : Bool := (sl00In_t x0 x1 x2).val

noncomputable def sBackWater_l5_t (y1 : Nat) (y2 : Nat) (y3 : Int) (y5 : Nat) (y6 : Nat) (y7 : Nat) (y8 : Nat) (y0 : Nat) (y4 : Int) (y9 : List Nat) : Tr ((Nat × Int × List Nat) ⊕ (Unit ⊕ (List Nat))) :=
  .br (decide ((y4 : Int) < y3)) (.br (osome (sBackStep y5 y6 y7 y8 y0 y1 y2)) (.br (! ((oget (sBackStep y5 y6 y7 y8 y0 y1 y2)).2)) (.ok (.inr (.inl ()))) (.br (decide ((List.length y9 + List.length [(oget (sBackStep y5 y6 y7 y8 y0 y1 y2)).1]) * 4 ≤ 140737488355328)) (.ok (.inl ((oget (sBackStep y5 y6 y7 y8 y0 y1 y2)).1, IntKind.wrap .i64 (y4 + 1), y9 ++ [(oget (sBackStep y5 y6 y7 y8 y0 y1 y2)).1]))) .bad)) .bad) (.ok (.inr (.inr y9)))

noncomputable def sBackWater_l5 (y0 : Nat) (y1 : Nat) (y2 : Nat) (y3 : Int) (y4 : Int) (y5 : Nat) (y6 : Nat) (y7 : Nat) (y8 : Nat) (y9 : List Nat) : Option (Unit ⊕ (List Nat)) := runL (fun s : Nat × Int × List Nat => (sBackWater_l5_t y1 y2 y3 y5 y6 y7 y8 s.1 s.2.1 s.2.2).sem) (y0, y4, y9)

noncomputable def sBackWater_t (x0 : Nat) (x1 : Nat) (x2 : Nat) (x3 : Nat) (x4 : Nat) (x5 : Nat) (x6 : Nat) (x7 : Int) : Tr (Unit ⊕ (List Nat)) :=
  .br (! (sl04Both x0 x1 x2 x3 x4 x5)) (.ok (.inl ())) (.br (! (isLen x6)) (.ok (.inl ())) (.br (! (sl00In x7 0 64)) (.ok (.inl ())) (.br (osome (sBackWater_l5 x4 x5 x6 x7 0 x0 x1 x2 x3 [])) (.br (isL (oget (sBackWater_l5 x4 x5 x6 x7 0 x0 x1 x2 x3 []))) (.ok (.inl ())) (.ok (.inr (unR (oget (sBackWater_l5 x4 x5 x6 x7 0 x0 x1 x2 x3 [])))))) .bad)))

noncomputable def sBackWater (x0 : Nat) (x1 : Nat) (x2 : Nat) (x3 : Nat) (x4 : Nat) (x5 : Nat) (x6 : Nat) (x7 : Int) : Option (Unit ⊕ (List Nat)) := (sBackWater_t x0 x1 x2 x3 x4 x5 x6 x7).sem

noncomputable def iwithin_t (x0 : Int) (x1 : Int) (x2 : Int) : Tr (Bool) :=
  .br (decide ((x1 : Int) ≤ x0)) (.ok (decide ((x0 : Int) ≤ x2))) (.ok false)

noncomputable def iwithin (x0 : Int) (x1 : Int) (x2 : Int) : Bool := (iwithin_t x0 x1 x2).val

noncomputable def iBackWater_l5_t (y1 : Nat) (y2 : Nat) (y3 : Int) (y5 : Nat) (y6 : Nat) (y7 : Nat) (y8 : Nat) (y0 : Nat) (y4 : Int) (y9 : List Nat) : Tr ((Nat × Int × List Nat) ⊕ (Unit ⊕ (List Nat))) :=
  .br (decide ((y4 : Int) < y3)) (.br (osome (iBackStep y5 y6 y7 y8 y0 y1 y2)) (.br (! ((oget (iBackStep y5 y6 y7 y8 y0 y1 y2)).2)) (.ok (.inr (.inl ()))) (.br (decide ((List.length y9 + List.length [(oget (iBackStep y5 y6 y7 y8 y0 y1 y2)).1]) * 4 ≤ 140737488355328)) (.ok (.inl ((oget (iBackStep y5 y6 y7 y8 y0 y1 y2)).1, IntKind.wrap .i64 (y4 + 1), y9 ++ [(oget (iBackStep y5 y6 y7 y8 y0 y1 y2)).1]))) .bad)) .bad) (.ok (.inr (.inr y9)))

noncomputable def iBackWater_l5 (y0 : Nat) (y1 : Nat) (y2 : Nat) (y3 : Int) (y4 : Int) (y5 : Nat) (y6 : Nat) (y7 : Nat) (y8 : Nat) (y9 : List Nat) : Option (Unit ⊕ (List Nat)) := runL (fun s : Nat × Int × List Nat => (iBackWater_l5_t y1 y2 y3 y5 y6 y7 y8 s.1 s.2.1 s.2.2).sem) (y0, y4, y9)

noncomputable def iBackWater_t (x0 : Nat) (x1 : Nat) (x2 : Nat) (x3 : Nat) (x4 : Nat) (x5 : Nat) (x6 : Nat) (x7 : Int) : Tr (Unit ⊕ (List Nat)) :=
  .br (osome (iSection_isFlow x0 x1 x2 x3 [x4, x5, x6])) (.br (! (oget (iSection_isFlow x0 x1 x2 x3 [x4, x5, x6]))) (.ok (.inl ())) (.br (! (iwithin x7 0 64)) (.ok (.inl ())) (.br (osome (iBackWater_l5 x4 x5 x6 x7 0 x0 x1 x2 x3 [])) (.br (isL (oget (iBackWater_l5 x4 x5 x6 x7 0 x0 x1 x2 x3 []))) (.ok (.inl ())) (.ok (.inr (unR (oget (iBackWater_l5 x4 x5 x6 x7 0 x0 x1 x2 x3 [])))))) .bad))) .bad

noncomputable def iBackWater (x0 : Nat) (x1 : Nat) (x2 : Nat) (x3 : Nat) (x4 : Nat) (x5 : Nat) (x6 : Nat) (x7 : Int) : Option (Unit ⊕ (List Nat)) := (iBackWater_t x0 x1 x2 x3 x4 x5 x6 x7).sem

noncomputable def weqFloat32S_l4_t (y0 : List Nat) (y1 : List Nat) (y2 : Int) : Tr (Int ⊕ Unit) :=
  .br (decide ((y2 : Int) < (((List.length y0 : Nat) : Int)))) (.br (decide (0 ≤ (y2 : Int)) && decide ((y2 : Int) < ((List.length y0 : Nat) : Int))) (.br (decide (0 ≤ (y2 : Int)) && decide ((y2 : Int) < ((List.length y1 : Nat) : Int))) (.br (natEq (fup (List.getD y0 (Int.toNat y2) 0)) (fup (List.getD y1 (Int.toNat y2) 0))) (.ok (.inl (IntKind.wrap .i64 (y2 + 1)))) .bad) .bad) .bad) (.ok (.inr ()))

noncomputable def weqFloat32S_l4 (y0 : List Nat) (y1 : List Nat) (y2 : Int) : Option (Unit) := runL (fun s : Int => (weqFloat32S_l4_t y0 y1 s).sem) y2

noncomputable def weqFloat32S_t (x0 : List Nat) (x1 : List Nat) : Tr (Bool) :=
  .br ((((List.length x0 : Nat) : Int) : Int) != (((List.length x1 : Nat) : Int))) (.ok false) (.br (osome (weqFloat32S_l4 x0 x1 0)) (.ok true) .bad)

noncomputable def weqFloat32S (x0 : List Nat) (x1 : List Nat) : Option (Bool) := (weqFloat32S_t x0 x1).sem

noncomputable def wmarkFloat32S_nil_l2_t (y0 : Int) (y1 : Int)  : Tr (Unit ⊕ Int) :=
  .br (decide ((y1 : Int) < 0)) .bad (.ok (.inr y0))

noncomputable def wmarkFloat32S_nil_l2 (y0 : Int) (y1 : Int) : Option (Int) := runL (fun s : Unit => (wmarkFloat32S_nil_l2_t y0 y1 ).sem) ()

noncomputable def wmarkFloat32S_nil_t (x0 : Int) : Tr (Int) :=
  .br (osome (wmarkFloat32S_nil_l2 x0 0)) (.ok (oget (wmarkFloat32S_nil_l2 x0 0))) .bad

noncomputable def wmarkFloat32S_nil (x0 : Int) : Option (Int) := (wmarkFloat32S_nil_t x0).sem

noncomputable def wmarkFloat32S_l2_t  (y0 : Int) (y1 : Int) (y2 : List Nat) : Tr ((Int × Int × List Nat) ⊕ (Int × List Nat)) :=
  .br (decide ((y1 : Int) < (((List.length y2 : Nat) : Int)))) (.br (decide (0 ≤ (y1 : Int)) && decide ((y1 : Int) < ((List.length y2 : Nat) : Int))) (.ok (.inl (IntKind.wrap .i64 (y0 + 1), IntKind.wrap .i64 (y1 + 1), List.set y2 (Int.toNat y1) (FloatKind.nearest .f32 y0)))) .bad) (.ok (.inr (y0, y2)))

noncomputable def wmarkFloat32S_l2 (y0 : Int) (y1 : Int) (y2 : List Nat) : Option (Int × List Nat) := runL (fun s : Int × Int × List Nat => (wmarkFloat32S_l2_t  s.1 s.2.1 s.2.2).sem) (y0, y1, y2)

noncomputable def wmarkFloat32S_t (x0 : Int) (x1 : List Nat) : Tr (Int × List Nat) :=
  .br (osome (wmarkFloat32S_l2 x0 0 x1)) (.ok ((oget (wmarkFloat32S_l2 x0 0 x1)).1, (oget (wmarkFloat32S_l2 x0 0 x1)).2)) .bad

noncomputable def wmarkFloat32S (x0 : Int) (x1 : List Nat) : Option (Int × List Nat) := (wmarkFloat32S_t x0 x1).sem

noncomputable def wheldFloat32S_l2_t (y0 : List Nat) (y1 : Int) (y2 : Int) : Tr ((Int × Int) ⊕ (Int ⊕ Int)) :=
  .br (decide ((y2 : Int) < (((List.length y0 : Nat) : Int)))) (.br (decide (0 ≤ (y2 : Int)) && decide ((y2 : Int) < ((List.length y0 : Nat) : Int))) (.br (! (feq .f32 (List.getD y0 (Int.toNat y2) 0) (FloatKind.nearest .f32 y1))) (.ok (.inr (.inl (-1)))) (.ok (.inl (IntKind.wrap .i64 (y1 + 1), IntKind.wrap .i64 (y2 + 1))))) .bad) (.ok (.inr (.inr y1)))

noncomputable def wheldFloat32S_l2 (y0 : List Nat) (y1 : Int) (y2 : Int) : Option (Int ⊕ Int) := runL (fun s : Int × Int => (wheldFloat32S_l2_t y0 s.1 s.2).sem) (y1, y2)

noncomputable def wheldFloat32S_t (x0 : List Nat) (x1 : Int) : Tr (Int) :=
  .br (osome (wheldFloat32S_l2 x0 x1 0)) (.br (isL (oget (wheldFloat32S_l2 x0 x1 0))) (.ok (unL (oget (wheldFloat32S_l2 x0 x1 0)))) (.ok (unR (oget (wheldFloat32S_l2 x0 x1 0))))) .bad

noncomputable def wheldFloat32S (x0 : List Nat) (x1 : Int) : Option (Int) := (wheldFloat32S_t x0 x1).sem

noncomputable def wFnExactBackWater_t (x0 : Nat) (x1 : Nat) (x2 : Nat) (x3 : Nat) (x4 : Nat) (x5 : Nat) (x6 : Nat) (x7 : Int) : Tr (Bool) :=
  .br (osome (sBackWater ((wtoSection x0 x1 x2 x3).1) (((wtoSection x0 x1 x2 x3).2).1) ((((wtoSection x0 x1 x2 x3).2).2).1) ((((wtoSection x0 x1 x2 x3).2).2).2) x4 x5 x6 x7)) (.br (isL (oget (sBackWater ((wtoSection x0 x1 x2 x3).1) (((wtoSection x0 x1 x2 x3).2).1) ((((wtoSection x0 x1 x2 x3).2).2).1) ((((wtoSection x0 x1 x2 x3).2).2).2) x4 x5 x6 x7))) (.br (osome (iBackWater ((wtoSection x0 x1 x2 x3).1) (((wtoSection x0 x1 x2 x3).2).1) ((((wtoSection x0 x1 x2 x3).2).2).1) ((((wtoSection x0 x1 x2 x3).2).2).2) x4 x5 x6 x7)) (.br (isL (oget (iBackWater ((wtoSection x0 x1 x2 x3).1) (((wtoSection x0 x1 x2 x3).2).1) ((((wtoSection x0 x1 x2 x3).2).2).1) ((((wtoSection x0 x1 x2 x3).2).2).2) x4 x5 x6 x7))) (.br (osome (weqFloat32S [] [])) (.br (! (oget (weqFloat32S [] []))) (.ok false) (.br (! (false == false)) (.ok false) (.br (osome (wmarkFloat32S_nil 1)) (.br (osome (wheldFloat32S [] 1)) (.br (decide ((oget (wheldFloat32S [] 1) : Int) < 0)) (.ok false) (.br ((oget (wheldFloat32S [] 1) : Int) != (oget (wmarkFloat32S_nil 1))) (.ok false) (.br (osome (iBackWater ((wtoSection x0 x1 x2 x3).1) (((wtoSection x0 x1 x2 x3).2).1) ((((wtoSection x0 x1 x2 x3).2).2).1) ((((wtoSection x0 x1 x2 x3).2).2).2) x4 x5 x6 x7)) (.br (isL (oget (iBackWater ((wtoSection x0 x1 x2 x3).1) (((wtoSection x0 x1 x2 x3).2).1) ((((wtoSection x0 x1 x2 x3).2).2).1) ((((wtoSection x0 x1 x2 x3).2).2).2) x4 x5 x6 x7))) (.br (osome (weqFloat32S [] [])) (.br (! (oget (weqFloat32S [] []))) (.ok false) (.br (! (false == false)) (.ok false) (.br (osome (wheldFloat32S [] 1)) (.br (decide ((oget (wheldFloat32S [] 1) : Int) < 0)) (.ok false) (.br ((oget (wheldFloat32S [] 1) : Int) != (oget (wmarkFloat32S_nil 1))) (.ok false) (.ok true))) .bad))) .bad) (.br (osome (weqFloat32S (unR (oget (iBackWater ((wtoSection x0 x1 x2 x3).1) (((wtoSection x0 x1 x2 x3).2).1) ((((wtoSection x0 x1 x2 x3).2).2).1) ((((wtoSection x0 x1 x2 x3).2).2).2) x4 x5 x6 x7))) [])) (.br (! (oget (weqFloat32S (unR (oget (iBackWater ((wtoSection x0 x1 x2 x3).1) (((wtoSection x0 x1 x2 x3).2).1) ((((wtoSection x0 x1 x2 x3).2).2).1) ((((wtoSection x0 x1 x2 x3).2).2).2) x4 x5 x6 x7))) []))) (.ok false) (.br (! (true == false)) (.ok false) (.br (osome (wheldFloat32S [] 1)) (.br (decide ((oget (wheldFloat32S [] 1) : Int) < 0)) (.ok false) (.br ((oget (wheldFloat32S [] 1) : Int) != (oget (wmarkFloat32S_nil 1))) (.ok false) (.ok true))) .bad))) .bad)) .bad))) .bad) .bad))) .bad) (.br (osome (weqFloat32S (unR (oget (iBackWater ((wtoSection x0 x1 x2 x3).1) (((wtoSection x0 x1 x2 x3).2).1) ((((wtoSection x0 x1 x2 x3).2).2).1) ((((wtoSection x0 x1 x2 x3).2).2).2) x4 x5 x6 x7))) [])) (.br (! (oget (weqFloat32S (unR (oget (iBackWater ((wtoSection x0 x1 x2 x3).1) (((wtoSection x0 x1 x2 x3).2).1) ((((wtoSection x0 x1 x2 x3).2).2).1) ((((wtoSection x0 x1 x2 x3).2).2).2) x4 x5 x6 x7))) []))) (.ok false) (.br (! (true == false)) (.ok false) (.br (osome (wmarkFloat32S 1 (unR (oget (iBackWater ((wtoSection x0 x1 x2 x3).1) (((wtoSection x0 x1 x2 x3).2).1) ((((wtoSection x0 x1 x2 x3).2).2).1) ((((wtoSection x0 x1 x2 x3).2).2).2) x4 x5 x6 x7))))) (.br (osome (wheldFloat32S ((oget (wmarkFloat32S 1 (unR (oget (iBackWater ((wtoSection x0 x1 x2 x3).1) (((wtoSection x0 x1 x2 x3).2).1) ((((wtoSection x0 x1 x2 x3).2).2).1) ((((wtoSection x0 x1 x2 x3).2).2).2) x4 x5 x6 x7))))).2) 1)) (.br (decide ((oget (wheldFloat32S ((oget (wmarkFloat32S 1 (unR (oget (iBackWater ((wtoSection x0 x1 x2 x3).1) (((wtoSection x0 x1 x2 x3).2).1) ((((wtoSection x0 x1 x2 x3).2).2).1) ((((wtoSection x0 x1 x2 x3).2).2).2) x4 x5 x6 x7))))).2) 1) : Int) < 0)) (.ok false) (.br ((oget (wheldFloat32S ((oget (wmarkFloat32S 1 (unR (oget (iBackWater ((wtoSection x0 x1 x2 x3).1) (((wtoSection x0 x1 x2 x3).2).1) ((((wtoSection x0 x1 x2 x3).2).2).1) ((((wtoSection x0 x1 x2 x3).2).2).2) x4 x5 x6 x7))))).2) 1) : Int) != ((oget (wmarkFloat32S 1 (unR (oget (iBackWater ((wtoSection x0 x1 x2 x3).1) (((wtoSection x0 x1 x2 x3).2).1) ((((wtoSection x0 x1 x2 x3).2).2).1) ((((wtoSection x0 x1 x2 x3).2).2).2) x4 x5 x6 x7))))).1)) (.ok false) (.br (osome (iBackWater ((wtoSection x0 x1 x2 x3).1) (((wtoSection x0 x1 x2 x3).2).1) ((((wtoSection x0 x1 x2 x3).2).2).1) ((((wtoSection x0 x1 x2 x3).2).2).2) x4 x5 x6 x7)) (.br (isL (oget (iBackWater ((wtoSection x0 x1 x2 x3).1) (((wtoSection x0 x1 x2 x3).2).1) ((((wtoSection x0 x1 x2 x3).2).2).1) ((((wtoSection x0 x1 x2 x3).2).2).2) x4 x5 x6 x7))) (.br (osome (weqFloat32S [] [])) (.br (! (oget (weqFloat32S [] []))) (.ok false) (.br (! (false == false)) (.ok false) (.br (osome (wheldFloat32S ((oget (wmarkFloat32S 1 (unR (oget (iBackWater ((wtoSection x0 x1 x2 x3).1) (((wtoSection x0 x1 x2 x3).2).1) ((((wtoSection x0 x1 x2 x3).2).2).1) ((((wtoSection x0 x1 x2 x3).2).2).2) x4 x5 x6 x7))))).2) 1)) (.br (decide ((oget (wheldFloat32S ((oget (wmarkFloat32S 1 (unR (oget (iBackWater ((wtoSection x0 x1 x2 x3).1) (((wtoSection x0 x1 x2 x3).2).1) ((((wtoSection x0 x1 x2 x3).2).2).1) ((((wtoSection x0 x1 x2 x3).2).2).2) x4 x5 x6 x7))))).2) 1) : Int) < 0)) (.ok false) (.br ((oget (wheldFloat32S ((oget (wmarkFloat32S 1 (unR (oget (iBackWater ((wtoSection x0 x1 x2 x3).1) (((wtoSection x0 x1 x2 x3).2).1) ((((wtoSection x0 x1 x2 x3).2).2).1) ((((wtoSection x0 x1 x2 x3).2).2).2) x4 x5 x6 x7))))).2) 1) : Int) != ((oget (wmarkFloat32S 1 (unR (oget (iBackWater ((wtoSection x0 x1 x2 x3).1) (((wtoSection x0 x1 x2 x3).2).1) ((((wtoSection x0 x1 x2 x3).2).2).1) ((((wtoSection x0 x1 x2 x3).2).2).2) x4 x5 x6 x7))))).1)) (.ok false) (.ok true))) .bad))) .bad) (.br (osome (weqFloat32S (unR (oget (iBackWater ((wtoSection x0 x1 x2 x3).1) (((wtoSection x0 x1 x2 x3).2).1) ((((wtoSection x0 x1 x2 x3).2).2).1) ((((wtoSection x0 x1 x2 x3).2).2).2) x4 x5 x6 x7))) [])) (.br (! (oget (weqFloat32S (unR (oget (iBackWater ((wtoSection x0 x1 x2 x3).1) (((wtoSection x0 x1 x2 x3).2).1) ((((wtoSection x0 x1 x2 x3).2).2).1) ((((wtoSection x0 x1 x2 x3).2).2).2) x4 x5 x6 x7))) []))) (.ok false) (.br (! (true == false)) (.ok false) (.br (osome (wheldFloat32S ((oget (wmarkFloat32S 1 (unR (oget (iBackWater ((wtoSection x0 x1 x2 x3).1) (((wtoSection x0 x1 x2 x3).2).1) ((((wtoSection x0 x1 x2 x3).2).2).1) ((((wtoSection x0 x1 x2 x3).2).2).2) x4 x5 x6 x7))))).2) 1)) (.br (decide ((oget (wheldFloat32S ((oget (wmarkFloat32S 1 (unR (oget (iBackWater ((wtoSection x0 x1 x2 x3).1) (((wtoSection x0 x1 x2 x3).2).1) ((((wtoSection x0 x1 x2 x3).2).2).1) ((((wtoSection x0 x1 x2 x3).2).2).2) x4 x5 x6 x7))))).2) 1) : Int) < 0)) (.ok false) (.br ((oget (wheldFloat32S ((oget (wmarkFloat32S 1 (unR (oget (iBackWater ((wtoSection x0 x1 x2 x3).1) (((wtoSection x0 x1 x2 x3).2).1) ((((wtoSection x0 x1 x2 x3).2).2).1) ((((wtoSection x0 x1 x2 x3).2).2).2) x4 x5 x6 x7))))).2) 1) : Int) != ((oget (wmarkFloat32S 1 (unR (oget (iBackWater ((wtoSection x0 x1 x2 x3).1) (((wtoSection x0 x1 x2 x3).2).1) ((((wtoSection x0 x1 x2 x3).2).2).1) ((((wtoSection x0 x1 x2 x3).2).2).2) x4 x5 x6 x7))))).1)) (.ok false) (.ok true))) .bad))) .bad)) .bad))) .bad) .bad))) .bad)) .bad) (.br (osome (iBackWater ((wtoSection x0 x1 x2 x3).1) (((wtoSection x0 x1 x2 x3).2).1) ((((wtoSection x0 x1 x2 x3).2).2).1) ((((wtoSection x0 x1 x2 x3).2).2).2) x4 x5 x6 x7)) (.br (isL (oget (iBackWater ((wtoSection x0 x1 x2 x3).1) (((wtoSection x0 x1 x2 x3).2).1) ((((wtoSection x0 x1 x2 x3).2).2).1) ((((wtoSection x0 x1 x2 x3).2).2).2) x4 x5 x6 x7))) (.br (osome (weqFloat32S [] (unR (oget (sBackWater ((wtoSection x0 x1 x2 x3).1) (((wtoSection x0 x1 x2 x3).2).1) ((((wtoSection x0 x1 x2 x3).2).2).1) ((((wtoSection x0 x1 x2 x3).2).2).2) x4 x5 x6 x7))))) (.br (! (oget (weqFloat32S [] (unR (oget (sBackWater ((wtoSection x0 x1 x2 x3).1) (((wtoSection x0 x1 x2 x3).2).1) ((((wtoSection x0 x1 x2 x3).2).2).1) ((((wtoSection x0 x1 x2 x3).2).2).2) x4 x5 x6 x7)))))) (.ok false) (.br (! (false == true)) (.ok false) (.br (osome (wmarkFloat32S_nil 1)) (.br (osome (wheldFloat32S [] 1)) (.br (decide ((oget (wheldFloat32S [] 1) : Int) < 0)) (.ok false) (.br ((oget (wheldFloat32S [] 1) : Int) != (oget (wmarkFloat32S_nil 1))) (.ok false) (.br (osome (iBackWater ((wtoSection x0 x1 x2 x3).1) (((wtoSection x0 x1 x2 x3).2).1) ((((wtoSection x0 x1 x2 x3).2).2).1) ((((wtoSection x0 x1 x2 x3).2).2).2) x4 x5 x6 x7)) (.br (isL (oget (iBackWater ((wtoSection x0 x1 x2 x3).1) (((wtoSection x0 x1 x2 x3).2).1) ((((wtoSection x0 x1 x2 x3).2).2).1) ((((wtoSection x0 x1 x2 x3).2).2).2) x4 x5 x6 x7))) (.br (osome (weqFloat32S [] (unR (oget (sBackWater ((wtoSection x0 x1 x2 x3).1) (((wtoSection x0 x1 x2 x3).2).1) ((((wtoSection x0 x1 x2 x3).2).2).1) ((((wtoSection x0 x1 x2 x3).2).2).2) x4 x5 x6 x7))))) (.br (! (oget (weqFloat32S [] (unR (oget (sBackWater ((wtoSection x0 x1 x2 x3).1) (((wtoSection x0 x1 x2 x3).2).1) ((((wtoSection x0 x1 x2 x3).2).2).1) ((((wtoSection x0 x1 x2 x3).2).2).2) x4 x5 x6 x7)))))) (.ok false) (.br (! (false == true)) (.ok false) (.br (osome (wheldFloat32S [] 1)) (.br (decide ((oget (wheldFloat32S [] 1) : Int) < 0)) (.ok false) (.br ((oget (wheldFloat32S [] 1) : Int) != (oget (wmarkFloat32S_nil 1))) (.ok false) (.ok true))) .bad))) .bad) (.br (osome (weqFloat32S (unR (oget (iBackWater ((wtoSection x0 x1 x2 x3).1) (((wtoSection x0 x1 x2 x3).2).1) ((((wtoSection x0 x1 x2 x3).2).2).1) ((((wtoSection x0 x1 x2 x3).2).2).2) x4 x5 x6 x7))) (unR (oget (sBackWater ((wtoSection x0 x1 x2 x3).1) (((wtoSection x0 x1 x2 x3).2).1) ((((wtoSection x0 x1 x2 x3).2).2).1) ((((wtoSection x0 x1 x2 x3).2).2).2) x4 x5 x6 x7))))) (.br (! (oget (weqFloat32S (unR (oget (iBackWater ((wtoSection x0 x1 x2 x3).1) (((wtoSection x0 x1 x2 x3).2).1) ((((wtoSection x0 x1 x2 x3).2).2).1) ((((wtoSection x0 x1 x2 x3).2).2).2) x4 x5 x6 x7))) (unR (oget (sBackWater ((wtoSection x0 x1 x2 x3).1) (((wtoSection x0 x1 x2 x3).2).1) ((((wtoSection x0 x1 x2 x3).2).2).1) ((((wtoSection x0 x1 x2 x3).2).2).2) x4 x5 x6 x7)))))) (.ok false) (.br (! (true == true)) (.ok false) (.br (osome (wheldFloat32S [] 1)) (.br (decide ((oget (wheldFloat32S [] 1) : Int) < 0)) (.ok false) (.br ((oget (wheldFloat32S [] 1) : Int) != (oget (wmarkFloat32S_nil 1))) (.ok false) (.ok true))) .bad))) .bad)) .bad))) .bad) .bad))) .bad) (.br (osome (weqFloat32S (unR (oget (iBackWater ((wtoSection x0 x1 x2 x3).1) (((wtoSection x0 x1 x2 x3).2).1) ((((wtoSection x0 x1 x2 x3).2).2).1) ((((wtoSection x0 x1 x2 x3).2).2).2) x4 x5 x6 x7))) (unR (oget (sBackWater ((wtoSection x0 x1 x2 x3).1) (((wtoSection x0 x1 x2 x3).2).1) ((((wtoSection x0 x1 x2 x3).2).2).1) ((((wtoSection x0 x1 x2 x3).2).2).2) x4 x5 x6 x7))))) (.br (! (oget (weqFloat32S (unR (oget (iBackWater ((wtoSection x0 x1 x2 x3).1) (((wtoSection x0 x1 x2 x3).2).1) ((((wtoSection x0 x1 x2 x3).2).2).1) ((((wtoSection x0 x1 x2 x3).2).2).2) x4 x5 x6 x7))) (unR (oget (sBackWater ((wtoSection x0 x1 x2 x3).1) (((wtoSection x0 x1 x2 x3).2).1) ((((wtoSection x0 x1 x2 x3).2).2).1) ((((wtoSection x0 x1 x2 x3).2).2).2) x4 x5 x6 x7)))))) (.ok false) (.br (! (true == true)) (.ok false) (.br (osome (wmarkFloat32S 1 (unR (oget (iBackWater ((wtoSection x0 x1 x2 x3).1) (((wtoSection x0 x1 x2 x3).2).1) ((((wtoSection x0 x1 x2 x3).2).2).1) ((((wtoSection x0 x1 x2 x3).2).2).2) x4 x5 x6 x7))))) (.br (osome (wheldFloat32S ((oget (wmarkFloat32S 1 (unR (oget (iBackWater ((wtoSection x0 x1 x2 x3).1) (((wtoSection x0 x1 x2 x3).2).1) ((((wtoSection x0 x1 x2 x3).2).2).1) ((((wtoSection x0 x1 x2 x3).2).2).2) x4 x5 x6 x7))))).2) 1)) (.br (decide ((oget (wheldFloat32S ((oget (wmarkFloat32S 1 (unR (oget (iBackWater ((wtoSection x0 x1 x2 x3).1) (((wtoSection x0 x1 x2 x3).2).1) ((((wtoSection x0 x1 x2 x3).2).2).1) ((((wtoSection x0 x1 x2 x3).2).2).2) x4 x5 x6 x7))))).2) 1) : Int) < 0)) (.ok false) (.br ((oget (wheldFloat32S ((oget (wmarkFloat32S 1 (unR (oget (iBackWater ((wtoSection x0 x1 x2 x3).1) (((wtoSection x0 x1 x2 x3).2).1) ((((wtoSection x0 x1 x2 x3).2).2).1) ((((wtoSection x0 x1 x2 x3).2).2).2) x4 x5 x6 x7))))).2) 1) : Int) != ((oget (wmarkFloat32S 1 (unR (oget (iBackWater ((wtoSection x0 x1 x2 x3).1) (((wtoSection x0 x1 x2 x3).2).1) ((((wtoSection x0 x1 x2 x3).2).2).1) ((((wtoSection x0 x1 x2 x3).2).2).2) x4 x5 x6 x7))))).1)) (.ok false) (.br (osome (iBackWater ((wtoSection x0 x1 x2 x3).1) (((wtoSection x0 x1 x2 x3).2).1) ((((wtoSection x0 x1 x2 x3).2).2).1) ((((wtoSection x0 x1 x2 x3).2).2).2) x4 x5 x6 x7)) (.br (isL (oget (iBackWater ((wtoSection x0 x1 x2 x3).1) (((wtoSection x0 x1 x2 x3).2).1) ((((wtoSection x0 x1 x2 x3).2).2).1) ((((wtoSection x0 x1 x2 x3).2).2).2) x4 x5 x6 x7))) (.br (osome (weqFloat32S [] (unR (oget (sBackWater ((wtoSection x0 x1 x2 x3).1) (((wtoSection x0 x1 x2 x3).2).1) ((((wtoSection x0 x1 x2 x3).2).2).1) ((((wtoSection x0 x1 x2 x3).2).2).2) x4 x5 x6 x7))))) (.br (! (oget (weqFloat32S [] (unR (oget (sBackWater ((wtoSection x0 x1 x2 x3).1) (((wtoSection x0 x1 x2 x3).2).1) ((((wtoSection x0 x1 x2 x3).2).2).1) ((((wtoSection x0 x1 x2 x3).2).2).2) x4 x5 x6 x7)))))) (.ok false) (.br (! (false == true)) (.ok false) (.br (osome (wheldFloat32S ((oget (wmarkFloat32S 1 (unR (oget (iBackWater ((wtoSection x0 x1 x2 x3).1) (((wtoSection x0 x1 x2 x3).2).1) ((((wtoSection x0 x1 x2 x3).2).2).1) ((((wtoSection x0 x1 x2 x3).2).2).2) x4 x5 x6 x7))))).2) 1)) (.br (decide ((oget (wheldFloat32S ((oget (wmarkFloat32S 1 (unR (oget (iBackWater ((wtoSection x0 x1 x2 x3).1) (((wtoSection x0 x1 x2 x3).2).1) ((((wtoSection x0 x1 x2 x3).2).2).1) ((((wtoSection x0 x1 x2 x3).2).2).2) x4 x5 x6 x7))))).2) 1) : Int) < 0)) (.ok false) (.br ((oget (wheldFloat32S ((oget (wmarkFloat32S 1 (unR (oget (iBackWater ((wtoSection x0 x1 x2 x3).1) (((wtoSection x0 x1 x2 x3).2).1) ((((wtoSection x0 x1 x2 x3).2).2).1) ((((wtoSection x0 x1 x2 x3).2).2).2) x4 x5 x6 x7))))).2) 1) : Int) != ((oget (wmarkFloat32S 1 (unR (oget (iBackWater ((wtoSection x0 x1 x2 x3).1) (((wtoSection x0 x1 x2 x3).2).1) ((((wtoSection x0 x1 x2 x3).2).2).1) ((((wtoSection x0 x1 x2 x3).2).2).2) x4 x5 x6 x7))))).1)) (.ok false) (.ok true))) .bad))) .bad) (.br (osome (weqFloat32S (unR (oget (iBackWater ((wtoSection x0 x1 x2 x3).1) (((wtoSection x0 x1 x2 x3).2).1) ((((wtoSection x0 x1 x2 x3).2).2).1) ((((wtoSection x0 x1 x2 x3).2).2).2) x4 x5 x6 x7))) (unR (oget (sBackWater ((wtoSection x0 x1 x2 x3).1) (((wtoSection x0 x1 x2 x3).2).1) ((((wtoSection x0 x1 x2 x3).2).2).1) ((((wtoSection x0 x1 x2 x3).2).2).2) x4 x5 x6 x7))))) (.br (! (oget (weqFloat32S (unR (oget (iBackWater ((wtoSection x0 x1 x2 x3).1) (((wtoSection x0 x1 x2 x3).2).1) ((((wtoSection x0 x1 x2 x3).2).2).1) ((((wtoSection x0 x1 x2 x3).2).2).2) x4 x5 x6 x7))) (unR (oget (sBackWater ((wtoSection x0 x1 x2 x3).1) (((wtoSection x0 x1 x2 x3).2).1) ((((wtoSection x0 x1 x2 x3).2).2).1) ((((wtoSection x0 x1 x2 x3).2).2).2) x4 x5 x6 x7)))))) (.ok false) (.br (! (true == true)) (.ok false) (.br (osome (wheldFloat32S ((oget (wmarkFloat32S 1 (unR (oget (iBackWater ((wtoSection x0 x1 x2 x3).1) (((wtoSection x0 x1 x2 x3).2).1) ((((wtoSection x0 x1 x2 x3).2).2).1) ((((wtoSection x0 x1 x2 x3).2).2).2) x4 x5 x6 x7))))).2) 1)) (.br (decide ((oget (wheldFloat32S ((oget (wmarkFloat32S 1 (unR (oget (iBackWater ((wtoSection x0 x1 x2 x3).1) (((wtoSection x0 x1 x2 x3).2).1) ((((wtoSection x0 x1 x2 x3).2).2).1) ((((wtoSection x0 x1 x2 x3).2).2).2) x4 x5 x6 x7))))).2) 1) : Int) < 0)) (.ok false) (.br ((oget (wheldFloat32S ((oget (wmarkFloat32S 1 (unR (oget (iBackWater ((wtoSection x0 x1 x2 x3).1) (((wtoSection x0 x1 x2 x3).2).1) ((((wtoSection x0 x1 x2 x3).2).2).1) ((((wtoSection x0 x1 x2 x3).2).2).2) x4 x5 x6 x7))))).2) 1) : Int) != ((oget (wmarkFloat32S 1 (unR (oget (iBackWater ((wtoSection x0 x1 x2 x3).1) (((wtoSection x0 x1 x2 x3).2).1) ((((wtoSection x0 x1 x2 x3).2).2).1) ((((wtoSection x0 x1 x2 x3).2).2).2) x4 x5 x6 x7))))).1)) (.ok false) (.ok true))) .bad))) .bad)) .bad))) .bad) .bad))) .bad)) .bad)) .bad

noncomputable def wFnExactBackWater (x0 : Nat) (x1 : Nat) (x2 : Nat) (x3 : Nat) (x4 : Nat) (x5 : Nat) (x6 : Nat) (x7 : Int) : Option (Bool) := (wFnExactBackWater_t x0 x1 x2 x3 x4 x5 x6 x7).sem
end Go.Proofs.Ytlhfpjpgglfcfaa
