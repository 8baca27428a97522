/- Functions, as plain functions. What the program comes to. -/
import Derived.Test.YtlhfpjpgglfcfaaGa2d
import Derived.Test.YtlhfpjpgglfcfaaGa1c
import Derived.KernelRfl
set_option linter.unusedVariables false
set_option linter.unusedSimpArgs false
set_option linter.constructorNameAsVariable false
namespace Go.Proofs.Ytlhfpjpgglfcfaa
open Go.RowKit
set_option maxRecDepth 100000
def A_sCriticalDepth : Shp := ⟨[.agg [.h, .h, .h, .h], .h], [], [.f .f32, .f .f32, .f .f32, .f .f32, .f .f32]⟩
def R_sCriticalDepth : List XShp := [(.ret, ⟨[.tup [.h, .h]], [], [.f .f32, .b]⟩)]

theorem sCriticalDepth_e (x : DR A_sCriticalDepth.hs) : (evFn (envT Try.prog C73 mtab0) noLoops Try.f71 (A_sCriticalDepth.enc x).1).to (fun q => decX R_sCriticalDepth .ret [q.1] q.2) = sCriticalDepth_t x.1 x.2.1 x.2.2.1 x.2.2.2.1 x.2.2.2.2 := by kernel_rfl

theorem sCriticalDepth_m (x : DR A_sCriticalDepth.hs) : meanF (envT Try.prog C73 mtab0) noLoops Try.f71 A_sCriticalDepth R_sCriticalDepth x = (show Option (SumD (R_sCriticalDepth.map (·.2))) from sCriticalDepth x.1 x.2.1 x.2.2.1 x.2.2.2.1 x.2.2.2.2) := meanF_of (sCriticalDepth_e x)

theorem sCriticalDepth_ok : SpecOk Try.prog 71 (evFn (envT Try.prog C73 mtab0) noLoops Try.f71) := fnL_ok (envT_ok (C73_ok) (mtab0_ok _)) mixedO Try.func71 (by kernel_rfl) (c := bodyOf Try.f71) (by kernel_rfl) (loopFree_ok (by kernel_rfl))

theorem sCriticalDepth_told : SpecOk Try.prog 71 (toldO A_sCriticalDepth R_sCriticalDepth (fun x => sCriticalDepth x.1 x.2.1 x.2.2.1 x.2.2.2.1 x.2.2.2.2) (C73 71)) := toldO_ok (by kernel_rfl) sCriticalDepth_ok (rest_ok (C73_ok) _) sCriticalDepth_m

noncomputable def C74 : Tab := tab 71 (toldO A_sCriticalDepth R_sCriticalDepth (fun x => sCriticalDepth x.1 x.2.1 x.2.2.1 x.2.2.2.1 x.2.2.2.2) (C73 71)) C73
theorem C74_ok : TabOk Try.prog C74 := tab_ok (sCriticalDepth_told) (C73_ok)

def A_sHeadAt : Shp := ⟨[.agg [.h, .h, .h, .h], .h, .h], [], [.f .f32, .f .f32, .f .f32, .f .f32, .f .f32, .f .f32]⟩
def R_sHeadAt : List XShp := [(.ret, ⟨[.tup [.h, .h]], [], [.f .f32, .b]⟩)]

theorem sHeadAt_e (x : DR A_sHeadAt.hs) : (evFn (envT Try.prog C74 mtab0) noLoops Try.f72 (A_sHeadAt.enc x).1).to (fun q => decX R_sHeadAt .ret [q.1] q.2) = sHeadAt_t x.1 x.2.1 x.2.2.1 x.2.2.2.1 x.2.2.2.2.1 x.2.2.2.2.2 := by kernel_rfl

theorem sHeadAt_m (x : DR A_sHeadAt.hs) : meanF (envT Try.prog C74 mtab0) noLoops Try.f72 A_sHeadAt R_sHeadAt x = some (show SumD (R_sHeadAt.map (·.2)) from sHeadAt x.1 x.2.1 x.2.2.1 x.2.2.2.1 x.2.2.2.2.1 x.2.2.2.2.2) := @meanF_tot _ _ _ _ _ _ _ (sHeadAt_e x) (show Inhabited (Nat × Bool) from inferInstance) (by kernel_rfl)

theorem sHeadAt_ok : SpecOk Try.prog 72 (evFn (envT Try.prog C74 mtab0) noLoops Try.f72) := fnL_ok (envT_ok (C74_ok) (mtab0_ok _)) mixedO Try.func72 (by kernel_rfl) (c := bodyOf Try.f72) (by kernel_rfl) (loopFree_ok (by kernel_rfl))

theorem sHeadAt_told : SpecOk Try.prog 72 (toldT A_sHeadAt R_sHeadAt (fun x => sHeadAt x.1 x.2.1 x.2.2.1 x.2.2.2.1 x.2.2.2.2.1 x.2.2.2.2.2) (C74 72)) := toldT_ok (by kernel_rfl) sHeadAt_ok (rest_ok (C74_ok) _) sHeadAt_m

noncomputable def C75 : Tab := tab 72 (toldT A_sHeadAt R_sHeadAt (fun x => sHeadAt x.1 x.2.1 x.2.2.1 x.2.2.2.1 x.2.2.2.2.1 x.2.2.2.2.2) (C74 72)) C74
theorem C75_ok : TabOk Try.prog C75 := tab_ok (sHeadAt_told) (C74_ok)

def A_sJumpLoss : Shp := ⟨[.agg [.h, .h, .h, .h], .h, .h], [], [.f .f32, .f .f32, .f .f32, .f .f32, .f .f32, .f .f32]⟩
def R_sJumpLoss : List XShp := [(.ret, ⟨[.tup [.h, .h]], [], [.f .f32, .b]⟩)]

theorem sJumpLoss_e (x : DR A_sJumpLoss.hs) : (evFn (envT Try.prog C75 mtab0) noLoops Try.f29 (A_sJumpLoss.enc x).1).to (fun q => decX R_sJumpLoss .ret [q.1] q.2) = sJumpLoss_t x.1 x.2.1 x.2.2.1 x.2.2.2.1 x.2.2.2.2.1 x.2.2.2.2.2 := by kernel_rfl

theorem sJumpLoss_m (x : DR A_sJumpLoss.hs) : meanF (envT Try.prog C75 mtab0) noLoops Try.f29 A_sJumpLoss R_sJumpLoss x = (show Option (SumD (R_sJumpLoss.map (·.2))) from sJumpLoss x.1 x.2.1 x.2.2.1 x.2.2.2.1 x.2.2.2.2.1 x.2.2.2.2.2) := meanF_of (sJumpLoss_e x)

theorem sJumpLoss_ok : SpecOk Try.prog 29 (evFn (envT Try.prog C75 mtab0) noLoops Try.f29) := fnL_ok (envT_ok (C75_ok) (mtab0_ok _)) mixedO Try.func29 (by kernel_rfl) (c := bodyOf Try.f29) (by kernel_rfl) (loopFree_ok (by kernel_rfl))

theorem sJumpLoss_told : SpecOk Try.prog 29 (toldO A_sJumpLoss R_sJumpLoss (fun x => sJumpLoss x.1 x.2.1 x.2.2.1 x.2.2.2.1 x.2.2.2.2.1 x.2.2.2.2.2) (C75 29)) := toldO_ok (by kernel_rfl) sJumpLoss_ok (rest_ok (C75_ok) _) sJumpLoss_m

noncomputable def C76 : Tab := tab 29 (toldO A_sJumpLoss R_sJumpLoss (fun x => sJumpLoss x.1 x.2.1 x.2.2.1 x.2.2.2.1 x.2.2.2.2.1 x.2.2.2.2.2) (C75 29)) C75
theorem C76_ok : TabOk Try.prog C76 := tab_ok (sJumpLoss_told) (C75_ok)

def A_iJumpLoss : Shp := ⟨[.agg [.h, .h, .h, .h], .h, .h], [], [.f .f32, .f .f32, .f .f32, .f .f32, .f .f32, .f .f32]⟩
def R_iJumpLoss : List XShp := [(.ret, ⟨[.tup [.h, .h]], [], [.f .f32, .b]⟩)]

theorem iJumpLoss_e (x : DR A_iJumpLoss.hs) : (evFn (envT Try.prog C76 mtab0) noLoops Try.f30 (A_iJumpLoss.enc x).1).to (fun q => decX R_iJumpLoss .ret [q.1] q.2) = iJumpLoss_t x.1 x.2.1 x.2.2.1 x.2.2.2.1 x.2.2.2.2.1 x.2.2.2.2.2 := by kernel_rfl

theorem iJumpLoss_m (x : DR A_iJumpLoss.hs) : meanF (envT Try.prog C76 mtab0) noLoops Try.f30 A_iJumpLoss R_iJumpLoss x = (show Option (SumD (R_iJumpLoss.map (·.2))) from iJumpLoss x.1 x.2.1 x.2.2.1 x.2.2.2.1 x.2.2.2.2.1 x.2.2.2.2.2) := meanF_of (iJumpLoss_e x)

theorem iJumpLoss_ok : SpecOk Try.prog 30 (evFn (envT Try.prog C76 mtab0) noLoops Try.f30) := fnL_ok (envT_ok (C76_ok) (mtab0_ok _)) mixedO Try.func30 (by kernel_rfl) (c := bodyOf Try.f30) (by kernel_rfl) (loopFree_ok (by kernel_rfl))

theorem iJumpLoss_told : SpecOk Try.prog 30 (toldO A_iJumpLoss R_iJumpLoss (fun x => iJumpLoss x.1 x.2.1 x.2.2.1 x.2.2.2.1 x.2.2.2.2.1 x.2.2.2.2.2) (C76 30)) := toldO_ok (by kernel_rfl) iJumpLoss_ok (rest_ok (C76_ok) _) iJumpLoss_m

noncomputable def C77 : Tab := tab 30 (toldO A_iJumpLoss R_iJumpLoss (fun x => iJumpLoss x.1 x.2.1 x.2.2.1 x.2.2.2.1 x.2.2.2.2.1 x.2.2.2.2.2) (C76 30)) C76
theorem C77_ok : TabOk Try.prog C77 := tab_ok (iJumpLoss_told) (C76_ok)

def A_wFnExactJumpLoss : Shp := ⟨[.agg [.h, .h, .h, .h], .h, .h], [], [.f .f32, .f .f32, .f .f32, .f .f32, .f .f32, .f .f32]⟩
def R_wFnExactJumpLoss : List XShp := [(.ret, ⟨[.h], [], [.b]⟩)]

theorem wFnExactJumpLoss_e (x : DR A_wFnExactJumpLoss.hs) : (evFn (envT Try.prog C77 mtab0) noLoops Try.f9 (A_wFnExactJumpLoss.enc x).1).to (fun q => decX R_wFnExactJumpLoss .ret [q.1] q.2) = wFnExactJumpLoss_t x.1 x.2.1 x.2.2.1 x.2.2.2.1 x.2.2.2.2.1 x.2.2.2.2.2 := by kernel_rfl

theorem wFnExactJumpLoss_m (x : DR A_wFnExactJumpLoss.hs) : meanF (envT Try.prog C77 mtab0) noLoops Try.f9 A_wFnExactJumpLoss R_wFnExactJumpLoss x = (show Option (SumD (R_wFnExactJumpLoss.map (·.2))) from wFnExactJumpLoss x.1 x.2.1 x.2.2.1 x.2.2.2.1 x.2.2.2.2.1 x.2.2.2.2.2) := meanF_of (wFnExactJumpLoss_e x)

theorem wFnExactJumpLoss_ok : SpecOk Try.prog 9 (evFn (envT Try.prog C77 mtab0) noLoops Try.f9) := fnL_ok (envT_ok (C77_ok) (mtab0_ok _)) mixedO Try.func9 (by kernel_rfl) (c := bodyOf Try.f9) (by kernel_rfl) (loopFree_ok (by kernel_rfl))

theorem wFnExactJumpLoss_told : SpecOk Try.prog 9 (toldO A_wFnExactJumpLoss R_wFnExactJumpLoss (fun x => wFnExactJumpLoss x.1 x.2.1 x.2.2.1 x.2.2.2.1 x.2.2.2.2.1 x.2.2.2.2.2) (C77 9)) := toldO_ok (by kernel_rfl) wFnExactJumpLoss_ok (rest_ok (C77_ok) _) wFnExactJumpLoss_m

noncomputable def C78 : Tab := tab 9 (toldO A_wFnExactJumpLoss R_wFnExactJumpLoss (fun x => wFnExactJumpLoss x.1 x.2.1 x.2.2.1 x.2.2.2.1 x.2.2.2.2.1 x.2.2.2.2.2) (C77 9)) C77
theorem C78_ok : TabOk Try.prog C78 := tab_ok (wFnExactJumpLoss_told) (C77_ok)

theorem lawFnExactJumpLoss_ok : SpecOk Try.prog 9 (evFn (envT Try.prog C77 mtab0) noLoops Try.f9) := wFnExactJumpLoss_ok
theorem lawFnExactJumpLoss_says (x : DR A_wFnExactJumpLoss.hs) (h : (show Option (SumD (R_wFnExactJumpLoss.map (·.2))) from wFnExactJumpLoss x.1 x.2.1 x.2.2.1 x.2.2.2.1 x.2.2.2.2.1 x.2.2.2.2.2) = some true) : saysTrue (evFn (envT Try.prog C77 mtab0) noLoops Try.f9 (A_wFnExactJumpLoss.enc x).1) = true := law_says (x := x) ((wFnExactJumpLoss_m x).trans h)

theorem lawFnExactJumpLoss_true (x0 : Nat) (x1 : Nat) (x2 : Nat) (x3 : Nat) (x4 : Nat) (x5 : Nat) (h : wFnExactJumpLoss x0 x1 x2 x3 x4 x5 = some true) : saysTrue (evFn (envT Try.prog C77 mtab0) noLoops Try.f9 [.agg [.f .f32 x0, .f .f32 x1, .f .f32 x2, .f .f32 x3], .f .f32 x4, .f .f32 x5]) = true := (congrArg (fun l => saysTrue (evFn (envT Try.prog C77 mtab0) noLoops Try.f9 l)) (by kernel_rfl : ([.agg [.f .f32 x0, .f .f32 x1, .f .f32 x2, .f .f32 x3], .f .f32 x4, .f .f32 x5] : List V) = (A_wFnExactJumpLoss.enc (x0, x1, x2, x3, x4, x5)).1)).trans (lawFnExactJumpLoss_says (x0, x1, x2, x3, x4, x5) h)

def A_sl04Wet : Shp := ⟨[.dpt [.h, .h, .h, .h] 0, .h], [], [.f .f32, .f .f32, .f .f32, .f .f32, .f .f32]⟩
def R_sl04Wet : List XShp := [(.ret, ⟨[.h], [], [.f .f32]⟩)]

theorem sl04Wet_e (x : DR A_sl04Wet.hs) : (evFn (envT Try.prog C78 mtab0) noLoops Try.f84 (A_sl04Wet.enc x).1).to (fun q => decX R_sl04Wet .ret [q.1] q.2) = sl04Wet_t x.1 x.2.1 x.2.2.1 x.2.2.2.1 x.2.2.2.2 := by kernel_rfl

theorem sl04Wet_m (x : DR A_sl04Wet.hs) : meanF (envT Try.prog C78 mtab0) noLoops Try.f84 A_sl04Wet R_sl04Wet x = some (show SumD (R_sl04Wet.map (·.2)) from sl04Wet x.1 x.2.1 x.2.2.1 x.2.2.2.1 x.2.2.2.2) := @meanF_tot _ _ _ _ _ _ _ (sl04Wet_e x) (show Inhabited (Nat) from inferInstance) (by kernel_rfl)

theorem sl04Wet_ok : SpecOk Try.prog 84 (evFn (envT Try.prog C78 mtab0) noLoops Try.f84) := fnL_ok (envT_ok (C78_ok) (mtab0_ok _)) mixedO Try.func84 (by kernel_rfl) (c := bodyOf Try.f84) (by kernel_rfl) (loopFree_ok (by kernel_rfl))

theorem sl04Wet_told : SpecOk Try.prog 84 (toldT A_sl04Wet R_sl04Wet (fun x => sl04Wet x.1 x.2.1 x.2.2.1 x.2.2.2.1 x.2.2.2.2) (C78 84)) := toldT_ok (by kernel_rfl) sl04Wet_ok (rest_ok (C78_ok) _) sl04Wet_m

noncomputable def C79 : Tab := tab 84 (toldT A_sl04Wet R_sl04Wet (fun x => sl04Wet x.1 x.2.1 x.2.2.1 x.2.2.2.1 x.2.2.2.2) (C78 84)) C78
theorem C79_ok : TabOk Try.prog C79 := tab_ok (sl04Wet_told) (C78_ok)

def A_sl04Middle : Shp := ⟨[.dpt [.h, .h, .h, .h] 0, .h], [], [.f .f32, .f .f32, .f .f32, .f .f32, .f .f32]⟩
def R_sl04Middle : List XShp := [(.ret, ⟨[.tup [.h, .h]], [], [.f .f32, .b]⟩)]

theorem sl04Middle_e (x : DR A_sl04Middle.hs) : (evFn (envT Try.prog C79 mtab0) noLoops Try.f45 (A_sl04Middle.enc x).1).to (fun q => decX R_sl04Middle .ret [q.1] q.2) = sl04Middle_t x.1 x.2.1 x.2.2.1 x.2.2.2.1 x.2.2.2.2 := by kernel_rfl

theorem sl04Middle_m (x : DR A_sl04Middle.hs) : meanF (envT Try.prog C79 mtab0) noLoops Try.f45 A_sl04Middle R_sl04Middle x = some (show SumD (R_sl04Middle.map (·.2)) from sl04Middle x.1 x.2.1 x.2.2.1 x.2.2.2.1 x.2.2.2.2) := @meanF_tot _ _ _ _ _ _ _ (sl04Middle_e x) (show Inhabited (Nat × Bool) from inferInstance) (by kernel_rfl)

theorem sl04Middle_ok : SpecOk Try.prog 45 (evFn (envT Try.prog C79 mtab0) noLoops Try.f45) := fnL_ok (envT_ok (C79_ok) (mtab0_ok _)) mixedO Try.func45 (by kernel_rfl) (c := bodyOf Try.f45) (by kernel_rfl) (loopFree_ok (by kernel_rfl))

theorem sl04Middle_told : SpecOk Try.prog 45 (toldT A_sl04Middle R_sl04Middle (fun x => sl04Middle x.1 x.2.1 x.2.2.1 x.2.2.2.1 x.2.2.2.2) (C79 45)) := toldT_ok (by kernel_rfl) sl04Middle_ok (rest_ok (C79_ok) _) sl04Middle_m

noncomputable def C80 : Tab := tab 45 (toldT A_sl04Middle R_sl04Middle (fun x => sl04Middle x.1 x.2.1 x.2.2.1 x.2.2.2.1 x.2.2.2.2) (C79 45)) C79
theorem C80_ok : TabOk Try.prog C80 := tab_ok (sl04Middle_told) (C79_ok)

def A_mNaN : Shp := ⟨[], [], []⟩
def R_mNaN : List XShp := [(.ret, ⟨[.h], [], [.f .f64]⟩)]

theorem mNaN_e (x : DR A_mNaN.hs) : (evFn (envT Try.prog C80 mtab0) noLoops Try.f101 (A_mNaN.enc x).1).to (fun q => decX R_mNaN .ret [q.1] q.2) = mNaN_t := by kernel_rfl

theorem mNaN_m (x : DR A_mNaN.hs) : meanF (envT Try.prog C80 mtab0) noLoops Try.f101 A_mNaN R_mNaN x = some (show SumD (R_mNaN.map (·.2)) from mNaN) := @meanF_tot _ _ _ _ _ _ _ (mNaN_e x) (show Inhabited (Nat) from inferInstance) (by kernel_rfl)

theorem mNaN_ok : SpecOk Try.prog 101 (evFn (envT Try.prog C80 mtab0) noLoops Try.f101) := fnL_ok (envT_ok (C80_ok) (mtab0_ok _)) mixedO Try.func101 (by kernel_rfl) (c := bodyOf Try.f101) (by kernel_rfl) (loopFree_ok (by kernel_rfl))

theorem mNaN_told : SpecOk Try.prog 101 (toldT A_mNaN R_mNaN (fun x => mNaN) (C80 101)) := toldT_ok (by kernel_rfl) mNaN_ok (rest_ok (C80_ok) _) mNaN_m

noncomputable def C81 : Tab := tab 101 (toldT A_mNaN R_mNaN (fun x => mNaN) (C80 101)) C80
theorem C81_ok : TabOk Try.prog C81 := tab_ok (mNaN_told) (C80_ok)

def A_mInf : Shp := ⟨[.h], [], [.i .i64]⟩
def R_mInf : List XShp := [(.ret, ⟨[.h], [], [.f .f64]⟩)]

theorem mInf_e (x : DR A_mInf.hs) : (evFn (envT Try.prog C81 mtab0) noLoops Try.f100 (A_mInf.enc x).1).to (fun q => decX R_mInf .ret [q.1] q.2) = mInf_t x := by kernel_rfl

theorem mInf_m (x : DR A_mInf.hs) : meanF (envT Try.prog C81 mtab0) noLoops Try.f100 A_mInf R_mInf x = some (show SumD (R_mInf.map (·.2)) from mInf x) := @meanF_tot _ _ _ _ _ _ _ (mInf_e x) (show Inhabited (Nat) from inferInstance) (by kernel_rfl)

theorem mInf_ok : SpecOk Try.prog 100 (evFn (envT Try.prog C81 mtab0) noLoops Try.f100) := fnL_ok (envT_ok (C81_ok) (mtab0_ok _)) mixedO Try.func100 (by kernel_rfl) (c := bodyOf Try.f100) (by kernel_rfl) (loopFree_ok (by kernel_rfl))

theorem mInf_told : SpecOk Try.prog 100 (toldT A_mInf R_mInf (fun x => mInf x) (C81 100)) := toldT_ok (by kernel_rfl) mInf_ok (rest_ok (C81_ok) _) mInf_m

noncomputable def C82 : Tab := tab 100 (toldT A_mInf R_mInf (fun x => mInf x) (C81 100)) C81
theorem C82_ok : TabOk Try.prog C82 := tab_ok (mInf_told) (C81_ok)

def A_mIsInf : Shp := ⟨[.h, .h], [], [.f .f64, .i .i64]⟩
def R_mIsInf : List XShp := [(.ret, ⟨[.h], [], [.b]⟩)]

theorem mIsInf_e (x : DR A_mIsInf.hs) : (evFn (envT Try.prog C82 mtab0) noLoops Try.f118 (A_mIsInf.enc x).1).to (fun q => decX R_mIsInf .ret [q.1] q.2) = mIsInf_t x.1 x.2 := by kernel_rfl

theorem mIsInf_m (x : DR A_mIsInf.hs) : meanF (envT Try.prog C82 mtab0) noLoops Try.f118 A_mIsInf R_mIsInf x = some (show SumD (R_mIsInf.map (·.2)) from mIsInf x.1 x.2) := @meanF_tot _ _ _ _ _ _ _ (mIsInf_e x) (show Inhabited (Bool) from inferInstance) (by kernel_rfl)

theorem mIsInf_ok : SpecOk Try.prog 118 (evFn (envT Try.prog C82 mtab0) noLoops Try.f118) := fnL_ok (envT_ok (C82_ok) (mtab0_ok _)) mixedO Try.func118 (by kernel_rfl) (c := bodyOf Try.f118) (by kernel_rfl) (loopFree_ok (by kernel_rfl))

theorem mIsInf_told : SpecOk Try.prog 118 (toldT A_mIsInf R_mIsInf (fun x => mIsInf x.1 x.2) (C82 118)) := toldT_ok (by kernel_rfl) mIsInf_ok (rest_ok (C82_ok) _) mIsInf_m

noncomputable def C83 : Tab := tab 118 (toldT A_mIsInf R_mIsInf (fun x => mIsInf x.1 x.2) (C82 118)) C82
theorem C83_ok : TabOk Try.prog C83 := tab_ok (mIsInf_told) (C82_ok)

def S_sl01LogWide_l8 : Shp := ⟨[.h, .h], [], [.f .f64, .i .i64]⟩
def X_sl01LogWide_l8 : List XShp := [(.exit 1, ⟨[.h, .h], [], [.f .f64, .i .i64]⟩)]

noncomputable def L_sl01LogWide_l8 : Loops := (⟨64, lvT [(18, [3, 4, 5, 6, 7]), (11, [0, 3]), (8, [0, 3])], mdT [(18, .exit 5, [], [5, 7])], fun k vs bs => .bad⟩ : Loops)

theorem sl01LogWide_l8_e (s : Nat × Int) : (loopStep (envT Try.prog C83 mtab0) L_sl01LogWide_l8 8 (loopC (bodyOf Try.f106) 8) (S_sl01LogWide_l8.enc (s.1, s.2)).1 (S_sl01LogWide_l8.enc (s.1, s.2)).2).to (stepD S_sl01LogWide_l8 X_sl01LogWide_l8) = (sl01LogWide_l8_t  s.1 s.2).map (Sum.map (fun s : Nat × Int => (show DR S_sl01LogWide_l8.hs from (s.1, s.2))) id) := by kernel_rfl

theorem sl01LogWide_l8_r (x : DR S_sl01LogWide_l8.hs) : (sl01LogWide_l8 x.1 x.2 : Option (SumD (X_sl01LogWide_l8.map (·.2)))) = runL (meanS (envT Try.prog C83 mtab0) L_sl01LogWide_l8 8 (loopC (bodyOf Try.f106) 8) S_sl01LogWide_l8 X_sl01LogWide_l8) x := run_of (fun s : Nat × Int => (show DR S_sl01LogWide_l8.hs from (s.1, s.2))) (sl01LogWide_l8_e ) (x.1, x.2)

theorem sl01LogWide_l8_k (L : Loops) (hn : L_sl01LogWide_l8.n = L.n) (hlv : L_sl01LogWide_l8.lv 8 = L.lv 8) (hL : ∀ vs bs, L.loop 8 vs bs = toldL S_sl01LogWide_l8 X_sl01LogWide_l8 (fun x => sl01LogWide_l8 x.1 x.2) vs bs) : LOk Try.prog (envT Try.prog C83 mtab0) L 8 (loopC (bodyOf Try.f106) 8) := toldL_ok (L1 := L_sl01LogWide_l8) (envT_ok (C83_ok) (mtab0_ok _)) mixedO hn hlv (loopFree_ok (by kernel_rfl)) sl01LogWide_l8_r hL

def S_sl01LogWide_l11 : Shp := ⟨[.h, .h], [], [.f .f64, .i .i64]⟩
def X_sl01LogWide_l11 : List XShp := [(.exit 3, ⟨[.h, .h], [], [.f .f64, .i .i64]⟩)]

noncomputable def L_sl01LogWide_l11 : Loops := (⟨64, lvT [(18, [3, 4, 5, 6, 7]), (11, [0, 3]), (8, [0, 3])], mdT [(18, .exit 5, [], [5, 7])], fun k vs bs => .bad⟩ : Loops)

theorem sl01LogWide_l11_e (s : Nat × Int) : (loopStep (envT Try.prog C83 mtab0) L_sl01LogWide_l11 11 (loopC (bodyOf Try.f106) 11) (S_sl01LogWide_l11.enc (s.1, s.2)).1 (S_sl01LogWide_l11.enc (s.1, s.2)).2).to (stepD S_sl01LogWide_l11 X_sl01LogWide_l11) = (sl01LogWide_l11_t  s.1 s.2).map (Sum.map (fun s : Nat × Int => (show DR S_sl01LogWide_l11.hs from (s.1, s.2))) id) := by kernel_rfl

theorem sl01LogWide_l11_r (x : DR S_sl01LogWide_l11.hs) : (sl01LogWide_l11 x.1 x.2 : Option (SumD (X_sl01LogWide_l11.map (·.2)))) = runL (meanS (envT Try.prog C83 mtab0) L_sl01LogWide_l11 11 (loopC (bodyOf Try.f106) 11) S_sl01LogWide_l11 X_sl01LogWide_l11) x := run_of (fun s : Nat × Int => (show DR S_sl01LogWide_l11.hs from (s.1, s.2))) (sl01LogWide_l11_e ) (x.1, x.2)

theorem sl01LogWide_l11_k (L : Loops) (hn : L_sl01LogWide_l11.n = L.n) (hlv : L_sl01LogWide_l11.lv 11 = L.lv 11) (hL : ∀ vs bs, L.loop 11 vs bs = toldL S_sl01LogWide_l11 X_sl01LogWide_l11 (fun x => sl01LogWide_l11 x.1 x.2) vs bs) : LOk Try.prog (envT Try.prog C83 mtab0) L 11 (loopC (bodyOf Try.f106) 11) := toldL_ok (L1 := L_sl01LogWide_l11) (envT_ok (C83_ok) (mtab0_ok _)) mixedO hn hlv (loopFree_ok (by kernel_rfl)) sl01LogWide_l11_r hL

def S_sl01LogWide_l18 : Shp := ⟨[.h, .h, .h, .h, .h], [], [.i .i64, .f .f64, .f .f64, .f .f64, .i .i64]⟩
def X_sl01LogWide_l18 : List XShp := [(.exit 5, ⟨[.h, .h, .undef, .h, .undef], [], [.i .i64, .f .f64, .f .f64]⟩)]

noncomputable def L_sl01LogWide_l18 : Loops := (⟨64, lvT [(18, [3, 4, 5, 6, 7]), (11, [0, 3]), (8, [0, 3])], mdT [(18, .exit 5, [], [5, 7])], fun k vs bs => .bad⟩ : Loops)

theorem sl01LogWide_l18_e (y0 : Int) (y1 : Nat) (y2 : Nat) (s : Nat × Int) : (loopStep (envT Try.prog C83 mtab0) L_sl01LogWide_l18 18 (loopC (bodyOf Try.f106) 18) (S_sl01LogWide_l18.enc (y0, y1, y2, s.1, s.2)).1 (S_sl01LogWide_l18.enc (y0, y1, y2, s.1, s.2)).2).to (stepD S_sl01LogWide_l18 X_sl01LogWide_l18) = (sl01LogWide_l18_t y0 y1 y2 s.1 s.2).map (Sum.map (fun s : Nat × Int => (show DR S_sl01LogWide_l18.hs from (y0, y1, y2, s.1, s.2))) id) := by kernel_rfl

theorem sl01LogWide_l18_r (x : DR S_sl01LogWide_l18.hs) : (sl01LogWide_l18 x.1 x.2.1 x.2.2.1 x.2.2.2.1 x.2.2.2.2 : Option (SumD (X_sl01LogWide_l18.map (·.2)))) = runL (meanS (envT Try.prog C83 mtab0) L_sl01LogWide_l18 18 (loopC (bodyOf Try.f106) 18) S_sl01LogWide_l18 X_sl01LogWide_l18) x := run_of (fun s : Nat × Int => (show DR S_sl01LogWide_l18.hs from (x.1, x.2.1, x.2.2.1, s.1, s.2))) (sl01LogWide_l18_e (x.1) (x.2.1) (x.2.2.1)) (x.2.2.2.1, x.2.2.2.2)

theorem sl01LogWide_l18_k (L : Loops) (hn : L_sl01LogWide_l18.n = L.n) (hlv : L_sl01LogWide_l18.lv 18 = L.lv 18) (hL : ∀ vs bs, L.loop 18 vs bs = toldL S_sl01LogWide_l18 X_sl01LogWide_l18 (fun x => sl01LogWide_l18 x.1 x.2.1 x.2.2.1 x.2.2.2.1 x.2.2.2.2) vs bs) : LOk Try.prog (envT Try.prog C83 mtab0) L 18 (loopC (bodyOf Try.f106) 18) := toldL_ok (L1 := L_sl01LogWide_l18) (envT_ok (C83_ok) (mtab0_ok _)) mixedO hn hlv (loopFree_ok (by kernel_rfl)) sl01LogWide_l18_r hL

def A_sl01LogWide : Shp := ⟨[.h], [], [.f .f64]⟩
def R_sl01LogWide : List XShp := [(.ret, ⟨[.h], [], [.f .f64]⟩)]

noncomputable def L_sl01LogWide : Loops := (⟨64, lvT [(18, [3, 4, 5, 6, 7]), (11, [0, 3]), (8, [0, 3])], mdT [(18, .exit 5, [], [5, 7])], fun k vs bs => bif Nat.beq k 18 then toldL S_sl01LogWide_l18 X_sl01LogWide_l18 (fun x => sl01LogWide_l18 x.1 x.2.1 x.2.2.1 x.2.2.2.1 x.2.2.2.2) vs bs else bif Nat.beq k 11 then toldL S_sl01LogWide_l11 X_sl01LogWide_l11 (fun x => sl01LogWide_l11 x.1 x.2) vs bs else bif Nat.beq k 8 then toldL S_sl01LogWide_l8 X_sl01LogWide_l8 (fun x => sl01LogWide_l8 x.1 x.2) vs bs else .bad⟩ : Loops)

theorem sl01LogWide_e (x : DR A_sl01LogWide.hs) : (evFn (envT Try.prog C83 mtab0) L_sl01LogWide Try.f106 (A_sl01LogWide.enc x).1).to (fun q => decX R_sl01LogWide .ret [q.1] q.2) = sl01LogWide_t x := by kernel_rfl

theorem sl01LogWide_m (x : DR A_sl01LogWide.hs) : meanF (envT Try.prog C83 mtab0) L_sl01LogWide Try.f106 A_sl01LogWide R_sl01LogWide x = (show Option (SumD (R_sl01LogWide.map (·.2))) from sl01LogWide x) := meanF_of (sl01LogWide_e x)

theorem sl01LogWide_ok : SpecOk Try.prog 106 (evFn (envT Try.prog C83 mtab0) L_sl01LogWide Try.f106) := fnL_ok (envT_ok (C83_ok) (mtab0_ok _)) mixedO Try.func106 (by kernel_rfl) (c := bodyOf Try.f106) (by kernel_rfl) (loopsL (l := [(8, loopC (bodyOf Try.f106) 8), (11, loopC (bodyOf Try.f106) 11), (18, loopC (bodyOf Try.f106) 18)]) (by kernel_rfl) (lk_cons (sl01LogWide_l8_k _ rfl rfl (fun _ _ => rfl)) (lk_cons (sl01LogWide_l11_k _ rfl rfl (fun _ _ => rfl)) (lk_cons (sl01LogWide_l18_k _ rfl rfl (fun _ _ => rfl)) lk_nil))))

theorem sl01LogWide_told : SpecOk Try.prog 106 (toldO A_sl01LogWide R_sl01LogWide (fun x => sl01LogWide x) (C83 106)) := toldO_ok (by kernel_rfl) sl01LogWide_ok (rest_ok (C83_ok) _) sl01LogWide_m

noncomputable def C84 : Tab := tab 106 (toldO A_sl01LogWide R_sl01LogWide (fun x => sl01LogWide x) (C83 106)) C83
theorem C84_ok : TabOk Try.prog C84 := tab_ok (sl01LogWide_told) (C83_ok)

def A_sl01Narrow : Shp := ⟨[.h], [], [.f .f64]⟩
def R_sl01Narrow : List XShp := [(.ret, ⟨[.h], [], [.f .f32]⟩)]

theorem sl01Narrow_e (x : DR A_sl01Narrow.hs) : (evFn (envT Try.prog C84 mtab0) noLoops Try.f88 (A_sl01Narrow.enc x).1).to (fun q => decX R_sl01Narrow .ret [q.1] q.2) = sl01Narrow_t x := by kernel_rfl

theorem sl01Narrow_m (x : DR A_sl01Narrow.hs) : meanF (envT Try.prog C84 mtab0) noLoops Try.f88 A_sl01Narrow R_sl01Narrow x = (show Option (SumD (R_sl01Narrow.map (·.2))) from sl01Narrow x) := meanF_of (sl01Narrow_e x)

theorem sl01Narrow_ok : SpecOk Try.prog 88 (evFn (envT Try.prog C84 mtab0) noLoops Try.f88) := fnL_ok (envT_ok (C84_ok) (mtab0_ok _)) mixedO Try.func88 (by kernel_rfl) (c := bodyOf Try.f88) (by kernel_rfl) (loopFree_ok (by kernel_rfl))

theorem sl01Narrow_told : SpecOk Try.prog 88 (toldO A_sl01Narrow R_sl01Narrow (fun x => sl01Narrow x) (C84 88)) := toldO_ok (by kernel_rfl) sl01Narrow_ok (rest_ok (C84_ok) _) sl01Narrow_m

noncomputable def C85 : Tab := tab 88 (toldO A_sl01Narrow R_sl01Narrow (fun x => sl01Narrow x) (C84 88)) C84
theorem C85_ok : TabOk Try.prog C85 := tab_ok (sl01Narrow_told) (C84_ok)

def A_sl01Log : Shp := ⟨[.h], [], [.f .f32]⟩
def R_sl01Log : List XShp := [(.ret, ⟨[.h], [], [.f .f32]⟩)]

theorem sl01Log_e (x : DR A_sl01Log.hs) : (evFn (envT Try.prog C85 mtab0) noLoops Try.f76 (A_sl01Log.enc x).1).to (fun q => decX R_sl01Log .ret [q.1] q.2) = sl01Log_t x := by kernel_rfl

theorem sl01Log_m (x : DR A_sl01Log.hs) : meanF (envT Try.prog C85 mtab0) noLoops Try.f76 A_sl01Log R_sl01Log x = (show Option (SumD (R_sl01Log.map (·.2))) from sl01Log x) := meanF_of (sl01Log_e x)

theorem sl01Log_ok : SpecOk Try.prog 76 (evFn (envT Try.prog C85 mtab0) noLoops Try.f76) := fnL_ok (envT_ok (C85_ok) (mtab0_ok _)) mixedO Try.func76 (by kernel_rfl) (c := bodyOf Try.f76) (by kernel_rfl) (loopFree_ok (by kernel_rfl))

theorem sl01Log_told : SpecOk Try.prog 76 (toldO A_sl01Log R_sl01Log (fun x => sl01Log x) (C85 76)) := toldO_ok (by kernel_rfl) sl01Log_ok (rest_ok (C85_ok) _) sl01Log_m

noncomputable def C86 : Tab := tab 76 (toldO A_sl01Log R_sl01Log (fun x => sl01Log x) (C85 76)) C85
theorem C86_ok : TabOk Try.prog C86 := tab_ok (sl01Log_told) (C85_ok)

def S_sl01ExpWide_l10 : Shp := ⟨[.h, .h, .h], [], [.f .f64, .f .f64, .i .i64]⟩
def X_sl01ExpWide_l10 : List XShp := [(.exit 0, ⟨[.undef, .h, .undef], [], [.f .f64]⟩)]

noncomputable def L_sl01ExpWide_l10 : Loops := (⟨37, lvT [(14, [4, 6]), (10, [3, 4, 5])], mdT [(14, .exit 2, [], [6]), (10, .exit 0, [], [3, 5])], fun k vs bs => .bad⟩ : Loops)

theorem sl01ExpWide_l10_e (y0 : Nat) (s : Nat × Int) : (loopStep (envT Try.prog C86 mtab0) L_sl01ExpWide_l10 10 (loopC (bodyOf Try.f105) 10) (S_sl01ExpWide_l10.enc (y0, s.1, s.2)).1 (S_sl01ExpWide_l10.enc (y0, s.1, s.2)).2).to (stepD S_sl01ExpWide_l10 X_sl01ExpWide_l10) = (sl01ExpWide_l10_t y0 s.1 s.2).map (Sum.map (fun s : Nat × Int => (show DR S_sl01ExpWide_l10.hs from (y0, s.1, s.2))) id) := by kernel_rfl

theorem sl01ExpWide_l10_r (x : DR S_sl01ExpWide_l10.hs) : (sl01ExpWide_l10 x.1 x.2.1 x.2.2 : Option (SumD (X_sl01ExpWide_l10.map (·.2)))) = runL (meanS (envT Try.prog C86 mtab0) L_sl01ExpWide_l10 10 (loopC (bodyOf Try.f105) 10) S_sl01ExpWide_l10 X_sl01ExpWide_l10) x := run_of (fun s : Nat × Int => (show DR S_sl01ExpWide_l10.hs from (x.1, s.1, s.2))) (sl01ExpWide_l10_e (x.1)) (x.2.1, x.2.2)

theorem sl01ExpWide_l10_k (L : Loops) (hn : L_sl01ExpWide_l10.n = L.n) (hlv : L_sl01ExpWide_l10.lv 10 = L.lv 10) (hL : ∀ vs bs, L.loop 10 vs bs = toldL S_sl01ExpWide_l10 X_sl01ExpWide_l10 (fun x => sl01ExpWide_l10 x.1 x.2.1 x.2.2) vs bs) : LOk Try.prog (envT Try.prog C86 mtab0) L 10 (loopC (bodyOf Try.f105) 10) := toldL_ok (L1 := L_sl01ExpWide_l10) (envT_ok (C86_ok) (mtab0_ok _)) mixedO hn hlv (loopFree_ok (by kernel_rfl)) sl01ExpWide_l10_r hL

def S_sl01ExpWide_l14 : Shp := ⟨[.h, .h], [], [.f .f64, .i .i64]⟩
def X_sl01ExpWide_l14 : List XShp := [(.exit 2, ⟨[.h, .undef], [], [.f .f64]⟩)]

noncomputable def L_sl01ExpWide_l14 : Loops := (⟨37, lvT [(14, [4, 6]), (10, [3, 4, 5])], mdT [(14, .exit 2, [], [6]), (10, .exit 0, [], [3, 5])], fun k vs bs => .bad⟩ : Loops)

theorem sl01ExpWide_l14_e (s : Nat × Int) : (loopStep (envT Try.prog C86 mtab0) L_sl01ExpWide_l14 14 (loopC (bodyOf Try.f105) 14) (S_sl01ExpWide_l14.enc (s.1, s.2)).1 (S_sl01ExpWide_l14.enc (s.1, s.2)).2).to (stepD S_sl01ExpWide_l14 X_sl01ExpWide_l14) = (sl01ExpWide_l14_t  s.1 s.2).map (Sum.map (fun s : Nat × Int => (show DR S_sl01ExpWide_l14.hs from (s.1, s.2))) id) := by kernel_rfl

theorem sl01ExpWide_l14_r (x : DR S_sl01ExpWide_l14.hs) : (sl01ExpWide_l14 x.1 x.2 : Option (SumD (X_sl01ExpWide_l14.map (·.2)))) = runL (meanS (envT Try.prog C86 mtab0) L_sl01ExpWide_l14 14 (loopC (bodyOf Try.f105) 14) S_sl01ExpWide_l14 X_sl01ExpWide_l14) x := run_of (fun s : Nat × Int => (show DR S_sl01ExpWide_l14.hs from (s.1, s.2))) (sl01ExpWide_l14_e ) (x.1, x.2)

theorem sl01ExpWide_l14_k (L : Loops) (hn : L_sl01ExpWide_l14.n = L.n) (hlv : L_sl01ExpWide_l14.lv 14 = L.lv 14) (hL : ∀ vs bs, L.loop 14 vs bs = toldL S_sl01ExpWide_l14 X_sl01ExpWide_l14 (fun x => sl01ExpWide_l14 x.1 x.2) vs bs) : LOk Try.prog (envT Try.prog C86 mtab0) L 14 (loopC (bodyOf Try.f105) 14) := toldL_ok (L1 := L_sl01ExpWide_l14) (envT_ok (C86_ok) (mtab0_ok _)) mixedO hn hlv (loopFree_ok (by kernel_rfl)) sl01ExpWide_l14_r hL

def A_sl01ExpWide : Shp := ⟨[.h], [], [.f .f64]⟩
def R_sl01ExpWide : List XShp := [(.ret, ⟨[.h], [], [.f .f64]⟩)]

noncomputable def L_sl01ExpWide : Loops := (⟨37, lvT [(14, [4, 6]), (10, [3, 4, 5])], mdT [(14, .exit 2, [], [6]), (10, .exit 0, [], [3, 5])], fun k vs bs => bif Nat.beq k 14 then toldL S_sl01ExpWide_l14 X_sl01ExpWide_l14 (fun x => sl01ExpWide_l14 x.1 x.2) vs bs else bif Nat.beq k 10 then toldL S_sl01ExpWide_l10 X_sl01ExpWide_l10 (fun x => sl01ExpWide_l10 x.1 x.2.1 x.2.2) vs bs else .bad⟩ : Loops)

theorem sl01ExpWide_e (x : DR A_sl01ExpWide.hs) : (evFn (envT Try.prog C86 mtab0) L_sl01ExpWide Try.f105 (A_sl01ExpWide.enc x).1).to (fun q => decX R_sl01ExpWide .ret [q.1] q.2) = sl01ExpWide_t x := by kernel_rfl

theorem sl01ExpWide_m (x : DR A_sl01ExpWide.hs) : meanF (envT Try.prog C86 mtab0) L_sl01ExpWide Try.f105 A_sl01ExpWide R_sl01ExpWide x = (show Option (SumD (R_sl01ExpWide.map (·.2))) from sl01ExpWide x) := meanF_of (sl01ExpWide_e x)

theorem sl01ExpWide_ok : SpecOk Try.prog 105 (evFn (envT Try.prog C86 mtab0) L_sl01ExpWide Try.f105) := fnL_ok (envT_ok (C86_ok) (mtab0_ok _)) mixedO Try.func105 (by kernel_rfl) (c := bodyOf Try.f105) (by kernel_rfl) (loopsL (l := [(10, loopC (bodyOf Try.f105) 10), (14, loopC (bodyOf Try.f105) 14)]) (by kernel_rfl) (lk_cons (sl01ExpWide_l10_k _ rfl rfl (fun _ _ => rfl)) (lk_cons (sl01ExpWide_l14_k _ rfl rfl (fun _ _ => rfl)) lk_nil)))

theorem sl01ExpWide_told : SpecOk Try.prog 105 (toldO A_sl01ExpWide R_sl01ExpWide (fun x => sl01ExpWide x) (C86 105)) := toldO_ok (by kernel_rfl) sl01ExpWide_ok (rest_ok (C86_ok) _) sl01ExpWide_m

noncomputable def C87 : Tab := tab 105 (toldO A_sl01ExpWide R_sl01ExpWide (fun x => sl01ExpWide x) (C86 105)) C86
theorem C87_ok : TabOk Try.prog C87 := tab_ok (sl01ExpWide_told) (C86_ok)

def A_sl01Exp : Shp := ⟨[.h], [], [.f .f32]⟩
def R_sl01Exp : List XShp := [(.ret, ⟨[.h], [], [.f .f32]⟩)]

theorem sl01Exp_e (x : DR A_sl01Exp.hs) : (evFn (envT Try.prog C87 mtab0) noLoops Try.f75 (A_sl01Exp.enc x).1).to (fun q => decX R_sl01Exp .ret [q.1] q.2) = sl01Exp_t x := by kernel_rfl

theorem sl01Exp_m (x : DR A_sl01Exp.hs) : meanF (envT Try.prog C87 mtab0) noLoops Try.f75 A_sl01Exp R_sl01Exp x = (show Option (SumD (R_sl01Exp.map (·.2))) from sl01Exp x) := meanF_of (sl01Exp_e x)

theorem sl01Exp_ok : SpecOk Try.prog 75 (evFn (envT Try.prog C87 mtab0) noLoops Try.f75) := fnL_ok (envT_ok (C87_ok) (mtab0_ok _)) mixedO Try.func75 (by kernel_rfl) (c := bodyOf Try.f75) (by kernel_rfl) (loopFree_ok (by kernel_rfl))

theorem sl01Exp_told : SpecOk Try.prog 75 (toldO A_sl01Exp R_sl01Exp (fun x => sl01Exp x) (C87 75)) := toldO_ok (by kernel_rfl) sl01Exp_ok (rest_ok (C87_ok) _) sl01Exp_m

noncomputable def C88 : Tab := tab 75 (toldO A_sl01Exp R_sl01Exp (fun x => sl01Exp x) (C87 75)) C87
theorem C88_ok : TabOk Try.prog C88 := tab_ok (sl01Exp_told) (C87_ok)

def A_sl04Flow : Shp := ⟨[.dpt [.h, .h, .h, .h] 0, .h], [], [.f .f32, .f .f32, .f .f32, .f .f32, .f .f32]⟩
def R_sl04Flow : List XShp := [(.ret, ⟨[.tup [.h, .h]], [], [.f .f32, .b]⟩)]

theorem sl04Flow_e (x : DR A_sl04Flow.hs) : (evFn (envT Try.prog C88 mtab0) noLoops Try.f68 (A_sl04Flow.enc x).1).to (fun q => decX R_sl04Flow .ret [q.1] q.2) = sl04Flow_t x.1 x.2.1 x.2.2.1 x.2.2.2.1 x.2.2.2.2 := by kernel_rfl

theorem sl04Flow_m (x : DR A_sl04Flow.hs) : meanF (envT Try.prog C88 mtab0) noLoops Try.f68 A_sl04Flow R_sl04Flow x = (show Option (SumD (R_sl04Flow.map (·.2))) from sl04Flow x.1 x.2.1 x.2.2.1 x.2.2.2.1 x.2.2.2.2) := meanF_of (sl04Flow_e x)

theorem sl04Flow_ok : SpecOk Try.prog 68 (evFn (envT Try.prog C88 mtab0) noLoops Try.f68) := fnL_ok (envT_ok (C88_ok) (mtab0_ok _)) mixedO Try.func68 (by kernel_rfl) (c := bodyOf Try.f68) (by kernel_rfl) (loopFree_ok (by kernel_rfl))

theorem sl04Flow_told : SpecOk Try.prog 68 (toldO A_sl04Flow R_sl04Flow (fun x => sl04Flow x.1 x.2.1 x.2.2.1 x.2.2.2.1 x.2.2.2.2) (C88 68)) := toldO_ok (by kernel_rfl) sl04Flow_ok (rest_ok (C88_ok) _) sl04Flow_m

noncomputable def C89 : Tab := tab 68 (toldO A_sl04Flow R_sl04Flow (fun x => sl04Flow x.1 x.2.1 x.2.2.1 x.2.2.2.1 x.2.2.2.2) (C88 68)) C88
theorem C89_ok : TabOk Try.prog C89 := tab_ok (sl04Flow_told) (C88_ok)

def A_sFlowAt : Shp := ⟨[.agg [.h, .h, .h, .h], .h], [], [.f .f32, .f .f32, .f .f32, .f .f32, .f .f32]⟩
def R_sFlowAt : List XShp := [(.ret, ⟨[.tup [.h, .h]], [], [.f .f32, .b]⟩)]

theorem sFlowAt_e (x : DR A_sFlowAt.hs) : (evFn (envT Try.prog C89 mtab0) noLoops Try.f27 (A_sFlowAt.enc x).1).to (fun q => decX R_sFlowAt .ret [q.1] q.2) = sFlowAt_t x.1 x.2.1 x.2.2.1 x.2.2.2.1 x.2.2.2.2 := by kernel_rfl

theorem sFlowAt_m (x : DR A_sFlowAt.hs) : meanF (envT Try.prog C89 mtab0) noLoops Try.f27 A_sFlowAt R_sFlowAt x = (show Option (SumD (R_sFlowAt.map (·.2))) from sFlowAt x.1 x.2.1 x.2.2.1 x.2.2.2.1 x.2.2.2.2) := meanF_of (sFlowAt_e x)

theorem sFlowAt_ok : SpecOk Try.prog 27 (evFn (envT Try.prog C89 mtab0) noLoops Try.f27) := fnL_ok (envT_ok (C89_ok) (mtab0_ok _)) mixedO Try.func27 (by kernel_rfl) (c := bodyOf Try.f27) (by kernel_rfl) (loopFree_ok (by kernel_rfl))

theorem sFlowAt_told : SpecOk Try.prog 27 (toldO A_sFlowAt R_sFlowAt (fun x => sFlowAt x.1 x.2.1 x.2.2.1 x.2.2.2.1 x.2.2.2.2) (C89 27)) := toldO_ok (by kernel_rfl) sFlowAt_ok (rest_ok (C89_ok) _) sFlowAt_m

noncomputable def C90 : Tab := tab 27 (toldO A_sFlowAt R_sFlowAt (fun x => sFlowAt x.1 x.2.1 x.2.2.1 x.2.2.2.1 x.2.2.2.2) (C89 27)) C89
theorem C90_ok : TabOk Try.prog C90 := tab_ok (sFlowAt_told) (C89_ok)

def A_iWetAt : Shp := ⟨[.agg [.h, .h, .h, .h], .h], [], [.f .f32, .f .f32, .f .f32, .f .f32, .f .f32]⟩
def R_iWetAt : List XShp := [(.ret, ⟨[.tup [.h, .h]], [], [.f .f32, .b]⟩)]

theorem iWetAt_e (x : DR A_iWetAt.hs) : (evFn (envT Try.prog C90 mtab0) noLoops Try.f47 (A_iWetAt.enc x).1).to (fun q => decX R_iWetAt .ret [q.1] q.2) = iWetAt_t x.1 x.2.1 x.2.2.1 x.2.2.2.1 x.2.2.2.2 := by kernel_rfl

theorem iWetAt_m (x : DR A_iWetAt.hs) : meanF (envT Try.prog C90 mtab0) noLoops Try.f47 A_iWetAt R_iWetAt x = (show Option (SumD (R_iWetAt.map (·.2))) from iWetAt x.1 x.2.1 x.2.2.1 x.2.2.2.1 x.2.2.2.2) := meanF_of (iWetAt_e x)

theorem iWetAt_ok : SpecOk Try.prog 47 (evFn (envT Try.prog C90 mtab0) noLoops Try.f47) := fnL_ok (envT_ok (C90_ok) (mtab0_ok _)) mixedO Try.func47 (by kernel_rfl) (c := bodyOf Try.f47) (by kernel_rfl) (loopFree_ok (by kernel_rfl))

theorem iWetAt_told : SpecOk Try.prog 47 (toldO A_iWetAt R_iWetAt (fun x => iWetAt x.1 x.2.1 x.2.2.1 x.2.2.2.1 x.2.2.2.2) (C90 47)) := toldO_ok (by kernel_rfl) iWetAt_ok (rest_ok (C90_ok) _) iWetAt_m

noncomputable def C91 : Tab := tab 47 (toldO A_iWetAt R_iWetAt (fun x => iWetAt x.1 x.2.1 x.2.2.1 x.2.2.2.1 x.2.2.2.2) (C90 47)) C90
theorem C91_ok : TabOk Try.prog C91 := tab_ok (iWetAt_told) (C90_ok)

def A_iMiddleAt : Shp := ⟨[.agg [.h, .h, .h, .h], .h], [], [.f .f32, .f .f32, .f .f32, .f .f32, .f .f32]⟩
def R_iMiddleAt : List XShp := [(.ret, ⟨[.tup [.h, .h]], [], [.f .f32, .b]⟩)]

theorem iMiddleAt_e (x : DR A_iMiddleAt.hs) : (evFn (envT Try.prog C91 mtab0) noLoops Try.f17 (A_iMiddleAt.enc x).1).to (fun q => decX R_iMiddleAt .ret [q.1] q.2) = iMiddleAt_t x.1 x.2.1 x.2.2.1 x.2.2.2.1 x.2.2.2.2 := by kernel_rfl

theorem iMiddleAt_m (x : DR A_iMiddleAt.hs) : meanF (envT Try.prog C91 mtab0) noLoops Try.f17 A_iMiddleAt R_iMiddleAt x = (show Option (SumD (R_iMiddleAt.map (·.2))) from iMiddleAt x.1 x.2.1 x.2.2.1 x.2.2.2.1 x.2.2.2.2) := meanF_of (iMiddleAt_e x)

theorem iMiddleAt_ok : SpecOk Try.prog 17 (evFn (envT Try.prog C91 mtab0) noLoops Try.f17) := fnL_ok (envT_ok (C91_ok) (mtab0_ok _)) mixedO Try.func17 (by kernel_rfl) (c := bodyOf Try.f17) (by kernel_rfl) (loopFree_ok (by kernel_rfl))

theorem iMiddleAt_told : SpecOk Try.prog 17 (toldO A_iMiddleAt R_iMiddleAt (fun x => iMiddleAt x.1 x.2.1 x.2.2.1 x.2.2.2.1 x.2.2.2.2) (C91 17)) := toldO_ok (by kernel_rfl) iMiddleAt_ok (rest_ok (C91_ok) _) iMiddleAt_m

noncomputable def C92 : Tab := tab 17 (toldO A_iMiddleAt R_iMiddleAt (fun x => iMiddleAt x.1 x.2.1 x.2.2.1 x.2.2.2.1 x.2.2.2.2) (C91 17)) C91
theorem C92_ok : TabOk Try.prog C92 := tab_ok (iMiddleAt_told) (C91_ok)

def S_inaturalLog_l2 : Shp := ⟨[.h, .h], [], [.f .f64, .f .f64]⟩
def X_inaturalLog_l2 : List XShp := [(.exit 0, ⟨[.h, .h], [], [.f .f64, .f .f64]⟩)]

noncomputable def L_inaturalLog_l2 : Loops := (⟨46, lvT [(9, [3, 4, 5, 6, 7]), (4, [0, 3]), (2, [0, 3])], mdT [(9, .exit 4, [], [5, 7])], fun k vs bs => .bad⟩ : Loops)

theorem inaturalLog_l2_e (s : Nat × Nat) : (loopStep (envT Try.prog C92 mtab0) L_inaturalLog_l2 2 (loopC (bodyOf Try.f117) 2) (S_inaturalLog_l2.enc (s.1, s.2)).1 (S_inaturalLog_l2.enc (s.1, s.2)).2).to (stepD S_inaturalLog_l2 X_inaturalLog_l2) = (inaturalLog_l2_t  s.1 s.2).map (Sum.map (fun s : Nat × Nat => (show DR S_inaturalLog_l2.hs from (s.1, s.2))) id) := by kernel_rfl

theorem inaturalLog_l2_r (x : DR S_inaturalLog_l2.hs) : (inaturalLog_l2 x.1 x.2 : Option (SumD (X_inaturalLog_l2.map (·.2)))) = runL (meanS (envT Try.prog C92 mtab0) L_inaturalLog_l2 2 (loopC (bodyOf Try.f117) 2) S_inaturalLog_l2 X_inaturalLog_l2) x := run_of (fun s : Nat × Nat => (show DR S_inaturalLog_l2.hs from (s.1, s.2))) (inaturalLog_l2_e ) (x.1, x.2)

theorem inaturalLog_l2_k (L : Loops) (hn : L_inaturalLog_l2.n = L.n) (hlv : L_inaturalLog_l2.lv 2 = L.lv 2) (hL : ∀ vs bs, L.loop 2 vs bs = toldL S_inaturalLog_l2 X_inaturalLog_l2 (fun x => inaturalLog_l2 x.1 x.2) vs bs) : LOk Try.prog (envT Try.prog C92 mtab0) L 2 (loopC (bodyOf Try.f117) 2) := toldL_ok (L1 := L_inaturalLog_l2) (envT_ok (C92_ok) (mtab0_ok _)) mixedO hn hlv (loopFree_ok (by kernel_rfl)) inaturalLog_l2_r hL

def S_inaturalLog_l4 : Shp := ⟨[.h, .h], [], [.f .f64, .f .f64]⟩
def X_inaturalLog_l4 : List XShp := [(.exit 2, ⟨[.h, .h], [], [.f .f64, .f .f64]⟩)]

noncomputable def L_inaturalLog_l4 : Loops := (⟨46, lvT [(9, [3, 4, 5, 6, 7]), (4, [0, 3]), (2, [0, 3])], mdT [(9, .exit 4, [], [5, 7])], fun k vs bs => .bad⟩ : Loops)

theorem inaturalLog_l4_e (s : Nat × Nat) : (loopStep (envT Try.prog C92 mtab0) L_inaturalLog_l4 4 (loopC (bodyOf Try.f117) 4) (S_inaturalLog_l4.enc (s.1, s.2)).1 (S_inaturalLog_l4.enc (s.1, s.2)).2).to (stepD S_inaturalLog_l4 X_inaturalLog_l4) = (inaturalLog_l4_t  s.1 s.2).map (Sum.map (fun s : Nat × Nat => (show DR S_inaturalLog_l4.hs from (s.1, s.2))) id) := by kernel_rfl

theorem inaturalLog_l4_r (x : DR S_inaturalLog_l4.hs) : (inaturalLog_l4 x.1 x.2 : Option (SumD (X_inaturalLog_l4.map (·.2)))) = runL (meanS (envT Try.prog C92 mtab0) L_inaturalLog_l4 4 (loopC (bodyOf Try.f117) 4) S_inaturalLog_l4 X_inaturalLog_l4) x := run_of (fun s : Nat × Nat => (show DR S_inaturalLog_l4.hs from (s.1, s.2))) (inaturalLog_l4_e ) (x.1, x.2)

theorem inaturalLog_l4_k (L : Loops) (hn : L_inaturalLog_l4.n = L.n) (hlv : L_inaturalLog_l4.lv 4 = L.lv 4) (hL : ∀ vs bs, L.loop 4 vs bs = toldL S_inaturalLog_l4 X_inaturalLog_l4 (fun x => inaturalLog_l4 x.1 x.2) vs bs) : LOk Try.prog (envT Try.prog C92 mtab0) L 4 (loopC (bodyOf Try.f117) 4) := toldL_ok (L1 := L_inaturalLog_l4) (envT_ok (C92_ok) (mtab0_ok _)) mixedO hn hlv (loopFree_ok (by kernel_rfl)) inaturalLog_l4_r hL

def S_inaturalLog_l9 : Shp := ⟨[.h, .h, .h, .h, .h], [], [.f .f64, .f .f64, .f .f64, .f .f64, .i .i64]⟩
def X_inaturalLog_l9 : List XShp := [(.exit 4, ⟨[.h, .h, .undef, .h, .undef], [], [.f .f64, .f .f64, .f .f64]⟩)]

noncomputable def L_inaturalLog_l9 : Loops := (⟨46, lvT [(9, [3, 4, 5, 6, 7]), (4, [0, 3]), (2, [0, 3])], mdT [(9, .exit 4, [], [5, 7])], fun k vs bs => .bad⟩ : Loops)

theorem inaturalLog_l9_e (y0 : Nat) (y1 : Nat) (y2 : Nat) (s : Nat × Int) : (loopStep (envT Try.prog C92 mtab0) L_inaturalLog_l9 9 (loopC (bodyOf Try.f117) 9) (S_inaturalLog_l9.enc (y0, y1, y2, s.1, s.2)).1 (S_inaturalLog_l9.enc (y0, y1, y2, s.1, s.2)).2).to (stepD S_inaturalLog_l9 X_inaturalLog_l9) = (inaturalLog_l9_t y0 y1 y2 s.1 s.2).map (Sum.map (fun s : Nat × Int => (show DR S_inaturalLog_l9.hs from (y0, y1, y2, s.1, s.2))) id) := by kernel_rfl

theorem inaturalLog_l9_r (x : DR S_inaturalLog_l9.hs) : (inaturalLog_l9 x.1 x.2.1 x.2.2.1 x.2.2.2.1 x.2.2.2.2 : Option (SumD (X_inaturalLog_l9.map (·.2)))) = runL (meanS (envT Try.prog C92 mtab0) L_inaturalLog_l9 9 (loopC (bodyOf Try.f117) 9) S_inaturalLog_l9 X_inaturalLog_l9) x := run_of (fun s : Nat × Int => (show DR S_inaturalLog_l9.hs from (x.1, x.2.1, x.2.2.1, s.1, s.2))) (inaturalLog_l9_e (x.1) (x.2.1) (x.2.2.1)) (x.2.2.2.1, x.2.2.2.2)

theorem inaturalLog_l9_k (L : Loops) (hn : L_inaturalLog_l9.n = L.n) (hlv : L_inaturalLog_l9.lv 9 = L.lv 9) (hL : ∀ vs bs, L.loop 9 vs bs = toldL S_inaturalLog_l9 X_inaturalLog_l9 (fun x => inaturalLog_l9 x.1 x.2.1 x.2.2.1 x.2.2.2.1 x.2.2.2.2) vs bs) : LOk Try.prog (envT Try.prog C92 mtab0) L 9 (loopC (bodyOf Try.f117) 9) := toldL_ok (L1 := L_inaturalLog_l9) (envT_ok (C92_ok) (mtab0_ok _)) mixedO hn hlv (loopFree_ok (by kernel_rfl)) inaturalLog_l9_r hL

def A_inaturalLog : Shp := ⟨[.h], [], [.f .f64]⟩
def R_inaturalLog : List XShp := [(.ret, ⟨[.h], [], [.f .f64]⟩)]

noncomputable def L_inaturalLog : Loops := (⟨46, lvT [(9, [3, 4, 5, 6, 7]), (4, [0, 3]), (2, [0, 3])], mdT [(9, .exit 4, [], [5, 7])], fun k vs bs => bif Nat.beq k 9 then toldL S_inaturalLog_l9 X_inaturalLog_l9 (fun x => inaturalLog_l9 x.1 x.2.1 x.2.2.1 x.2.2.2.1 x.2.2.2.2) vs bs else bif Nat.beq k 4 then toldL S_inaturalLog_l4 X_inaturalLog_l4 (fun x => inaturalLog_l4 x.1 x.2) vs bs else bif Nat.beq k 2 then toldL S_inaturalLog_l2 X_inaturalLog_l2 (fun x => inaturalLog_l2 x.1 x.2) vs bs else .bad⟩ : Loops)

theorem inaturalLog_e (x : DR A_inaturalLog.hs) : (evFn (envT Try.prog C92 mtab0) L_inaturalLog Try.f117 (A_inaturalLog.enc x).1).to (fun q => decX R_inaturalLog .ret [q.1] q.2) = inaturalLog_t x := by kernel_rfl

theorem inaturalLog_m (x : DR A_inaturalLog.hs) : meanF (envT Try.prog C92 mtab0) L_inaturalLog Try.f117 A_inaturalLog R_inaturalLog x = (show Option (SumD (R_inaturalLog.map (·.2))) from inaturalLog x) := meanF_of (inaturalLog_e x)

theorem inaturalLog_ok : SpecOk Try.prog 117 (evFn (envT Try.prog C92 mtab0) L_inaturalLog Try.f117) := fnL_ok (envT_ok (C92_ok) (mtab0_ok _)) mixedO Try.func117 (by kernel_rfl) (c := bodyOf Try.f117) (by kernel_rfl) (loopsL (l := [(2, loopC (bodyOf Try.f117) 2), (4, loopC (bodyOf Try.f117) 4), (9, loopC (bodyOf Try.f117) 9)]) (by kernel_rfl) (lk_cons (inaturalLog_l2_k _ rfl rfl (fun _ _ => rfl)) (lk_cons (inaturalLog_l4_k _ rfl rfl (fun _ _ => rfl)) (lk_cons (inaturalLog_l9_k _ rfl rfl (fun _ _ => rfl)) lk_nil))))

theorem inaturalLog_told : SpecOk Try.prog 117 (toldO A_inaturalLog R_inaturalLog (fun x => inaturalLog x) (C92 117)) := toldO_ok (by kernel_rfl) inaturalLog_ok (rest_ok (C92_ok) _) inaturalLog_m

noncomputable def C93 : Tab := tab 117 (toldO A_inaturalLog R_inaturalLog (fun x => inaturalLog x) (C92 117)) C92
theorem C93_ok : TabOk Try.prog C93 := tab_ok (inaturalLog_told) (C92_ok)

def A_ilogarithm : Shp := ⟨[.h], [], [.f .f32]⟩
def R_ilogarithm : List XShp := [(.ret, ⟨[.h], [], [.f .f64]⟩)]

theorem ilogarithm_e (x : DR A_ilogarithm.hs) : (evFn (envT Try.prog C93 mtab0) noLoops Try.f102 (A_ilogarithm.enc x).1).to (fun q => decX R_ilogarithm .ret [q.1] q.2) = ilogarithm_t x := by kernel_rfl

theorem ilogarithm_m (x : DR A_ilogarithm.hs) : meanF (envT Try.prog C93 mtab0) noLoops Try.f102 A_ilogarithm R_ilogarithm x = (show Option (SumD (R_ilogarithm.map (·.2))) from ilogarithm x) := meanF_of (ilogarithm_e x)

theorem ilogarithm_ok : SpecOk Try.prog 102 (evFn (envT Try.prog C93 mtab0) noLoops Try.f102) := fnL_ok (envT_ok (C93_ok) (mtab0_ok _)) mixedO Try.func102 (by kernel_rfl) (c := bodyOf Try.f102) (by kernel_rfl) (loopFree_ok (by kernel_rfl))

theorem ilogarithm_told : SpecOk Try.prog 102 (toldO A_ilogarithm R_ilogarithm (fun x => ilogarithm x) (C93 102)) := toldO_ok (by kernel_rfl) ilogarithm_ok (rest_ok (C93_ok) _) ilogarithm_m

noncomputable def C94 : Tab := tab 102 (toldO A_ilogarithm R_ilogarithm (fun x => ilogarithm x) (C93 102)) C93
theorem C94_ok : TabOk Try.prog C94 := tab_ok (ilogarithm_told) (C93_ok)

def A_iLogNumber : Shp := ⟨[.h], [], [.f .f32]⟩
def R_iLogNumber : List XShp := [(.ret, ⟨[.h], [], [.f .f32]⟩)]

theorem iLogNumber_e (x : DR A_iLogNumber.hs) : (evFn (envT Try.prog C94 mtab0) noLoops Try.f70 (A_iLogNumber.enc x).1).to (fun q => decX R_iLogNumber .ret [q.1] q.2) = iLogNumber_t x := by kernel_rfl

theorem iLogNumber_m (x : DR A_iLogNumber.hs) : meanF (envT Try.prog C94 mtab0) noLoops Try.f70 A_iLogNumber R_iLogNumber x = (show Option (SumD (R_iLogNumber.map (·.2))) from iLogNumber x) := meanF_of (iLogNumber_e x)

theorem iLogNumber_ok : SpecOk Try.prog 70 (evFn (envT Try.prog C94 mtab0) noLoops Try.f70) := fnL_ok (envT_ok (C94_ok) (mtab0_ok _)) mixedO Try.func70 (by kernel_rfl) (c := bodyOf Try.f70) (by kernel_rfl) (loopFree_ok (by kernel_rfl))

theorem iLogNumber_told : SpecOk Try.prog 70 (toldO A_iLogNumber R_iLogNumber (fun x => iLogNumber x) (C94 70)) := toldO_ok (by kernel_rfl) iLogNumber_ok (rest_ok (C94_ok) _) iLogNumber_m

noncomputable def C95 : Tab := tab 70 (toldO A_iLogNumber R_iLogNumber (fun x => iLogNumber x) (C94 70)) C94
theorem C95_ok : TabOk Try.prog C95 := tab_ok (iLogNumber_told) (C94_ok)

def S_iExpNumber_l7 : Shp := ⟨[.h, .h, .h], [], [.f .f64, .f .f64, .i .i64]⟩
def X_iExpNumber_l7 : List XShp := [(.exit 1, ⟨[.undef, .h, .undef], [], [.f .f64]⟩)]

noncomputable def L_iExpNumber_l7 : Loops := (⟨36, lvT [(11, [4, 28]), (7, [3, 4, 5])], mdT [(11, .exit 3, [], [28]), (7, .exit 1, [], [3, 5])], fun k vs bs => .bad⟩ : Loops)

theorem iExpNumber_l7_e (y0 : Nat) (s : Nat × Int) : (loopStep (envT Try.prog C95 mtab0) L_iExpNumber_l7 7 (loopC (bodyOf Try.f69) 7) (S_iExpNumber_l7.enc (y0, s.1, s.2)).1 (S_iExpNumber_l7.enc (y0, s.1, s.2)).2).to (stepD S_iExpNumber_l7 X_iExpNumber_l7) = (iExpNumber_l7_t y0 s.1 s.2).map (Sum.map (fun s : Nat × Int => (show DR S_iExpNumber_l7.hs from (y0, s.1, s.2))) id) := by kernel_rfl

theorem iExpNumber_l7_r (x : DR S_iExpNumber_l7.hs) : (iExpNumber_l7 x.1 x.2.1 x.2.2 : Option (SumD (X_iExpNumber_l7.map (·.2)))) = runL (meanS (envT Try.prog C95 mtab0) L_iExpNumber_l7 7 (loopC (bodyOf Try.f69) 7) S_iExpNumber_l7 X_iExpNumber_l7) x := run_of (fun s : Nat × Int => (show DR S_iExpNumber_l7.hs from (x.1, s.1, s.2))) (iExpNumber_l7_e (x.1)) (x.2.1, x.2.2)

theorem iExpNumber_l7_k (L : Loops) (hn : L_iExpNumber_l7.n = L.n) (hlv : L_iExpNumber_l7.lv 7 = L.lv 7) (hL : ∀ vs bs, L.loop 7 vs bs = toldL S_iExpNumber_l7 X_iExpNumber_l7 (fun x => iExpNumber_l7 x.1 x.2.1 x.2.2) vs bs) : LOk Try.prog (envT Try.prog C95 mtab0) L 7 (loopC (bodyOf Try.f69) 7) := toldL_ok (L1 := L_iExpNumber_l7) (envT_ok (C95_ok) (mtab0_ok _)) mixedO hn hlv (loopFree_ok (by kernel_rfl)) iExpNumber_l7_r hL

def S_iExpNumber_l11 : Shp := ⟨[.h, .h], [], [.f .f64, .i .i64]⟩
def X_iExpNumber_l11 : List XShp := [(.exit 3, ⟨[.h, .undef], [], [.f .f64]⟩)]

noncomputable def L_iExpNumber_l11 : Loops := (⟨36, lvT [(11, [4, 28]), (7, [3, 4, 5])], mdT [(11, .exit 3, [], [28]), (7, .exit 1, [], [3, 5])], fun k vs bs => .bad⟩ : Loops)

theorem iExpNumber_l11_e (s : Nat × Int) : (loopStep (envT Try.prog C95 mtab0) L_iExpNumber_l11 11 (loopC (bodyOf Try.f69) 11) (S_iExpNumber_l11.enc (s.1, s.2)).1 (S_iExpNumber_l11.enc (s.1, s.2)).2).to (stepD S_iExpNumber_l11 X_iExpNumber_l11) = (iExpNumber_l11_t  s.1 s.2).map (Sum.map (fun s : Nat × Int => (show DR S_iExpNumber_l11.hs from (s.1, s.2))) id) := by kernel_rfl

theorem iExpNumber_l11_r (x : DR S_iExpNumber_l11.hs) : (iExpNumber_l11 x.1 x.2 : Option (SumD (X_iExpNumber_l11.map (·.2)))) = runL (meanS (envT Try.prog C95 mtab0) L_iExpNumber_l11 11 (loopC (bodyOf Try.f69) 11) S_iExpNumber_l11 X_iExpNumber_l11) x := run_of (fun s : Nat × Int => (show DR S_iExpNumber_l11.hs from (s.1, s.2))) (iExpNumber_l11_e ) (x.1, x.2)

theorem iExpNumber_l11_k (L : Loops) (hn : L_iExpNumber_l11.n = L.n) (hlv : L_iExpNumber_l11.lv 11 = L.lv 11) (hL : ∀ vs bs, L.loop 11 vs bs = toldL S_iExpNumber_l11 X_iExpNumber_l11 (fun x => iExpNumber_l11 x.1 x.2) vs bs) : LOk Try.prog (envT Try.prog C95 mtab0) L 11 (loopC (bodyOf Try.f69) 11) := toldL_ok (L1 := L_iExpNumber_l11) (envT_ok (C95_ok) (mtab0_ok _)) mixedO hn hlv (loopFree_ok (by kernel_rfl)) iExpNumber_l11_r hL

def A_iExpNumber : Shp := ⟨[.h], [], [.f .f32]⟩
def R_iExpNumber : List XShp := [(.ret, ⟨[.h], [], [.f .f32]⟩)]

noncomputable def L_iExpNumber : Loops := (⟨36, lvT [(11, [4, 28]), (7, [3, 4, 5])], mdT [(11, .exit 3, [], [28]), (7, .exit 1, [], [3, 5])], fun k vs bs => bif Nat.beq k 11 then toldL S_iExpNumber_l11 X_iExpNumber_l11 (fun x => iExpNumber_l11 x.1 x.2) vs bs else bif Nat.beq k 7 then toldL S_iExpNumber_l7 X_iExpNumber_l7 (fun x => iExpNumber_l7 x.1 x.2.1 x.2.2) vs bs else .bad⟩ : Loops)

theorem iExpNumber_e (x : DR A_iExpNumber.hs) : (evFn (envT Try.prog C95 mtab0) L_iExpNumber Try.f69 (A_iExpNumber.enc x).1).to (fun q => decX R_iExpNumber .ret [q.1] q.2) = iExpNumber_t x := by kernel_rfl

theorem iExpNumber_m (x : DR A_iExpNumber.hs) : meanF (envT Try.prog C95 mtab0) L_iExpNumber Try.f69 A_iExpNumber R_iExpNumber x = (show Option (SumD (R_iExpNumber.map (·.2))) from iExpNumber x) := meanF_of (iExpNumber_e x)

theorem iExpNumber_ok : SpecOk Try.prog 69 (evFn (envT Try.prog C95 mtab0) L_iExpNumber Try.f69) := fnL_ok (envT_ok (C95_ok) (mtab0_ok _)) mixedO Try.func69 (by kernel_rfl) (c := bodyOf Try.f69) (by kernel_rfl) (loopsL (l := [(7, loopC (bodyOf Try.f69) 7), (11, loopC (bodyOf Try.f69) 11)]) (by kernel_rfl) (lk_cons (iExpNumber_l7_k _ rfl rfl (fun _ _ => rfl)) (lk_cons (iExpNumber_l11_k _ rfl rfl (fun _ _ => rfl)) lk_nil)))

theorem iExpNumber_told : SpecOk Try.prog 69 (toldO A_iExpNumber R_iExpNumber (fun x => iExpNumber x) (C95 69)) := toldO_ok (by kernel_rfl) iExpNumber_ok (rest_ok (C95_ok) _) iExpNumber_m

noncomputable def C96 : Tab := tab 69 (toldO A_iExpNumber R_iExpNumber (fun x => iExpNumber x) (C95 69)) C95
theorem C96_ok : TabOk Try.prog C96 := tab_ok (iExpNumber_told) (C95_ok)

def A_iFlowAt : Shp := ⟨[.agg [.h, .h, .h, .h], .h], [], [.f .f32, .f .f32, .f .f32, .f .f32, .f .f32]⟩
def R_iFlowAt : List XShp := [(.ret, ⟨[.tup [.h, .h]], [], [.f .f32, .b]⟩)]

theorem iFlowAt_e (x : DR A_iFlowAt.hs) : (evFn (envT Try.prog C96 mtab0) noLoops Try.f28 (A_iFlowAt.enc x).1).to (fun q => decX R_iFlowAt .ret [q.1] q.2) = iFlowAt_t x.1 x.2.1 x.2.2.1 x.2.2.2.1 x.2.2.2.2 := by kernel_rfl

theorem iFlowAt_m (x : DR A_iFlowAt.hs) : meanF (envT Try.prog C96 mtab0) noLoops Try.f28 A_iFlowAt R_iFlowAt x = (show Option (SumD (R_iFlowAt.map (·.2))) from iFlowAt x.1 x.2.1 x.2.2.1 x.2.2.2.1 x.2.2.2.2) := meanF_of (iFlowAt_e x)

theorem iFlowAt_ok : SpecOk Try.prog 28 (evFn (envT Try.prog C96 mtab0) noLoops Try.f28) := fnL_ok (envT_ok (C96_ok) (mtab0_ok _)) mixedO Try.func28 (by kernel_rfl) (c := bodyOf Try.f28) (by kernel_rfl) (loopFree_ok (by kernel_rfl))

theorem iFlowAt_told : SpecOk Try.prog 28 (toldO A_iFlowAt R_iFlowAt (fun x => iFlowAt x.1 x.2.1 x.2.2.1 x.2.2.2.1 x.2.2.2.2) (C96 28)) := toldO_ok (by kernel_rfl) iFlowAt_ok (rest_ok (C96_ok) _) iFlowAt_m

noncomputable def C97 : Tab := tab 28 (toldO A_iFlowAt R_iFlowAt (fun x => iFlowAt x.1 x.2.1 x.2.2.1 x.2.2.2.1 x.2.2.2.2) (C96 28)) C96
theorem C97_ok : TabOk Try.prog C97 := tab_ok (iFlowAt_told) (C96_ok)

def A_wFnExactFlowAt : Shp := ⟨[.agg [.h, .h, .h, .h], .h], [], [.f .f32, .f .f32, .f .f32, .f .f32, .f .f32]⟩
def R_wFnExactFlowAt : List XShp := [(.ret, ⟨[.h], [], [.b]⟩)]

theorem wFnExactFlowAt_e (x : DR A_wFnExactFlowAt.hs) : (evFn (envT Try.prog C97 mtab0) noLoops Try.f8 (A_wFnExactFlowAt.enc x).1).to (fun q => decX R_wFnExactFlowAt .ret [q.1] q.2) = wFnExactFlowAt_t x.1 x.2.1 x.2.2.1 x.2.2.2.1 x.2.2.2.2 := by kernel_rfl

theorem wFnExactFlowAt_m (x : DR A_wFnExactFlowAt.hs) : meanF (envT Try.prog C97 mtab0) noLoops Try.f8 A_wFnExactFlowAt R_wFnExactFlowAt x = (show Option (SumD (R_wFnExactFlowAt.map (·.2))) from wFnExactFlowAt x.1 x.2.1 x.2.2.1 x.2.2.2.1 x.2.2.2.2) := meanF_of (wFnExactFlowAt_e x)

theorem wFnExactFlowAt_ok : SpecOk Try.prog 8 (evFn (envT Try.prog C97 mtab0) noLoops Try.f8) := fnL_ok (envT_ok (C97_ok) (mtab0_ok _)) mixedO Try.func8 (by kernel_rfl) (c := bodyOf Try.f8) (by kernel_rfl) (loopFree_ok (by kernel_rfl))

theorem wFnExactFlowAt_told : SpecOk Try.prog 8 (toldO A_wFnExactFlowAt R_wFnExactFlowAt (fun x => wFnExactFlowAt x.1 x.2.1 x.2.2.1 x.2.2.2.1 x.2.2.2.2) (C97 8)) := toldO_ok (by kernel_rfl) wFnExactFlowAt_ok (rest_ok (C97_ok) _) wFnExactFlowAt_m

noncomputable def C98 : Tab := tab 8 (toldO A_wFnExactFlowAt R_wFnExactFlowAt (fun x => wFnExactFlowAt x.1 x.2.1 x.2.2.1 x.2.2.2.1 x.2.2.2.2) (C97 8)) C97
theorem C98_ok : TabOk Try.prog C98 := tab_ok (wFnExactFlowAt_told) (C97_ok)

theorem lawFnExactFlowAt_ok : SpecOk Try.prog 8 (evFn (envT Try.prog C97 mtab0) noLoops Try.f8) := wFnExactFlowAt_ok
theorem lawFnExactFlowAt_says (x : DR A_wFnExactFlowAt.hs) (h : (show Option (SumD (R_wFnExactFlowAt.map (·.2))) from wFnExactFlowAt x.1 x.2.1 x.2.2.1 x.2.2.2.1 x.2.2.2.2) = some true) : saysTrue (evFn (envT Try.prog C97 mtab0) noLoops Try.f8 (A_wFnExactFlowAt.enc x).1) = true := law_says (x := x) ((wFnExactFlowAt_m x).trans h)

theorem lawFnExactFlowAt_true (x0 : Nat) (x1 : Nat) (x2 : Nat) (x3 : Nat) (x4 : Nat) (h : wFnExactFlowAt x0 x1 x2 x3 x4 = some true) : saysTrue (evFn (envT Try.prog C97 mtab0) noLoops Try.f8 [.agg [.f .f32 x0, .f .f32 x1, .f .f32 x2, .f .f32 x3], .f .f32 x4]) = true := (congrArg (fun l => saysTrue (evFn (envT Try.prog C97 mtab0) noLoops Try.f8 l)) (by kernel_rfl : ([.agg [.f .f32 x0, .f .f32 x1, .f .f32 x2, .f .f32 x3], .f .f32 x4] : List V) = (A_wFnExactFlowAt.enc (x0, x1, x2, x3, x4)).1)).trans (lawFnExactFlowAt_says (x0, x1, x2, x3, x4) h)

def S_sNormalDepth_l6 : Shp := ⟨[.h, .ref 0 0, .undef, .undef, .h, .h, .h], [.cells [.h, .h, .h, .h] false], [.f .f32, .f .f32, .f .f32, .i .i64, .f .f32, .f .f32, .f .f32, .f .f32]⟩
def X_sNormalDepth_l6 : List XShp := [(.ret, ⟨[.undef, .undef, .h, .lb false, .undef, .undef, .undef], [], [.f .f32]⟩), (.exit 0, ⟨[.undef, .undef, .undef, .undef, .undef, .h, .undef], [], [.f .f32]⟩)]

noncomputable def L_sNormalDepth_l6 : Loops := (⟨41, lvT [(6, [1, 2, 4, 5, 6, 7, 8])], mdT [(6, .normal, [], [4, 5]), (6, .exit 0, [], [1, 2, 4, 5, 6, 8]), (6, .ret, [], [1, 2, 6, 7, 8])], fun k vs bs => .bad⟩ : Loops)

theorem sNormalDepth_l6_e (y0 : Nat) (y4 : Nat) (y5 : Nat) (y6 : Nat) (y7 : Nat) (s : Nat × Nat × Int) : (loopStep (envT Try.prog C98 mtab0) L_sNormalDepth_l6 6 (loopC (bodyOf Try.f33) 6) (S_sNormalDepth_l6.enc (y0, s.1, s.2.1, s.2.2, y4, y5, y6, y7)).1 (S_sNormalDepth_l6.enc (y0, s.1, s.2.1, s.2.2, y4, y5, y6, y7)).2).to (stepD S_sNormalDepth_l6 X_sNormalDepth_l6) = (sNormalDepth_l6_t y0 y4 y5 y6 y7 s.1 s.2.1 s.2.2).map (Sum.map (fun s : Nat × Nat × Int => (show DR S_sNormalDepth_l6.hs from (y0, s.1, s.2.1, s.2.2, y4, y5, y6, y7))) id) := by kernel_rfl

theorem sNormalDepth_l6_r (x : DR S_sNormalDepth_l6.hs) : (sNormalDepth_l6 x.1 x.2.1 x.2.2.1 x.2.2.2.1 x.2.2.2.2.1 x.2.2.2.2.2.1 x.2.2.2.2.2.2.1 x.2.2.2.2.2.2.2 : Option (SumD (X_sNormalDepth_l6.map (·.2)))) = runL (meanS (envT Try.prog C98 mtab0) L_sNormalDepth_l6 6 (loopC (bodyOf Try.f33) 6) S_sNormalDepth_l6 X_sNormalDepth_l6) x := run_of (fun s : Nat × Nat × Int => (show DR S_sNormalDepth_l6.hs from (x.1, s.1, s.2.1, s.2.2, x.2.2.2.2.1, x.2.2.2.2.2.1, x.2.2.2.2.2.2.1, x.2.2.2.2.2.2.2))) (sNormalDepth_l6_e (x.1) (x.2.2.2.2.1) (x.2.2.2.2.2.1) (x.2.2.2.2.2.2.1) (x.2.2.2.2.2.2.2)) (x.2.1, x.2.2.1, x.2.2.2.1)

theorem sNormalDepth_l6_k (L : Loops) (hn : L_sNormalDepth_l6.n = L.n) (hlv : L_sNormalDepth_l6.lv 6 = L.lv 6) (hL : ∀ vs bs, L.loop 6 vs bs = toldL S_sNormalDepth_l6 X_sNormalDepth_l6 (fun x => sNormalDepth_l6 x.1 x.2.1 x.2.2.1 x.2.2.2.1 x.2.2.2.2.1 x.2.2.2.2.2.1 x.2.2.2.2.2.2.1 x.2.2.2.2.2.2.2) vs bs) : LOk Try.prog (envT Try.prog C98 mtab0) L 6 (loopC (bodyOf Try.f33) 6) := toldL_ok (L1 := L_sNormalDepth_l6) (envT_ok (C98_ok) (mtab0_ok _)) mixedO hn hlv (loopFree_ok (by kernel_rfl)) sNormalDepth_l6_r hL

def A_sNormalDepth : Shp := ⟨[.agg [.h, .h, .h, .h], .h], [], [.f .f32, .f .f32, .f .f32, .f .f32, .f .f32]⟩
def R_sNormalDepth : List XShp := [(.ret, ⟨[.tup [.h, .h]], [], [.f .f32, .b]⟩)]

noncomputable def L_sNormalDepth : Loops := (⟨41, lvT [(6, [1, 2, 4, 5, 6, 7, 8])], mdT [(6, .normal, [], [4, 5]), (6, .exit 0, [], [1, 2, 4, 5, 6, 8]), (6, .ret, [], [1, 2, 6, 7, 8])], fun k vs bs => bif Nat.beq k 6 then toldL S_sNormalDepth_l6 X_sNormalDepth_l6 (fun x => sNormalDepth_l6 x.1 x.2.1 x.2.2.1 x.2.2.2.1 x.2.2.2.2.1 x.2.2.2.2.2.1 x.2.2.2.2.2.2.1 x.2.2.2.2.2.2.2) vs bs else .bad⟩ : Loops)

theorem sNormalDepth_e (x : DR A_sNormalDepth.hs) : (evFn (envT Try.prog C98 mtab0) L_sNormalDepth Try.f33 (A_sNormalDepth.enc x).1).to (fun q => decX R_sNormalDepth .ret [q.1] q.2) = sNormalDepth_t x.1 x.2.1 x.2.2.1 x.2.2.2.1 x.2.2.2.2 := by kernel_rfl

theorem sNormalDepth_m (x : DR A_sNormalDepth.hs) : meanF (envT Try.prog C98 mtab0) L_sNormalDepth Try.f33 A_sNormalDepth R_sNormalDepth x = (show Option (SumD (R_sNormalDepth.map (·.2))) from sNormalDepth x.1 x.2.1 x.2.2.1 x.2.2.2.1 x.2.2.2.2) := meanF_of (sNormalDepth_e x)

theorem sNormalDepth_ok : SpecOk Try.prog 33 (evFn (envT Try.prog C98 mtab0) L_sNormalDepth Try.f33) := fnL_ok (envT_ok (C98_ok) (mtab0_ok _)) mixedO Try.func33 (by kernel_rfl) (c := bodyOf Try.f33) (by kernel_rfl) (loopsL (l := [(6, loopC (bodyOf Try.f33) 6)]) (by kernel_rfl) (lk_cons (sNormalDepth_l6_k _ rfl rfl (fun _ _ => rfl)) lk_nil))

theorem sNormalDepth_told : SpecOk Try.prog 33 (toldO A_sNormalDepth R_sNormalDepth (fun x => sNormalDepth x.1 x.2.1 x.2.2.1 x.2.2.2.1 x.2.2.2.2) (C98 33)) := toldO_ok (by kernel_rfl) sNormalDepth_ok (rest_ok (C98_ok) _) sNormalDepth_m

noncomputable def C99 : Tab := tab 33 (toldO A_sNormalDepth R_sNormalDepth (fun x => sNormalDepth x.1 x.2.1 x.2.2.1 x.2.2.2.1 x.2.2.2.2) (C98 33)) C98
theorem C99_ok : TabOk Try.prog C99 := tab_ok (sNormalDepth_told) (C98_ok)

def A_iNormalDepth_1 : Shp := ⟨[.h, .dpt [.h, .h, .h, .h] 0, .dpt [.h] 0], [], [.f .f32, .f .f32, .f .f32, .f .f32, .f .f32, .f .f32]⟩
def R_iNormalDepth_1 : List XShp := [(.ret, ⟨[.tup [.h, .h]], [], [.b, .b]⟩)]

theorem iNormalDepth_1_e (x : DR A_iNormalDepth_1.hs) : (evFn (envT Try.prog C99 mtab0) noLoops Try.f80 (A_iNormalDepth_1.enc x).1).to (fun q => decX R_iNormalDepth_1 .ret [q.1] q.2) = iNormalDepth_1_t x.1 x.2.1 x.2.2.1 x.2.2.2.1 x.2.2.2.2.1 x.2.2.2.2.2 := by kernel_rfl

theorem iNormalDepth_1_m (x : DR A_iNormalDepth_1.hs) : meanF (envT Try.prog C99 mtab0) noLoops Try.f80 A_iNormalDepth_1 R_iNormalDepth_1 x = (show Option (SumD (R_iNormalDepth_1.map (·.2))) from iNormalDepth_1 x.1 x.2.1 x.2.2.1 x.2.2.2.1 x.2.2.2.2.1 x.2.2.2.2.2) := meanF_of (iNormalDepth_1_e x)

theorem iNormalDepth_1_ok : SpecOk Try.prog 80 (evFn (envT Try.prog C99 mtab0) noLoops Try.f80) := fnL_ok (envT_ok (C99_ok) (mtab0_ok _)) mixedO Try.func80 (by kernel_rfl) (c := bodyOf Try.f80) (by kernel_rfl) (loopFree_ok (by kernel_rfl))

theorem iNormalDepth_1_told : SpecOk Try.prog 80 (toldO A_iNormalDepth_1 R_iNormalDepth_1 (fun x => iNormalDepth_1 x.1 x.2.1 x.2.2.1 x.2.2.2.1 x.2.2.2.2.1 x.2.2.2.2.2) (C99 80)) := toldO_ok (by kernel_rfl) iNormalDepth_1_ok (rest_ok (C99_ok) _) iNormalDepth_1_m

noncomputable def C100 : Tab := tab 80 (toldO A_iNormalDepth_1 R_iNormalDepth_1 (fun x => iNormalDepth_1 x.1 x.2.1 x.2.2.1 x.2.2.2.1 x.2.2.2.2.1 x.2.2.2.2.2) (C99 80)) C99
theorem C100_ok : TabOk Try.prog C100 := tab_ok (iNormalDepth_1_told) (C99_ok)

def S_ihalve_iNormalDepth_1_l2 : Shp := ⟨[.h, .h, .fn 80 [.dpt [.h, .h, .h, .h] 0, .dpt [.h] 0], .undef, .undef, .undef, .h], [], [.f .f32, .f .f32, .f .f32, .f .f32, .f .f32, .f .f32, .f .f32, .i .i64]⟩
def X_ihalve_iNormalDepth_1_l2 : List XShp := [(.ret, ⟨[.undef, .undef, .undef, .h, .h, .lb false, .undef], [], [.f .f32, .f .f32]⟩), (.exit 0, ⟨[.h, .h, .undef, .undef, .undef, .undef, .undef], [], [.f .f32, .f .f32]⟩)]

noncomputable def L_ihalve_iNormalDepth_1_l2 : Loops := (⟨32, lvT [(2, [0, 1, 2, 6, 7, 8, 12])], mdT [(2, .normal, [], [6, 7, 8]), (2, .exit 0, [], [2, 6, 7, 8, 12]), (2, .ret, [], [0, 1, 2, 12])], fun k vs bs => .bad⟩ : Loops)

theorem ihalve_iNormalDepth_1_l2_e (y2 : Nat) (y3 : Nat) (y4 : Nat) (y5 : Nat) (y6 : Nat) (s : Nat × Nat × Int) : (loopStep (envT Try.prog C100 mtab0) L_ihalve_iNormalDepth_1_l2 2 (loopC (bodyOf Try.f79) 2) (S_ihalve_iNormalDepth_1_l2.enc (s.1, s.2.1, y2, y3, y4, y5, y6, s.2.2)).1 (S_ihalve_iNormalDepth_1_l2.enc (s.1, s.2.1, y2, y3, y4, y5, y6, s.2.2)).2).to (stepD S_ihalve_iNormalDepth_1_l2 X_ihalve_iNormalDepth_1_l2) = (ihalve_iNormalDepth_1_l2_t y2 y3 y4 y5 y6 s.1 s.2.1 s.2.2).map (Sum.map (fun s : Nat × Nat × Int => (show DR S_ihalve_iNormalDepth_1_l2.hs from (s.1, s.2.1, y2, y3, y4, y5, y6, s.2.2))) id) := by kernel_rfl

theorem ihalve_iNormalDepth_1_l2_r (x : DR S_ihalve_iNormalDepth_1_l2.hs) : (ihalve_iNormalDepth_1_l2 x.1 x.2.1 x.2.2.1 x.2.2.2.1 x.2.2.2.2.1 x.2.2.2.2.2.1 x.2.2.2.2.2.2.1 x.2.2.2.2.2.2.2 : Option (SumD (X_ihalve_iNormalDepth_1_l2.map (·.2)))) = runL (meanS (envT Try.prog C100 mtab0) L_ihalve_iNormalDepth_1_l2 2 (loopC (bodyOf Try.f79) 2) S_ihalve_iNormalDepth_1_l2 X_ihalve_iNormalDepth_1_l2) x := run_of (fun s : Nat × Nat × Int => (show DR S_ihalve_iNormalDepth_1_l2.hs from (s.1, s.2.1, x.2.2.1, x.2.2.2.1, x.2.2.2.2.1, x.2.2.2.2.2.1, x.2.2.2.2.2.2.1, s.2.2))) (ihalve_iNormalDepth_1_l2_e (x.2.2.1) (x.2.2.2.1) (x.2.2.2.2.1) (x.2.2.2.2.2.1) (x.2.2.2.2.2.2.1)) (x.1, x.2.1, x.2.2.2.2.2.2.2)

theorem ihalve_iNormalDepth_1_l2_k (L : Loops) (hn : L_ihalve_iNormalDepth_1_l2.n = L.n) (hlv : L_ihalve_iNormalDepth_1_l2.lv 2 = L.lv 2) (hL : ∀ vs bs, L.loop 2 vs bs = toldL S_ihalve_iNormalDepth_1_l2 X_ihalve_iNormalDepth_1_l2 (fun x => ihalve_iNormalDepth_1_l2 x.1 x.2.1 x.2.2.1 x.2.2.2.1 x.2.2.2.2.1 x.2.2.2.2.2.1 x.2.2.2.2.2.2.1 x.2.2.2.2.2.2.2) vs bs) : LOk Try.prog (envT Try.prog C100 mtab0) L 2 (loopC (bodyOf Try.f79) 2) := toldL_ok (L1 := L_ihalve_iNormalDepth_1_l2) (envT_ok (C100_ok) (mtab0_ok _)) mixedO hn hlv (loopFree_ok (by kernel_rfl)) ihalve_iNormalDepth_1_l2_r hL

def A_ihalve_iNormalDepth_1 : Shp := ⟨[.h, .h, .fn 80 [.dpt [.h, .h, .h, .h] 0, .dpt [.h] 0]], [], [.f .f32, .f .f32, .f .f32, .f .f32, .f .f32, .f .f32, .f .f32]⟩
def R_ihalve_iNormalDepth_1 : List XShp := [(.ret, ⟨[.tup [.h, .h, .h]], [], [.f .f32, .f .f32, .b]⟩)]

noncomputable def L_ihalve_iNormalDepth_1 : Loops := (⟨32, lvT [(2, [0, 1, 2, 6, 7, 8, 12])], mdT [(2, .normal, [], [6, 7, 8]), (2, .exit 0, [], [2, 6, 7, 8, 12]), (2, .ret, [], [0, 1, 2, 12])], fun k vs bs => bif Nat.beq k 2 then toldL S_ihalve_iNormalDepth_1_l2 X_ihalve_iNormalDepth_1_l2 (fun x => ihalve_iNormalDepth_1_l2 x.1 x.2.1 x.2.2.1 x.2.2.2.1 x.2.2.2.2.1 x.2.2.2.2.2.1 x.2.2.2.2.2.2.1 x.2.2.2.2.2.2.2) vs bs else .bad⟩ : Loops)

theorem ihalve_iNormalDepth_1_e (x : DR A_ihalve_iNormalDepth_1.hs) : (evFn (envT Try.prog C100 mtab0) L_ihalve_iNormalDepth_1 Try.f79 (A_ihalve_iNormalDepth_1.enc x).1).to (fun q => decX R_ihalve_iNormalDepth_1 .ret [q.1] q.2) = ihalve_iNormalDepth_1_t x.1 x.2.1 x.2.2.1 x.2.2.2.1 x.2.2.2.2.1 x.2.2.2.2.2.1 x.2.2.2.2.2.2 := by kernel_rfl

theorem ihalve_iNormalDepth_1_m (x : DR A_ihalve_iNormalDepth_1.hs) : meanF (envT Try.prog C100 mtab0) L_ihalve_iNormalDepth_1 Try.f79 A_ihalve_iNormalDepth_1 R_ihalve_iNormalDepth_1 x = (show Option (SumD (R_ihalve_iNormalDepth_1.map (·.2))) from ihalve_iNormalDepth_1 x.1 x.2.1 x.2.2.1 x.2.2.2.1 x.2.2.2.2.1 x.2.2.2.2.2.1 x.2.2.2.2.2.2) := meanF_of (ihalve_iNormalDepth_1_e x)

theorem ihalve_iNormalDepth_1_ok : SpecOk Try.prog 79 (evFn (envT Try.prog C100 mtab0) L_ihalve_iNormalDepth_1 Try.f79) := fnL_ok (envT_ok (C100_ok) (mtab0_ok _)) mixedO Try.func79 (by kernel_rfl) (c := bodyOf Try.f79) (by kernel_rfl) (loopsL (l := [(2, loopC (bodyOf Try.f79) 2)]) (by kernel_rfl) (lk_cons (ihalve_iNormalDepth_1_l2_k _ rfl rfl (fun _ _ => rfl)) lk_nil))

theorem ihalve_iNormalDepth_1_told : SpecOk Try.prog 79 (toldO A_ihalve_iNormalDepth_1 R_ihalve_iNormalDepth_1 (fun x => ihalve_iNormalDepth_1 x.1 x.2.1 x.2.2.1 x.2.2.2.1 x.2.2.2.2.1 x.2.2.2.2.2.1 x.2.2.2.2.2.2) (C100 79)) := toldO_ok (by kernel_rfl) ihalve_iNormalDepth_1_ok (rest_ok (C100_ok) _) ihalve_iNormalDepth_1_m

noncomputable def C101 : Tab := tab 79 (toldO A_ihalve_iNormalDepth_1 R_ihalve_iNormalDepth_1 (fun x => ihalve_iNormalDepth_1 x.1 x.2.1 x.2.2.1 x.2.2.2.1 x.2.2.2.2.1 x.2.2.2.2.2.1 x.2.2.2.2.2.2) (C100 79)) C100
theorem C101_ok : TabOk Try.prog C101 := tab_ok (ihalve_iNormalDepth_1_told) (C100_ok)

def A_iNormalDepth : Shp := ⟨[.agg [.h, .h, .h, .h], .h], [], [.f .f32, .f .f32, .f .f32, .f .f32, .f .f32]⟩
def R_iNormalDepth : List XShp := [(.ret, ⟨[.tup [.h, .h]], [], [.f .f32, .b]⟩)]

theorem iNormalDepth_e (x : DR A_iNormalDepth.hs) : (evFn (envT Try.prog C101 mtab0) noLoops Try.f34 (A_iNormalDepth.enc x).1).to (fun q => decX R_iNormalDepth .ret [q.1] q.2) = iNormalDepth_t x.1 x.2.1 x.2.2.1 x.2.2.2.1 x.2.2.2.2 := by kernel_rfl

theorem iNormalDepth_m (x : DR A_iNormalDepth.hs) : meanF (envT Try.prog C101 mtab0) noLoops Try.f34 A_iNormalDepth R_iNormalDepth x = (show Option (SumD (R_iNormalDepth.map (·.2))) from iNormalDepth x.1 x.2.1 x.2.2.1 x.2.2.2.1 x.2.2.2.2) := meanF_of (iNormalDepth_e x)

theorem iNormalDepth_ok : SpecOk Try.prog 34 (evFn (envT Try.prog C101 mtab0) noLoops Try.f34) := fnL_ok (envT_ok (C101_ok) (mtab0_ok _)) mixedO Try.func34 (by kernel_rfl) (c := bodyOf Try.f34) (by kernel_rfl) (loopFree_ok (by kernel_rfl))

theorem iNormalDepth_told : SpecOk Try.prog 34 (toldO A_iNormalDepth R_iNormalDepth (fun x => iNormalDepth x.1 x.2.1 x.2.2.1 x.2.2.2.1 x.2.2.2.2) (C101 34)) := toldO_ok (by kernel_rfl) iNormalDepth_ok (rest_ok (C101_ok) _) iNormalDepth_m

noncomputable def C102 : Tab := tab 34 (toldO A_iNormalDepth R_iNormalDepth (fun x => iNormalDepth x.1 x.2.1 x.2.2.1 x.2.2.2.1 x.2.2.2.2) (C101 34)) C101
theorem C102_ok : TabOk Try.prog C102 := tab_ok (iNormalDepth_told) (C101_ok)

def A_wFnExactNormalDepth : Shp := ⟨[.agg [.h, .h, .h, .h], .h], [], [.f .f32, .f .f32, .f .f32, .f .f32, .f .f32]⟩
def R_wFnExactNormalDepth : List XShp := [(.ret, ⟨[.h], [], [.b]⟩)]

theorem wFnExactNormalDepth_e (x : DR A_wFnExactNormalDepth.hs) : (evFn (envT Try.prog C102 mtab0) noLoops Try.f11 (A_wFnExactNormalDepth.enc x).1).to (fun q => decX R_wFnExactNormalDepth .ret [q.1] q.2) = wFnExactNormalDepth_t x.1 x.2.1 x.2.2.1 x.2.2.2.1 x.2.2.2.2 := by kernel_rfl

theorem wFnExactNormalDepth_m (x : DR A_wFnExactNormalDepth.hs) : meanF (envT Try.prog C102 mtab0) noLoops Try.f11 A_wFnExactNormalDepth R_wFnExactNormalDepth x = (show Option (SumD (R_wFnExactNormalDepth.map (·.2))) from wFnExactNormalDepth x.1 x.2.1 x.2.2.1 x.2.2.2.1 x.2.2.2.2) := meanF_of (wFnExactNormalDepth_e x)

theorem wFnExactNormalDepth_ok : SpecOk Try.prog 11 (evFn (envT Try.prog C102 mtab0) noLoops Try.f11) := fnL_ok (envT_ok (C102_ok) (mtab0_ok _)) mixedO Try.func11 (by kernel_rfl) (c := bodyOf Try.f11) (by kernel_rfl) (loopFree_ok (by kernel_rfl))

theorem wFnExactNormalDepth_told : SpecOk Try.prog 11 (toldO A_wFnExactNormalDepth R_wFnExactNormalDepth (fun x => wFnExactNormalDepth x.1 x.2.1 x.2.2.1 x.2.2.2.1 x.2.2.2.2) (C102 11)) := toldO_ok (by kernel_rfl) wFnExactNormalDepth_ok (rest_ok (C102_ok) _) wFnExactNormalDepth_m

noncomputable def C103 : Tab := tab 11 (toldO A_wFnExactNormalDepth R_wFnExactNormalDepth (fun x => wFnExactNormalDepth x.1 x.2.1 x.2.2.1 x.2.2.2.1 x.2.2.2.2) (C102 11)) C102
theorem C103_ok : TabOk Try.prog C103 := tab_ok (wFnExactNormalDepth_told) (C102_ok)

theorem lawFnExactNormalDepth_ok : SpecOk Try.prog 11 (evFn (envT Try.prog C102 mtab0) noLoops Try.f11) := wFnExactNormalDepth_ok
theorem lawFnExactNormalDepth_says (x : DR A_wFnExactNormalDepth.hs) (h : (show Option (SumD (R_wFnExactNormalDepth.map (·.2))) from wFnExactNormalDepth x.1 x.2.1 x.2.2.1 x.2.2.2.1 x.2.2.2.2) = some true) : saysTrue (evFn (envT Try.prog C102 mtab0) noLoops Try.f11 (A_wFnExactNormalDepth.enc x).1) = true := law_says (x := x) ((wFnExactNormalDepth_m x).trans h)

theorem lawFnExactNormalDepth_true (x0 : Nat) (x1 : Nat) (x2 : Nat) (x3 : Nat) (x4 : Nat) (h : wFnExactNormalDepth x0 x1 x2 x3 x4 = some true) : saysTrue (evFn (envT Try.prog C102 mtab0) noLoops Try.f11 [.agg [.f .f32 x0, .f .f32 x1, .f .f32 x2, .f .f32 x3], .f .f32 x4]) = true := (congrArg (fun l => saysTrue (evFn (envT Try.prog C102 mtab0) noLoops Try.f11 l)) (by kernel_rfl : ([.agg [.f .f32 x0, .f .f32 x1, .f .f32 x2, .f .f32 x3], .f .f32 x4] : List V) = (A_wFnExactNormalDepth.enc (x0, x1, x2, x3, x4)).1)).trans (lawFnExactNormalDepth_says (x0, x1, x2, x3, x4) h)

def A_sSpeedAt : Shp := ⟨[.agg [.h, .h, .h, .h], .h, .h], [], [.f .f32, .f .f32, .f .f32, .f .f32, .f .f32, .f .f32]⟩
def R_sSpeedAt : List XShp := [(.ret, ⟨[.tup [.h, .h]], [], [.f .f32, .b]⟩)]

theorem sSpeedAt_e (x : DR A_sSpeedAt.hs) : (evFn (envT Try.prog C103 mtab0) noLoops Try.f74 (A_sSpeedAt.enc x).1).to (fun q => decX R_sSpeedAt .ret [q.1] q.2) = sSpeedAt_t x.1 x.2.1 x.2.2.1 x.2.2.2.1 x.2.2.2.2.1 x.2.2.2.2.2 := by kernel_rfl

theorem sSpeedAt_m (x : DR A_sSpeedAt.hs) : meanF (envT Try.prog C103 mtab0) noLoops Try.f74 A_sSpeedAt R_sSpeedAt x = some (show SumD (R_sSpeedAt.map (·.2)) from sSpeedAt x.1 x.2.1 x.2.2.1 x.2.2.2.1 x.2.2.2.2.1 x.2.2.2.2.2) := @meanF_tot _ _ _ _ _ _ _ (sSpeedAt_e x) (show Inhabited (Nat × Bool) from inferInstance) (by kernel_rfl)

theorem sSpeedAt_ok : SpecOk Try.prog 74 (evFn (envT Try.prog C103 mtab0) noLoops Try.f74) := fnL_ok (envT_ok (C103_ok) (mtab0_ok _)) mixedO Try.func74 (by kernel_rfl) (c := bodyOf Try.f74) (by kernel_rfl) (loopFree_ok (by kernel_rfl))

theorem sSpeedAt_told : SpecOk Try.prog 74 (toldT A_sSpeedAt R_sSpeedAt (fun x => sSpeedAt x.1 x.2.1 x.2.2.1 x.2.2.2.1 x.2.2.2.2.1 x.2.2.2.2.2) (C103 74)) := toldT_ok (by kernel_rfl) sSpeedAt_ok (rest_ok (C103_ok) _) sSpeedAt_m

noncomputable def C104 : Tab := tab 74 (toldT A_sSpeedAt R_sSpeedAt (fun x => sSpeedAt x.1 x.2.1 x.2.2.1 x.2.2.2.1 x.2.2.2.2.1 x.2.2.2.2.2) (C103 74)) C103
theorem C104_ok : TabOk Try.prog C104 := tab_ok (sSpeedAt_told) (C103_ok)

def A_sMiddleAt : Shp := ⟨[.agg [.h, .h, .h, .h], .h], [], [.f .f32, .f .f32, .f .f32, .f .f32, .f .f32]⟩
def R_sMiddleAt : List XShp := [(.ret, ⟨[.tup [.h, .h]], [], [.f .f32, .b]⟩)]

theorem sMiddleAt_e (x : DR A_sMiddleAt.hs) : (evFn (envT Try.prog C104 mtab0) noLoops Try.f15 (A_sMiddleAt.enc x).1).to (fun q => decX R_sMiddleAt .ret [q.1] q.2) = sMiddleAt_t x.1 x.2.1 x.2.2.1 x.2.2.2.1 x.2.2.2.2 := by kernel_rfl

theorem sMiddleAt_m (x : DR A_sMiddleAt.hs) : meanF (envT Try.prog C104 mtab0) noLoops Try.f15 A_sMiddleAt R_sMiddleAt x = some (show SumD (R_sMiddleAt.map (·.2)) from sMiddleAt x.1 x.2.1 x.2.2.1 x.2.2.2.1 x.2.2.2.2) := @meanF_tot _ _ _ _ _ _ _ (sMiddleAt_e x) (show Inhabited (Nat × Bool) from inferInstance) (by kernel_rfl)

theorem sMiddleAt_ok : SpecOk Try.prog 15 (evFn (envT Try.prog C104 mtab0) noLoops Try.f15) := fnL_ok (envT_ok (C104_ok) (mtab0_ok _)) mixedO Try.func15 (by kernel_rfl) (c := bodyOf Try.f15) (by kernel_rfl) (loopFree_ok (by kernel_rfl))

theorem sMiddleAt_told : SpecOk Try.prog 15 (toldT A_sMiddleAt R_sMiddleAt (fun x => sMiddleAt x.1 x.2.1 x.2.2.1 x.2.2.2.1 x.2.2.2.2) (C104 15)) := toldT_ok (by kernel_rfl) sMiddleAt_ok (rest_ok (C104_ok) _) sMiddleAt_m

noncomputable def C105 : Tab := tab 15 (toldT A_sMiddleAt R_sMiddleAt (fun x => sMiddleAt x.1 x.2.1 x.2.2.1 x.2.2.2.1 x.2.2.2.2) (C104 15)) C104
theorem C105_ok : TabOk Try.prog C105 := tab_ok (sMiddleAt_told) (C104_ok)

def A_sSteepnessAt : Shp := ⟨[.agg [.h, .h, .h, .h], .h, .h], [], [.f .f32, .f .f32, .f .f32, .f .f32, .f .f32, .f .f32]⟩
def R_sSteepnessAt : List XShp := [(.ret, ⟨[.tup [.h, .h]], [], [.f .f32, .b]⟩)]

theorem sSteepnessAt_e (x : DR A_sSteepnessAt.hs) : (evFn (envT Try.prog C105 mtab0) noLoops Try.f31 (A_sSteepnessAt.enc x).1).to (fun q => decX R_sSteepnessAt .ret [q.1] q.2) = sSteepnessAt_t x.1 x.2.1 x.2.2.1 x.2.2.2.1 x.2.2.2.2.1 x.2.2.2.2.2 := by kernel_rfl

theorem sSteepnessAt_m (x : DR A_sSteepnessAt.hs) : meanF (envT Try.prog C105 mtab0) noLoops Try.f31 A_sSteepnessAt R_sSteepnessAt x = (show Option (SumD (R_sSteepnessAt.map (·.2))) from sSteepnessAt x.1 x.2.1 x.2.2.1 x.2.2.2.1 x.2.2.2.2.1 x.2.2.2.2.2) := meanF_of (sSteepnessAt_e x)

theorem sSteepnessAt_ok : SpecOk Try.prog 31 (evFn (envT Try.prog C105 mtab0) noLoops Try.f31) := fnL_ok (envT_ok (C105_ok) (mtab0_ok _)) mixedO Try.func31 (by kernel_rfl) (c := bodyOf Try.f31) (by kernel_rfl) (loopFree_ok (by kernel_rfl))

theorem sSteepnessAt_told : SpecOk Try.prog 31 (toldO A_sSteepnessAt R_sSteepnessAt (fun x => sSteepnessAt x.1 x.2.1 x.2.2.1 x.2.2.2.1 x.2.2.2.2.1 x.2.2.2.2.2) (C105 31)) := toldO_ok (by kernel_rfl) sSteepnessAt_ok (rest_ok (C105_ok) _) sSteepnessAt_m

noncomputable def C106 : Tab := tab 31 (toldO A_sSteepnessAt R_sSteepnessAt (fun x => sSteepnessAt x.1 x.2.1 x.2.2.1 x.2.2.2.1 x.2.2.2.2.1 x.2.2.2.2.2) (C105 31)) C105
theorem C106_ok : TabOk Try.prog C106 := tab_ok (sSteepnessAt_told) (C105_ok)

def A_iSteepnessAt : Shp := ⟨[.agg [.h, .h, .h, .h], .h, .h], [], [.f .f32, .f .f32, .f .f32, .f .f32, .f .f32, .f .f32]⟩
def R_iSteepnessAt : List XShp := [(.ret, ⟨[.tup [.h, .h]], [], [.f .f32, .b]⟩)]

theorem iSteepnessAt_e (x : DR A_iSteepnessAt.hs) : (evFn (envT Try.prog C106 mtab0) noLoops Try.f32 (A_iSteepnessAt.enc x).1).to (fun q => decX R_iSteepnessAt .ret [q.1] q.2) = iSteepnessAt_t x.1 x.2.1 x.2.2.1 x.2.2.2.1 x.2.2.2.2.1 x.2.2.2.2.2 := by kernel_rfl

theorem iSteepnessAt_m (x : DR A_iSteepnessAt.hs) : meanF (envT Try.prog C106 mtab0) noLoops Try.f32 A_iSteepnessAt R_iSteepnessAt x = (show Option (SumD (R_iSteepnessAt.map (·.2))) from iSteepnessAt x.1 x.2.1 x.2.2.1 x.2.2.2.1 x.2.2.2.2.1 x.2.2.2.2.2) := meanF_of (iSteepnessAt_e x)

theorem iSteepnessAt_ok : SpecOk Try.prog 32 (evFn (envT Try.prog C106 mtab0) noLoops Try.f32) := fnL_ok (envT_ok (C106_ok) (mtab0_ok _)) mixedO Try.func32 (by kernel_rfl) (c := bodyOf Try.f32) (by kernel_rfl) (loopFree_ok (by kernel_rfl))

theorem iSteepnessAt_told : SpecOk Try.prog 32 (toldO A_iSteepnessAt R_iSteepnessAt (fun x => iSteepnessAt x.1 x.2.1 x.2.2.1 x.2.2.2.1 x.2.2.2.2.1 x.2.2.2.2.2) (C106 32)) := toldO_ok (by kernel_rfl) iSteepnessAt_ok (rest_ok (C106_ok) _) iSteepnessAt_m

noncomputable def C107 : Tab := tab 32 (toldO A_iSteepnessAt R_iSteepnessAt (fun x => iSteepnessAt x.1 x.2.1 x.2.2.1 x.2.2.2.1 x.2.2.2.2.1 x.2.2.2.2.2) (C106 32)) C106
theorem C107_ok : TabOk Try.prog C107 := tab_ok (iSteepnessAt_told) (C106_ok)

def A_wFnExactSteepnessAt : Shp := ⟨[.agg [.h, .h, .h, .h], .h, .h], [], [.f .f32, .f .f32, .f .f32, .f .f32, .f .f32, .f .f32]⟩
def R_wFnExactSteepnessAt : List XShp := [(.ret, ⟨[.h], [], [.b]⟩)]

theorem wFnExactSteepnessAt_e (x : DR A_wFnExactSteepnessAt.hs) : (evFn (envT Try.prog C107 mtab0) noLoops Try.f10 (A_wFnExactSteepnessAt.enc x).1).to (fun q => decX R_wFnExactSteepnessAt .ret [q.1] q.2) = wFnExactSteepnessAt_t x.1 x.2.1 x.2.2.1 x.2.2.2.1 x.2.2.2.2.1 x.2.2.2.2.2 := by kernel_rfl

theorem wFnExactSteepnessAt_m (x : DR A_wFnExactSteepnessAt.hs) : meanF (envT Try.prog C107 mtab0) noLoops Try.f10 A_wFnExactSteepnessAt R_wFnExactSteepnessAt x = (show Option (SumD (R_wFnExactSteepnessAt.map (·.2))) from wFnExactSteepnessAt x.1 x.2.1 x.2.2.1 x.2.2.2.1 x.2.2.2.2.1 x.2.2.2.2.2) := meanF_of (wFnExactSteepnessAt_e x)

theorem wFnExactSteepnessAt_ok : SpecOk Try.prog 10 (evFn (envT Try.prog C107 mtab0) noLoops Try.f10) := fnL_ok (envT_ok (C107_ok) (mtab0_ok _)) mixedO Try.func10 (by kernel_rfl) (c := bodyOf Try.f10) (by kernel_rfl) (loopFree_ok (by kernel_rfl))

theorem wFnExactSteepnessAt_told : SpecOk Try.prog 10 (toldO A_wFnExactSteepnessAt R_wFnExactSteepnessAt (fun x => wFnExactSteepnessAt x.1 x.2.1 x.2.2.1 x.2.2.2.1 x.2.2.2.2.1 x.2.2.2.2.2) (C107 10)) := toldO_ok (by kernel_rfl) wFnExactSteepnessAt_ok (rest_ok (C107_ok) _) wFnExactSteepnessAt_m

noncomputable def C108 : Tab := tab 10 (toldO A_wFnExactSteepnessAt R_wFnExactSteepnessAt (fun x => wFnExactSteepnessAt x.1 x.2.1 x.2.2.1 x.2.2.2.1 x.2.2.2.2.1 x.2.2.2.2.2) (C107 10)) C107
theorem C108_ok : TabOk Try.prog C108 := tab_ok (wFnExactSteepnessAt_told) (C107_ok)

theorem lawFnExactSteepnessAt_ok : SpecOk Try.prog 10 (evFn (envT Try.prog C107 mtab0) noLoops Try.f10) := wFnExactSteepnessAt_ok
theorem lawFnExactSteepnessAt_says (x : DR A_wFnExactSteepnessAt.hs) (h : (show Option (SumD (R_wFnExactSteepnessAt.map (·.2))) from wFnExactSteepnessAt x.1 x.2.1 x.2.2.1 x.2.2.2.1 x.2.2.2.2.1 x.2.2.2.2.2) = some true) : saysTrue (evFn (envT Try.prog C107 mtab0) noLoops Try.f10 (A_wFnExactSteepnessAt.enc x).1) = true := law_says (x := x) ((wFnExactSteepnessAt_m x).trans h)

theorem lawFnExactSteepnessAt_true (x0 : Nat) (x1 : Nat) (x2 : Nat) (x3 : Nat) (x4 : Nat) (x5 : Nat) (h : wFnExactSteepnessAt x0 x1 x2 x3 x4 x5 = some true) : saysTrue (evFn (envT Try.prog C107 mtab0) noLoops Try.f10 [.agg [.f .f32 x0, .f .f32 x1, .f .f32 x2, .f .f32 x3], .f .f32 x4, .f .f32 x5]) = true := (congrArg (fun l => saysTrue (evFn (envT Try.prog C107 mtab0) noLoops Try.f10 l)) (by kernel_rfl : ([.agg [.f .f32 x0, .f .f32 x1, .f .f32 x2, .f .f32 x3], .f .f32 x4, .f .f32 x5] : List V) = (A_wFnExactSteepnessAt.enc (x0, x1, x2, x3, x4, x5)).1)).trans (lawFnExactSteepnessAt_says (x0, x1, x2, x3, x4, x5) h)

def A_sIsMild : Shp := ⟨[.agg [.h, .h, .h, .h], .h], [], [.f .f32, .f .f32, .f .f32, .f .f32, .f .f32]⟩
def R_sIsMild : List XShp := [(.ret, ⟨[.tup [.h, .h]], [], [.b, .b]⟩)]

theorem sIsMild_e (x : DR A_sIsMild.hs) : (evFn (envT Try.prog C108 mtab0) noLoops Try.f35 (A_sIsMild.enc x).1).to (fun q => decX R_sIsMild .ret [q.1] q.2) = sIsMild_t x.1 x.2.1 x.2.2.1 x.2.2.2.1 x.2.2.2.2 := by kernel_rfl

theorem sIsMild_m (x : DR A_sIsMild.hs) : meanF (envT Try.prog C108 mtab0) noLoops Try.f35 A_sIsMild R_sIsMild x = (show Option (SumD (R_sIsMild.map (·.2))) from sIsMild x.1 x.2.1 x.2.2.1 x.2.2.2.1 x.2.2.2.2) := meanF_of (sIsMild_e x)

theorem sIsMild_ok : SpecOk Try.prog 35 (evFn (envT Try.prog C108 mtab0) noLoops Try.f35) := fnL_ok (envT_ok (C108_ok) (mtab0_ok _)) mixedO Try.func35 (by kernel_rfl) (c := bodyOf Try.f35) (by kernel_rfl) (loopFree_ok (by kernel_rfl))

theorem sIsMild_told : SpecOk Try.prog 35 (toldO A_sIsMild R_sIsMild (fun x => sIsMild x.1 x.2.1 x.2.2.1 x.2.2.2.1 x.2.2.2.2) (C108 35)) := toldO_ok (by kernel_rfl) sIsMild_ok (rest_ok (C108_ok) _) sIsMild_m

noncomputable def C109 : Tab := tab 35 (toldO A_sIsMild R_sIsMild (fun x => sIsMild x.1 x.2.1 x.2.2.1 x.2.2.2.1 x.2.2.2.2) (C108 35)) C108
theorem C109_ok : TabOk Try.prog C109 := tab_ok (sIsMild_told) (C108_ok)

def A_iIsMild : Shp := ⟨[.agg [.h, .h, .h, .h], .h], [], [.f .f32, .f .f32, .f .f32, .f .f32, .f .f32]⟩
def R_iIsMild : List XShp := [(.ret, ⟨[.tup [.h, .h]], [], [.b, .b]⟩)]

theorem iIsMild_e (x : DR A_iIsMild.hs) : (evFn (envT Try.prog C109 mtab0) noLoops Try.f36 (A_iIsMild.enc x).1).to (fun q => decX R_iIsMild .ret [q.1] q.2) = iIsMild_t x.1 x.2.1 x.2.2.1 x.2.2.2.1 x.2.2.2.2 := by kernel_rfl

theorem iIsMild_m (x : DR A_iIsMild.hs) : meanF (envT Try.prog C109 mtab0) noLoops Try.f36 A_iIsMild R_iIsMild x = (show Option (SumD (R_iIsMild.map (·.2))) from iIsMild x.1 x.2.1 x.2.2.1 x.2.2.2.1 x.2.2.2.2) := meanF_of (iIsMild_e x)

theorem iIsMild_ok : SpecOk Try.prog 36 (evFn (envT Try.prog C109 mtab0) noLoops Try.f36) := fnL_ok (envT_ok (C109_ok) (mtab0_ok _)) mixedO Try.func36 (by kernel_rfl) (c := bodyOf Try.f36) (by kernel_rfl) (loopFree_ok (by kernel_rfl))

theorem iIsMild_told : SpecOk Try.prog 36 (toldO A_iIsMild R_iIsMild (fun x => iIsMild x.1 x.2.1 x.2.2.1 x.2.2.2.1 x.2.2.2.2) (C109 36)) := toldO_ok (by kernel_rfl) iIsMild_ok (rest_ok (C109_ok) _) iIsMild_m

noncomputable def C110 : Tab := tab 36 (toldO A_iIsMild R_iIsMild (fun x => iIsMild x.1 x.2.1 x.2.2.1 x.2.2.2.1 x.2.2.2.2) (C109 36)) C109
theorem C110_ok : TabOk Try.prog C110 := tab_ok (iIsMild_told) (C109_ok)

def A_wFnExactIsMild : Shp := ⟨[.agg [.h, .h, .h, .h], .h], [], [.f .f32, .f .f32, .f .f32, .f .f32, .f .f32]⟩
def R_wFnExactIsMild : List XShp := [(.ret, ⟨[.h], [], [.b]⟩)]

theorem wFnExactIsMild_e (x : DR A_wFnExactIsMild.hs) : (evFn (envT Try.prog C110 mtab0) noLoops Try.f12 (A_wFnExactIsMild.enc x).1).to (fun q => decX R_wFnExactIsMild .ret [q.1] q.2) = wFnExactIsMild_t x.1 x.2.1 x.2.2.1 x.2.2.2.1 x.2.2.2.2 := by kernel_rfl

theorem wFnExactIsMild_m (x : DR A_wFnExactIsMild.hs) : meanF (envT Try.prog C110 mtab0) noLoops Try.f12 A_wFnExactIsMild R_wFnExactIsMild x = (show Option (SumD (R_wFnExactIsMild.map (·.2))) from wFnExactIsMild x.1 x.2.1 x.2.2.1 x.2.2.2.1 x.2.2.2.2) := meanF_of (wFnExactIsMild_e x)

theorem wFnExactIsMild_ok : SpecOk Try.prog 12 (evFn (envT Try.prog C110 mtab0) noLoops Try.f12) := fnL_ok (envT_ok (C110_ok) (mtab0_ok _)) mixedO Try.func12 (by kernel_rfl) (c := bodyOf Try.f12) (by kernel_rfl) (loopFree_ok (by kernel_rfl))

theorem wFnExactIsMild_told : SpecOk Try.prog 12 (toldO A_wFnExactIsMild R_wFnExactIsMild (fun x => wFnExactIsMild x.1 x.2.1 x.2.2.1 x.2.2.2.1 x.2.2.2.2) (C110 12)) := toldO_ok (by kernel_rfl) wFnExactIsMild_ok (rest_ok (C110_ok) _) wFnExactIsMild_m

noncomputable def C111 : Tab := tab 12 (toldO A_wFnExactIsMild R_wFnExactIsMild (fun x => wFnExactIsMild x.1 x.2.1 x.2.2.1 x.2.2.2.1 x.2.2.2.2) (C110 12)) C110
theorem C111_ok : TabOk Try.prog C111 := tab_ok (wFnExactIsMild_told) (C110_ok)

theorem lawFnExactIsMild_ok : SpecOk Try.prog 12 (evFn (envT Try.prog C110 mtab0) noLoops Try.f12) := wFnExactIsMild_ok
theorem lawFnExactIsMild_says (x : DR A_wFnExactIsMild.hs) (h : (show Option (SumD (R_wFnExactIsMild.map (·.2))) from wFnExactIsMild x.1 x.2.1 x.2.2.1 x.2.2.2.1 x.2.2.2.2) = some true) : saysTrue (evFn (envT Try.prog C110 mtab0) noLoops Try.f12 (A_wFnExactIsMild.enc x).1) = true := law_says (x := x) ((wFnExactIsMild_m x).trans h)

theorem lawFnExactIsMild_true (x0 : Nat) (x1 : Nat) (x2 : Nat) (x3 : Nat) (x4 : Nat) (h : wFnExactIsMild x0 x1 x2 x3 x4 = some true) : saysTrue (evFn (envT Try.prog C110 mtab0) noLoops Try.f12 [.agg [.f .f32 x0, .f .f32 x1, .f .f32 x2, .f .f32 x3], .f .f32 x4]) = true := (congrArg (fun l => saysTrue (evFn (envT Try.prog C110 mtab0) noLoops Try.f12 l)) (by kernel_rfl : ([.agg [.f .f32 x0, .f .f32 x1, .f .f32 x2, .f .f32 x3], .f .f32 x4] : List V) = (A_wFnExactIsMild.enc (x0, x1, x2, x3, x4)).1)).trans (lawFnExactIsMild_says (x0, x1, x2, x3, x4) h)

def S_sBackStep_l9 : Shp := ⟨[.h, .h, .ref 0 0, .undef, .undef, .h, .h, .h, .h, .h], [.cells [.h, .h, .h, .h] false], [.f .f32, .f .f32, .f .f32, .f .f32, .f .f32, .f .f32, .i .i64, .f .f32, .f .f32, .f .f32, .f .f32]⟩
def X_sBackStep_l9 : List XShp := [(.ret, ⟨[.undef, .undef, .undef, .h, .lb false, .undef, .undef, .undef, .undef, .undef], [], [.f .f32]⟩), (.exit 0, ⟨[.undef, .undef, .undef, .undef, .undef, .undef, .undef, .undef, .h, .undef], [], [.f .f32]⟩)]

noncomputable def L_sBackStep_l9 : Loops := (⟨116, lvT [(9, [2, 3, 4, 8, 9, 12, 14, 16, 17, 18])], mdT [(9, .normal, [], [8, 9]), (9, .exit 0, [], [2, 3, 4, 8, 9, 12, 14, 16, 18]), (9, .ret, [], [2, 3, 4, 12, 14, 16, 17, 18])], fun k vs bs => .bad⟩ : Loops)

theorem sBackStep_l9_e (y0 : Nat) (y1 : Nat) (y2 : Nat) (y3 : Nat) (y7 : Nat) (y8 : Nat) (y9 : Nat) (y10 : Nat) (s : Nat × Nat × Int) : (loopStep (envT Try.prog C111 mtab0) L_sBackStep_l9 9 (loopC (bodyOf Try.f37) 9) (S_sBackStep_l9.enc (y0, y1, y2, y3, s.1, s.2.1, s.2.2, y7, y8, y9, y10)).1 (S_sBackStep_l9.enc (y0, y1, y2, y3, s.1, s.2.1, s.2.2, y7, y8, y9, y10)).2).to (stepD S_sBackStep_l9 X_sBackStep_l9) = (sBackStep_l9_t y0 y1 y2 y3 y7 y8 y9 y10 s.1 s.2.1 s.2.2).map (Sum.map (fun s : Nat × Nat × Int => (show DR S_sBackStep_l9.hs from (y0, y1, y2, y3, s.1, s.2.1, s.2.2, y7, y8, y9, y10))) id) := by kernel_rfl

theorem sBackStep_l9_r (x : DR S_sBackStep_l9.hs) : (sBackStep_l9 x.1 x.2.1 x.2.2.1 x.2.2.2.1 x.2.2.2.2.1 x.2.2.2.2.2.1 x.2.2.2.2.2.2.1 x.2.2.2.2.2.2.2.1 x.2.2.2.2.2.2.2.2.1 x.2.2.2.2.2.2.2.2.2.1 x.2.2.2.2.2.2.2.2.2.2 : Option (SumD (X_sBackStep_l9.map (·.2)))) = runL (meanS (envT Try.prog C111 mtab0) L_sBackStep_l9 9 (loopC (bodyOf Try.f37) 9) S_sBackStep_l9 X_sBackStep_l9) x := run_of (fun s : Nat × Nat × Int => (show DR S_sBackStep_l9.hs from (x.1, x.2.1, x.2.2.1, x.2.2.2.1, s.1, s.2.1, s.2.2, x.2.2.2.2.2.2.2.1, x.2.2.2.2.2.2.2.2.1, x.2.2.2.2.2.2.2.2.2.1, x.2.2.2.2.2.2.2.2.2.2))) (sBackStep_l9_e (x.1) (x.2.1) (x.2.2.1) (x.2.2.2.1) (x.2.2.2.2.2.2.2.1) (x.2.2.2.2.2.2.2.2.1) (x.2.2.2.2.2.2.2.2.2.1) (x.2.2.2.2.2.2.2.2.2.2)) (x.2.2.2.2.1, x.2.2.2.2.2.1, x.2.2.2.2.2.2.1)

theorem sBackStep_l9_k (L : Loops) (hn : L_sBackStep_l9.n = L.n) (hlv : L_sBackStep_l9.lv 9 = L.lv 9) (hL : ∀ vs bs, L.loop 9 vs bs = toldL S_sBackStep_l9 X_sBackStep_l9 (fun x => sBackStep_l9 x.1 x.2.1 x.2.2.1 x.2.2.2.1 x.2.2.2.2.1 x.2.2.2.2.2.1 x.2.2.2.2.2.2.1 x.2.2.2.2.2.2.2.1 x.2.2.2.2.2.2.2.2.1 x.2.2.2.2.2.2.2.2.2.1 x.2.2.2.2.2.2.2.2.2.2) vs bs) : LOk Try.prog (envT Try.prog C111 mtab0) L 9 (loopC (bodyOf Try.f37) 9) := toldL_ok (L1 := L_sBackStep_l9) (envT_ok (C111_ok) (mtab0_ok _)) mixedO hn hlv (loopFree_ok (by kernel_rfl)) sBackStep_l9_r hL

def A_sBackStep : Shp := ⟨[.agg [.h, .h, .h, .h], .h, .h, .h], [], [.f .f32, .f .f32, .f .f32, .f .f32, .f .f32, .f .f32, .f .f32]⟩
def R_sBackStep : List XShp := [(.ret, ⟨[.tup [.h, .h]], [], [.f .f32, .b]⟩)]

noncomputable def L_sBackStep : Loops := (⟨116, lvT [(9, [2, 3, 4, 8, 9, 12, 14, 16, 17, 18])], mdT [(9, .normal, [], [8, 9]), (9, .exit 0, [], [2, 3, 4, 8, 9, 12, 14, 16, 18]), (9, .ret, [], [2, 3, 4, 12, 14, 16, 17, 18])], fun k vs bs => bif Nat.beq k 9 then toldL S_sBackStep_l9 X_sBackStep_l9 (fun x => sBackStep_l9 x.1 x.2.1 x.2.2.1 x.2.2.2.1 x.2.2.2.2.1 x.2.2.2.2.2.1 x.2.2.2.2.2.2.1 x.2.2.2.2.2.2.2.1 x.2.2.2.2.2.2.2.2.1 x.2.2.2.2.2.2.2.2.2.1 x.2.2.2.2.2.2.2.2.2.2) vs bs else .bad⟩ : Loops)

theorem sBackStep_e (x : DR A_sBackStep.hs) : (evFn (envT Try.prog C111 mtab0) L_sBackStep Try.f37 (A_sBackStep.enc x).1).to (fun q => decX R_sBackStep .ret [q.1] q.2) = sBackStep_t x.1 x.2.1 x.2.2.1 x.2.2.2.1 x.2.2.2.2.1 x.2.2.2.2.2.1 x.2.2.2.2.2.2 := by kernel_rfl

theorem sBackStep_m (x : DR A_sBackStep.hs) : meanF (envT Try.prog C111 mtab0) L_sBackStep Try.f37 A_sBackStep R_sBackStep x = (show Option (SumD (R_sBackStep.map (·.2))) from sBackStep x.1 x.2.1 x.2.2.1 x.2.2.2.1 x.2.2.2.2.1 x.2.2.2.2.2.1 x.2.2.2.2.2.2) := meanF_of (sBackStep_e x)

theorem sBackStep_ok : SpecOk Try.prog 37 (evFn (envT Try.prog C111 mtab0) L_sBackStep Try.f37) := fnL_ok (envT_ok (C111_ok) (mtab0_ok _)) mixedO Try.func37 (by kernel_rfl) (c := bodyOf Try.f37) (by kernel_rfl) (loopsL (l := [(9, loopC (bodyOf Try.f37) 9)]) (by kernel_rfl) (lk_cons (sBackStep_l9_k _ rfl rfl (fun _ _ => rfl)) lk_nil))

theorem sBackStep_told : SpecOk Try.prog 37 (toldO A_sBackStep R_sBackStep (fun x => sBackStep x.1 x.2.1 x.2.2.1 x.2.2.2.1 x.2.2.2.2.1 x.2.2.2.2.2.1 x.2.2.2.2.2.2) (C111 37)) := toldO_ok (by kernel_rfl) sBackStep_ok (rest_ok (C111_ok) _) sBackStep_m

noncomputable def C112 : Tab := tab 37 (toldO A_sBackStep R_sBackStep (fun x => sBackStep x.1 x.2.1 x.2.2.1 x.2.2.2.1 x.2.2.2.2.1 x.2.2.2.2.2.1 x.2.2.2.2.2.2) (C111 37)) C111
theorem C112_ok : TabOk Try.prog C112 := tab_ok (sBackStep_told) (C111_ok)

def A_iBackStep_1 : Shp := ⟨[.h, .dpt [.h, .h, .h, .h] 0, .dpt [.h] 0, .dpt [.h] 0, .dpt [.h] 0, .dpt [.h] 0], [], [.f .f32, .f .f32, .f .f32, .f .f32, .f .f32, .f .f32, .f .f32, .f .f32, .f .f32]⟩
def R_iBackStep_1 : List XShp := [(.ret, ⟨[.tup [.h, .h]], [], [.b, .b]⟩)]

theorem iBackStep_1_e (x : DR A_iBackStep_1.hs) : (evFn (envT Try.prog C112 mtab0) noLoops Try.f81 (A_iBackStep_1.enc x).1).to (fun q => decX R_iBackStep_1 .ret [q.1] q.2) = iBackStep_1_t x.1 x.2.1 x.2.2.1 x.2.2.2.1 x.2.2.2.2.1 x.2.2.2.2.2.1 x.2.2.2.2.2.2.1 x.2.2.2.2.2.2.2.1 x.2.2.2.2.2.2.2.2 := by kernel_rfl

theorem iBackStep_1_m (x : DR A_iBackStep_1.hs) : meanF (envT Try.prog C112 mtab0) noLoops Try.f81 A_iBackStep_1 R_iBackStep_1 x = (show Option (SumD (R_iBackStep_1.map (·.2))) from iBackStep_1 x.1 x.2.1 x.2.2.1 x.2.2.2.1 x.2.2.2.2.1 x.2.2.2.2.2.1 x.2.2.2.2.2.2.1 x.2.2.2.2.2.2.2.1 x.2.2.2.2.2.2.2.2) := meanF_of (iBackStep_1_e x)

theorem iBackStep_1_ok : SpecOk Try.prog 81 (evFn (envT Try.prog C112 mtab0) noLoops Try.f81) := fnL_ok (envT_ok (C112_ok) (mtab0_ok _)) mixedO Try.func81 (by kernel_rfl) (c := bodyOf Try.f81) (by kernel_rfl) (loopFree_ok (by kernel_rfl))

theorem iBackStep_1_told : SpecOk Try.prog 81 (toldO A_iBackStep_1 R_iBackStep_1 (fun x => iBackStep_1 x.1 x.2.1 x.2.2.1 x.2.2.2.1 x.2.2.2.2.1 x.2.2.2.2.2.1 x.2.2.2.2.2.2.1 x.2.2.2.2.2.2.2.1 x.2.2.2.2.2.2.2.2) (C112 81)) := toldO_ok (by kernel_rfl) iBackStep_1_ok (rest_ok (C112_ok) _) iBackStep_1_m

noncomputable def C113 : Tab := tab 81 (toldO A_iBackStep_1 R_iBackStep_1 (fun x => iBackStep_1 x.1 x.2.1 x.2.2.1 x.2.2.2.1 x.2.2.2.2.1 x.2.2.2.2.2.1 x.2.2.2.2.2.2.1 x.2.2.2.2.2.2.2.1 x.2.2.2.2.2.2.2.2) (C112 81)) C112
theorem C113_ok : TabOk Try.prog C113 := tab_ok (iBackStep_1_told) (C112_ok)

def S_ihalve_iBackStep_1_l2 : Shp := ⟨[.h, .h, .fn 81 [.dpt [.h, .h, .h, .h] 0, .dpt [.h] 0, .dpt [.h] 0, .dpt [.h] 0, .dpt [.h] 0], .undef, .undef, .undef, .h], [], [.f .f32, .f .f32, .f .f32, .f .f32, .f .f32, .f .f32, .f .f32, .f .f32, .f .f32, .f .f32, .i .i64]⟩
def X_ihalve_iBackStep_1_l2 : List XShp := [(.ret, ⟨[.undef, .undef, .undef, .h, .h, .lb false, .undef], [], [.f .f32, .f .f32]⟩), (.exit 0, ⟨[.h, .h, .undef, .undef, .undef, .undef, .undef], [], [.f .f32, .f .f32]⟩)]

noncomputable def L_ihalve_iBackStep_1_l2 : Loops := (⟨32, lvT [(2, [0, 1, 2, 6, 7, 8, 12])], mdT [(2, .normal, [], [6, 7, 8]), (2, .exit 0, [], [2, 6, 7, 8, 12]), (2, .ret, [], [0, 1, 2, 12])], fun k vs bs => .bad⟩ : Loops)

theorem ihalve_iBackStep_1_l2_e (y2 : Nat) (y3 : Nat) (y4 : Nat) (y5 : Nat) (y6 : Nat) (y7 : Nat) (y8 : Nat) (y9 : Nat) (s : Nat × Nat × Int) : (loopStep (envT Try.prog C113 mtab0) L_ihalve_iBackStep_1_l2 2 (loopC (bodyOf Try.f79) 2) (S_ihalve_iBackStep_1_l2.enc (s.1, s.2.1, y2, y3, y4, y5, y6, y7, y8, y9, s.2.2)).1 (S_ihalve_iBackStep_1_l2.enc (s.1, s.2.1, y2, y3, y4, y5, y6, y7, y8, y9, s.2.2)).2).to (stepD S_ihalve_iBackStep_1_l2 X_ihalve_iBackStep_1_l2) = (ihalve_iBackStep_1_l2_t y2 y3 y4 y5 y6 y7 y8 y9 s.1 s.2.1 s.2.2).map (Sum.map (fun s : Nat × Nat × Int => (show DR S_ihalve_iBackStep_1_l2.hs from (s.1, s.2.1, y2, y3, y4, y5, y6, y7, y8, y9, s.2.2))) id) := by kernel_rfl

theorem ihalve_iBackStep_1_l2_r (x : DR S_ihalve_iBackStep_1_l2.hs) : (ihalve_iBackStep_1_l2 x.1 x.2.1 x.2.2.1 x.2.2.2.1 x.2.2.2.2.1 x.2.2.2.2.2.1 x.2.2.2.2.2.2.1 x.2.2.2.2.2.2.2.1 x.2.2.2.2.2.2.2.2.1 x.2.2.2.2.2.2.2.2.2.1 x.2.2.2.2.2.2.2.2.2.2 : Option (SumD (X_ihalve_iBackStep_1_l2.map (·.2)))) = runL (meanS (envT Try.prog C113 mtab0) L_ihalve_iBackStep_1_l2 2 (loopC (bodyOf Try.f79) 2) S_ihalve_iBackStep_1_l2 X_ihalve_iBackStep_1_l2) x := run_of (fun s : Nat × Nat × Int => (show DR S_ihalve_iBackStep_1_l2.hs from (s.1, s.2.1, x.2.2.1, x.2.2.2.1, x.2.2.2.2.1, x.2.2.2.2.2.1, x.2.2.2.2.2.2.1, x.2.2.2.2.2.2.2.1, x.2.2.2.2.2.2.2.2.1, x.2.2.2.2.2.2.2.2.2.1, s.2.2))) (ihalve_iBackStep_1_l2_e (x.2.2.1) (x.2.2.2.1) (x.2.2.2.2.1) (x.2.2.2.2.2.1) (x.2.2.2.2.2.2.1) (x.2.2.2.2.2.2.2.1) (x.2.2.2.2.2.2.2.2.1) (x.2.2.2.2.2.2.2.2.2.1)) (x.1, x.2.1, x.2.2.2.2.2.2.2.2.2.2)

theorem ihalve_iBackStep_1_l2_k (L : Loops) (hn : L_ihalve_iBackStep_1_l2.n = L.n) (hlv : L_ihalve_iBackStep_1_l2.lv 2 = L.lv 2) (hL : ∀ vs bs, L.loop 2 vs bs = toldL S_ihalve_iBackStep_1_l2 X_ihalve_iBackStep_1_l2 (fun x => ihalve_iBackStep_1_l2 x.1 x.2.1 x.2.2.1 x.2.2.2.1 x.2.2.2.2.1 x.2.2.2.2.2.1 x.2.2.2.2.2.2.1 x.2.2.2.2.2.2.2.1 x.2.2.2.2.2.2.2.2.1 x.2.2.2.2.2.2.2.2.2.1 x.2.2.2.2.2.2.2.2.2.2) vs bs) : LOk Try.prog (envT Try.prog C113 mtab0) L 2 (loopC (bodyOf Try.f79) 2) := toldL_ok (L1 := L_ihalve_iBackStep_1_l2) (envT_ok (C113_ok) (mtab0_ok _)) mixedO hn hlv (loopFree_ok (by kernel_rfl)) ihalve_iBackStep_1_l2_r hL

def A_ihalve_iBackStep_1 : Shp := ⟨[.h, .h, .fn 81 [.dpt [.h, .h, .h, .h] 0, .dpt [.h] 0, .dpt [.h] 0, .dpt [.h] 0, .dpt [.h] 0]], [], [.f .f32, .f .f32, .f .f32, .f .f32, .f .f32, .f .f32, .f .f32, .f .f32, .f .f32, .f .f32]⟩
def R_ihalve_iBackStep_1 : List XShp := [(.ret, ⟨[.tup [.h, .h, .h]], [], [.f .f32, .f .f32, .b]⟩)]

noncomputable def L_ihalve_iBackStep_1 : Loops := (⟨32, lvT [(2, [0, 1, 2, 6, 7, 8, 12])], mdT [(2, .normal, [], [6, 7, 8]), (2, .exit 0, [], [2, 6, 7, 8, 12]), (2, .ret, [], [0, 1, 2, 12])], fun k vs bs => bif Nat.beq k 2 then toldL S_ihalve_iBackStep_1_l2 X_ihalve_iBackStep_1_l2 (fun x => ihalve_iBackStep_1_l2 x.1 x.2.1 x.2.2.1 x.2.2.2.1 x.2.2.2.2.1 x.2.2.2.2.2.1 x.2.2.2.2.2.2.1 x.2.2.2.2.2.2.2.1 x.2.2.2.2.2.2.2.2.1 x.2.2.2.2.2.2.2.2.2.1 x.2.2.2.2.2.2.2.2.2.2) vs bs else .bad⟩ : Loops)

theorem ihalve_iBackStep_1_e (x : DR A_ihalve_iBackStep_1.hs) : (evFn (envT Try.prog C113 mtab0) L_ihalve_iBackStep_1 Try.f79 (A_ihalve_iBackStep_1.enc x).1).to (fun q => decX R_ihalve_iBackStep_1 .ret [q.1] q.2) = ihalve_iBackStep_1_t x.1 x.2.1 x.2.2.1 x.2.2.2.1 x.2.2.2.2.1 x.2.2.2.2.2.1 x.2.2.2.2.2.2.1 x.2.2.2.2.2.2.2.1 x.2.2.2.2.2.2.2.2.1 x.2.2.2.2.2.2.2.2.2 := by kernel_rfl

theorem ihalve_iBackStep_1_m (x : DR A_ihalve_iBackStep_1.hs) : meanF (envT Try.prog C113 mtab0) L_ihalve_iBackStep_1 Try.f79 A_ihalve_iBackStep_1 R_ihalve_iBackStep_1 x = (show Option (SumD (R_ihalve_iBackStep_1.map (·.2))) from ihalve_iBackStep_1 x.1 x.2.1 x.2.2.1 x.2.2.2.1 x.2.2.2.2.1 x.2.2.2.2.2.1 x.2.2.2.2.2.2.1 x.2.2.2.2.2.2.2.1 x.2.2.2.2.2.2.2.2.1 x.2.2.2.2.2.2.2.2.2) := meanF_of (ihalve_iBackStep_1_e x)

theorem ihalve_iBackStep_1_ok : SpecOk Try.prog 79 (evFn (envT Try.prog C113 mtab0) L_ihalve_iBackStep_1 Try.f79) := fnL_ok (envT_ok (C113_ok) (mtab0_ok _)) mixedO Try.func79 (by kernel_rfl) (c := bodyOf Try.f79) (by kernel_rfl) (loopsL (l := [(2, loopC (bodyOf Try.f79) 2)]) (by kernel_rfl) (lk_cons (ihalve_iBackStep_1_l2_k _ rfl rfl (fun _ _ => rfl)) lk_nil))

theorem ihalve_iBackStep_1_told : SpecOk Try.prog 79 (toldO A_ihalve_iBackStep_1 R_ihalve_iBackStep_1 (fun x => ihalve_iBackStep_1 x.1 x.2.1 x.2.2.1 x.2.2.2.1 x.2.2.2.2.1 x.2.2.2.2.2.1 x.2.2.2.2.2.2.1 x.2.2.2.2.2.2.2.1 x.2.2.2.2.2.2.2.2.1 x.2.2.2.2.2.2.2.2.2) (C113 79)) := toldO_ok (by kernel_rfl) ihalve_iBackStep_1_ok (rest_ok (C113_ok) _) ihalve_iBackStep_1_m

noncomputable def C114 : Tab := tab 79 (toldO A_ihalve_iBackStep_1 R_ihalve_iBackStep_1 (fun x => ihalve_iBackStep_1 x.1 x.2.1 x.2.2.1 x.2.2.2.1 x.2.2.2.2.1 x.2.2.2.2.2.1 x.2.2.2.2.2.2.1 x.2.2.2.2.2.2.2.1 x.2.2.2.2.2.2.2.2.1 x.2.2.2.2.2.2.2.2.2) (C113 79)) C113
theorem C114_ok : TabOk Try.prog C114 := tab_ok (ihalve_iBackStep_1_told) (C113_ok)

def A_iBackStep : Shp := ⟨[.agg [.h, .h, .h, .h], .h, .h, .h], [], [.f .f32, .f .f32, .f .f32, .f .f32, .f .f32, .f .f32, .f .f32]⟩
def R_iBackStep : List XShp := [(.ret, ⟨[.tup [.h, .h]], [], [.f .f32, .b]⟩)]

theorem iBackStep_e (x : DR A_iBackStep.hs) : (evFn (envT Try.prog C114 mtab0) noLoops Try.f38 (A_iBackStep.enc x).1).to (fun q => decX R_iBackStep .ret [q.1] q.2) = iBackStep_t x.1 x.2.1 x.2.2.1 x.2.2.2.1 x.2.2.2.2.1 x.2.2.2.2.2.1 x.2.2.2.2.2.2 := by kernel_rfl

theorem iBackStep_m (x : DR A_iBackStep.hs) : meanF (envT Try.prog C114 mtab0) noLoops Try.f38 A_iBackStep R_iBackStep x = (show Option (SumD (R_iBackStep.map (·.2))) from iBackStep x.1 x.2.1 x.2.2.1 x.2.2.2.1 x.2.2.2.2.1 x.2.2.2.2.2.1 x.2.2.2.2.2.2) := meanF_of (iBackStep_e x)

theorem iBackStep_ok : SpecOk Try.prog 38 (evFn (envT Try.prog C114 mtab0) noLoops Try.f38) := fnL_ok (envT_ok (C114_ok) (mtab0_ok _)) mixedO Try.func38 (by kernel_rfl) (c := bodyOf Try.f38) (by kernel_rfl) (loopFree_ok (by kernel_rfl))

theorem iBackStep_told : SpecOk Try.prog 38 (toldO A_iBackStep R_iBackStep (fun x => iBackStep x.1 x.2.1 x.2.2.1 x.2.2.2.1 x.2.2.2.2.1 x.2.2.2.2.2.1 x.2.2.2.2.2.2) (C114 38)) := toldO_ok (by kernel_rfl) iBackStep_ok (rest_ok (C114_ok) _) iBackStep_m

noncomputable def C115 : Tab := tab 38 (toldO A_iBackStep R_iBackStep (fun x => iBackStep x.1 x.2.1 x.2.2.1 x.2.2.2.1 x.2.2.2.2.1 x.2.2.2.2.2.1 x.2.2.2.2.2.2) (C114 38)) C114
theorem C115_ok : TabOk Try.prog C115 := tab_ok (iBackStep_told) (C114_ok)

def A_wFnExactBackStep : Shp := ⟨[.agg [.h, .h, .h, .h], .h, .h, .h], [], [.f .f32, .f .f32, .f .f32, .f .f32, .f .f32, .f .f32, .f .f32]⟩
def R_wFnExactBackStep : List XShp := [(.ret, ⟨[.h], [], [.b]⟩)]

theorem wFnExactBackStep_e (x : DR A_wFnExactBackStep.hs) : (evFn (envT Try.prog C115 mtab0) noLoops Try.f13 (A_wFnExactBackStep.enc x).1).to (fun q => decX R_wFnExactBackStep .ret [q.1] q.2) = wFnExactBackStep_t x.1 x.2.1 x.2.2.1 x.2.2.2.1 x.2.2.2.2.1 x.2.2.2.2.2.1 x.2.2.2.2.2.2 := by kernel_rfl

theorem wFnExactBackStep_m (x : DR A_wFnExactBackStep.hs) : meanF (envT Try.prog C115 mtab0) noLoops Try.f13 A_wFnExactBackStep R_wFnExactBackStep x = (show Option (SumD (R_wFnExactBackStep.map (·.2))) from wFnExactBackStep x.1 x.2.1 x.2.2.1 x.2.2.2.1 x.2.2.2.2.1 x.2.2.2.2.2.1 x.2.2.2.2.2.2) := meanF_of (wFnExactBackStep_e x)

theorem wFnExactBackStep_ok : SpecOk Try.prog 13 (evFn (envT Try.prog C115 mtab0) noLoops Try.f13) := fnL_ok (envT_ok (C115_ok) (mtab0_ok _)) mixedO Try.func13 (by kernel_rfl) (c := bodyOf Try.f13) (by kernel_rfl) (loopFree_ok (by kernel_rfl))

theorem wFnExactBackStep_told : SpecOk Try.prog 13 (toldO A_wFnExactBackStep R_wFnExactBackStep (fun x => wFnExactBackStep x.1 x.2.1 x.2.2.1 x.2.2.2.1 x.2.2.2.2.1 x.2.2.2.2.2.1 x.2.2.2.2.2.2) (C115 13)) := toldO_ok (by kernel_rfl) wFnExactBackStep_ok (rest_ok (C115_ok) _) wFnExactBackStep_m

noncomputable def C116 : Tab := tab 13 (toldO A_wFnExactBackStep R_wFnExactBackStep (fun x => wFnExactBackStep x.1 x.2.1 x.2.2.1 x.2.2.2.1 x.2.2.2.2.1 x.2.2.2.2.2.1 x.2.2.2.2.2.2) (C115 13)) C115
theorem C116_ok : TabOk Try.prog C116 := tab_ok (wFnExactBackStep_told) (C115_ok)

theorem lawFnExactBackStep_ok : SpecOk Try.prog 13 (evFn (envT Try.prog C115 mtab0) noLoops Try.f13) := wFnExactBackStep_ok
theorem lawFnExactBackStep_says (x : DR A_wFnExactBackStep.hs) (h : (show Option (SumD (R_wFnExactBackStep.map (·.2))) from wFnExactBackStep x.1 x.2.1 x.2.2.1 x.2.2.2.1 x.2.2.2.2.1 x.2.2.2.2.2.1 x.2.2.2.2.2.2) = some true) : saysTrue (evFn (envT Try.prog C115 mtab0) noLoops Try.f13 (A_wFnExactBackStep.enc x).1) = true := law_says (x := x) ((wFnExactBackStep_m x).trans h)

theorem lawFnExactBackStep_true (x0 : Nat) (x1 : Nat) (x2 : Nat) (x3 : Nat) (x4 : Nat) (x5 : Nat) (x6 : Nat) (h : wFnExactBackStep x0 x1 x2 x3 x4 x5 x6 = some true) : saysTrue (evFn (envT Try.prog C115 mtab0) noLoops Try.f13 [.agg [.f .f32 x0, .f .f32 x1, .f .f32 x2, .f .f32 x3], .f .f32 x4, .f .f32 x5, .f .f32 x6]) = true := (congrArg (fun l => saysTrue (evFn (envT Try.prog C115 mtab0) noLoops Try.f13 l)) (by kernel_rfl : ([.agg [.f .f32 x0, .f .f32 x1, .f .f32 x2, .f .f32 x3], .f .f32 x4, .f .f32 x5, .f .f32 x6] : List V) = (A_wFnExactBackStep.enc (x0, x1, x2, x3, x4, x5, x6)).1)).trans (lawFnExactBackStep_says (x0, x1, x2, x3, x4, x5, x6) h)

def A_sl00In : Shp := ⟨[.h, .h, .h], [], [.i .i64, .i .i64, .i .i64]⟩
def R_sl00In : List XShp := [(.ret, ⟨[.h], [], [.b]⟩)]

theorem sl00In_e (x : DR A_sl00In.hs) : (evFn (envT Try.prog C116 mtab0) noLoops Try.f82 (A_sl00In.enc x).1).to (fun q => decX R_sl00In .ret [q.1] q.2) = sl00In_t x.1 x.2.1 x.2.2 := by kernel_rfl

theorem sl00In_m (x : DR A_sl00In.hs) : meanF (envT Try.prog C116 mtab0) noLoops Try.f82 A_sl00In R_sl00In x = some (show SumD (R_sl00In.map (·.2)) from sl00In x.1 x.2.1 x.2.2) := @meanF_tot _ _ _ _ _ _ _ (sl00In_e x) (show Inhabited (Bool) from inferInstance) (by kernel_rfl)

theorem sl00In_ok : SpecOk Try.prog 82 (evFn (envT Try.prog C116 mtab0) noLoops Try.f82) := fnL_ok (envT_ok (C116_ok) (mtab0_ok _)) mixedO Try.func82 (by kernel_rfl) (c := bodyOf Try.f82) (by kernel_rfl) (loopFree_ok (by kernel_rfl))

theorem sl00In_told : SpecOk Try.prog 82 (toldT A_sl00In R_sl00In (fun x => sl00In x.1 x.2.1 x.2.2) (C116 82)) := toldT_ok (by kernel_rfl) sl00In_ok (rest_ok (C116_ok) _) sl00In_m

noncomputable def C117 : Tab := tab 82 (toldT A_sl00In R_sl00In (fun x => sl00In x.1 x.2.1 x.2.2) (C116 82)) C116
theorem C117_ok : TabOk Try.prog C117 := tab_ok (sl00In_told) (C116_ok)

def S_sBackWater_l5 : Shp := ⟨[.h, .h, .h, .h, .ref 0 0, .undef, .undef, .slw 1 1, .h], [.cells [.h, .h, .h, .h] false, .arr [.f .f32] false], [.f .f32, .f .f32, .f .f32, .i .i64, .i .i64, .f .f32, .f .f32, .f .f32, .f .f32, .sl [.f .f32]]⟩
def X_sBackWater_l5 : List XShp := [(.ret, ⟨[.undef, .undef, .undef, .undef, .undef, .nils, .lb false, .undef, .undef], [], []⟩), (.exit 0, ⟨[.undef, .undef, .undef, .undef, .undef, .undef, .undef, .slw 0 1, .undef], [.arr [.f .f32] false], [.sl [.f .f32]]⟩)]

noncomputable def L_sBackWater_l5 : Loops := (⟨52, lvT [(5, [1, 2, 3, 4, 5, 10, 11, 12, 13])], mdT [(5, .normal, [], [10, 11]), (5, .exit 0, [], [1, 2, 3, 4, 5, 10, 11, 13]), (5, .ret, [], [1, 2, 3, 4, 5, 12, 13])], fun k vs bs => .bad⟩ : Loops)

theorem sBackWater_l5_e (y1 : Nat) (y2 : Nat) (y3 : Int) (y5 : Nat) (y6 : Nat) (y7 : Nat) (y8 : Nat) (s : Nat × Int × List Nat) : (loopStep (envT Try.prog C117 mtab0) L_sBackWater_l5 5 (loopC (bodyOf Try.f39) 5) (S_sBackWater_l5.enc (s.1, y1, y2, y3, s.2.1, y5, y6, y7, y8, s.2.2)).1 (S_sBackWater_l5.enc (s.1, y1, y2, y3, s.2.1, y5, y6, y7, y8, s.2.2)).2).to (stepD S_sBackWater_l5 X_sBackWater_l5) = (sBackWater_l5_t y1 y2 y3 y5 y6 y7 y8 s.1 s.2.1 s.2.2).map (Sum.map (fun s : Nat × Int × List Nat => (show DR S_sBackWater_l5.hs from (s.1, y1, y2, y3, s.2.1, y5, y6, y7, y8, s.2.2))) id) := by kernel_rfl

theorem sBackWater_l5_r (x : DR S_sBackWater_l5.hs) : (sBackWater_l5 x.1 x.2.1 x.2.2.1 x.2.2.2.1 x.2.2.2.2.1 x.2.2.2.2.2.1 x.2.2.2.2.2.2.1 x.2.2.2.2.2.2.2.1 x.2.2.2.2.2.2.2.2.1 x.2.2.2.2.2.2.2.2.2 : Option (SumD (X_sBackWater_l5.map (·.2)))) = runL (meanS (envT Try.prog C117 mtab0) L_sBackWater_l5 5 (loopC (bodyOf Try.f39) 5) S_sBackWater_l5 X_sBackWater_l5) x := run_of (fun s : Nat × Int × List Nat => (show DR S_sBackWater_l5.hs from (s.1, x.2.1, x.2.2.1, x.2.2.2.1, s.2.1, x.2.2.2.2.2.1, x.2.2.2.2.2.2.1, x.2.2.2.2.2.2.2.1, x.2.2.2.2.2.2.2.2.1, s.2.2))) (sBackWater_l5_e (x.2.1) (x.2.2.1) (x.2.2.2.1) (x.2.2.2.2.2.1) (x.2.2.2.2.2.2.1) (x.2.2.2.2.2.2.2.1) (x.2.2.2.2.2.2.2.2.1)) (x.1, x.2.2.2.2.1, x.2.2.2.2.2.2.2.2.2)

theorem sBackWater_l5_k (L : Loops) (hn : L_sBackWater_l5.n = L.n) (hlv : L_sBackWater_l5.lv 5 = L.lv 5) (hL : ∀ vs bs, L.loop 5 vs bs = toldL S_sBackWater_l5 X_sBackWater_l5 (fun x => sBackWater_l5 x.1 x.2.1 x.2.2.1 x.2.2.2.1 x.2.2.2.2.1 x.2.2.2.2.2.1 x.2.2.2.2.2.2.1 x.2.2.2.2.2.2.2.1 x.2.2.2.2.2.2.2.2.1 x.2.2.2.2.2.2.2.2.2) vs bs) : LOk Try.prog (envT Try.prog C117 mtab0) L 5 (loopC (bodyOf Try.f39) 5) := toldL_ok (L1 := L_sBackWater_l5) (envT_ok (C117_ok) (mtab0_ok _)) mixedO hn hlv (loopFree_ok (by kernel_rfl)) sBackWater_l5_r hL

def A_sBackWater : Shp := ⟨[.agg [.h, .h, .h, .h], .h, .h, .h, .h], [], [.f .f32, .f .f32, .f .f32, .f .f32, .f .f32, .f .f32, .f .f32, .i .i64]⟩
def R_sBackWater : List XShp := [(.ret, ⟨[.tup [.nils, .lb false]], [], []⟩), (.ret, ⟨[.tup [.slw 0 1, .lb true]], [.arr [.f .f32] false], [.sl [.f .f32]]⟩)]

noncomputable def L_sBackWater : Loops := (⟨52, lvT [(5, [1, 2, 3, 4, 5, 10, 11, 12, 13])], mdT [(5, .normal, [], [10, 11]), (5, .exit 0, [], [1, 2, 3, 4, 5, 10, 11, 13]), (5, .ret, [], [1, 2, 3, 4, 5, 12, 13])], fun k vs bs => bif Nat.beq k 5 then toldL S_sBackWater_l5 X_sBackWater_l5 (fun x => sBackWater_l5 x.1 x.2.1 x.2.2.1 x.2.2.2.1 x.2.2.2.2.1 x.2.2.2.2.2.1 x.2.2.2.2.2.2.1 x.2.2.2.2.2.2.2.1 x.2.2.2.2.2.2.2.2.1 x.2.2.2.2.2.2.2.2.2) vs bs else .bad⟩ : Loops)

theorem sBackWater_e (x : DR A_sBackWater.hs) : (evFn (envT Try.prog C117 mtab0) L_sBackWater Try.f39 (A_sBackWater.enc x).1).to (fun q => decX R_sBackWater .ret [q.1] q.2) = sBackWater_t x.1 x.2.1 x.2.2.1 x.2.2.2.1 x.2.2.2.2.1 x.2.2.2.2.2.1 x.2.2.2.2.2.2.1 x.2.2.2.2.2.2.2 := by kernel_rfl

theorem sBackWater_m (x : DR A_sBackWater.hs) : meanF (envT Try.prog C117 mtab0) L_sBackWater Try.f39 A_sBackWater R_sBackWater x = (show Option (SumD (R_sBackWater.map (·.2))) from sBackWater x.1 x.2.1 x.2.2.1 x.2.2.2.1 x.2.2.2.2.1 x.2.2.2.2.2.1 x.2.2.2.2.2.2.1 x.2.2.2.2.2.2.2) := meanF_of (sBackWater_e x)

theorem sBackWater_ok : SpecOk Try.prog 39 (evFn (envT Try.prog C117 mtab0) L_sBackWater Try.f39) := fnL_ok (envT_ok (C117_ok) (mtab0_ok _)) mixedO Try.func39 (by kernel_rfl) (c := bodyOf Try.f39) (by kernel_rfl) (loopsL (l := [(5, loopC (bodyOf Try.f39) 5)]) (by kernel_rfl) (lk_cons (sBackWater_l5_k _ rfl rfl (fun _ _ => rfl)) lk_nil))

theorem sBackWater_told : SpecOk Try.prog 39 (toldO A_sBackWater R_sBackWater (fun x => sBackWater x.1 x.2.1 x.2.2.1 x.2.2.2.1 x.2.2.2.2.1 x.2.2.2.2.2.1 x.2.2.2.2.2.2.1 x.2.2.2.2.2.2.2) (C117 39)) := toldO_ok (by kernel_rfl) sBackWater_ok (rest_ok (C117_ok) _) sBackWater_m

noncomputable def C118 : Tab := tab 39 (toldO A_sBackWater R_sBackWater (fun x => sBackWater x.1 x.2.1 x.2.2.1 x.2.2.2.1 x.2.2.2.2.1 x.2.2.2.2.2.1 x.2.2.2.2.2.2.1 x.2.2.2.2.2.2.2) (C117 39)) C117
theorem C118_ok : TabOk Try.prog C118 := tab_ok (sBackWater_told) (C117_ok)

def A_iwithin : Shp := ⟨[.h, .h, .h], [], [.i .i64, .i .i64, .i .i64]⟩
def R_iwithin : List XShp := [(.ret, ⟨[.h], [], [.b]⟩)]

theorem iwithin_e (x : DR A_iwithin.hs) : (evFn (envT Try.prog C118 mtab0) noLoops Try.f83 (A_iwithin.enc x).1).to (fun q => decX R_iwithin .ret [q.1] q.2) = iwithin_t x.1 x.2.1 x.2.2 := by kernel_rfl

theorem iwithin_m (x : DR A_iwithin.hs) : meanF (envT Try.prog C118 mtab0) noLoops Try.f83 A_iwithin R_iwithin x = some (show SumD (R_iwithin.map (·.2)) from iwithin x.1 x.2.1 x.2.2) := @meanF_tot _ _ _ _ _ _ _ (iwithin_e x) (show Inhabited (Bool) from inferInstance) (by kernel_rfl)

theorem iwithin_ok : SpecOk Try.prog 83 (evFn (envT Try.prog C118 mtab0) noLoops Try.f83) := fnL_ok (envT_ok (C118_ok) (mtab0_ok _)) mixedO Try.func83 (by kernel_rfl) (c := bodyOf Try.f83) (by kernel_rfl) (loopFree_ok (by kernel_rfl))

theorem iwithin_told : SpecOk Try.prog 83 (toldT A_iwithin R_iwithin (fun x => iwithin x.1 x.2.1 x.2.2) (C118 83)) := toldT_ok (by kernel_rfl) iwithin_ok (rest_ok (C118_ok) _) iwithin_m

noncomputable def C119 : Tab := tab 83 (toldT A_iwithin R_iwithin (fun x => iwithin x.1 x.2.1 x.2.2) (C118 83)) C118
theorem C119_ok : TabOk Try.prog C119 := tab_ok (iwithin_told) (C118_ok)

def S_iBackWater_l5 : Shp := ⟨[.h, .h, .h, .ref 0 0, .undef, .undef, .slw 1 1, .h, .h], [.cells [.h, .h, .h, .h] false, .arr [.f .f32] false], [.f .f32, .f .f32, .f .f32, .i .i64, .i .i64, .f .f32, .f .f32, .f .f32, .f .f32, .sl [.f .f32]]⟩
def X_iBackWater_l5 : List XShp := [(.ret, ⟨[.undef, .undef, .undef, .undef, .nils, .lb false, .undef, .undef, .undef], [], []⟩), (.exit 0, ⟨[.undef, .undef, .undef, .undef, .undef, .undef, .slw 0 1, .undef, .undef], [.arr [.f .f32] false], [.sl [.f .f32]]⟩)]

noncomputable def L_iBackWater_l5 : Loops := (⟨48, lvT [(5, [1, 2, 3, 5, 10, 11, 12, 28, 29])], mdT [(5, .normal, [], [10, 11]), (5, .exit 0, [], [1, 2, 3, 5, 10, 11, 28, 29]), (5, .ret, [], [1, 2, 3, 5, 12, 28, 29])], fun k vs bs => .bad⟩ : Loops)

theorem iBackWater_l5_e (y1 : Nat) (y2 : Nat) (y3 : Int) (y5 : Nat) (y6 : Nat) (y7 : Nat) (y8 : Nat) (s : Nat × Int × List Nat) : (loopStep (envT Try.prog C119 mtab0) L_iBackWater_l5 5 (loopC (bodyOf Try.f40) 5) (S_iBackWater_l5.enc (s.1, y1, y2, y3, s.2.1, y5, y6, y7, y8, s.2.2)).1 (S_iBackWater_l5.enc (s.1, y1, y2, y3, s.2.1, y5, y6, y7, y8, s.2.2)).2).to (stepD S_iBackWater_l5 X_iBackWater_l5) = (iBackWater_l5_t y1 y2 y3 y5 y6 y7 y8 s.1 s.2.1 s.2.2).map (Sum.map (fun s : Nat × Int × List Nat => (show DR S_iBackWater_l5.hs from (s.1, y1, y2, y3, s.2.1, y5, y6, y7, y8, s.2.2))) id) := by kernel_rfl

theorem iBackWater_l5_r (x : DR S_iBackWater_l5.hs) : (iBackWater_l5 x.1 x.2.1 x.2.2.1 x.2.2.2.1 x.2.2.2.2.1 x.2.2.2.2.2.1 x.2.2.2.2.2.2.1 x.2.2.2.2.2.2.2.1 x.2.2.2.2.2.2.2.2.1 x.2.2.2.2.2.2.2.2.2 : Option (SumD (X_iBackWater_l5.map (·.2)))) = runL (meanS (envT Try.prog C119 mtab0) L_iBackWater_l5 5 (loopC (bodyOf Try.f40) 5) S_iBackWater_l5 X_iBackWater_l5) x := run_of (fun s : Nat × Int × List Nat => (show DR S_iBackWater_l5.hs from (s.1, x.2.1, x.2.2.1, x.2.2.2.1, s.2.1, x.2.2.2.2.2.1, x.2.2.2.2.2.2.1, x.2.2.2.2.2.2.2.1, x.2.2.2.2.2.2.2.2.1, s.2.2))) (iBackWater_l5_e (x.2.1) (x.2.2.1) (x.2.2.2.1) (x.2.2.2.2.2.1) (x.2.2.2.2.2.2.1) (x.2.2.2.2.2.2.2.1) (x.2.2.2.2.2.2.2.2.1)) (x.1, x.2.2.2.2.1, x.2.2.2.2.2.2.2.2.2)

theorem iBackWater_l5_k (L : Loops) (hn : L_iBackWater_l5.n = L.n) (hlv : L_iBackWater_l5.lv 5 = L.lv 5) (hL : ∀ vs bs, L.loop 5 vs bs = toldL S_iBackWater_l5 X_iBackWater_l5 (fun x => iBackWater_l5 x.1 x.2.1 x.2.2.1 x.2.2.2.1 x.2.2.2.2.1 x.2.2.2.2.2.1 x.2.2.2.2.2.2.1 x.2.2.2.2.2.2.2.1 x.2.2.2.2.2.2.2.2.1 x.2.2.2.2.2.2.2.2.2) vs bs) : LOk Try.prog (envT Try.prog C119 mtab0) L 5 (loopC (bodyOf Try.f40) 5) := toldL_ok (L1 := L_iBackWater_l5) (envT_ok (C119_ok) (mtab0_ok _)) mixedO hn hlv (loopFree_ok (by kernel_rfl)) iBackWater_l5_r hL

def A_iBackWater : Shp := ⟨[.agg [.h, .h, .h, .h], .h, .h, .h, .h], [], [.f .f32, .f .f32, .f .f32, .f .f32, .f .f32, .f .f32, .f .f32, .i .i64]⟩
def R_iBackWater : List XShp := [(.ret, ⟨[.tup [.nils, .lb false]], [], []⟩), (.ret, ⟨[.tup [.slw 0 1, .lb true]], [.arr [.f .f32] false], [.sl [.f .f32]]⟩)]

noncomputable def L_iBackWater : Loops := (⟨48, lvT [(5, [1, 2, 3, 5, 10, 11, 12, 28, 29])], mdT [(5, .normal, [], [10, 11]), (5, .exit 0, [], [1, 2, 3, 5, 10, 11, 28, 29]), (5, .ret, [], [1, 2, 3, 5, 12, 28, 29])], fun k vs bs => bif Nat.beq k 5 then toldL S_iBackWater_l5 X_iBackWater_l5 (fun x => iBackWater_l5 x.1 x.2.1 x.2.2.1 x.2.2.2.1 x.2.2.2.2.1 x.2.2.2.2.2.1 x.2.2.2.2.2.2.1 x.2.2.2.2.2.2.2.1 x.2.2.2.2.2.2.2.2.1 x.2.2.2.2.2.2.2.2.2) vs bs else .bad⟩ : Loops)

theorem iBackWater_e (x : DR A_iBackWater.hs) : (evFn (envT Try.prog C119 mtab0) L_iBackWater Try.f40 (A_iBackWater.enc x).1).to (fun q => decX R_iBackWater .ret [q.1] q.2) = iBackWater_t x.1 x.2.1 x.2.2.1 x.2.2.2.1 x.2.2.2.2.1 x.2.2.2.2.2.1 x.2.2.2.2.2.2.1 x.2.2.2.2.2.2.2 := by kernel_rfl

theorem iBackWater_m (x : DR A_iBackWater.hs) : meanF (envT Try.prog C119 mtab0) L_iBackWater Try.f40 A_iBackWater R_iBackWater x = (show Option (SumD (R_iBackWater.map (·.2))) from iBackWater x.1 x.2.1 x.2.2.1 x.2.2.2.1 x.2.2.2.2.1 x.2.2.2.2.2.1 x.2.2.2.2.2.2.1 x.2.2.2.2.2.2.2) := meanF_of (iBackWater_e x)

theorem iBackWater_ok : SpecOk Try.prog 40 (evFn (envT Try.prog C119 mtab0) L_iBackWater Try.f40) := fnL_ok (envT_ok (C119_ok) (mtab0_ok _)) mixedO Try.func40 (by kernel_rfl) (c := bodyOf Try.f40) (by kernel_rfl) (loopsL (l := [(5, loopC (bodyOf Try.f40) 5)]) (by kernel_rfl) (lk_cons (iBackWater_l5_k _ rfl rfl (fun _ _ => rfl)) lk_nil))

theorem iBackWater_told : SpecOk Try.prog 40 (toldO A_iBackWater R_iBackWater (fun x => iBackWater x.1 x.2.1 x.2.2.1 x.2.2.2.1 x.2.2.2.2.1 x.2.2.2.2.2.1 x.2.2.2.2.2.2.1 x.2.2.2.2.2.2.2) (C119 40)) := toldO_ok (by kernel_rfl) iBackWater_ok (rest_ok (C119_ok) _) iBackWater_m

noncomputable def C120 : Tab := tab 40 (toldO A_iBackWater R_iBackWater (fun x => iBackWater x.1 x.2.1 x.2.2.1 x.2.2.2.1 x.2.2.2.2.1 x.2.2.2.2.2.1 x.2.2.2.2.2.2.1 x.2.2.2.2.2.2.2) (C119 40)) C119
theorem C120_ok : TabOk Try.prog C120 := tab_ok (iBackWater_told) (C119_ok)

def S_weqFloat32S_l4 : Shp := ⟨[.h, .h, .undef, .h], [], [.sl [.f .f32], .sl [.f .f32], .i .i64]⟩
def X_weqFloat32S_l4 : List XShp := [(.exit 0, ⟨[.undef, .undef, .undef, .undef], [], []⟩)]

noncomputable def L_weqFloat32S_l4 : Loops := (⟨29, lvT [(4, [0, 1, 4, 5])], mdT [(4, .normal, [], [4]), (4, .exit 0, [], [0, 1, 4, 5]), (4, .ret, [], [0, 1, 5])], fun k vs bs => .bad⟩ : Loops)

theorem weqFloat32S_l4_e (y0 : List Nat) (y1 : List Nat) (s : Int) : (loopStep (envT Try.prog C120 mtab0) L_weqFloat32S_l4 4 (loopC (bodyOf Try.f41) 4) (S_weqFloat32S_l4.enc (y0, y1, s)).1 (S_weqFloat32S_l4.enc (y0, y1, s)).2).to (stepD S_weqFloat32S_l4 X_weqFloat32S_l4) = (weqFloat32S_l4_t y0 y1 s).map (Sum.map (fun s : Int => (show DR S_weqFloat32S_l4.hs from (y0, y1, s))) id) := by kernel_rfl

theorem weqFloat32S_l4_r (x : DR S_weqFloat32S_l4.hs) : (weqFloat32S_l4 x.1 x.2.1 x.2.2 : Option (SumD (X_weqFloat32S_l4.map (·.2)))) = runL (meanS (envT Try.prog C120 mtab0) L_weqFloat32S_l4 4 (loopC (bodyOf Try.f41) 4) S_weqFloat32S_l4 X_weqFloat32S_l4) x := run_of (fun s : Int => (show DR S_weqFloat32S_l4.hs from (x.1, x.2.1, s))) (weqFloat32S_l4_e (x.1) (x.2.1)) x.2.2

theorem weqFloat32S_l4_k (L : Loops) (hn : L_weqFloat32S_l4.n = L.n) (hlv : L_weqFloat32S_l4.lv 4 = L.lv 4) (hL : ∀ vs bs, L.loop 4 vs bs = toldL S_weqFloat32S_l4 X_weqFloat32S_l4 (fun x => weqFloat32S_l4 x.1 x.2.1 x.2.2) vs bs) : LOk Try.prog (envT Try.prog C120 mtab0) L 4 (loopC (bodyOf Try.f41) 4) := toldL_ok (L1 := L_weqFloat32S_l4) (envT_ok (C120_ok) (mtab0_ok _)) mixedO hn hlv (loopFree_ok (by kernel_rfl)) weqFloat32S_l4_r hL

def A_weqFloat32S : Shp := ⟨[.h, .h], [], [.sl [.f .f32], .sl [.f .f32]]⟩
def R_weqFloat32S : List XShp := [(.ret, ⟨[.h], [], [.b]⟩)]

noncomputable def L_weqFloat32S : Loops := (⟨29, lvT [(4, [0, 1, 4, 5])], mdT [(4, .normal, [], [4]), (4, .exit 0, [], [0, 1, 4, 5]), (4, .ret, [], [0, 1, 5])], fun k vs bs => bif Nat.beq k 4 then toldL S_weqFloat32S_l4 X_weqFloat32S_l4 (fun x => weqFloat32S_l4 x.1 x.2.1 x.2.2) vs bs else .bad⟩ : Loops)

theorem weqFloat32S_e (x : DR A_weqFloat32S.hs) : (evFn (envT Try.prog C120 mtab0) L_weqFloat32S Try.f41 (A_weqFloat32S.enc x).1).to (fun q => decX R_weqFloat32S .ret [q.1] q.2) = weqFloat32S_t x.1 x.2 := by kernel_rfl

theorem weqFloat32S_m (x : DR A_weqFloat32S.hs) : meanF (envT Try.prog C120 mtab0) L_weqFloat32S Try.f41 A_weqFloat32S R_weqFloat32S x = (show Option (SumD (R_weqFloat32S.map (·.2))) from weqFloat32S x.1 x.2) := meanF_of (weqFloat32S_e x)

theorem weqFloat32S_ok : SpecOk Try.prog 41 (evFn (envT Try.prog C120 mtab0) L_weqFloat32S Try.f41) := fnL_ok (envT_ok (C120_ok) (mtab0_ok _)) mixedO Try.func41 (by kernel_rfl) (c := bodyOf Try.f41) (by kernel_rfl) (loopsL (l := [(4, loopC (bodyOf Try.f41) 4)]) (by kernel_rfl) (lk_cons (weqFloat32S_l4_k _ rfl rfl (fun _ _ => rfl)) lk_nil))

theorem weqFloat32S_told : SpecOk Try.prog 41 (toldO A_weqFloat32S R_weqFloat32S (fun x => weqFloat32S x.1 x.2) (C120 41)) := toldO_ok (by kernel_rfl) weqFloat32S_ok (rest_ok (C120_ok) _) weqFloat32S_m

noncomputable def C121 : Tab := tab 41 (toldO A_weqFloat32S R_weqFloat32S (fun x => weqFloat32S x.1 x.2) (C120 41)) C120
theorem C121_ok : TabOk Try.prog C121 := tab_ok (weqFloat32S_told) (C120_ok)

def S_wmarkFloat32S_nil_l2 : Shp := ⟨[.nils, .h, .h], [], [.i .i64, .i .i64]⟩
def X_wmarkFloat32S_nil_l2 : List XShp := [(.exit 0, ⟨[.undef, .h, .undef], [], [.i .i64]⟩)]

noncomputable def L_wmarkFloat32S_nil_l2 : Loops := (⟨20, lvT [(2, [0, 1, 5])], mdT [(2, .exit 0, [], [0, 5])], fun k vs bs => .bad⟩ : Loops)

theorem wmarkFloat32S_nil_l2_e (y0 : Int) (y1 : Int) (s : Unit) : (loopStep (envW Try.prog C121 mtab0 0) L_wmarkFloat32S_nil_l2 2 (loopC (bodyOf Try.f42) 2) (S_wmarkFloat32S_nil_l2.enc (y0, y1)).1 (S_wmarkFloat32S_nil_l2.enc (y0, y1)).2).to (stepD S_wmarkFloat32S_nil_l2 X_wmarkFloat32S_nil_l2) = (wmarkFloat32S_nil_l2_t y0 y1 ).map (Sum.map (fun s : Unit => (show DR S_wmarkFloat32S_nil_l2.hs from (y0, y1))) id) := by kernel_rfl

theorem wmarkFloat32S_nil_l2_r (x : DR S_wmarkFloat32S_nil_l2.hs) : (wmarkFloat32S_nil_l2 x.1 x.2 : Option (SumD (X_wmarkFloat32S_nil_l2.map (·.2)))) = runL (meanS (envW Try.prog C121 mtab0 0) L_wmarkFloat32S_nil_l2 2 (loopC (bodyOf Try.f42) 2) S_wmarkFloat32S_nil_l2 X_wmarkFloat32S_nil_l2) x := run_of (fun s : Unit => (show DR S_wmarkFloat32S_nil_l2.hs from (x.1, x.2))) (wmarkFloat32S_nil_l2_e (x.1) (x.2)) ()

theorem wmarkFloat32S_nil_l2_k (L : Loops) (hn : L_wmarkFloat32S_nil_l2.n = L.n) (hlv : L_wmarkFloat32S_nil_l2.lv 2 = L.lv 2) (hL : ∀ vs bs, L.loop 2 vs bs = toldL S_wmarkFloat32S_nil_l2 X_wmarkFloat32S_nil_l2 (fun x => wmarkFloat32S_nil_l2 x.1 x.2) vs bs) : LOk Try.prog (envW Try.prog C121 mtab0 0) L 2 (loopC (bodyOf Try.f42) 2) := toldL_ok (L1 := L_wmarkFloat32S_nil_l2) (envW_ok (C121_ok) (mtab0_ok _)) mixedO hn hlv (loopFree_ok (by kernel_rfl)) wmarkFloat32S_nil_l2_r hL

def A_wmarkFloat32S_nil : Shp := ⟨[.nils, .h], [], [.i .i64]⟩
def R_wmarkFloat32S_nil : List XShp := [(.ret, ⟨[.h], [], [.i .i64]⟩)]

noncomputable def L_wmarkFloat32S_nil : Loops := (⟨20, lvT [(2, [0, 1, 5])], mdT [(2, .exit 0, [], [0, 5])], fun k vs bs => bif Nat.beq k 2 then toldL S_wmarkFloat32S_nil_l2 X_wmarkFloat32S_nil_l2 (fun x => wmarkFloat32S_nil_l2 x.1 x.2) vs bs else .bad⟩ : Loops)

theorem wmarkFloat32S_nil_e (x : DR A_wmarkFloat32S_nil.hs) : (evFnM (envW Try.prog C121 mtab0 0) L_wmarkFloat32S_nil Try.f42 (A_wmarkFloat32S_nil.enc x).1 ((A_wmarkFloat32S_nil.enc x).2.map (·.blk))).to (decM R_wmarkFloat32S_nil) = wmarkFloat32S_nil_t x := by kernel_rfl

theorem wmarkFloat32S_nil_m (x : DR A_wmarkFloat32S_nil.hs) : meanM (envW Try.prog C121 mtab0 0) L_wmarkFloat32S_nil Try.f42 A_wmarkFloat32S_nil R_wmarkFloat32S_nil x = (show Option (SumD (R_wmarkFloat32S_nil.map (·.2))) from wmarkFloat32S_nil x) := meanM_of (wmarkFloat32S_nil_e x)

theorem wmarkFloat32S_nil_ok : MSpecOk Try.prog 42 (evFnM (envW Try.prog C121 mtab0 0) L_wmarkFloat32S_nil Try.f42) := fnM_ok (envW_ok (C121_ok) (mtab0_ok _)) rfl mixedO Try.func42 (by kernel_rfl) (c := bodyOf Try.f42) (by kernel_rfl) (loopsL (l := [(2, loopC (bodyOf Try.f42) 2)]) (by kernel_rfl) (lk_cons (wmarkFloat32S_nil_l2_k _ rfl rfl (fun _ _ => rfl)) lk_nil))

theorem wmarkFloat32S_nil_told : MSpecOk Try.prog 42 (toldMO A_wmarkFloat32S_nil R_wmarkFloat32S_nil (fun x => wmarkFloat32S_nil x) (mrest mtab0 42)) := toldMO_ok (by kernel_rfl) wmarkFloat32S_nil_ok (mrest_ok (mtab0_ok _) _) wmarkFloat32S_nil_m

noncomputable def M122 : MTab := mtab 42 (toldMO A_wmarkFloat32S_nil R_wmarkFloat32S_nil (fun x => wmarkFloat32S_nil x) (mrest mtab0 42)) mtab0
theorem M122_ok : MTabOk Try.prog M122 := mtab_ok (wmarkFloat32S_nil_told) (mtab0_ok _)

def S_wmarkFloat32S_l2 : Shp := ⟨[.slw 0 1, .h, .h], [.arr [.f .f32] false], [.i .i64, .i .i64, .sl [.f .f32]]⟩
def X_wmarkFloat32S_l2 : List XShp := [(.exit 0, ⟨[.undef, .h, .undef], [.arr [.f .f32] false], [.i .i64, .sl [.f .f32]]⟩)]

noncomputable def L_wmarkFloat32S_l2 : Loops := (⟨20, lvT [(2, [0, 1, 5])], mdT [(2, .exit 0, [], [0, 5])], fun k vs bs => .bad⟩ : Loops)

theorem wmarkFloat32S_l2_e (s : Int × Int × List Nat) : (loopStep (envW Try.prog C121 M122 1) L_wmarkFloat32S_l2 2 (loopC (bodyOf Try.f42) 2) (S_wmarkFloat32S_l2.enc (s.1, s.2.1, s.2.2)).1 (S_wmarkFloat32S_l2.enc (s.1, s.2.1, s.2.2)).2).to (stepD S_wmarkFloat32S_l2 X_wmarkFloat32S_l2) = (wmarkFloat32S_l2_t  s.1 s.2.1 s.2.2).map (Sum.map (fun s : Int × Int × List Nat => (show DR S_wmarkFloat32S_l2.hs from (s.1, s.2.1, s.2.2))) id) := by kernel_rfl

theorem wmarkFloat32S_l2_r (x : DR S_wmarkFloat32S_l2.hs) : (wmarkFloat32S_l2 x.1 x.2.1 x.2.2 : Option (SumD (X_wmarkFloat32S_l2.map (·.2)))) = runL (meanS (envW Try.prog C121 M122 1) L_wmarkFloat32S_l2 2 (loopC (bodyOf Try.f42) 2) S_wmarkFloat32S_l2 X_wmarkFloat32S_l2) x := run_of (fun s : Int × Int × List Nat => (show DR S_wmarkFloat32S_l2.hs from (s.1, s.2.1, s.2.2))) (wmarkFloat32S_l2_e ) (x.1, x.2.1, x.2.2)

theorem wmarkFloat32S_l2_k (L : Loops) (hn : L_wmarkFloat32S_l2.n = L.n) (hlv : L_wmarkFloat32S_l2.lv 2 = L.lv 2) (hL : ∀ vs bs, L.loop 2 vs bs = toldL S_wmarkFloat32S_l2 X_wmarkFloat32S_l2 (fun x => wmarkFloat32S_l2 x.1 x.2.1 x.2.2) vs bs) : LOk Try.prog (envW Try.prog C121 M122 1) L 2 (loopC (bodyOf Try.f42) 2) := toldL_ok (L1 := L_wmarkFloat32S_l2) (envW_ok (C121_ok) (M122_ok)) mixedO hn hlv (loopFree_ok (by kernel_rfl)) wmarkFloat32S_l2_r hL

def A_wmarkFloat32S : Shp := ⟨[.slw 0 1, .h], [.arr [.f .f32] false], [.i .i64, .sl [.f .f32]]⟩
def R_wmarkFloat32S : List XShp := [(.ret, ⟨[.h], [.arr [.f .f32] false], [.i .i64, .sl [.f .f32]]⟩)]

noncomputable def L_wmarkFloat32S : Loops := (⟨20, lvT [(2, [0, 1, 5])], mdT [(2, .exit 0, [], [0, 5])], fun k vs bs => bif Nat.beq k 2 then toldL S_wmarkFloat32S_l2 X_wmarkFloat32S_l2 (fun x => wmarkFloat32S_l2 x.1 x.2.1 x.2.2) vs bs else .bad⟩ : Loops)

theorem wmarkFloat32S_e (x : DR A_wmarkFloat32S.hs) : (evFnM (envW Try.prog C121 M122 1) L_wmarkFloat32S Try.f42 (A_wmarkFloat32S.enc x).1 ((A_wmarkFloat32S.enc x).2.map (·.blk))).to (decM R_wmarkFloat32S) = wmarkFloat32S_t x.1 x.2 := by kernel_rfl

theorem wmarkFloat32S_m (x : DR A_wmarkFloat32S.hs) : meanM (envW Try.prog C121 M122 1) L_wmarkFloat32S Try.f42 A_wmarkFloat32S R_wmarkFloat32S x = (show Option (SumD (R_wmarkFloat32S.map (·.2))) from wmarkFloat32S x.1 x.2) := meanM_of (wmarkFloat32S_e x)

theorem wmarkFloat32S_ok : MSpecOk Try.prog 42 (evFnM (envW Try.prog C121 M122 1) L_wmarkFloat32S Try.f42) := fnM_ok (envW_ok (C121_ok) (M122_ok)) rfl mixedO Try.func42 (by kernel_rfl) (c := bodyOf Try.f42) (by kernel_rfl) (loopsL (l := [(2, loopC (bodyOf Try.f42) 2)]) (by kernel_rfl) (lk_cons (wmarkFloat32S_l2_k _ rfl rfl (fun _ _ => rfl)) lk_nil))

theorem wmarkFloat32S_told : MSpecOk Try.prog 42 (toldMO A_wmarkFloat32S R_wmarkFloat32S (fun x => wmarkFloat32S x.1 x.2) (mrest M122 42)) := toldMO_ok (by kernel_rfl) wmarkFloat32S_ok (mrest_ok (M122_ok) _) wmarkFloat32S_m

noncomputable def M123 : MTab := mtab 42 (toldMO A_wmarkFloat32S R_wmarkFloat32S (fun x => wmarkFloat32S x.1 x.2) (mrest M122 42)) M122
theorem M123_ok : MTabOk Try.prog M123 := mtab_ok (wmarkFloat32S_told) (M122_ok)

def S_wheldFloat32S_l2 : Shp := ⟨[.h, .h, .undef, .h], [], [.sl [.f .f32], .i .i64, .i .i64]⟩
def X_wheldFloat32S_l2 : List XShp := [(.ret, ⟨[.undef, .undef, .h, .undef], [], [.i .i64]⟩), (.exit 0, ⟨[.undef, .h, .undef, .undef], [], [.i .i64]⟩)]

noncomputable def L_wheldFloat32S_l2 : Loops := (⟨22, lvT [(2, [0, 1, 4, 5])], mdT [(2, .normal, [], [4]), (2, .exit 0, [], [0, 4, 5]), (2, .ret, [], [0, 1, 5])], fun k vs bs => .bad⟩ : Loops)

theorem wheldFloat32S_l2_e (y0 : List Nat) (s : Int × Int) : (loopStep (envT Try.prog C121 M123) L_wheldFloat32S_l2 2 (loopC (bodyOf Try.f43) 2) (S_wheldFloat32S_l2.enc (y0, s.1, s.2)).1 (S_wheldFloat32S_l2.enc (y0, s.1, s.2)).2).to (stepD S_wheldFloat32S_l2 X_wheldFloat32S_l2) = (wheldFloat32S_l2_t y0 s.1 s.2).map (Sum.map (fun s : Int × Int => (show DR S_wheldFloat32S_l2.hs from (y0, s.1, s.2))) id) := by kernel_rfl

theorem wheldFloat32S_l2_r (x : DR S_wheldFloat32S_l2.hs) : (wheldFloat32S_l2 x.1 x.2.1 x.2.2 : Option (SumD (X_wheldFloat32S_l2.map (·.2)))) = runL (meanS (envT Try.prog C121 M123) L_wheldFloat32S_l2 2 (loopC (bodyOf Try.f43) 2) S_wheldFloat32S_l2 X_wheldFloat32S_l2) x := run_of (fun s : Int × Int => (show DR S_wheldFloat32S_l2.hs from (x.1, s.1, s.2))) (wheldFloat32S_l2_e (x.1)) (x.2.1, x.2.2)

theorem wheldFloat32S_l2_k (L : Loops) (hn : L_wheldFloat32S_l2.n = L.n) (hlv : L_wheldFloat32S_l2.lv 2 = L.lv 2) (hL : ∀ vs bs, L.loop 2 vs bs = toldL S_wheldFloat32S_l2 X_wheldFloat32S_l2 (fun x => wheldFloat32S_l2 x.1 x.2.1 x.2.2) vs bs) : LOk Try.prog (envT Try.prog C121 M123) L 2 (loopC (bodyOf Try.f43) 2) := toldL_ok (L1 := L_wheldFloat32S_l2) (envT_ok (C121_ok) (M123_ok)) mixedO hn hlv (loopFree_ok (by kernel_rfl)) wheldFloat32S_l2_r hL

def A_wheldFloat32S : Shp := ⟨[.h, .h], [], [.sl [.f .f32], .i .i64]⟩
def R_wheldFloat32S : List XShp := [(.ret, ⟨[.h], [], [.i .i64]⟩)]

noncomputable def L_wheldFloat32S : Loops := (⟨22, lvT [(2, [0, 1, 4, 5])], mdT [(2, .normal, [], [4]), (2, .exit 0, [], [0, 4, 5]), (2, .ret, [], [0, 1, 5])], fun k vs bs => bif Nat.beq k 2 then toldL S_wheldFloat32S_l2 X_wheldFloat32S_l2 (fun x => wheldFloat32S_l2 x.1 x.2.1 x.2.2) vs bs else .bad⟩ : Loops)

theorem wheldFloat32S_e (x : DR A_wheldFloat32S.hs) : (evFn (envT Try.prog C121 M123) L_wheldFloat32S Try.f43 (A_wheldFloat32S.enc x).1).to (fun q => decX R_wheldFloat32S .ret [q.1] q.2) = wheldFloat32S_t x.1 x.2 := by kernel_rfl

theorem wheldFloat32S_m (x : DR A_wheldFloat32S.hs) : meanF (envT Try.prog C121 M123) L_wheldFloat32S Try.f43 A_wheldFloat32S R_wheldFloat32S x = (show Option (SumD (R_wheldFloat32S.map (·.2))) from wheldFloat32S x.1 x.2) := meanF_of (wheldFloat32S_e x)

theorem wheldFloat32S_ok : SpecOk Try.prog 43 (evFn (envT Try.prog C121 M123) L_wheldFloat32S Try.f43) := fnL_ok (envT_ok (C121_ok) (M123_ok)) mixedO Try.func43 (by kernel_rfl) (c := bodyOf Try.f43) (by kernel_rfl) (loopsL (l := [(2, loopC (bodyOf Try.f43) 2)]) (by kernel_rfl) (lk_cons (wheldFloat32S_l2_k _ rfl rfl (fun _ _ => rfl)) lk_nil))

theorem wheldFloat32S_told : SpecOk Try.prog 43 (toldO A_wheldFloat32S R_wheldFloat32S (fun x => wheldFloat32S x.1 x.2) (C121 43)) := toldO_ok (by kernel_rfl) wheldFloat32S_ok (rest_ok (C121_ok) _) wheldFloat32S_m

noncomputable def C124 : Tab := tab 43 (toldO A_wheldFloat32S R_wheldFloat32S (fun x => wheldFloat32S x.1 x.2) (C121 43)) C121
theorem C124_ok : TabOk Try.prog C124 := tab_ok (wheldFloat32S_told) (C121_ok)

def A_wFnExactBackWater : Shp := ⟨[.agg [.h, .h, .h, .h], .h, .h, .h, .h], [], [.f .f32, .f .f32, .f .f32, .f .f32, .f .f32, .f .f32, .f .f32, .i .i64]⟩
def R_wFnExactBackWater : List XShp := [(.ret, ⟨[.h], [], [.b]⟩)]

theorem wFnExactBackWater_e (x : DR A_wFnExactBackWater.hs) : (evFn (envT Try.prog C124 M123) noLoops Try.f14 (A_wFnExactBackWater.enc x).1).to (fun q => decX R_wFnExactBackWater .ret [q.1] q.2) = wFnExactBackWater_t x.1 x.2.1 x.2.2.1 x.2.2.2.1 x.2.2.2.2.1 x.2.2.2.2.2.1 x.2.2.2.2.2.2.1 x.2.2.2.2.2.2.2 := by kernel_rfl

theorem wFnExactBackWater_m (x : DR A_wFnExactBackWater.hs) : meanF (envT Try.prog C124 M123) noLoops Try.f14 A_wFnExactBackWater R_wFnExactBackWater x = (show Option (SumD (R_wFnExactBackWater.map (·.2))) from wFnExactBackWater x.1 x.2.1 x.2.2.1 x.2.2.2.1 x.2.2.2.2.1 x.2.2.2.2.2.1 x.2.2.2.2.2.2.1 x.2.2.2.2.2.2.2) := meanF_of (wFnExactBackWater_e x)

theorem wFnExactBackWater_ok : SpecOk Try.prog 14 (evFn (envT Try.prog C124 M123) noLoops Try.f14) := fnL_ok (envT_ok (C124_ok) (M123_ok)) mixedO Try.func14 (by kernel_rfl) (c := bodyOf Try.f14) (by kernel_rfl) (loopFree_ok (by kernel_rfl))

theorem wFnExactBackWater_told : SpecOk Try.prog 14 (toldO A_wFnExactBackWater R_wFnExactBackWater (fun x => wFnExactBackWater x.1 x.2.1 x.2.2.1 x.2.2.2.1 x.2.2.2.2.1 x.2.2.2.2.2.1 x.2.2.2.2.2.2.1 x.2.2.2.2.2.2.2) (C124 14)) := toldO_ok (by kernel_rfl) wFnExactBackWater_ok (rest_ok (C124_ok) _) wFnExactBackWater_m

noncomputable def C125 : Tab := tab 14 (toldO A_wFnExactBackWater R_wFnExactBackWater (fun x => wFnExactBackWater x.1 x.2.1 x.2.2.1 x.2.2.2.1 x.2.2.2.2.1 x.2.2.2.2.2.1 x.2.2.2.2.2.2.1 x.2.2.2.2.2.2.2) (C124 14)) C124
theorem C125_ok : TabOk Try.prog C125 := tab_ok (wFnExactBackWater_told) (C124_ok)

theorem lawFnExactBackWater_ok : SpecOk Try.prog 14 (evFn (envT Try.prog C124 M123) noLoops Try.f14) := wFnExactBackWater_ok
theorem lawFnExactBackWater_says (x : DR A_wFnExactBackWater.hs) (h : (show Option (SumD (R_wFnExactBackWater.map (·.2))) from wFnExactBackWater x.1 x.2.1 x.2.2.1 x.2.2.2.1 x.2.2.2.2.1 x.2.2.2.2.2.1 x.2.2.2.2.2.2.1 x.2.2.2.2.2.2.2) = some true) : saysTrue (evFn (envT Try.prog C124 M123) noLoops Try.f14 (A_wFnExactBackWater.enc x).1) = true := law_says (x := x) ((wFnExactBackWater_m x).trans h)

theorem lawFnExactBackWater_true (x0 : Nat) (x1 : Nat) (x2 : Nat) (x3 : Nat) (x4 : Nat) (x5 : Nat) (x6 : Nat) (x7 : Int) (h : wFnExactBackWater x0 x1 x2 x3 x4 x5 x6 x7 = some true) : saysTrue (evFn (envT Try.prog C124 M123) noLoops Try.f14 [.agg [.f .f32 x0, .f .f32 x1, .f .f32 x2, .f .f32 x3], .f .f32 x4, .f .f32 x5, .f .f32 x6, .i .i64 x7]) = true := (congrArg (fun l => saysTrue (evFn (envT Try.prog C124 M123) noLoops Try.f14 l)) (by kernel_rfl : ([.agg [.f .f32 x0, .f .f32 x1, .f .f32 x2, .f .f32 x3], .f .f32 x4, .f .f32 x5, .f .f32 x6, .i .i64 x7] : List V) = (A_wFnExactBackWater.enc (x0, x1, x2, x3, x4, x5, x6, x7)).1)).trans (lawFnExactBackWater_says (x0, x1, x2, x3, x4, x5, x6, x7) h)
end Go.Proofs.Ytlhfpjpgglfcfaa
