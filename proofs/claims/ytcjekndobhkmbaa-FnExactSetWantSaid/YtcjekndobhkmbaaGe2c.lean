/- Functions, as plain functions. What the program comes to. -/
import Derived.Test.YtcjekndobhkmbaaGe2d
import Derived.Test.YtcjekndobhkmbaaGe1c
import Derived.KernelRfl
set_option linter.unusedVariables false
set_option linter.unusedSimpArgs false
set_option linter.constructorNameAsVariable false
namespace Go.Proofs.Ytcjekndobhkmbaa
open Go.RowKit
set_option maxRecDepth 100000
def A_sSetWant : Shp := ⟨[.agg [.h, .h, .h], .h, .h], [], [.sl [.i .i64], .sl [.i .i64, .i .i64, .i .i64, .i .i64], .sl [.i .i64], .i .i64, .i .i64]⟩
def R_sSetWant : List XShp := [(.ret, ⟨[.tup [.agg [.h, .h, .h], .h]], [], [.sl [.i .i64], .sl [.i .i64, .i .i64, .i .i64, .i .i64], .sl [.i .i64], .b]⟩)]

theorem sSetWant_e (x : DR A_sSetWant.hs) : (evFn (envT Try.prog C45 M43) noLoops Try.f18 (A_sSetWant.enc x).1).to (fun q => decX R_sSetWant .ret [q.1] q.2) = sSetWant_t x.1 x.2.1 x.2.2.1 x.2.2.2.1 x.2.2.2.2 := by kernel_rfl

theorem sSetWant_m (x : DR A_sSetWant.hs) : meanF (envT Try.prog C45 M43) noLoops Try.f18 A_sSetWant R_sSetWant x = (show Option (SumD (R_sSetWant.map (·.2))) from sSetWant x.1 x.2.1 x.2.2.1 x.2.2.2.1 x.2.2.2.2) := meanF_of (sSetWant_e x)

theorem sSetWant_ok : SpecOk Try.prog 18 (evFn (envT Try.prog C45 M43) noLoops Try.f18) := fnL_ok (envT_ok (C45_ok) (M43_ok)) mixedO Try.func18 (by kernel_rfl) (c := bodyOf Try.f18) (by kernel_rfl) (loopFree_ok (by kernel_rfl))

theorem sSetWant_told : SpecOk Try.prog 18 (toldO A_sSetWant R_sSetWant (fun x => sSetWant x.1 x.2.1 x.2.2.1 x.2.2.2.1 x.2.2.2.2) (C45 18)) := toldO_ok (by kernel_rfl) sSetWant_ok (rest_ok (C45_ok) _) sSetWant_m

noncomputable def C46 : Tab := tab 18 (toldO A_sSetWant R_sSetWant (fun x => sSetWant x.1 x.2.1 x.2.2.1 x.2.2.2.1 x.2.2.2.2) (C45 18)) C45
theorem C46_ok : TabOk Try.prog C46 := tab_ok (sSetWant_told) (C45_ok)

def A_iSetWant : Shp := ⟨[.agg [.h, .h, .h], .h, .h], [], [.sl [.i .i64], .sl [.i .i64, .i .i64, .i .i64, .i .i64], .sl [.i .i64], .i .i64, .i .i64]⟩
def R_iSetWant : List XShp := [(.ret, ⟨[.tup [.agg [.nils, .nils, .nils], .lb false]], [], []⟩), (.ret, ⟨[.tup [.agg [.slw 0 1, .slw 1 4, .slw 2 1], .lb true]], [.arr [.i .i64] false, .arr [.i .i64, .i .i64, .i .i64, .i .i64] false, .arr [.i .i64] false], [.sl [.i .i64], .sl [.i .i64, .i .i64, .i .i64, .i .i64], .sl [.i .i64]]⟩)]

theorem iSetWant_e (x : DR A_iSetWant.hs) : (evFn (envT Try.prog C46 M43) noLoops Try.f19 (A_iSetWant.enc x).1).to (fun q => decX R_iSetWant .ret [q.1] q.2) = iSetWant_t x.1 x.2.1 x.2.2.1 x.2.2.2.1 x.2.2.2.2 := by kernel_rfl

theorem iSetWant_m (x : DR A_iSetWant.hs) : meanF (envT Try.prog C46 M43) noLoops Try.f19 A_iSetWant R_iSetWant x = (show Option (SumD (R_iSetWant.map (·.2))) from iSetWant x.1 x.2.1 x.2.2.1 x.2.2.2.1 x.2.2.2.2) := meanF_of (iSetWant_e x)

theorem iSetWant_ok : SpecOk Try.prog 19 (evFn (envT Try.prog C46 M43) noLoops Try.f19) := fnL_ok (envT_ok (C46_ok) (M43_ok)) mixedO Try.func19 (by kernel_rfl) (c := bodyOf Try.f19) (by kernel_rfl) (loopFree_ok (by kernel_rfl))

theorem iSetWant_told : SpecOk Try.prog 19 (toldO A_iSetWant R_iSetWant (fun x => iSetWant x.1 x.2.1 x.2.2.1 x.2.2.2.1 x.2.2.2.2) (C46 19)) := toldO_ok (by kernel_rfl) iSetWant_ok (rest_ok (C46_ok) _) iSetWant_m

noncomputable def C47 : Tab := tab 19 (toldO A_iSetWant R_iSetWant (fun x => iSetWant x.1 x.2.1 x.2.2.1 x.2.2.2.1 x.2.2.2.2) (C46 19)) C46
theorem C47_ok : TabOk Try.prog C47 := tab_ok (iSetWant_told) (C46_ok)

def A_wFnExactSetWant : Shp := ⟨[.agg [.h, .h, .h], .h, .h], [], [.sl [.i .i64], .sl [.i .i64, .i .i64, .i .i64, .i .i64], .sl [.i .i64], .i .i64, .i .i64]⟩
def R_wFnExactSetWant : List XShp := [(.ret, ⟨[.h], [], [.b]⟩)]

theorem wFnExactSetWant_e (x : DR A_wFnExactSetWant.hs) : (evFn (envT Try.prog C47 M43) noLoops Try.f5 (A_wFnExactSetWant.enc x).1).to (fun q => decX R_wFnExactSetWant .ret [q.1] q.2) = wFnExactSetWant_t x.1 x.2.1 x.2.2.1 x.2.2.2.1 x.2.2.2.2 := by kernel_rfl

theorem wFnExactSetWant_m (x : DR A_wFnExactSetWant.hs) : meanF (envT Try.prog C47 M43) noLoops Try.f5 A_wFnExactSetWant R_wFnExactSetWant x = (show Option (SumD (R_wFnExactSetWant.map (·.2))) from wFnExactSetWant x.1 x.2.1 x.2.2.1 x.2.2.2.1 x.2.2.2.2) := meanF_of (wFnExactSetWant_e x)

theorem wFnExactSetWant_ok : SpecOk Try.prog 5 (evFn (envT Try.prog C47 M43) noLoops Try.f5) := fnL_ok (envT_ok (C47_ok) (M43_ok)) mixedO Try.func5 (by kernel_rfl) (c := bodyOf Try.f5) (by kernel_rfl) (loopFree_ok (by kernel_rfl))

theorem wFnExactSetWant_told : SpecOk Try.prog 5 (toldO A_wFnExactSetWant R_wFnExactSetWant (fun x => wFnExactSetWant x.1 x.2.1 x.2.2.1 x.2.2.2.1 x.2.2.2.2) (C47 5)) := toldO_ok (by kernel_rfl) wFnExactSetWant_ok (rest_ok (C47_ok) _) wFnExactSetWant_m

noncomputable def C48 : Tab := tab 5 (toldO A_wFnExactSetWant R_wFnExactSetWant (fun x => wFnExactSetWant x.1 x.2.1 x.2.2.1 x.2.2.2.1 x.2.2.2.2) (C47 5)) C47
theorem C48_ok : TabOk Try.prog C48 := tab_ok (wFnExactSetWant_told) (C47_ok)

theorem lawFnExactSetWant_ok : SpecOk Try.prog 5 (evFn (envT Try.prog C47 M43) noLoops Try.f5) := wFnExactSetWant_ok
theorem lawFnExactSetWant_says (x : DR A_wFnExactSetWant.hs) (h : (show Option (SumD (R_wFnExactSetWant.map (·.2))) from wFnExactSetWant x.1 x.2.1 x.2.2.1 x.2.2.2.1 x.2.2.2.2) = some true) : saysTrue (evFn (envT Try.prog C47 M43) noLoops Try.f5 (A_wFnExactSetWant.enc x).1) = true := law_says (x := x) ((wFnExactSetWant_m x).trans h)

theorem lawFnExactSetWant_true (x0 : List Int) (x1 : List (Int × Int × Int × Int)) (x2 : List Int) (x3 : Int) (x4 : Int) (h : wFnExactSetWant x0 x1 x2 x3 x4 = some true) : saysTrue (evFn (envT Try.prog C47 M43) noLoops Try.f5 [.agg [.ds [.i .i64] x0, .ds [.i .i64, .i .i64, .i .i64, .i .i64] x1, .ds [.i .i64] x2], .i .i64 x3, .i .i64 x4]) = true := (congrArg (fun l => saysTrue (evFn (envT Try.prog C47 M43) noLoops Try.f5 l)) (by kernel_rfl : ([.agg [.ds [.i .i64] x0, .ds [.i .i64, .i .i64, .i .i64, .i .i64] x1, .ds [.i .i64] x2], .i .i64 x3, .i .i64 x4] : List V) = (A_wFnExactSetWant.enc (x0, x1, x2, x3, x4)).1)).trans (lawFnExactSetWant_says (x0, x1, x2, x3, x4) h)

def A_wr8Long : Shp := ⟨[.h, .h], [], [.sl [.i .u8], .sl [.i .u8]]⟩
def R_wr8Long : List XShp := [(.ret, ⟨[.h], [], [.b]⟩)]

theorem wr8Long_e (x : DR A_wr8Long.hs) : (evFn (envT Try.prog C48 M43) noLoops Try.f20 (A_wr8Long.enc x).1).to (fun q => decX R_wr8Long .ret [q.1] q.2) = wr8Long_t x.1 x.2 := by kernel_rfl

theorem wr8Long_m (x : DR A_wr8Long.hs) : meanF (envT Try.prog C48 M43) noLoops Try.f20 A_wr8Long R_wr8Long x = some (show SumD (R_wr8Long.map (·.2)) from wr8Long x.1 x.2) := @meanF_tot _ _ _ _ _ _ _ (wr8Long_e x) (show Inhabited (Bool) from inferInstance) (by kernel_rfl)

theorem wr8Long_ok : SpecOk Try.prog 20 (evFn (envT Try.prog C48 M43) noLoops Try.f20) := fnL_ok (envT_ok (C48_ok) (M43_ok)) mixedO Try.func20 (by kernel_rfl) (c := bodyOf Try.f20) (by kernel_rfl) (loopFree_ok (by kernel_rfl))

theorem wr8Long_told : SpecOk Try.prog 20 (toldT A_wr8Long R_wr8Long (fun x => wr8Long x.1 x.2) (C48 20)) := toldT_ok (by kernel_rfl) wr8Long_ok (rest_ok (C48_ok) _) wr8Long_m

noncomputable def C49 : Tab := tab 20 (toldT A_wr8Long R_wr8Long (fun x => wr8Long x.1 x.2) (C48 20)) C48
theorem C49_ok : TabOk Try.prog C49 := tab_ok (wr8Long_told) (C48_ok)

def A_sl00From : Shp := ⟨[.h], [], [.sl [.i .u8]]⟩
def R_sl00From : List XShp := [(.ret, ⟨[.ref 0 0], [.cells [.h, .h, .h] false], [.sl [.i .u8], .i .i64, .i .u64]⟩)]

theorem sl00From_e (x : DR A_sl00From.hs) : (evFn (envT Try.prog C49 M43) noLoops Try.f55 (A_sl00From.enc x).1).to (fun q => decX R_sl00From .ret [q.1] q.2) = sl00From_t x := by kernel_rfl

theorem sl00From_m (x : DR A_sl00From.hs) : meanF (envT Try.prog C49 M43) noLoops Try.f55 A_sl00From R_sl00From x = some (show SumD (R_sl00From.map (·.2)) from sl00From x) := @meanF_tot _ _ _ _ _ _ _ (sl00From_e x) (show Inhabited (List Int × Int × Int) from inferInstance) (by kernel_rfl)

theorem sl00From_ok : SpecOk Try.prog 55 (evFn (envT Try.prog C49 M43) noLoops Try.f55) := fnL_ok (envT_ok (C49_ok) (M43_ok)) mixedO Try.func55 (by kernel_rfl) (c := bodyOf Try.f55) (by kernel_rfl) (loopFree_ok (by kernel_rfl))

theorem sl00From_told : SpecOk Try.prog 55 (toldT A_sl00From R_sl00From (fun x => sl00From x) (C49 55)) := toldT_ok (by kernel_rfl) sl00From_ok (rest_ok (C49_ok) _) sl00From_m

noncomputable def C50 : Tab := tab 55 (toldT A_sl00From R_sl00From (fun x => sl00From x) (C49 55)) C49
theorem C50_ok : TabOk Try.prog C50 := tab_ok (sl00From_told) (C49_ok)
end Go.Proofs.Ytcjekndobhkmbaa
