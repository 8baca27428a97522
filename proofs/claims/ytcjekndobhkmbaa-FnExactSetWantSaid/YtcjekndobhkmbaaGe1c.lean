/- Functions, as plain functions. What the program comes to. -/
import Derived.Test.YtcjekndobhkmbaaGe1d
import Derived.Test.YtcjekndobhkmbaaDb
import Derived.Test.YtcjekndobhkmbaaNv
import Derived.KernelRfl
set_option linter.unusedVariables false
set_option linter.unusedSimpArgs false
set_option linter.constructorNameAsVariable false
namespace Go.Proofs.Ytcjekndobhkmbaa
open Go.RowKit
set_option maxRecDepth 100000
theorem mixedO : (Try.prog).follows .mixedOrders = true := by kernel_rfl
def A_wszInt64S : Shp := ⟨[.h, .h], [], [.sl [.i .i64], .i .i64]⟩
def R_wszInt64S : List XShp := [(.ret, ⟨[.h], [], [.i .i64]⟩)]

theorem wszInt64S_e (x : DR A_wszInt64S.hs) : (evFn (envT Try.prog tab0 mtab0) noLoops Try.f36 (A_wszInt64S.enc x).1).to (fun q => decX R_wszInt64S .ret [q.1] q.2) = wszInt64S_t x.1 x.2 := by kernel_rfl

theorem wszInt64S_m (x : DR A_wszInt64S.hs) : meanF (envT Try.prog tab0 mtab0) noLoops Try.f36 A_wszInt64S R_wszInt64S x = some (show SumD (R_wszInt64S.map (·.2)) from wszInt64S x.1 x.2) := @meanF_tot _ _ _ _ _ _ _ (wszInt64S_e x) (show Inhabited (Int) from inferInstance) (by kernel_rfl)

theorem wszInt64S_ok : SpecOk Try.prog 36 (evFn (envT Try.prog tab0 mtab0) noLoops Try.f36) := fnL_ok (envT_ok (tab0_ok _) (mtab0_ok _)) mixedO Try.func36 (by kernel_rfl) (c := bodyOf Try.f36) (by kernel_rfl) (loopFree_ok (by kernel_rfl))

theorem wszInt64S_told : SpecOk Try.prog 36 (toldT A_wszInt64S R_wszInt64S (fun x => wszInt64S x.1 x.2) (tab0 36)) := toldT_ok (by kernel_rfl) wszInt64S_ok (rest_ok (tab0_ok _) _) wszInt64S_m

noncomputable def C0 : Tab := tab 36 (toldT A_wszInt64S R_wszInt64S (fun x => wszInt64S x.1 x.2) (tab0 36)) tab0
theorem C0_ok : TabOk Try.prog C0 := tab_ok (wszInt64S_told) (tab0_ok _)

def A_wszDamS : Shp := ⟨[.h, .h], [], [.sl [.i .i64, .i .i64, .i .i64, .i .i64], .i .i64]⟩
def R_wszDamS : List XShp := [(.ret, ⟨[.h], [], [.i .i64]⟩)]

theorem wszDamS_e (x : DR A_wszDamS.hs) : (evFn (envT Try.prog C0 mtab0) noLoops Try.f37 (A_wszDamS.enc x).1).to (fun q => decX R_wszDamS .ret [q.1] q.2) = wszDamS_t x.1 x.2 := by kernel_rfl

theorem wszDamS_m (x : DR A_wszDamS.hs) : meanF (envT Try.prog C0 mtab0) noLoops Try.f37 A_wszDamS R_wszDamS x = some (show SumD (R_wszDamS.map (·.2)) from wszDamS x.1 x.2) := @meanF_tot _ _ _ _ _ _ _ (wszDamS_e x) (show Inhabited (Int) from inferInstance) (by kernel_rfl)

theorem wszDamS_ok : SpecOk Try.prog 37 (evFn (envT Try.prog C0 mtab0) noLoops Try.f37) := fnL_ok (envT_ok (C0_ok) (mtab0_ok _)) mixedO Try.func37 (by kernel_rfl) (c := bodyOf Try.f37) (by kernel_rfl) (loopFree_ok (by kernel_rfl))

theorem wszDamS_told : SpecOk Try.prog 37 (toldT A_wszDamS R_wszDamS (fun x => wszDamS x.1 x.2) (C0 37)) := toldT_ok (by kernel_rfl) wszDamS_ok (rest_ok (C0_ok) _) wszDamS_m

noncomputable def C1 : Tab := tab 37 (toldT A_wszDamS R_wszDamS (fun x => wszDamS x.1 x.2) (C0 37)) C0
theorem C1_ok : TabOk Try.prog C1 := tab_ok (wszDamS_told) (C0_ok)

def A_wszRiver : Shp := ⟨[.agg [.h, .h, .h], .h], [], [.sl [.i .i64], .sl [.i .i64, .i .i64, .i .i64, .i .i64], .sl [.i .i64], .i .i64]⟩
def R_wszRiver : List XShp := [(.ret, ⟨[.h], [], [.i .i64]⟩)]

theorem wszRiver_e (x : DR A_wszRiver.hs) : (evFn (envT Try.prog C1 mtab0) noLoops Try.f8 (A_wszRiver.enc x).1).to (fun q => decX R_wszRiver .ret [q.1] q.2) = wszRiver_t x.1 x.2.1 x.2.2.1 x.2.2.2 := by kernel_rfl

theorem wszRiver_m (x : DR A_wszRiver.hs) : meanF (envT Try.prog C1 mtab0) noLoops Try.f8 A_wszRiver R_wszRiver x = some (show SumD (R_wszRiver.map (·.2)) from wszRiver x.1 x.2.1 x.2.2.1 x.2.2.2) := @meanF_tot _ _ _ _ _ _ _ (wszRiver_e x) (show Inhabited (Int) from inferInstance) (by kernel_rfl)

theorem wszRiver_ok : SpecOk Try.prog 8 (evFn (envT Try.prog C1 mtab0) noLoops Try.f8) := fnL_ok (envT_ok (C1_ok) (mtab0_ok _)) mixedO Try.func8 (by kernel_rfl) (c := bodyOf Try.f8) (by kernel_rfl) (loopFree_ok (by kernel_rfl))

theorem wszRiver_told : SpecOk Try.prog 8 (toldT A_wszRiver R_wszRiver (fun x => wszRiver x.1 x.2.1 x.2.2.1 x.2.2.2) (C1 8)) := toldT_ok (by kernel_rfl) wszRiver_ok (rest_ok (C1_ok) _) wszRiver_m

noncomputable def C2 : Tab := tab 8 (toldT A_wszRiver R_wszRiver (fun x => wszRiver x.1 x.2.1 x.2.2.1 x.2.2.2) (C1 8)) C1
theorem C2_ok : TabOk Try.prog C2 := tab_ok (wszRiver_told) (C1_ok)

def S_wtoInt64S_l3 : Shp := ⟨[.h, .slw 0 1, .h], [.arr [.i .i64] false], [.sl [.i .i64], .i .i64, .sl [.i .i64]]⟩
def X_wtoInt64S_l3 : List XShp := [(.exit 0, ⟨[.undef, .slw 0 1, .undef], [.arr [.i .i64] false], [.sl [.i .i64]]⟩)]

noncomputable def L_wtoInt64S_l3 : Loops := (⟨22, lvT [(3, [0, 3, 4])], mdT [(3, .exit 0, [], [0, 4])], fun k vs bs => .bad⟩ : Loops)

theorem wtoInt64S_l3_e (y0 : List Int) (s : Int × List Int) : (loopStep (envT Try.prog C2 mtab0) L_wtoInt64S_l3 3 (loopC (bodyOf Try.f41) 3) (S_wtoInt64S_l3.enc (y0, s.1, s.2)).1 (S_wtoInt64S_l3.enc (y0, s.1, s.2)).2).to (stepD S_wtoInt64S_l3 X_wtoInt64S_l3) = (wtoInt64S_l3_t y0 s.1 s.2).map (Sum.map (fun s : Int × List Int => (show DR S_wtoInt64S_l3.hs from (y0, s.1, s.2))) id) := by kernel_rfl

theorem wtoInt64S_l3_r (x : DR S_wtoInt64S_l3.hs) : (wtoInt64S_l3 x.1 x.2.1 x.2.2 : Option (SumD (X_wtoInt64S_l3.map (·.2)))) = runL (meanS (envT Try.prog C2 mtab0) L_wtoInt64S_l3 3 (loopC (bodyOf Try.f41) 3) S_wtoInt64S_l3 X_wtoInt64S_l3) x := run_of (fun s : Int × List Int => (show DR S_wtoInt64S_l3.hs from (x.1, s.1, s.2))) (wtoInt64S_l3_e (x.1)) (x.2.1, x.2.2)

theorem wtoInt64S_l3_k (L : Loops) (hn : L_wtoInt64S_l3.n = L.n) (hlv : L_wtoInt64S_l3.lv 3 = L.lv 3) (hL : ∀ vs bs, L.loop 3 vs bs = toldL S_wtoInt64S_l3 X_wtoInt64S_l3 (fun x => wtoInt64S_l3 x.1 x.2.1 x.2.2) vs bs) : LOk Try.prog (envT Try.prog C2 mtab0) L 3 (loopC (bodyOf Try.f41) 3) := toldL_ok (L1 := L_wtoInt64S_l3) (envT_ok (C2_ok) (mtab0_ok _)) mixedO hn hlv (loopFree_ok (by kernel_rfl)) wtoInt64S_l3_r hL

def A_wtoInt64S : Shp := ⟨[.h], [], [.sl [.i .i64]]⟩
def R_wtoInt64S : List XShp := [(.ret, ⟨[.slw 0 1], [.arr [.i .i64] false], [.sl [.i .i64]]⟩)]

noncomputable def L_wtoInt64S : Loops := (⟨22, lvT [(3, [0, 3, 4])], mdT [(3, .exit 0, [], [0, 4])], fun k vs bs => bif Nat.beq k 3 then toldL S_wtoInt64S_l3 X_wtoInt64S_l3 (fun x => wtoInt64S_l3 x.1 x.2.1 x.2.2) vs bs else .bad⟩ : Loops)

theorem wtoInt64S_e (x : DR A_wtoInt64S.hs) : (evFn (envT Try.prog C2 mtab0) L_wtoInt64S Try.f41 (A_wtoInt64S.enc x).1).to (fun q => decX R_wtoInt64S .ret [q.1] q.2) = wtoInt64S_t x := by kernel_rfl

theorem wtoInt64S_m (x : DR A_wtoInt64S.hs) : meanF (envT Try.prog C2 mtab0) L_wtoInt64S Try.f41 A_wtoInt64S R_wtoInt64S x = (show Option (SumD (R_wtoInt64S.map (·.2))) from wtoInt64S x) := meanF_of (wtoInt64S_e x)

theorem wtoInt64S_ok : SpecOk Try.prog 41 (evFn (envT Try.prog C2 mtab0) L_wtoInt64S Try.f41) := fnL_ok (envT_ok (C2_ok) (mtab0_ok _)) mixedO Try.func41 (by kernel_rfl) (c := bodyOf Try.f41) (by kernel_rfl) (loopsL (l := [(3, loopC (bodyOf Try.f41) 3)]) (by kernel_rfl) (lk_cons (wtoInt64S_l3_k _ rfl rfl (fun _ _ => rfl)) lk_nil))

theorem wtoInt64S_told : SpecOk Try.prog 41 (toldO A_wtoInt64S R_wtoInt64S (fun x => wtoInt64S x) (C2 41)) := toldO_ok (by kernel_rfl) wtoInt64S_ok (rest_ok (C2_ok) _) wtoInt64S_m

noncomputable def C3 : Tab := tab 41 (toldO A_wtoInt64S R_wtoInt64S (fun x => wtoInt64S x) (C2 41)) C2
theorem C3_ok : TabOk Try.prog C3 := tab_ok (wtoInt64S_told) (C2_ok)

def A_wtoDam : Shp := ⟨[.agg [.h, .h, .h, .h]], [], [.i .i64, .i .i64, .i .i64, .i .i64]⟩
def R_wtoDam : List XShp := [(.ret, ⟨[.agg [.h, .h, .h, .h]], [], [.i .i64, .i .i64, .i .i64, .i .i64]⟩)]

theorem wtoDam_e (x : DR A_wtoDam.hs) : (evFn (envT Try.prog C3 mtab0) noLoops Try.f16 (A_wtoDam.enc x).1).to (fun q => decX R_wtoDam .ret [q.1] q.2) = wtoDam_t x.1 x.2.1 x.2.2.1 x.2.2.2 := by kernel_rfl

theorem wtoDam_m (x : DR A_wtoDam.hs) : meanF (envT Try.prog C3 mtab0) noLoops Try.f16 A_wtoDam R_wtoDam x = some (show SumD (R_wtoDam.map (·.2)) from wtoDam x.1 x.2.1 x.2.2.1 x.2.2.2) := @meanF_tot _ _ _ _ _ _ _ (wtoDam_e x) (show Inhabited (Int × Int × Int × Int) from inferInstance) (by kernel_rfl)

theorem wtoDam_ok : SpecOk Try.prog 16 (evFn (envT Try.prog C3 mtab0) noLoops Try.f16) := fnL_ok (envT_ok (C3_ok) (mtab0_ok _)) mixedO Try.func16 (by kernel_rfl) (c := bodyOf Try.f16) (by kernel_rfl) (loopFree_ok (by kernel_rfl))

theorem wtoDam_told : SpecOk Try.prog 16 (toldT A_wtoDam R_wtoDam (fun x => wtoDam x.1 x.2.1 x.2.2.1 x.2.2.2) (C3 16)) := toldT_ok (by kernel_rfl) wtoDam_ok (rest_ok (C3_ok) _) wtoDam_m

noncomputable def C4 : Tab := tab 16 (toldT A_wtoDam R_wtoDam (fun x => wtoDam x.1 x.2.1 x.2.2.1 x.2.2.2) (C3 16)) C3
theorem C4_ok : TabOk Try.prog C4 := tab_ok (wtoDam_told) (C3_ok)

def S_wtoDamS_l3 : Shp := ⟨[.h, .slw 0 4, .h], [.arr [.i .i64, .i .i64, .i .i64, .i .i64] false], [.sl [.i .i64, .i .i64, .i .i64, .i .i64], .i .i64, .sl [.i .i64, .i .i64, .i .i64, .i .i64]]⟩
def X_wtoDamS_l3 : List XShp := [(.exit 0, ⟨[.undef, .slw 0 4, .undef], [.arr [.i .i64, .i .i64, .i .i64, .i .i64] false], [.sl [.i .i64, .i .i64, .i .i64, .i .i64]]⟩)]

noncomputable def L_wtoDamS_l3 : Loops := (⟨23, lvT [(3, [0, 3, 4])], mdT [(3, .exit 0, [], [0, 4])], fun k vs bs => .bad⟩ : Loops)

theorem wtoDamS_l3_e (y0 : List (Int × Int × Int × Int)) (s : Int × (List (Int × Int × Int × Int))) : (loopStep (envT Try.prog C4 mtab0) L_wtoDamS_l3 3 (loopC (bodyOf Try.f42) 3) (S_wtoDamS_l3.enc (y0, s.1, s.2)).1 (S_wtoDamS_l3.enc (y0, s.1, s.2)).2).to (stepD S_wtoDamS_l3 X_wtoDamS_l3) = (wtoDamS_l3_t y0 s.1 s.2).map (Sum.map (fun s : Int × (List (Int × Int × Int × Int)) => (show DR S_wtoDamS_l3.hs from (y0, s.1, s.2))) id) := by kernel_rfl

theorem wtoDamS_l3_r (x : DR S_wtoDamS_l3.hs) : (wtoDamS_l3 x.1 x.2.1 x.2.2 : Option (SumD (X_wtoDamS_l3.map (·.2)))) = runL (meanS (envT Try.prog C4 mtab0) L_wtoDamS_l3 3 (loopC (bodyOf Try.f42) 3) S_wtoDamS_l3 X_wtoDamS_l3) x := run_of (fun s : Int × (List (Int × Int × Int × Int)) => (show DR S_wtoDamS_l3.hs from (x.1, s.1, s.2))) (wtoDamS_l3_e (x.1)) (x.2.1, x.2.2)

theorem wtoDamS_l3_k (L : Loops) (hn : L_wtoDamS_l3.n = L.n) (hlv : L_wtoDamS_l3.lv 3 = L.lv 3) (hL : ∀ vs bs, L.loop 3 vs bs = toldL S_wtoDamS_l3 X_wtoDamS_l3 (fun x => wtoDamS_l3 x.1 x.2.1 x.2.2) vs bs) : LOk Try.prog (envT Try.prog C4 mtab0) L 3 (loopC (bodyOf Try.f42) 3) := toldL_ok (L1 := L_wtoDamS_l3) (envT_ok (C4_ok) (mtab0_ok _)) mixedO hn hlv (loopFree_ok (by kernel_rfl)) wtoDamS_l3_r hL

def A_wtoDamS : Shp := ⟨[.h], [], [.sl [.i .i64, .i .i64, .i .i64, .i .i64]]⟩
def R_wtoDamS : List XShp := [(.ret, ⟨[.slw 0 4], [.arr [.i .i64, .i .i64, .i .i64, .i .i64] false], [.sl [.i .i64, .i .i64, .i .i64, .i .i64]]⟩)]

noncomputable def L_wtoDamS : Loops := (⟨23, lvT [(3, [0, 3, 4])], mdT [(3, .exit 0, [], [0, 4])], fun k vs bs => bif Nat.beq k 3 then toldL S_wtoDamS_l3 X_wtoDamS_l3 (fun x => wtoDamS_l3 x.1 x.2.1 x.2.2) vs bs else .bad⟩ : Loops)

theorem wtoDamS_e (x : DR A_wtoDamS.hs) : (evFn (envT Try.prog C4 mtab0) L_wtoDamS Try.f42 (A_wtoDamS.enc x).1).to (fun q => decX R_wtoDamS .ret [q.1] q.2) = wtoDamS_t x := by kernel_rfl

theorem wtoDamS_m (x : DR A_wtoDamS.hs) : meanF (envT Try.prog C4 mtab0) L_wtoDamS Try.f42 A_wtoDamS R_wtoDamS x = (show Option (SumD (R_wtoDamS.map (·.2))) from wtoDamS x) := meanF_of (wtoDamS_e x)

theorem wtoDamS_ok : SpecOk Try.prog 42 (evFn (envT Try.prog C4 mtab0) L_wtoDamS Try.f42) := fnL_ok (envT_ok (C4_ok) (mtab0_ok _)) mixedO Try.func42 (by kernel_rfl) (c := bodyOf Try.f42) (by kernel_rfl) (loopsL (l := [(3, loopC (bodyOf Try.f42) 3)]) (by kernel_rfl) (lk_cons (wtoDamS_l3_k _ rfl rfl (fun _ _ => rfl)) lk_nil))

theorem wtoDamS_told : SpecOk Try.prog 42 (toldO A_wtoDamS R_wtoDamS (fun x => wtoDamS x) (C4 42)) := toldO_ok (by kernel_rfl) wtoDamS_ok (rest_ok (C4_ok) _) wtoDamS_m

noncomputable def C5 : Tab := tab 42 (toldO A_wtoDamS R_wtoDamS (fun x => wtoDamS x) (C4 42)) C4
theorem C5_ok : TabOk Try.prog C5 := tab_ok (wtoDamS_told) (C4_ok)

def A_wtoRiver : Shp := ⟨[.agg [.h, .h, .h]], [], [.sl [.i .i64], .sl [.i .i64, .i .i64, .i .i64, .i .i64], .sl [.i .i64]]⟩
def R_wtoRiver : List XShp := [(.ret, ⟨[.agg [.slw 0 1, .slw 1 4, .slw 2 1]], [.arr [.i .i64] false, .arr [.i .i64, .i .i64, .i .i64, .i .i64] false, .arr [.i .i64] false], [.sl [.i .i64], .sl [.i .i64, .i .i64, .i .i64, .i .i64], .sl [.i .i64]]⟩)]

theorem wtoRiver_e (x : DR A_wtoRiver.hs) : (evFn (envT Try.prog C5 mtab0) noLoops Try.f10 (A_wtoRiver.enc x).1).to (fun q => decX R_wtoRiver .ret [q.1] q.2) = wtoRiver_t x.1 x.2.1 x.2.2 := by kernel_rfl

theorem wtoRiver_m (x : DR A_wtoRiver.hs) : meanF (envT Try.prog C5 mtab0) noLoops Try.f10 A_wtoRiver R_wtoRiver x = (show Option (SumD (R_wtoRiver.map (·.2))) from wtoRiver x.1 x.2.1 x.2.2) := meanF_of (wtoRiver_e x)

theorem wtoRiver_ok : SpecOk Try.prog 10 (evFn (envT Try.prog C5 mtab0) noLoops Try.f10) := fnL_ok (envT_ok (C5_ok) (mtab0_ok _)) mixedO Try.func10 (by kernel_rfl) (c := bodyOf Try.f10) (by kernel_rfl) (loopFree_ok (by kernel_rfl))

theorem wtoRiver_told : SpecOk Try.prog 10 (toldO A_wtoRiver R_wtoRiver (fun x => wtoRiver x.1 x.2.1 x.2.2) (C5 10)) := toldO_ok (by kernel_rfl) wtoRiver_ok (rest_ok (C5_ok) _) wtoRiver_m

noncomputable def C6 : Tab := tab 10 (toldO A_wtoRiver R_wtoRiver (fun x => wtoRiver x.1 x.2.1 x.2.2) (C5 10)) C5
theorem C6_ok : TabOk Try.prog C6 := tab_ok (wtoRiver_told) (C5_ok)

def A_sl00In : Shp := ⟨[.h, .h, .h], [], [.i .i64, .i .i64, .i .i64]⟩
def R_sl00In : List XShp := [(.ret, ⟨[.h], [], [.b]⟩)]

theorem sl00In_e (x : DR A_sl00In.hs) : (evFn (envT Try.prog C6 mtab0) noLoops Try.f39 (A_sl00In.enc x).1).to (fun q => decX R_sl00In .ret [q.1] q.2) = sl00In_t x.1 x.2.1 x.2.2 := by kernel_rfl

theorem sl00In_m (x : DR A_sl00In.hs) : meanF (envT Try.prog C6 mtab0) noLoops Try.f39 A_sl00In R_sl00In x = some (show SumD (R_sl00In.map (·.2)) from sl00In x.1 x.2.1 x.2.2) := @meanF_tot _ _ _ _ _ _ _ (sl00In_e x) (show Inhabited (Bool) from inferInstance) (by kernel_rfl)

theorem sl00In_ok : SpecOk Try.prog 39 (evFn (envT Try.prog C6 mtab0) noLoops Try.f39) := fnL_ok (envT_ok (C6_ok) (mtab0_ok _)) mixedO Try.func39 (by kernel_rfl) (c := bodyOf Try.f39) (by kernel_rfl) (loopFree_ok (by kernel_rfl))

theorem sl00In_told : SpecOk Try.prog 39 (toldT A_sl00In R_sl00In (fun x => sl00In x.1 x.2.1 x.2.2) (C6 39)) := toldT_ok (by kernel_rfl) sl00In_ok (rest_ok (C6_ok) _) sl00In_m

noncomputable def C7 : Tab := tab 39 (toldT A_sl00In R_sl00In (fun x => sl00In x.1 x.2.1 x.2.2) (C6 39)) C6
theorem C7_ok : TabOk Try.prog C7 := tab_ok (sl00In_told) (C6_ok)

def A_sl06Unit : Shp := ⟨[.h], [], [.i .i64]⟩
def R_sl06Unit : List XShp := [(.ret, ⟨[.h], [], [.b]⟩)]

theorem sl06Unit_e (x : DR A_sl06Unit.hs) : (evFn (envT Try.prog C7 mtab0) noLoops Try.f71 (A_sl06Unit.enc x).1).to (fun q => decX R_sl06Unit .ret [q.1] q.2) = sl06Unit_t x := by kernel_rfl

theorem sl06Unit_m (x : DR A_sl06Unit.hs) : meanF (envT Try.prog C7 mtab0) noLoops Try.f71 A_sl06Unit R_sl06Unit x = some (show SumD (R_sl06Unit.map (·.2)) from sl06Unit x) := @meanF_tot _ _ _ _ _ _ _ (sl06Unit_e x) (show Inhabited (Bool) from inferInstance) (by kernel_rfl)

theorem sl06Unit_ok : SpecOk Try.prog 71 (evFn (envT Try.prog C7 mtab0) noLoops Try.f71) := fnL_ok (envT_ok (C7_ok) (mtab0_ok _)) mixedO Try.func71 (by kernel_rfl) (c := bodyOf Try.f71) (by kernel_rfl) (loopFree_ok (by kernel_rfl))

theorem sl06Unit_told : SpecOk Try.prog 71 (toldT A_sl06Unit R_sl06Unit (fun x => sl06Unit x) (C7 71)) := toldT_ok (by kernel_rfl) sl06Unit_ok (rest_ok (C7_ok) _) sl06Unit_m

noncomputable def C8 : Tab := tab 71 (toldT A_sl06Unit R_sl06Unit (fun x => sl06Unit x) (C7 71)) C7
theorem C8_ok : TabOk Try.prog C8 := tab_ok (sl06Unit_told) (C7_ok)

def A_sl06Dam : Shp := ⟨[.dpt [.h, .h, .h, .h] 0], [], [.i .i64, .i .i64, .i .i64, .i .i64]⟩
def R_sl06Dam : List XShp := [(.ret, ⟨[.h], [], [.b]⟩)]

theorem sl06Dam_e (x : DR A_sl06Dam.hs) : (evFn (envT Try.prog C8 mtab0) noLoops Try.f70 (A_sl06Dam.enc x).1).to (fun q => decX R_sl06Dam .ret [q.1] q.2) = sl06Dam_t x.1 x.2.1 x.2.2.1 x.2.2.2 := by kernel_rfl

theorem sl06Dam_m (x : DR A_sl06Dam.hs) : meanF (envT Try.prog C8 mtab0) noLoops Try.f70 A_sl06Dam R_sl06Dam x = some (show SumD (R_sl06Dam.map (·.2)) from sl06Dam x.1 x.2.1 x.2.2.1 x.2.2.2) := @meanF_tot _ _ _ _ _ _ _ (sl06Dam_e x) (show Inhabited (Bool) from inferInstance) (by kernel_rfl)

theorem sl06Dam_ok : SpecOk Try.prog 70 (evFn (envT Try.prog C8 mtab0) noLoops Try.f70) := fnL_ok (envT_ok (C8_ok) (mtab0_ok _)) mixedO Try.func70 (by kernel_rfl) (c := bodyOf Try.f70) (by kernel_rfl) (loopFree_ok (by kernel_rfl))

theorem sl06Dam_told : SpecOk Try.prog 70 (toldT A_sl06Dam R_sl06Dam (fun x => sl06Dam x.1 x.2.1 x.2.2.1 x.2.2.2) (C8 70)) := toldT_ok (by kernel_rfl) sl06Dam_ok (rest_ok (C8_ok) _) sl06Dam_m

noncomputable def C9 : Tab := tab 70 (toldT A_sl06Dam R_sl06Dam (fun x => sl06Dam x.1 x.2.1 x.2.2.1 x.2.2.2) (C8 70)) C8
theorem C9_ok : TabOk Try.prog C9 := tab_ok (sl06Dam_told) (C8_ok)

def S_sl06Is_l14 : Shp := ⟨[.dpt [.h, .h, .h] 0, .undef, .h, .h, .h, .h], [], [.sl [.i .i64], .sl [.i .i64, .i .i64, .i .i64, .i .i64], .sl [.i .i64], .i .i64, .i .i64, .i .i64, .i .i64]⟩
def X_sl06Is_l14 : List XShp := [(.ret, ⟨[.undef, .lb false, .undef, .undef, .undef, .undef], [], []⟩), (.exit 4, ⟨[.dpt [.h, .h, .h] 0, .undef, .h, .h, .undef, .undef], [], [.sl [.i .i64], .sl [.i .i64, .i .i64, .i .i64, .i .i64], .sl [.i .i64], .i .i64, .i .i64]⟩)]

noncomputable def L_sl06Is_l14 : Loops := (⟨102, lvT [(14, [0, 2, 3, 5, 6, 7]), (10, [0, 2, 3, 5]), (5, [0, 2, 3, 4])], mdT [(14, .normal, [], [2]), (14, .exit 4, [], [2, 6, 7]), (14, .ret, [], [0, 3, 5, 6, 7]), (10, .normal, [], [2]), (10, .exit 2, [], [0, 2, 3, 5]), (10, .ret, [], [0, 3, 5]), (5, .normal, [], [2]), (5, .exit 0, [], [2, 4]), (5, .ret, [], [0, 3, 4])], fun k vs bs => .bad⟩ : Loops)

theorem sl06Is_l14_e (y0 : List Int) (y1 : List (Int × Int × Int × Int)) (y2 : List Int) (y3 : Int) (y4 : Int) (s : Int × Int) : (loopStep (envT Try.prog C9 mtab0) L_sl06Is_l14 14 (loopC (loopC (bodyOf Try.f38) 10) 14) (S_sl06Is_l14.enc (y0, y1, y2, y3, y4, s.1, s.2)).1 (S_sl06Is_l14.enc (y0, y1, y2, y3, y4, s.1, s.2)).2).to (stepD S_sl06Is_l14 X_sl06Is_l14) = (sl06Is_l14_t y0 y1 y2 y3 y4 s.1 s.2).map (Sum.map (fun s : Int × Int => (show DR S_sl06Is_l14.hs from (y0, y1, y2, y3, y4, s.1, s.2))) id) := by kernel_rfl

theorem sl06Is_l14_r (x : DR S_sl06Is_l14.hs) : (sl06Is_l14 x.1 x.2.1 x.2.2.1 x.2.2.2.1 x.2.2.2.2.1 x.2.2.2.2.2.1 x.2.2.2.2.2.2 : Option (SumD (X_sl06Is_l14.map (·.2)))) = runL (meanS (envT Try.prog C9 mtab0) L_sl06Is_l14 14 (loopC (loopC (bodyOf Try.f38) 10) 14) S_sl06Is_l14 X_sl06Is_l14) x := run_of (fun s : Int × Int => (show DR S_sl06Is_l14.hs from (x.1, x.2.1, x.2.2.1, x.2.2.2.1, x.2.2.2.2.1, s.1, s.2))) (sl06Is_l14_e (x.1) (x.2.1) (x.2.2.1) (x.2.2.2.1) (x.2.2.2.2.1)) (x.2.2.2.2.2.1, x.2.2.2.2.2.2)

theorem sl06Is_l14_k (L : Loops) (hn : L_sl06Is_l14.n = L.n) (hlv : L_sl06Is_l14.lv 14 = L.lv 14) (hL : ∀ vs bs, L.loop 14 vs bs = toldL S_sl06Is_l14 X_sl06Is_l14 (fun x => sl06Is_l14 x.1 x.2.1 x.2.2.1 x.2.2.2.1 x.2.2.2.2.1 x.2.2.2.2.2.1 x.2.2.2.2.2.2) vs bs) : LOk Try.prog (envT Try.prog C9 mtab0) L 14 (loopC (loopC (bodyOf Try.f38) 10) 14) := toldL_ok (L1 := L_sl06Is_l14) (envT_ok (C9_ok) (mtab0_ok _)) mixedO hn hlv (loopFree_ok (by kernel_rfl)) sl06Is_l14_r hL

def S_sl06Is_l5 : Shp := ⟨[.dpt [.h, .h, .h] 0, .undef, .h, .h], [], [.sl [.i .i64], .sl [.i .i64, .i .i64, .i .i64, .i .i64], .sl [.i .i64], .i .i64, .i .i64]⟩
def X_sl06Is_l5 : List XShp := [(.ret, ⟨[.undef, .lb false, .undef, .undef], [], []⟩), (.exit 0, ⟨[.dpt [.h, .h, .h] 0, .undef, .h, .undef], [], [.sl [.i .i64], .sl [.i .i64, .i .i64, .i .i64, .i .i64], .sl [.i .i64], .i .i64]⟩)]

noncomputable def L_sl06Is_l5 : Loops := (⟨102, lvT [(14, [0, 2, 3, 5, 6, 7]), (10, [0, 2, 3, 5]), (5, [0, 2, 3, 4])], mdT [(14, .normal, [], [2]), (14, .exit 4, [], [2, 6, 7]), (14, .ret, [], [0, 3, 5, 6, 7]), (10, .normal, [], [2]), (10, .exit 2, [], [0, 2, 3, 5]), (10, .ret, [], [0, 3, 5]), (5, .normal, [], [2]), (5, .exit 0, [], [2, 4]), (5, .ret, [], [0, 3, 4])], fun k vs bs => .bad⟩ : Loops)

theorem sl06Is_l5_e (y0 : List Int) (y1 : List (Int × Int × Int × Int)) (y2 : List Int) (y3 : Int) (s : Int) : (loopStep (envT Try.prog C9 mtab0) L_sl06Is_l5 5 (loopC (bodyOf Try.f38) 5) (S_sl06Is_l5.enc (y0, y1, y2, y3, s)).1 (S_sl06Is_l5.enc (y0, y1, y2, y3, s)).2).to (stepD S_sl06Is_l5 X_sl06Is_l5) = (sl06Is_l5_t y0 y1 y2 y3 s).map (Sum.map (fun s : Int => (show DR S_sl06Is_l5.hs from (y0, y1, y2, y3, s))) id) := by kernel_rfl

theorem sl06Is_l5_r (x : DR S_sl06Is_l5.hs) : (sl06Is_l5 x.1 x.2.1 x.2.2.1 x.2.2.2.1 x.2.2.2.2 : Option (SumD (X_sl06Is_l5.map (·.2)))) = runL (meanS (envT Try.prog C9 mtab0) L_sl06Is_l5 5 (loopC (bodyOf Try.f38) 5) S_sl06Is_l5 X_sl06Is_l5) x := run_of (fun s : Int => (show DR S_sl06Is_l5.hs from (x.1, x.2.1, x.2.2.1, x.2.2.2.1, s))) (sl06Is_l5_e (x.1) (x.2.1) (x.2.2.1) (x.2.2.2.1)) x.2.2.2.2

theorem sl06Is_l5_k (L : Loops) (hn : L_sl06Is_l5.n = L.n) (hlv : L_sl06Is_l5.lv 5 = L.lv 5) (hL : ∀ vs bs, L.loop 5 vs bs = toldL S_sl06Is_l5 X_sl06Is_l5 (fun x => sl06Is_l5 x.1 x.2.1 x.2.2.1 x.2.2.2.1 x.2.2.2.2) vs bs) : LOk Try.prog (envT Try.prog C9 mtab0) L 5 (loopC (bodyOf Try.f38) 5) := toldL_ok (L1 := L_sl06Is_l5) (envT_ok (C9_ok) (mtab0_ok _)) mixedO hn hlv (loopFree_ok (by kernel_rfl)) sl06Is_l5_r hL

def S_sl06Is_l10 : Shp := ⟨[.dpt [.h, .h, .h] 0, .undef, .h, .h], [], [.sl [.i .i64], .sl [.i .i64, .i .i64, .i .i64, .i .i64], .sl [.i .i64], .i .i64, .i .i64]⟩
def X_sl06Is_l10 : List XShp := [(.ret, ⟨[.undef, .lb false, .undef, .undef], [], []⟩), (.exit 2, ⟨[.undef, .undef, .undef, .undef], [], []⟩)]

noncomputable def L_sl06Is_l10 : Loops := (⟨102, lvT [(14, [0, 2, 3, 5, 6, 7]), (10, [0, 2, 3, 5]), (5, [0, 2, 3, 4])], mdT [(14, .normal, [], [2]), (14, .exit 4, [], [2, 6, 7]), (14, .ret, [], [0, 3, 5, 6, 7]), (10, .normal, [], [2]), (10, .exit 2, [], [0, 2, 3, 5]), (10, .ret, [], [0, 3, 5]), (5, .normal, [], [2]), (5, .exit 0, [], [2, 4]), (5, .ret, [], [0, 3, 4])], fun k vs bs => bif Nat.beq k 14 then toldL S_sl06Is_l14 X_sl06Is_l14 (fun x => sl06Is_l14 x.1 x.2.1 x.2.2.1 x.2.2.2.1 x.2.2.2.2.1 x.2.2.2.2.2.1 x.2.2.2.2.2.2) vs bs else .bad⟩ : Loops)

theorem sl06Is_l10_e (s : List Int × (List (Int × Int × Int × Int)) × List Int × Int × Int) : (loopStep (envT Try.prog C9 mtab0) L_sl06Is_l10 10 (loopC (bodyOf Try.f38) 10) (S_sl06Is_l10.enc (s.1, s.2.1, s.2.2.1, s.2.2.2.1, s.2.2.2.2)).1 (S_sl06Is_l10.enc (s.1, s.2.1, s.2.2.1, s.2.2.2.1, s.2.2.2.2)).2).to (stepD S_sl06Is_l10 X_sl06Is_l10) = (sl06Is_l10_t  s.1 s.2.1 s.2.2.1 s.2.2.2.1 s.2.2.2.2).map (Sum.map (fun s : List Int × (List (Int × Int × Int × Int)) × List Int × Int × Int => (show DR S_sl06Is_l10.hs from (s.1, s.2.1, s.2.2.1, s.2.2.2.1, s.2.2.2.2))) id) := by kernel_rfl

theorem sl06Is_l10_r (x : DR S_sl06Is_l10.hs) : (sl06Is_l10 x.1 x.2.1 x.2.2.1 x.2.2.2.1 x.2.2.2.2 : Option (SumD (X_sl06Is_l10.map (·.2)))) = runL (meanS (envT Try.prog C9 mtab0) L_sl06Is_l10 10 (loopC (bodyOf Try.f38) 10) S_sl06Is_l10 X_sl06Is_l10) x := run_of (fun s : List Int × (List (Int × Int × Int × Int)) × List Int × Int × Int => (show DR S_sl06Is_l10.hs from (s.1, s.2.1, s.2.2.1, s.2.2.2.1, s.2.2.2.2))) (sl06Is_l10_e ) (x.1, x.2.1, x.2.2.1, x.2.2.2.1, x.2.2.2.2)

theorem sl06Is_l10_k (L : Loops) (hn : L_sl06Is_l10.n = L.n) (hlv : L_sl06Is_l10.lv 10 = L.lv 10) (hL : ∀ vs bs, L.loop 10 vs bs = toldL S_sl06Is_l10 X_sl06Is_l10 (fun x => sl06Is_l10 x.1 x.2.1 x.2.2.1 x.2.2.2.1 x.2.2.2.2) vs bs) : LOk Try.prog (envT Try.prog C9 mtab0) L 10 (loopC (bodyOf Try.f38) 10) := toldL_ok (L1 := L_sl06Is_l10) (envT_ok (C9_ok) (mtab0_ok _)) mixedO hn hlv (loopsL (l := [(14, loopC (loopC (bodyOf Try.f38) 10) 14)]) (by kernel_rfl) (lk_cons (sl06Is_l14_k _ rfl rfl (fun _ _ => rfl)) lk_nil)) sl06Is_l10_r hL

def A_sl06Is : Shp := ⟨[.dpt [.h, .h, .h] 0], [], [.sl [.i .i64], .sl [.i .i64, .i .i64, .i .i64, .i .i64], .sl [.i .i64]]⟩
def R_sl06Is : List XShp := [(.ret, ⟨[.h], [], [.b]⟩)]

noncomputable def L_sl06Is : Loops := (⟨102, lvT [(14, [0, 2, 3, 5, 6, 7]), (10, [0, 2, 3, 5]), (5, [0, 2, 3, 4])], mdT [(14, .normal, [], [2]), (14, .exit 4, [], [2, 6, 7]), (14, .ret, [], [0, 3, 5, 6, 7]), (10, .normal, [], [2]), (10, .exit 2, [], [0, 2, 3, 5]), (10, .ret, [], [0, 3, 5]), (5, .normal, [], [2]), (5, .exit 0, [], [2, 4]), (5, .ret, [], [0, 3, 4])], fun k vs bs => bif Nat.beq k 10 then toldL S_sl06Is_l10 X_sl06Is_l10 (fun x => sl06Is_l10 x.1 x.2.1 x.2.2.1 x.2.2.2.1 x.2.2.2.2) vs bs else bif Nat.beq k 5 then toldL S_sl06Is_l5 X_sl06Is_l5 (fun x => sl06Is_l5 x.1 x.2.1 x.2.2.1 x.2.2.2.1 x.2.2.2.2) vs bs else .bad⟩ : Loops)

theorem sl06Is_e (x : DR A_sl06Is.hs) : (evFn (envT Try.prog C9 mtab0) L_sl06Is Try.f38 (A_sl06Is.enc x).1).to (fun q => decX R_sl06Is .ret [q.1] q.2) = sl06Is_t x.1 x.2.1 x.2.2 := by kernel_rfl

theorem sl06Is_m (x : DR A_sl06Is.hs) : meanF (envT Try.prog C9 mtab0) L_sl06Is Try.f38 A_sl06Is R_sl06Is x = (show Option (SumD (R_sl06Is.map (·.2))) from sl06Is x.1 x.2.1 x.2.2) := meanF_of (sl06Is_e x)

theorem sl06Is_ok : SpecOk Try.prog 38 (evFn (envT Try.prog C9 mtab0) L_sl06Is Try.f38) := fnL_ok (envT_ok (C9_ok) (mtab0_ok _)) mixedO Try.func38 (by kernel_rfl) (c := bodyOf Try.f38) (by kernel_rfl) (loopsL (l := [(5, loopC (bodyOf Try.f38) 5), (10, loopC (bodyOf Try.f38) 10)]) (by kernel_rfl) (lk_cons (sl06Is_l5_k _ rfl rfl (fun _ _ => rfl)) (lk_cons (sl06Is_l10_k _ rfl rfl (fun _ _ => rfl)) lk_nil)))

theorem sl06Is_told : SpecOk Try.prog 38 (toldO A_sl06Is R_sl06Is (fun x => sl06Is x.1 x.2.1 x.2.2) (C9 38)) := toldO_ok (by kernel_rfl) sl06Is_ok (rest_ok (C9_ok) _) sl06Is_m

noncomputable def C10 : Tab := tab 38 (toldO A_sl06Is R_sl06Is (fun x => sl06Is x.1 x.2.1 x.2.2) (C9 38)) C9
theorem C10_ok : TabOk Try.prog C10 := tab_ok (sl06Is_told) (C9_ok)

def A_sl06Own : Shp := ⟨[.dpt [.h, .h, .h] 0], [], [.sl [.i .i64], .sl [.i .i64, .i .i64, .i .i64, .i .i64], .sl [.i .i64]]⟩
def R_sl06Own : List XShp := [(.ret, ⟨[.agg [.slw 0 1, .slw 1 4, .slw 2 1]], [.arr [.i .i64] false, .arr [.i .i64, .i .i64, .i .i64, .i .i64] false, .arr [.i .i64] false], [.sl [.i .i64], .sl [.i .i64, .i .i64, .i .i64, .i .i64], .sl [.i .i64]]⟩)]

theorem sl06Own_e (x : DR A_sl06Own.hs) : (evFn (envT Try.prog C10 mtab0) noLoops Try.f40 (A_sl06Own.enc x).1).to (fun q => decX R_sl06Own .ret [q.1] q.2) = sl06Own_t x.1 x.2.1 x.2.2 := by kernel_rfl

theorem sl06Own_m (x : DR A_sl06Own.hs) : meanF (envT Try.prog C10 mtab0) noLoops Try.f40 A_sl06Own R_sl06Own x = (show Option (SumD (R_sl06Own.map (·.2))) from sl06Own x.1 x.2.1 x.2.2) := meanF_of (sl06Own_e x)

theorem sl06Own_ok : SpecOk Try.prog 40 (evFn (envT Try.prog C10 mtab0) noLoops Try.f40) := fnL_ok (envT_ok (C10_ok) (mtab0_ok _)) mixedO Try.func40 (by kernel_rfl) (c := bodyOf Try.f40) (by kernel_rfl) (loopFree_ok (by kernel_rfl))

theorem sl06Own_told : SpecOk Try.prog 40 (toldO A_sl06Own R_sl06Own (fun x => sl06Own x.1 x.2.1 x.2.2) (C10 40)) := toldO_ok (by kernel_rfl) sl06Own_ok (rest_ok (C10_ok) _) sl06Own_m

noncomputable def C11 : Tab := tab 40 (toldO A_sl06Own R_sl06Own (fun x => sl06Own x.1 x.2.1 x.2.2) (C10 40)) C10
theorem C11_ok : TabOk Try.prog C11 := tab_ok (sl06Own_told) (C10_ok)

def S_sCutWants_l5 : Shp := ⟨[.h, .h, .ref 0 0, .ref 1 0, .h], [.cells [.nils, .nils, .nils] false, .cells [.slw 2 1, .slw 3 4, .slw 4 1] false, .arr [.i .i64] false, .arr [.i .i64, .i .i64, .i .i64, .i .i64] false, .arr [.i .i64] false], [.i .i64, .i .i64, .i .i64, .sl [.i .i64], .sl [.i .i64, .i .i64, .i .i64, .i .i64], .sl [.i .i64]]⟩
def X_sCutWants_l5 : List XShp := [(.exit 0, ⟨[.undef, .undef, .ref 0 0, .ref 1 0, .undef], [.cells [.nils, .nils, .nils] false, .cells [.slw 2 1, .slw 3 4, .slw 4 1] false, .arr [.i .i64] false, .arr [.i .i64, .i .i64, .i .i64, .i .i64] false, .arr [.i .i64] false], [.sl [.i .i64], .sl [.i .i64, .i .i64, .i .i64, .i .i64], .sl [.i .i64]]⟩)]

noncomputable def L_sCutWants_l5 : Loops := (⟨46, lvT [(5, [1, 2, 6, 8, 9])], mdT [(5, .exit 0, [], [1, 2, 9])], fun k vs bs => .bad⟩ : Loops)

theorem sCutWants_l5_e (y0 : Int) (y1 : Int) (y3 : List Int) (y4 : List (Int × Int × Int × Int)) (s : Int × List Int) : (loopStep (envT Try.prog C11 mtab0) L_sCutWants_l5 5 (loopC (bodyOf Try.f9) 5) (S_sCutWants_l5.enc (y0, y1, s.1, y3, y4, s.2)).1 (S_sCutWants_l5.enc (y0, y1, s.1, y3, y4, s.2)).2).to (stepD S_sCutWants_l5 X_sCutWants_l5) = (sCutWants_l5_t y0 y1 y3 y4 s.1 s.2).map (Sum.map (fun s : Int × List Int => (show DR S_sCutWants_l5.hs from (y0, y1, s.1, y3, y4, s.2))) id) := by kernel_rfl

theorem sCutWants_l5_r (x : DR S_sCutWants_l5.hs) : (sCutWants_l5 x.1 x.2.1 x.2.2.1 x.2.2.2.1 x.2.2.2.2.1 x.2.2.2.2.2 : Option (SumD (X_sCutWants_l5.map (·.2)))) = runL (meanS (envT Try.prog C11 mtab0) L_sCutWants_l5 5 (loopC (bodyOf Try.f9) 5) S_sCutWants_l5 X_sCutWants_l5) x := run_of (fun s : Int × List Int => (show DR S_sCutWants_l5.hs from (x.1, x.2.1, s.1, x.2.2.2.1, x.2.2.2.2.1, s.2))) (sCutWants_l5_e (x.1) (x.2.1) (x.2.2.2.1) (x.2.2.2.2.1)) (x.2.2.1, x.2.2.2.2.2)

theorem sCutWants_l5_k (L : Loops) (hn : L_sCutWants_l5.n = L.n) (hlv : L_sCutWants_l5.lv 5 = L.lv 5) (hL : ∀ vs bs, L.loop 5 vs bs = toldL S_sCutWants_l5 X_sCutWants_l5 (fun x => sCutWants_l5 x.1 x.2.1 x.2.2.1 x.2.2.2.1 x.2.2.2.2.1 x.2.2.2.2.2) vs bs) : LOk Try.prog (envT Try.prog C11 mtab0) L 5 (loopC (bodyOf Try.f9) 5) := toldL_ok (L1 := L_sCutWants_l5) (envT_ok (C11_ok) (mtab0_ok _)) mixedO hn hlv (loopFree_ok (by kernel_rfl)) sCutWants_l5_r hL

def A_sCutWants : Shp := ⟨[.agg [.h, .h, .h], .h, .h], [], [.sl [.i .i64], .sl [.i .i64, .i .i64, .i .i64, .i .i64], .sl [.i .i64], .i .i64, .i .i64]⟩
def R_sCutWants : List XShp := [(.ret, ⟨[.tup [.agg [.nils, .nils, .nils], .lb false]], [], []⟩), (.ret, ⟨[.tup [.agg [.slw 0 1, .slw 1 4, .slw 2 1], .lb true]], [.arr [.i .i64] false, .arr [.i .i64, .i .i64, .i .i64, .i .i64] false, .arr [.i .i64] false], [.sl [.i .i64], .sl [.i .i64, .i .i64, .i .i64, .i .i64], .sl [.i .i64]]⟩)]

noncomputable def L_sCutWants : Loops := (⟨46, lvT [(5, [1, 2, 6, 8, 9])], mdT [(5, .exit 0, [], [1, 2, 9])], fun k vs bs => bif Nat.beq k 5 then toldL S_sCutWants_l5 X_sCutWants_l5 (fun x => sCutWants_l5 x.1 x.2.1 x.2.2.1 x.2.2.2.1 x.2.2.2.2.1 x.2.2.2.2.2) vs bs else .bad⟩ : Loops)

theorem sCutWants_e (x : DR A_sCutWants.hs) : (evFn (envT Try.prog C11 mtab0) L_sCutWants Try.f9 (A_sCutWants.enc x).1).to (fun q => decX R_sCutWants .ret [q.1] q.2) = sCutWants_t x.1 x.2.1 x.2.2.1 x.2.2.2.1 x.2.2.2.2 := by kernel_rfl

theorem sCutWants_m (x : DR A_sCutWants.hs) : meanF (envT Try.prog C11 mtab0) L_sCutWants Try.f9 A_sCutWants R_sCutWants x = (show Option (SumD (R_sCutWants.map (·.2))) from sCutWants x.1 x.2.1 x.2.2.1 x.2.2.2.1 x.2.2.2.2) := meanF_of (sCutWants_e x)

theorem sCutWants_ok : SpecOk Try.prog 9 (evFn (envT Try.prog C11 mtab0) L_sCutWants Try.f9) := fnL_ok (envT_ok (C11_ok) (mtab0_ok _)) mixedO Try.func9 (by kernel_rfl) (c := bodyOf Try.f9) (by kernel_rfl) (loopsL (l := [(5, loopC (bodyOf Try.f9) 5)]) (by kernel_rfl) (lk_cons (sCutWants_l5_k _ rfl rfl (fun _ _ => rfl)) lk_nil))

theorem sCutWants_told : SpecOk Try.prog 9 (toldO A_sCutWants R_sCutWants (fun x => sCutWants x.1 x.2.1 x.2.2.1 x.2.2.2.1 x.2.2.2.2) (C11 9)) := toldO_ok (by kernel_rfl) sCutWants_ok (rest_ok (C11_ok) _) sCutWants_m

noncomputable def C12 : Tab := tab 9 (toldO A_sCutWants R_sCutWants (fun x => sCutWants x.1 x.2.1 x.2.2.1 x.2.2.2.1 x.2.2.2.2) (C11 9)) C11
theorem C12_ok : TabOk Try.prog C12 := tab_ok (sCutWants_told) (C11_ok)

def A_iwithin : Shp := ⟨[.h, .h, .h], [], [.i .i64, .i .i64, .i .i64]⟩
def R_iwithin : List XShp := [(.ret, ⟨[.h], [], [.b]⟩)]

theorem iwithin_e (x : DR A_iwithin.hs) : (evFn (envT Try.prog C12 mtab0) noLoops Try.f43 (A_iwithin.enc x).1).to (fun q => decX R_iwithin .ret [q.1] q.2) = iwithin_t x.1 x.2.1 x.2.2 := by kernel_rfl

theorem iwithin_m (x : DR A_iwithin.hs) : meanF (envT Try.prog C12 mtab0) noLoops Try.f43 A_iwithin R_iwithin x = some (show SumD (R_iwithin.map (·.2)) from iwithin x.1 x.2.1 x.2.2) := @meanF_tot _ _ _ _ _ _ _ (iwithin_e x) (show Inhabited (Bool) from inferInstance) (by kernel_rfl)

theorem iwithin_ok : SpecOk Try.prog 43 (evFn (envT Try.prog C12 mtab0) noLoops Try.f43) := fnL_ok (envT_ok (C12_ok) (mtab0_ok _)) mixedO Try.func43 (by kernel_rfl) (c := bodyOf Try.f43) (by kernel_rfl) (loopFree_ok (by kernel_rfl))

theorem iwithin_told : SpecOk Try.prog 43 (toldT A_iwithin R_iwithin (fun x => iwithin x.1 x.2.1 x.2.2) (C12 43)) := toldT_ok (by kernel_rfl) iwithin_ok (rest_ok (C12_ok) _) iwithin_m

noncomputable def C13 : Tab := tab 43 (toldT A_iwithin R_iwithin (fun x => iwithin x.1 x.2.1 x.2.2) (C12 43)) C12
theorem C13_ok : TabOk Try.prog C13 := tab_ok (iwithin_told) (C12_ok)

def A_iareWithin_1 : Shp := ⟨[.h, .dpt [.h] 0, .dpt [.h] 0], [], [.i .i64, .i .i64, .i .i64]⟩
def R_iareWithin_1 : List XShp := [(.ret, ⟨[.h], [], [.b]⟩)]

theorem iareWithin_1_e (x : DR A_iareWithin_1.hs) : (evFn (envT Try.prog C13 mtab0) noLoops Try.f75 (A_iareWithin_1.enc x).1).to (fun q => decX R_iareWithin_1 .ret [q.1] q.2) = iareWithin_1_t x.1 x.2.1 x.2.2 := by kernel_rfl

theorem iareWithin_1_m (x : DR A_iareWithin_1.hs) : meanF (envT Try.prog C13 mtab0) noLoops Try.f75 A_iareWithin_1 R_iareWithin_1 x = some (show SumD (R_iareWithin_1.map (·.2)) from iareWithin_1 x.1 x.2.1 x.2.2) := @meanF_tot _ _ _ _ _ _ _ (iareWithin_1_e x) (show Inhabited (Bool) from inferInstance) (by kernel_rfl)

theorem iareWithin_1_ok : SpecOk Try.prog 75 (evFn (envT Try.prog C13 mtab0) noLoops Try.f75) := fnL_ok (envT_ok (C13_ok) (mtab0_ok _)) mixedO Try.func75 (by kernel_rfl) (c := bodyOf Try.f75) (by kernel_rfl) (loopFree_ok (by kernel_rfl))

theorem iareWithin_1_told : SpecOk Try.prog 75 (toldT A_iareWithin_1 R_iareWithin_1 (fun x => iareWithin_1 x.1 x.2.1 x.2.2) (C13 75)) := toldT_ok (by kernel_rfl) iareWithin_1_ok (rest_ok (C13_ok) _) iareWithin_1_m

noncomputable def C14 : Tab := tab 75 (toldT A_iareWithin_1 R_iareWithin_1 (fun x => iareWithin_1 x.1 x.2.1 x.2.2) (C13 75)) C13
theorem C14_ok : TabOk Try.prog C14 := tab_ok (iareWithin_1_told) (C13_ok)

def S_lIndexFunc_iareWithin_1_l2 : Shp := ⟨[.h, .fn 75 [.dpt [.h] 0, .dpt [.h] 0], .undef, .h, .h], [], [.sl [.i .i64], .i .i64, .i .i64, .i .i64, .i .i64]⟩
def X_lIndexFunc_iareWithin_1_l2 : List XShp := [(.ret, ⟨[.undef, .undef, .h, .undef, .undef], [], [.i .i64]⟩), (.exit 0, ⟨[.undef, .undef, .undef, .undef, .undef], [], []⟩)]

noncomputable def L_lIndexFunc_iareWithin_1_l2 : Loops := (⟨19, lvT [(2, [0, 1, 4, 7, 8])], mdT [(2, .normal, [], [4]), (2, .exit 0, [], [0, 1, 4, 7, 8]), (2, .ret, [], [0, 1, 7, 8])], fun k vs bs => .bad⟩ : Loops)

theorem lIndexFunc_iareWithin_1_l2_e (y0 : List Int) (y1 : Int) (y2 : Int) (y3 : Int) (s : Int) : (loopStep (envT Try.prog C14 mtab0) L_lIndexFunc_iareWithin_1_l2 2 (loopC (bodyOf Try.f79) 2) (S_lIndexFunc_iareWithin_1_l2.enc (y0, y1, y2, y3, s)).1 (S_lIndexFunc_iareWithin_1_l2.enc (y0, y1, y2, y3, s)).2).to (stepD S_lIndexFunc_iareWithin_1_l2 X_lIndexFunc_iareWithin_1_l2) = (lIndexFunc_iareWithin_1_l2_t y0 y1 y2 y3 s).map (Sum.map (fun s : Int => (show DR S_lIndexFunc_iareWithin_1_l2.hs from (y0, y1, y2, y3, s))) id) := by kernel_rfl

theorem lIndexFunc_iareWithin_1_l2_r (x : DR S_lIndexFunc_iareWithin_1_l2.hs) : (lIndexFunc_iareWithin_1_l2 x.1 x.2.1 x.2.2.1 x.2.2.2.1 x.2.2.2.2 : Option (SumD (X_lIndexFunc_iareWithin_1_l2.map (·.2)))) = runL (meanS (envT Try.prog C14 mtab0) L_lIndexFunc_iareWithin_1_l2 2 (loopC (bodyOf Try.f79) 2) S_lIndexFunc_iareWithin_1_l2 X_lIndexFunc_iareWithin_1_l2) x := run_of (fun s : Int => (show DR S_lIndexFunc_iareWithin_1_l2.hs from (x.1, x.2.1, x.2.2.1, x.2.2.2.1, s))) (lIndexFunc_iareWithin_1_l2_e (x.1) (x.2.1) (x.2.2.1) (x.2.2.2.1)) x.2.2.2.2

theorem lIndexFunc_iareWithin_1_l2_k (L : Loops) (hn : L_lIndexFunc_iareWithin_1_l2.n = L.n) (hlv : L_lIndexFunc_iareWithin_1_l2.lv 2 = L.lv 2) (hL : ∀ vs bs, L.loop 2 vs bs = toldL S_lIndexFunc_iareWithin_1_l2 X_lIndexFunc_iareWithin_1_l2 (fun x => lIndexFunc_iareWithin_1_l2 x.1 x.2.1 x.2.2.1 x.2.2.2.1 x.2.2.2.2) vs bs) : LOk Try.prog (envT Try.prog C14 mtab0) L 2 (loopC (bodyOf Try.f79) 2) := toldL_ok (L1 := L_lIndexFunc_iareWithin_1_l2) (envT_ok (C14_ok) (mtab0_ok _)) mixedO hn hlv (loopFree_ok (by kernel_rfl)) lIndexFunc_iareWithin_1_l2_r hL

def A_lIndexFunc_iareWithin_1 : Shp := ⟨[.h, .fn 75 [.dpt [.h] 0, .dpt [.h] 0]], [], [.sl [.i .i64], .i .i64, .i .i64]⟩
def R_lIndexFunc_iareWithin_1 : List XShp := [(.ret, ⟨[.h], [], [.i .i64]⟩)]

noncomputable def L_lIndexFunc_iareWithin_1 : Loops := (⟨19, lvT [(2, [0, 1, 4, 7, 8])], mdT [(2, .normal, [], [4]), (2, .exit 0, [], [0, 1, 4, 7, 8]), (2, .ret, [], [0, 1, 7, 8])], fun k vs bs => bif Nat.beq k 2 then toldL S_lIndexFunc_iareWithin_1_l2 X_lIndexFunc_iareWithin_1_l2 (fun x => lIndexFunc_iareWithin_1_l2 x.1 x.2.1 x.2.2.1 x.2.2.2.1 x.2.2.2.2) vs bs else .bad⟩ : Loops)

theorem lIndexFunc_iareWithin_1_e (x : DR A_lIndexFunc_iareWithin_1.hs) : (evFn (envT Try.prog C14 mtab0) L_lIndexFunc_iareWithin_1 Try.f79 (A_lIndexFunc_iareWithin_1.enc x).1).to (fun q => decX R_lIndexFunc_iareWithin_1 .ret [q.1] q.2) = lIndexFunc_iareWithin_1_t x.1 x.2.1 x.2.2 := by kernel_rfl

theorem lIndexFunc_iareWithin_1_m (x : DR A_lIndexFunc_iareWithin_1.hs) : meanF (envT Try.prog C14 mtab0) L_lIndexFunc_iareWithin_1 Try.f79 A_lIndexFunc_iareWithin_1 R_lIndexFunc_iareWithin_1 x = (show Option (SumD (R_lIndexFunc_iareWithin_1.map (·.2))) from lIndexFunc_iareWithin_1 x.1 x.2.1 x.2.2) := meanF_of (lIndexFunc_iareWithin_1_e x)

theorem lIndexFunc_iareWithin_1_ok : SpecOk Try.prog 79 (evFn (envT Try.prog C14 mtab0) L_lIndexFunc_iareWithin_1 Try.f79) := fnL_ok (envT_ok (C14_ok) (mtab0_ok _)) mixedO Try.func79 (by kernel_rfl) (c := bodyOf Try.f79) (by kernel_rfl) (loopsL (l := [(2, loopC (bodyOf Try.f79) 2)]) (by kernel_rfl) (lk_cons (lIndexFunc_iareWithin_1_l2_k _ rfl rfl (fun _ _ => rfl)) lk_nil))

theorem lIndexFunc_iareWithin_1_told : SpecOk Try.prog 79 (toldO A_lIndexFunc_iareWithin_1 R_lIndexFunc_iareWithin_1 (fun x => lIndexFunc_iareWithin_1 x.1 x.2.1 x.2.2) (C14 79)) := toldO_ok (by kernel_rfl) lIndexFunc_iareWithin_1_ok (rest_ok (C14_ok) _) lIndexFunc_iareWithin_1_m

noncomputable def C15 : Tab := tab 79 (toldO A_lIndexFunc_iareWithin_1 R_lIndexFunc_iareWithin_1 (fun x => lIndexFunc_iareWithin_1 x.1 x.2.1 x.2.2) (C14 79)) C14
theorem C15_ok : TabOk Try.prog C15 := tab_ok (lIndexFunc_iareWithin_1_told) (C14_ok)

def A_lContainsFunc_iareWithin_1 : Shp := ⟨[.h, .fn 75 [.dpt [.h] 0, .dpt [.h] 0]], [], [.sl [.i .i64], .i .i64, .i .i64]⟩
def R_lContainsFunc_iareWithin_1 : List XShp := [(.ret, ⟨[.h], [], [.b]⟩)]

theorem lContainsFunc_iareWithin_1_e (x : DR A_lContainsFunc_iareWithin_1.hs) : (evFn (envT Try.prog C15 mtab0) noLoops Try.f74 (A_lContainsFunc_iareWithin_1.enc x).1).to (fun q => decX R_lContainsFunc_iareWithin_1 .ret [q.1] q.2) = lContainsFunc_iareWithin_1_t x.1 x.2.1 x.2.2 := by kernel_rfl

theorem lContainsFunc_iareWithin_1_m (x : DR A_lContainsFunc_iareWithin_1.hs) : meanF (envT Try.prog C15 mtab0) noLoops Try.f74 A_lContainsFunc_iareWithin_1 R_lContainsFunc_iareWithin_1 x = (show Option (SumD (R_lContainsFunc_iareWithin_1.map (·.2))) from lContainsFunc_iareWithin_1 x.1 x.2.1 x.2.2) := meanF_of (lContainsFunc_iareWithin_1_e x)

theorem lContainsFunc_iareWithin_1_ok : SpecOk Try.prog 74 (evFn (envT Try.prog C15 mtab0) noLoops Try.f74) := fnL_ok (envT_ok (C15_ok) (mtab0_ok _)) mixedO Try.func74 (by kernel_rfl) (c := bodyOf Try.f74) (by kernel_rfl) (loopFree_ok (by kernel_rfl))

theorem lContainsFunc_iareWithin_1_told : SpecOk Try.prog 74 (toldO A_lContainsFunc_iareWithin_1 R_lContainsFunc_iareWithin_1 (fun x => lContainsFunc_iareWithin_1 x.1 x.2.1 x.2.2) (C15 74)) := toldO_ok (by kernel_rfl) lContainsFunc_iareWithin_1_ok (rest_ok (C15_ok) _) lContainsFunc_iareWithin_1_m

noncomputable def C16 : Tab := tab 74 (toldO A_lContainsFunc_iareWithin_1 R_lContainsFunc_iareWithin_1 (fun x => lContainsFunc_iareWithin_1 x.1 x.2.1 x.2.2) (C15 74)) C15
theorem C16_ok : TabOk Try.prog C16 := tab_ok (lContainsFunc_iareWithin_1_told) (C15_ok)

def A_iareWithin : Shp := ⟨[.h, .h, .h], [], [.sl [.i .i64], .i .i64, .i .i64]⟩
def R_iareWithin : List XShp := [(.ret, ⟨[.h], [], [.b]⟩)]

theorem iareWithin_e (x : DR A_iareWithin.hs) : (evFn (envT Try.prog C16 mtab0) noLoops Try.f60 (A_iareWithin.enc x).1).to (fun q => decX R_iareWithin .ret [q.1] q.2) = iareWithin_t x.1 x.2.1 x.2.2 := by kernel_rfl

theorem iareWithin_m (x : DR A_iareWithin.hs) : meanF (envT Try.prog C16 mtab0) noLoops Try.f60 A_iareWithin R_iareWithin x = (show Option (SumD (R_iareWithin.map (·.2))) from iareWithin x.1 x.2.1 x.2.2) := meanF_of (iareWithin_e x)

theorem iareWithin_ok : SpecOk Try.prog 60 (evFn (envT Try.prog C16 mtab0) noLoops Try.f60) := fnL_ok (envT_ok (C16_ok) (mtab0_ok _)) mixedO Try.func60 (by kernel_rfl) (c := bodyOf Try.f60) (by kernel_rfl) (loopFree_ok (by kernel_rfl))

theorem iareWithin_told : SpecOk Try.prog 60 (toldO A_iareWithin R_iareWithin (fun x => iareWithin x.1 x.2.1 x.2.2) (C16 60)) := toldO_ok (by kernel_rfl) iareWithin_ok (rest_ok (C16_ok) _) iareWithin_m

noncomputable def C17 : Tab := tab 60 (toldO A_iareWithin R_iareWithin (fun x => iareWithin x.1 x.2.1 x.2.2) (C16 60)) C16
theorem C17_ok : TabOk Try.prog C17 := tab_ok (iareWithin_told) (C16_ok)

def A_iisDam : Shp := ⟨[.agg [.h, .h, .h, .h]], [], [.i .i64, .i .i64, .i .i64, .i .i64]⟩
def R_iisDam : List XShp := [(.ret, ⟨[.h], [], [.b]⟩)]

theorem iisDam_e (x : DR A_iisDam.hs) : (evFn (envT Try.prog C17 mtab0) noLoops Try.f65 (A_iisDam.enc x).1).to (fun q => decX R_iisDam .ret [q.1] q.2) = iisDam_t x.1 x.2.1 x.2.2.1 x.2.2.2 := by kernel_rfl

theorem iisDam_m (x : DR A_iisDam.hs) : meanF (envT Try.prog C17 mtab0) noLoops Try.f65 A_iisDam R_iisDam x = (show Option (SumD (R_iisDam.map (·.2))) from iisDam x.1 x.2.1 x.2.2.1 x.2.2.2) := meanF_of (iisDam_e x)

theorem iisDam_ok : SpecOk Try.prog 65 (evFn (envT Try.prog C17 mtab0) noLoops Try.f65) := fnL_ok (envT_ok (C17_ok) (mtab0_ok _)) mixedO Try.func65 (by kernel_rfl) (c := bodyOf Try.f65) (by kernel_rfl) (loopFree_ok (by kernel_rfl))

theorem iisDam_told : SpecOk Try.prog 65 (toldO A_iisDam R_iisDam (fun x => iisDam x.1 x.2.1 x.2.2.1 x.2.2.2) (C17 65)) := toldO_ok (by kernel_rfl) iisDam_ok (rest_ok (C17_ok) _) iisDam_m

noncomputable def C18 : Tab := tab 65 (toldO A_iisDam R_iisDam (fun x => iisDam x.1 x.2.1 x.2.2.1 x.2.2.2) (C17 65)) C17
theorem C18_ok : TabOk Try.prog C18 := tab_ok (iisDam_told) (C17_ok)

def A_iValidRiver_1 : Shp := ⟨[.agg [.h, .h, .h, .h]], [], [.i .i64, .i .i64, .i .i64, .i .i64]⟩
def R_iValidRiver_1 : List XShp := [(.ret, ⟨[.h], [], [.b]⟩)]

theorem iValidRiver_1_e (x : DR A_iValidRiver_1.hs) : (evFn (envT Try.prog C18 mtab0) noLoops Try.f64 (A_iValidRiver_1.enc x).1).to (fun q => decX R_iValidRiver_1 .ret [q.1] q.2) = iValidRiver_1_t x.1 x.2.1 x.2.2.1 x.2.2.2 := by kernel_rfl

theorem iValidRiver_1_m (x : DR A_iValidRiver_1.hs) : meanF (envT Try.prog C18 mtab0) noLoops Try.f64 A_iValidRiver_1 R_iValidRiver_1 x = (show Option (SumD (R_iValidRiver_1.map (·.2))) from iValidRiver_1 x.1 x.2.1 x.2.2.1 x.2.2.2) := meanF_of (iValidRiver_1_e x)

theorem iValidRiver_1_ok : SpecOk Try.prog 64 (evFn (envT Try.prog C18 mtab0) noLoops Try.f64) := fnL_ok (envT_ok (C18_ok) (mtab0_ok _)) mixedO Try.func64 (by kernel_rfl) (c := bodyOf Try.f64) (by kernel_rfl) (loopFree_ok (by kernel_rfl))

theorem iValidRiver_1_told : SpecOk Try.prog 64 (toldO A_iValidRiver_1 R_iValidRiver_1 (fun x => iValidRiver_1 x.1 x.2.1 x.2.2.1 x.2.2.2) (C18 64)) := toldO_ok (by kernel_rfl) iValidRiver_1_ok (rest_ok (C18_ok) _) iValidRiver_1_m

noncomputable def C19 : Tab := tab 64 (toldO A_iValidRiver_1 R_iValidRiver_1 (fun x => iValidRiver_1 x.1 x.2.1 x.2.2.1 x.2.2.2) (C18 64)) C18
theorem C19_ok : TabOk Try.prog C19 := tab_ok (iValidRiver_1_told) (C18_ok)

def S_lIndexFunc_iValidRiver_1_l2 : Shp := ⟨[.h, .fn 64 [], .undef, .h, .h], [], [.sl [.i .i64, .i .i64, .i .i64, .i .i64], .i .i64, .i .i64]⟩
def X_lIndexFunc_iValidRiver_1_l2 : List XShp := [(.ret, ⟨[.undef, .undef, .h, .undef, .undef], [], [.i .i64]⟩), (.exit 0, ⟨[.undef, .undef, .undef, .undef, .undef], [], []⟩)]

noncomputable def L_lIndexFunc_iValidRiver_1_l2 : Loops := (⟨19, lvT [(2, [0, 1, 4, 7, 8])], mdT [(2, .normal, [], [4]), (2, .exit 0, [], [0, 1, 4, 7, 8]), (2, .ret, [], [0, 1, 7, 8])], fun k vs bs => .bad⟩ : Loops)

theorem lIndexFunc_iValidRiver_1_l2_e (y0 : List (Int × Int × Int × Int)) (y1 : Int) (s : Int) : (loopStep (envT Try.prog C19 mtab0) L_lIndexFunc_iValidRiver_1_l2 2 (loopC (bodyOf Try.f77) 2) (S_lIndexFunc_iValidRiver_1_l2.enc (y0, y1, s)).1 (S_lIndexFunc_iValidRiver_1_l2.enc (y0, y1, s)).2).to (stepD S_lIndexFunc_iValidRiver_1_l2 X_lIndexFunc_iValidRiver_1_l2) = (lIndexFunc_iValidRiver_1_l2_t y0 y1 s).map (Sum.map (fun s : Int => (show DR S_lIndexFunc_iValidRiver_1_l2.hs from (y0, y1, s))) id) := by kernel_rfl

theorem lIndexFunc_iValidRiver_1_l2_r (x : DR S_lIndexFunc_iValidRiver_1_l2.hs) : (lIndexFunc_iValidRiver_1_l2 x.1 x.2.1 x.2.2 : Option (SumD (X_lIndexFunc_iValidRiver_1_l2.map (·.2)))) = runL (meanS (envT Try.prog C19 mtab0) L_lIndexFunc_iValidRiver_1_l2 2 (loopC (bodyOf Try.f77) 2) S_lIndexFunc_iValidRiver_1_l2 X_lIndexFunc_iValidRiver_1_l2) x := run_of (fun s : Int => (show DR S_lIndexFunc_iValidRiver_1_l2.hs from (x.1, x.2.1, s))) (lIndexFunc_iValidRiver_1_l2_e (x.1) (x.2.1)) x.2.2

theorem lIndexFunc_iValidRiver_1_l2_k (L : Loops) (hn : L_lIndexFunc_iValidRiver_1_l2.n = L.n) (hlv : L_lIndexFunc_iValidRiver_1_l2.lv 2 = L.lv 2) (hL : ∀ vs bs, L.loop 2 vs bs = toldL S_lIndexFunc_iValidRiver_1_l2 X_lIndexFunc_iValidRiver_1_l2 (fun x => lIndexFunc_iValidRiver_1_l2 x.1 x.2.1 x.2.2) vs bs) : LOk Try.prog (envT Try.prog C19 mtab0) L 2 (loopC (bodyOf Try.f77) 2) := toldL_ok (L1 := L_lIndexFunc_iValidRiver_1_l2) (envT_ok (C19_ok) (mtab0_ok _)) mixedO hn hlv (loopFree_ok (by kernel_rfl)) lIndexFunc_iValidRiver_1_l2_r hL

def A_lIndexFunc_iValidRiver_1 : Shp := ⟨[.h, .fn 64 []], [], [.sl [.i .i64, .i .i64, .i .i64, .i .i64]]⟩
def R_lIndexFunc_iValidRiver_1 : List XShp := [(.ret, ⟨[.h], [], [.i .i64]⟩)]

noncomputable def L_lIndexFunc_iValidRiver_1 : Loops := (⟨19, lvT [(2, [0, 1, 4, 7, 8])], mdT [(2, .normal, [], [4]), (2, .exit 0, [], [0, 1, 4, 7, 8]), (2, .ret, [], [0, 1, 7, 8])], fun k vs bs => bif Nat.beq k 2 then toldL S_lIndexFunc_iValidRiver_1_l2 X_lIndexFunc_iValidRiver_1_l2 (fun x => lIndexFunc_iValidRiver_1_l2 x.1 x.2.1 x.2.2) vs bs else .bad⟩ : Loops)

theorem lIndexFunc_iValidRiver_1_e (x : DR A_lIndexFunc_iValidRiver_1.hs) : (evFn (envT Try.prog C19 mtab0) L_lIndexFunc_iValidRiver_1 Try.f77 (A_lIndexFunc_iValidRiver_1.enc x).1).to (fun q => decX R_lIndexFunc_iValidRiver_1 .ret [q.1] q.2) = lIndexFunc_iValidRiver_1_t x := by kernel_rfl

theorem lIndexFunc_iValidRiver_1_m (x : DR A_lIndexFunc_iValidRiver_1.hs) : meanF (envT Try.prog C19 mtab0) L_lIndexFunc_iValidRiver_1 Try.f77 A_lIndexFunc_iValidRiver_1 R_lIndexFunc_iValidRiver_1 x = (show Option (SumD (R_lIndexFunc_iValidRiver_1.map (·.2))) from lIndexFunc_iValidRiver_1 x) := meanF_of (lIndexFunc_iValidRiver_1_e x)

theorem lIndexFunc_iValidRiver_1_ok : SpecOk Try.prog 77 (evFn (envT Try.prog C19 mtab0) L_lIndexFunc_iValidRiver_1 Try.f77) := fnL_ok (envT_ok (C19_ok) (mtab0_ok _)) mixedO Try.func77 (by kernel_rfl) (c := bodyOf Try.f77) (by kernel_rfl) (loopsL (l := [(2, loopC (bodyOf Try.f77) 2)]) (by kernel_rfl) (lk_cons (lIndexFunc_iValidRiver_1_l2_k _ rfl rfl (fun _ _ => rfl)) lk_nil))

theorem lIndexFunc_iValidRiver_1_told : SpecOk Try.prog 77 (toldO A_lIndexFunc_iValidRiver_1 R_lIndexFunc_iValidRiver_1 (fun x => lIndexFunc_iValidRiver_1 x) (C19 77)) := toldO_ok (by kernel_rfl) lIndexFunc_iValidRiver_1_ok (rest_ok (C19_ok) _) lIndexFunc_iValidRiver_1_m

noncomputable def C20 : Tab := tab 77 (toldO A_lIndexFunc_iValidRiver_1 R_lIndexFunc_iValidRiver_1 (fun x => lIndexFunc_iValidRiver_1 x) (C19 77)) C19
theorem C20_ok : TabOk Try.prog C20 := tab_ok (lIndexFunc_iValidRiver_1_told) (C19_ok)

def A_lContainsFunc_iValidRiver_1 : Shp := ⟨[.h, .fn 64 []], [], [.sl [.i .i64, .i .i64, .i .i64, .i .i64]]⟩
def R_lContainsFunc_iValidRiver_1 : List XShp := [(.ret, ⟨[.h], [], [.b]⟩)]

theorem lContainsFunc_iValidRiver_1_e (x : DR A_lContainsFunc_iValidRiver_1.hs) : (evFn (envT Try.prog C20 mtab0) noLoops Try.f63 (A_lContainsFunc_iValidRiver_1.enc x).1).to (fun q => decX R_lContainsFunc_iValidRiver_1 .ret [q.1] q.2) = lContainsFunc_iValidRiver_1_t x := by kernel_rfl

theorem lContainsFunc_iValidRiver_1_m (x : DR A_lContainsFunc_iValidRiver_1.hs) : meanF (envT Try.prog C20 mtab0) noLoops Try.f63 A_lContainsFunc_iValidRiver_1 R_lContainsFunc_iValidRiver_1 x = (show Option (SumD (R_lContainsFunc_iValidRiver_1.map (·.2))) from lContainsFunc_iValidRiver_1 x) := meanF_of (lContainsFunc_iValidRiver_1_e x)

theorem lContainsFunc_iValidRiver_1_ok : SpecOk Try.prog 63 (evFn (envT Try.prog C20 mtab0) noLoops Try.f63) := fnL_ok (envT_ok (C20_ok) (mtab0_ok _)) mixedO Try.func63 (by kernel_rfl) (c := bodyOf Try.f63) (by kernel_rfl) (loopFree_ok (by kernel_rfl))

theorem lContainsFunc_iValidRiver_1_told : SpecOk Try.prog 63 (toldO A_lContainsFunc_iValidRiver_1 R_lContainsFunc_iValidRiver_1 (fun x => lContainsFunc_iValidRiver_1 x) (C20 63)) := toldO_ok (by kernel_rfl) lContainsFunc_iValidRiver_1_ok (rest_ok (C20_ok) _) lContainsFunc_iValidRiver_1_m

noncomputable def C21 : Tab := tab 63 (toldO A_lContainsFunc_iValidRiver_1 R_lContainsFunc_iValidRiver_1 (fun x => lContainsFunc_iValidRiver_1 x) (C20 63)) C20
theorem C21_ok : TabOk Try.prog C21 := tab_ok (lContainsFunc_iValidRiver_1_told) (C20_ok)

def S_iValidRiver_l9 : Shp := ⟨[.ref 0 0, .undef, .h, .h, .h, .h, .h], [.cells [.h, .h, .h] false], [.i .i64, .i .i64, .i .i64, .i .i64, .i .i64, .sl [.i .i64], .sl [.i .i64, .i .i64, .i .i64, .i .i64], .sl [.i .i64]]⟩
def X_iValidRiver_l9 : List XShp := [(.ret, ⟨[.undef, .lb false, .undef, .undef, .undef, .undef, .undef], [], []⟩), (.exit 2, ⟨[.ref 0 0, .undef, .h, .undef, .undef, .h, .h], [.cells [.h, .h, .h] false], [.i .i64, .i .i64, .i .i64, .sl [.i .i64], .sl [.i .i64, .i .i64, .i .i64, .i .i64], .sl [.i .i64]]⟩)]

noncomputable def L_iValidRiver_l9 : Loops := (⟨66, lvT [(9, [1, 2, 3, 5, 6, 48, 49]), (5, [1, 2, 3, 48, 49])], mdT [(9, .normal, [], [2]), (9, .exit 2, [], [2, 5, 6]), (9, .ret, [], [1, 3, 5, 6, 48, 49]), (5, .normal, [], [2]), (5, .exit 0, [], [1, 2, 3, 48, 49]), (5, .ret, [], [1, 3, 48, 49])], fun k vs bs => .bad⟩ : Loops)

theorem iValidRiver_l9_e (y0 : Int) (y3 : Int) (y4 : Int) (y5 : List Int) (y6 : List (Int × Int × Int × Int)) (y7 : List Int) (s : Int × Int) : (loopStep (envT Try.prog C21 mtab0) L_iValidRiver_l9 9 (loopC (loopC (bodyOf Try.f31) 5) 9) (S_iValidRiver_l9.enc (y0, s.1, s.2, y3, y4, y5, y6, y7)).1 (S_iValidRiver_l9.enc (y0, s.1, s.2, y3, y4, y5, y6, y7)).2).to (stepD S_iValidRiver_l9 X_iValidRiver_l9) = (iValidRiver_l9_t y0 y3 y4 y5 y6 y7 s.1 s.2).map (Sum.map (fun s : Int × Int => (show DR S_iValidRiver_l9.hs from (y0, s.1, s.2, y3, y4, y5, y6, y7))) id) := by kernel_rfl

theorem iValidRiver_l9_r (x : DR S_iValidRiver_l9.hs) : (iValidRiver_l9 x.1 x.2.1 x.2.2.1 x.2.2.2.1 x.2.2.2.2.1 x.2.2.2.2.2.1 x.2.2.2.2.2.2.1 x.2.2.2.2.2.2.2 : Option (SumD (X_iValidRiver_l9.map (·.2)))) = runL (meanS (envT Try.prog C21 mtab0) L_iValidRiver_l9 9 (loopC (loopC (bodyOf Try.f31) 5) 9) S_iValidRiver_l9 X_iValidRiver_l9) x := run_of (fun s : Int × Int => (show DR S_iValidRiver_l9.hs from (x.1, s.1, s.2, x.2.2.2.1, x.2.2.2.2.1, x.2.2.2.2.2.1, x.2.2.2.2.2.2.1, x.2.2.2.2.2.2.2))) (iValidRiver_l9_e (x.1) (x.2.2.2.1) (x.2.2.2.2.1) (x.2.2.2.2.2.1) (x.2.2.2.2.2.2.1) (x.2.2.2.2.2.2.2)) (x.2.1, x.2.2.1)

theorem iValidRiver_l9_k (L : Loops) (hn : L_iValidRiver_l9.n = L.n) (hlv : L_iValidRiver_l9.lv 9 = L.lv 9) (hL : ∀ vs bs, L.loop 9 vs bs = toldL S_iValidRiver_l9 X_iValidRiver_l9 (fun x => iValidRiver_l9 x.1 x.2.1 x.2.2.1 x.2.2.2.1 x.2.2.2.2.1 x.2.2.2.2.2.1 x.2.2.2.2.2.2.1 x.2.2.2.2.2.2.2) vs bs) : LOk Try.prog (envT Try.prog C21 mtab0) L 9 (loopC (loopC (bodyOf Try.f31) 5) 9) := toldL_ok (L1 := L_iValidRiver_l9) (envT_ok (C21_ok) (mtab0_ok _)) mixedO hn hlv (loopFree_ok (by kernel_rfl)) iValidRiver_l9_r hL

def S_iValidRiver_l5 : Shp := ⟨[.ref 0 0, .undef, .h, .h, .h], [.cells [.h, .h, .h] false], [.i .i64, .i .i64, .i .i64, .sl [.i .i64], .sl [.i .i64, .i .i64, .i .i64, .i .i64], .sl [.i .i64]]⟩
def X_iValidRiver_l5 : List XShp := [(.ret, ⟨[.undef, .lb false, .undef, .undef, .undef], [], []⟩), (.exit 0, ⟨[.undef, .undef, .undef, .undef, .undef], [], []⟩)]

noncomputable def L_iValidRiver_l5 : Loops := (⟨66, lvT [(9, [1, 2, 3, 5, 6, 48, 49]), (5, [1, 2, 3, 48, 49])], mdT [(9, .normal, [], [2]), (9, .exit 2, [], [2, 5, 6]), (9, .ret, [], [1, 3, 5, 6, 48, 49]), (5, .normal, [], [2]), (5, .exit 0, [], [1, 2, 3, 48, 49]), (5, .ret, [], [1, 3, 48, 49])], fun k vs bs => bif Nat.beq k 9 then toldL S_iValidRiver_l9 X_iValidRiver_l9 (fun x => iValidRiver_l9 x.1 x.2.1 x.2.2.1 x.2.2.2.1 x.2.2.2.2.1 x.2.2.2.2.2.1 x.2.2.2.2.2.2.1 x.2.2.2.2.2.2.2) vs bs else .bad⟩ : Loops)

theorem iValidRiver_l5_e (s : Int × Int × Int × List Int × (List (Int × Int × Int × Int)) × List Int) : (loopStep (envT Try.prog C21 mtab0) L_iValidRiver_l5 5 (loopC (bodyOf Try.f31) 5) (S_iValidRiver_l5.enc (s.1, s.2.1, s.2.2.1, s.2.2.2.1, s.2.2.2.2.1, s.2.2.2.2.2)).1 (S_iValidRiver_l5.enc (s.1, s.2.1, s.2.2.1, s.2.2.2.1, s.2.2.2.2.1, s.2.2.2.2.2)).2).to (stepD S_iValidRiver_l5 X_iValidRiver_l5) = (iValidRiver_l5_t  s.1 s.2.1 s.2.2.1 s.2.2.2.1 s.2.2.2.2.1 s.2.2.2.2.2).map (Sum.map (fun s : Int × Int × Int × List Int × (List (Int × Int × Int × Int)) × List Int => (show DR S_iValidRiver_l5.hs from (s.1, s.2.1, s.2.2.1, s.2.2.2.1, s.2.2.2.2.1, s.2.2.2.2.2))) id) := by kernel_rfl

theorem iValidRiver_l5_r (x : DR S_iValidRiver_l5.hs) : (iValidRiver_l5 x.1 x.2.1 x.2.2.1 x.2.2.2.1 x.2.2.2.2.1 x.2.2.2.2.2 : Option (SumD (X_iValidRiver_l5.map (·.2)))) = runL (meanS (envT Try.prog C21 mtab0) L_iValidRiver_l5 5 (loopC (bodyOf Try.f31) 5) S_iValidRiver_l5 X_iValidRiver_l5) x := run_of (fun s : Int × Int × Int × List Int × (List (Int × Int × Int × Int)) × List Int => (show DR S_iValidRiver_l5.hs from (s.1, s.2.1, s.2.2.1, s.2.2.2.1, s.2.2.2.2.1, s.2.2.2.2.2))) (iValidRiver_l5_e ) (x.1, x.2.1, x.2.2.1, x.2.2.2.1, x.2.2.2.2.1, x.2.2.2.2.2)

theorem iValidRiver_l5_k (L : Loops) (hn : L_iValidRiver_l5.n = L.n) (hlv : L_iValidRiver_l5.lv 5 = L.lv 5) (hL : ∀ vs bs, L.loop 5 vs bs = toldL S_iValidRiver_l5 X_iValidRiver_l5 (fun x => iValidRiver_l5 x.1 x.2.1 x.2.2.1 x.2.2.2.1 x.2.2.2.2.1 x.2.2.2.2.2) vs bs) : LOk Try.prog (envT Try.prog C21 mtab0) L 5 (loopC (bodyOf Try.f31) 5) := toldL_ok (L1 := L_iValidRiver_l5) (envT_ok (C21_ok) (mtab0_ok _)) mixedO hn hlv (loopsL (l := [(9, loopC (loopC (bodyOf Try.f31) 5) 9)]) (by kernel_rfl) (lk_cons (iValidRiver_l9_k _ rfl rfl (fun _ _ => rfl)) lk_nil)) iValidRiver_l5_r hL

def A_iValidRiver : Shp := ⟨[.agg [.h, .h, .h]], [], [.sl [.i .i64], .sl [.i .i64, .i .i64, .i .i64, .i .i64], .sl [.i .i64]]⟩
def R_iValidRiver : List XShp := [(.ret, ⟨[.h], [], [.b]⟩)]

noncomputable def L_iValidRiver : Loops := (⟨66, lvT [(9, [1, 2, 3, 5, 6, 48, 49]), (5, [1, 2, 3, 48, 49])], mdT [(9, .normal, [], [2]), (9, .exit 2, [], [2, 5, 6]), (9, .ret, [], [1, 3, 5, 6, 48, 49]), (5, .normal, [], [2]), (5, .exit 0, [], [1, 2, 3, 48, 49]), (5, .ret, [], [1, 3, 48, 49])], fun k vs bs => bif Nat.beq k 5 then toldL S_iValidRiver_l5 X_iValidRiver_l5 (fun x => iValidRiver_l5 x.1 x.2.1 x.2.2.1 x.2.2.2.1 x.2.2.2.2.1 x.2.2.2.2.2) vs bs else .bad⟩ : Loops)

theorem iValidRiver_e (x : DR A_iValidRiver.hs) : (evFn (envT Try.prog C21 mtab0) L_iValidRiver Try.f31 (A_iValidRiver.enc x).1).to (fun q => decX R_iValidRiver .ret [q.1] q.2) = iValidRiver_t x.1 x.2.1 x.2.2 := by kernel_rfl

theorem iValidRiver_m (x : DR A_iValidRiver.hs) : meanF (envT Try.prog C21 mtab0) L_iValidRiver Try.f31 A_iValidRiver R_iValidRiver x = (show Option (SumD (R_iValidRiver.map (·.2))) from iValidRiver x.1 x.2.1 x.2.2) := meanF_of (iValidRiver_e x)

theorem iValidRiver_ok : SpecOk Try.prog 31 (evFn (envT Try.prog C21 mtab0) L_iValidRiver Try.f31) := fnL_ok (envT_ok (C21_ok) (mtab0_ok _)) mixedO Try.func31 (by kernel_rfl) (c := bodyOf Try.f31) (by kernel_rfl) (loopsL (l := [(5, loopC (bodyOf Try.f31) 5)]) (by kernel_rfl) (lk_cons (iValidRiver_l5_k _ rfl rfl (fun _ _ => rfl)) lk_nil))

theorem iValidRiver_told : SpecOk Try.prog 31 (toldO A_iValidRiver R_iValidRiver (fun x => iValidRiver x.1 x.2.1 x.2.2) (C21 31)) := toldO_ok (by kernel_rfl) iValidRiver_ok (rest_ok (C21_ok) _) iValidRiver_m

noncomputable def C22 : Tab := tab 31 (toldO A_iValidRiver R_iValidRiver (fun x => iValidRiver x.1 x.2.1 x.2.2) (C21 31)) C21
theorem C22_ok : TabOk Try.prog C22 := tab_ok (iValidRiver_told) (C21_ok)

def A_iRiver_cloned : Shp := ⟨[.agg [.h, .h, .h]], [], [.sl [.i .i64], .sl [.i .i64, .i .i64, .i .i64, .i .i64], .sl [.i .i64]]⟩
def R_iRiver_cloned : List XShp := [(.ret, ⟨[.agg [.slw 0 1, .slw 1 4, .slw 2 1]], [.arr [.i .i64] false, .arr [.i .i64, .i .i64, .i .i64, .i .i64] false, .arr [.i .i64] false], [.sl [.i .i64], .sl [.i .i64, .i .i64, .i .i64, .i .i64], .sl [.i .i64]]⟩)]

theorem iRiver_cloned_e (x : DR A_iRiver_cloned.hs) : (evFn (envT Try.prog C22 mtab0) noLoops Try.f44 (A_iRiver_cloned.enc x).1).to (fun q => decX R_iRiver_cloned .ret [q.1] q.2) = iRiver_cloned_t x.1 x.2.1 x.2.2 := by kernel_rfl

theorem iRiver_cloned_m (x : DR A_iRiver_cloned.hs) : meanF (envT Try.prog C22 mtab0) noLoops Try.f44 A_iRiver_cloned R_iRiver_cloned x = (show Option (SumD (R_iRiver_cloned.map (·.2))) from iRiver_cloned x.1 x.2.1 x.2.2) := meanF_of (iRiver_cloned_e x)

theorem iRiver_cloned_ok : SpecOk Try.prog 44 (evFn (envT Try.prog C22 mtab0) noLoops Try.f44) := fnL_ok (envT_ok (C22_ok) (mtab0_ok _)) mixedO Try.func44 (by kernel_rfl) (c := bodyOf Try.f44) (by kernel_rfl) (loopFree_ok (by kernel_rfl))

theorem iRiver_cloned_told : SpecOk Try.prog 44 (toldO A_iRiver_cloned R_iRiver_cloned (fun x => iRiver_cloned x.1 x.2.1 x.2.2) (C22 44)) := toldO_ok (by kernel_rfl) iRiver_cloned_ok (rest_ok (C22_ok) _) iRiver_cloned_m

noncomputable def C23 : Tab := tab 44 (toldO A_iRiver_cloned R_iRiver_cloned (fun x => iRiver_cloned x.1 x.2.1 x.2.2) (C22 44)) C22
theorem C23_ok : TabOk Try.prog C23 := tab_ok (iRiver_cloned_told) (C22_ok)

def S_iCutWants_l5 : Shp := ⟨[.h, .h, .ref 0 0, .ref 1 0, .h, .h], [.cells [.nils, .nils, .nils] false, .cells [.slw 2 1, .slw 3 4, .slw 4 1] false, .arr [.i .i64] false, .arr [.i .i64, .i .i64, .i .i64, .i .i64] false, .arr [.i .i64] false], [.i .i64, .i .i64, .i .i64, .i .i64, .sl [.i .i64], .sl [.i .i64, .i .i64, .i .i64, .i .i64], .sl [.i .i64]]⟩
def X_iCutWants_l5 : List XShp := [(.exit 0, ⟨[.undef, .undef, .ref 0 0, .ref 1 0, .undef, .undef], [.cells [.nils, .nils, .nils] false, .cells [.slw 2 1, .slw 3 4, .slw 4 1] false, .arr [.i .i64] false, .arr [.i .i64, .i .i64, .i .i64, .i .i64] false, .arr [.i .i64] false], [.sl [.i .i64], .sl [.i .i64, .i .i64, .i .i64, .i .i64], .sl [.i .i64]]⟩)]

noncomputable def L_iCutWants_l5 : Loops := (⟨48, lvT [(5, [1, 2, 6, 8, 29, 30])], mdT [(5, .exit 0, [], [1, 2, 29, 30])], fun k vs bs => .bad⟩ : Loops)

theorem iCutWants_l5_e (y0 : Int) (y1 : Int) (y2 : Int) (y4 : List Int) (y5 : List (Int × Int × Int × Int)) (s : Int × List Int) : (loopStep (envT Try.prog C23 mtab0) L_iCutWants_l5 5 (loopC (bodyOf Try.f11) 5) (S_iCutWants_l5.enc (y0, y1, y2, s.1, y4, y5, s.2)).1 (S_iCutWants_l5.enc (y0, y1, y2, s.1, y4, y5, s.2)).2).to (stepD S_iCutWants_l5 X_iCutWants_l5) = (iCutWants_l5_t y0 y1 y2 y4 y5 s.1 s.2).map (Sum.map (fun s : Int × List Int => (show DR S_iCutWants_l5.hs from (y0, y1, y2, s.1, y4, y5, s.2))) id) := by kernel_rfl

theorem iCutWants_l5_r (x : DR S_iCutWants_l5.hs) : (iCutWants_l5 x.1 x.2.1 x.2.2.1 x.2.2.2.1 x.2.2.2.2.1 x.2.2.2.2.2.1 x.2.2.2.2.2.2 : Option (SumD (X_iCutWants_l5.map (·.2)))) = runL (meanS (envT Try.prog C23 mtab0) L_iCutWants_l5 5 (loopC (bodyOf Try.f11) 5) S_iCutWants_l5 X_iCutWants_l5) x := run_of (fun s : Int × List Int => (show DR S_iCutWants_l5.hs from (x.1, x.2.1, x.2.2.1, s.1, x.2.2.2.2.1, x.2.2.2.2.2.1, s.2))) (iCutWants_l5_e (x.1) (x.2.1) (x.2.2.1) (x.2.2.2.2.1) (x.2.2.2.2.2.1)) (x.2.2.2.1, x.2.2.2.2.2.2)

theorem iCutWants_l5_k (L : Loops) (hn : L_iCutWants_l5.n = L.n) (hlv : L_iCutWants_l5.lv 5 = L.lv 5) (hL : ∀ vs bs, L.loop 5 vs bs = toldL S_iCutWants_l5 X_iCutWants_l5 (fun x => iCutWants_l5 x.1 x.2.1 x.2.2.1 x.2.2.2.1 x.2.2.2.2.1 x.2.2.2.2.2.1 x.2.2.2.2.2.2) vs bs) : LOk Try.prog (envT Try.prog C23 mtab0) L 5 (loopC (bodyOf Try.f11) 5) := toldL_ok (L1 := L_iCutWants_l5) (envT_ok (C23_ok) (mtab0_ok _)) mixedO hn hlv (loopFree_ok (by kernel_rfl)) iCutWants_l5_r hL

def A_iCutWants : Shp := ⟨[.agg [.h, .h, .h], .h, .h], [], [.sl [.i .i64], .sl [.i .i64, .i .i64, .i .i64, .i .i64], .sl [.i .i64], .i .i64, .i .i64]⟩
def R_iCutWants : List XShp := [(.ret, ⟨[.tup [.agg [.nils, .nils, .nils], .lb false]], [], []⟩), (.ret, ⟨[.tup [.agg [.slw 0 1, .slw 1 4, .slw 2 1], .lb true]], [.arr [.i .i64] false, .arr [.i .i64, .i .i64, .i .i64, .i .i64] false, .arr [.i .i64] false], [.sl [.i .i64], .sl [.i .i64, .i .i64, .i .i64, .i .i64], .sl [.i .i64]]⟩)]

noncomputable def L_iCutWants : Loops := (⟨48, lvT [(5, [1, 2, 6, 8, 29, 30])], mdT [(5, .exit 0, [], [1, 2, 29, 30])], fun k vs bs => bif Nat.beq k 5 then toldL S_iCutWants_l5 X_iCutWants_l5 (fun x => iCutWants_l5 x.1 x.2.1 x.2.2.1 x.2.2.2.1 x.2.2.2.2.1 x.2.2.2.2.2.1 x.2.2.2.2.2.2) vs bs else .bad⟩ : Loops)

theorem iCutWants_e (x : DR A_iCutWants.hs) : (evFn (envT Try.prog C23 mtab0) L_iCutWants Try.f11 (A_iCutWants.enc x).1).to (fun q => decX R_iCutWants .ret [q.1] q.2) = iCutWants_t x.1 x.2.1 x.2.2.1 x.2.2.2.1 x.2.2.2.2 := by kernel_rfl

theorem iCutWants_m (x : DR A_iCutWants.hs) : meanF (envT Try.prog C23 mtab0) L_iCutWants Try.f11 A_iCutWants R_iCutWants x = (show Option (SumD (R_iCutWants.map (·.2))) from iCutWants x.1 x.2.1 x.2.2.1 x.2.2.2.1 x.2.2.2.2) := meanF_of (iCutWants_e x)

theorem iCutWants_ok : SpecOk Try.prog 11 (evFn (envT Try.prog C23 mtab0) L_iCutWants Try.f11) := fnL_ok (envT_ok (C23_ok) (mtab0_ok _)) mixedO Try.func11 (by kernel_rfl) (c := bodyOf Try.f11) (by kernel_rfl) (loopsL (l := [(5, loopC (bodyOf Try.f11) 5)]) (by kernel_rfl) (lk_cons (iCutWants_l5_k _ rfl rfl (fun _ _ => rfl)) lk_nil))

theorem iCutWants_told : SpecOk Try.prog 11 (toldO A_iCutWants R_iCutWants (fun x => iCutWants x.1 x.2.1 x.2.2.1 x.2.2.2.1 x.2.2.2.2) (C23 11)) := toldO_ok (by kernel_rfl) iCutWants_ok (rest_ok (C23_ok) _) iCutWants_m

noncomputable def C24 : Tab := tab 11 (toldO A_iCutWants R_iCutWants (fun x => iCutWants x.1 x.2.1 x.2.2.1 x.2.2.2.1 x.2.2.2.2) (C23 11)) C23
theorem C24_ok : TabOk Try.prog C24 := tab_ok (iCutWants_told) (C23_ok)

def S_weqInt64S_l4 : Shp := ⟨[.h, .h, .undef, .h], [], [.sl [.i .i64], .sl [.i .i64], .i .i64]⟩
def X_weqInt64S_l4 : List XShp := [(.ret, ⟨[.undef, .undef, .lb false, .undef], [], []⟩), (.exit 0, ⟨[.undef, .undef, .undef, .undef], [], []⟩)]

noncomputable def L_weqInt64S_l4 : Loops := (⟨26, lvT [(4, [0, 1, 4, 5])], mdT [(4, .normal, [], [4]), (4, .exit 0, [], [0, 1, 4, 5]), (4, .ret, [], [0, 1, 5])], fun k vs bs => .bad⟩ : Loops)

theorem weqInt64S_l4_e (y0 : List Int) (y1 : List Int) (s : Int) : (loopStep (envT Try.prog C24 mtab0) L_weqInt64S_l4 4 (loopC (bodyOf Try.f45) 4) (S_weqInt64S_l4.enc (y0, y1, s)).1 (S_weqInt64S_l4.enc (y0, y1, s)).2).to (stepD S_weqInt64S_l4 X_weqInt64S_l4) = (weqInt64S_l4_t y0 y1 s).map (Sum.map (fun s : Int => (show DR S_weqInt64S_l4.hs from (y0, y1, s))) id) := by kernel_rfl

theorem weqInt64S_l4_r (x : DR S_weqInt64S_l4.hs) : (weqInt64S_l4 x.1 x.2.1 x.2.2 : Option (SumD (X_weqInt64S_l4.map (·.2)))) = runL (meanS (envT Try.prog C24 mtab0) L_weqInt64S_l4 4 (loopC (bodyOf Try.f45) 4) S_weqInt64S_l4 X_weqInt64S_l4) x := run_of (fun s : Int => (show DR S_weqInt64S_l4.hs from (x.1, x.2.1, s))) (weqInt64S_l4_e (x.1) (x.2.1)) x.2.2

theorem weqInt64S_l4_k (L : Loops) (hn : L_weqInt64S_l4.n = L.n) (hlv : L_weqInt64S_l4.lv 4 = L.lv 4) (hL : ∀ vs bs, L.loop 4 vs bs = toldL S_weqInt64S_l4 X_weqInt64S_l4 (fun x => weqInt64S_l4 x.1 x.2.1 x.2.2) vs bs) : LOk Try.prog (envT Try.prog C24 mtab0) L 4 (loopC (bodyOf Try.f45) 4) := toldL_ok (L1 := L_weqInt64S_l4) (envT_ok (C24_ok) (mtab0_ok _)) mixedO hn hlv (loopFree_ok (by kernel_rfl)) weqInt64S_l4_r hL

def A_weqInt64S : Shp := ⟨[.h, .h], [], [.sl [.i .i64], .sl [.i .i64]]⟩
def R_weqInt64S : List XShp := [(.ret, ⟨[.h], [], [.b]⟩)]

noncomputable def L_weqInt64S : Loops := (⟨26, lvT [(4, [0, 1, 4, 5])], mdT [(4, .normal, [], [4]), (4, .exit 0, [], [0, 1, 4, 5]), (4, .ret, [], [0, 1, 5])], fun k vs bs => bif Nat.beq k 4 then toldL S_weqInt64S_l4 X_weqInt64S_l4 (fun x => weqInt64S_l4 x.1 x.2.1 x.2.2) vs bs else .bad⟩ : Loops)

theorem weqInt64S_e (x : DR A_weqInt64S.hs) : (evFn (envT Try.prog C24 mtab0) L_weqInt64S Try.f45 (A_weqInt64S.enc x).1).to (fun q => decX R_weqInt64S .ret [q.1] q.2) = weqInt64S_t x.1 x.2 := by kernel_rfl

theorem weqInt64S_m (x : DR A_weqInt64S.hs) : meanF (envT Try.prog C24 mtab0) L_weqInt64S Try.f45 A_weqInt64S R_weqInt64S x = (show Option (SumD (R_weqInt64S.map (·.2))) from weqInt64S x.1 x.2) := meanF_of (weqInt64S_e x)

theorem weqInt64S_ok : SpecOk Try.prog 45 (evFn (envT Try.prog C24 mtab0) L_weqInt64S Try.f45) := fnL_ok (envT_ok (C24_ok) (mtab0_ok _)) mixedO Try.func45 (by kernel_rfl) (c := bodyOf Try.f45) (by kernel_rfl) (loopsL (l := [(4, loopC (bodyOf Try.f45) 4)]) (by kernel_rfl) (lk_cons (weqInt64S_l4_k _ rfl rfl (fun _ _ => rfl)) lk_nil))

theorem weqInt64S_told : SpecOk Try.prog 45 (toldO A_weqInt64S R_weqInt64S (fun x => weqInt64S x.1 x.2) (C24 45)) := toldO_ok (by kernel_rfl) weqInt64S_ok (rest_ok (C24_ok) _) weqInt64S_m

noncomputable def C25 : Tab := tab 45 (toldO A_weqInt64S R_weqInt64S (fun x => weqInt64S x.1 x.2) (C24 45)) C24
theorem C25_ok : TabOk Try.prog C25 := tab_ok (weqInt64S_told) (C24_ok)

def A_weqDam : Shp := ⟨[.agg [.h, .h, .h, .h], .agg [.h, .h, .h, .h]], [], [.i .i64, .i .i64, .i .i64, .i .i64, .i .i64, .i .i64, .i .i64, .i .i64]⟩
def R_weqDam : List XShp := [(.ret, ⟨[.h], [], [.b]⟩)]

theorem weqDam_e (x : DR A_weqDam.hs) : (evFn (envT Try.prog C25 mtab0) noLoops Try.f72 (A_weqDam.enc x).1).to (fun q => decX R_weqDam .ret [q.1] q.2) = weqDam_t x.1 x.2.1 x.2.2.1 x.2.2.2.1 x.2.2.2.2.1 x.2.2.2.2.2.1 x.2.2.2.2.2.2.1 x.2.2.2.2.2.2.2 := by kernel_rfl

theorem weqDam_m (x : DR A_weqDam.hs) : meanF (envT Try.prog C25 mtab0) noLoops Try.f72 A_weqDam R_weqDam x = some (show SumD (R_weqDam.map (·.2)) from weqDam x.1 x.2.1 x.2.2.1 x.2.2.2.1 x.2.2.2.2.1 x.2.2.2.2.2.1 x.2.2.2.2.2.2.1 x.2.2.2.2.2.2.2) := @meanF_tot _ _ _ _ _ _ _ (weqDam_e x) (show Inhabited (Bool) from inferInstance) (by kernel_rfl)

theorem weqDam_ok : SpecOk Try.prog 72 (evFn (envT Try.prog C25 mtab0) noLoops Try.f72) := fnL_ok (envT_ok (C25_ok) (mtab0_ok _)) mixedO Try.func72 (by kernel_rfl) (c := bodyOf Try.f72) (by kernel_rfl) (loopFree_ok (by kernel_rfl))

theorem weqDam_told : SpecOk Try.prog 72 (toldT A_weqDam R_weqDam (fun x => weqDam x.1 x.2.1 x.2.2.1 x.2.2.2.1 x.2.2.2.2.1 x.2.2.2.2.2.1 x.2.2.2.2.2.2.1 x.2.2.2.2.2.2.2) (C25 72)) := toldT_ok (by kernel_rfl) weqDam_ok (rest_ok (C25_ok) _) weqDam_m

noncomputable def C26 : Tab := tab 72 (toldT A_weqDam R_weqDam (fun x => weqDam x.1 x.2.1 x.2.2.1 x.2.2.2.1 x.2.2.2.2.1 x.2.2.2.2.2.1 x.2.2.2.2.2.2.1 x.2.2.2.2.2.2.2) (C25 72)) C25
theorem C26_ok : TabOk Try.prog C26 := tab_ok (weqDam_told) (C25_ok)

def S_weqDamS_l4 : Shp := ⟨[.h, .h, .undef, .h], [], [.sl [.i .i64, .i .i64, .i .i64, .i .i64], .sl [.i .i64, .i .i64, .i .i64, .i .i64], .i .i64]⟩
def X_weqDamS_l4 : List XShp := [(.ret, ⟨[.undef, .undef, .lb false, .undef], [], []⟩), (.exit 0, ⟨[.undef, .undef, .undef, .undef], [], []⟩)]

noncomputable def L_weqDamS_l4 : Loops := (⟨27, lvT [(4, [0, 1, 4, 5])], mdT [(4, .normal, [], [4]), (4, .exit 0, [], [0, 1, 4, 5]), (4, .ret, [], [0, 1, 5])], fun k vs bs => .bad⟩ : Loops)

theorem weqDamS_l4_e (y0 : List (Int × Int × Int × Int)) (y1 : List (Int × Int × Int × Int)) (s : Int) : (loopStep (envT Try.prog C26 mtab0) L_weqDamS_l4 4 (loopC (bodyOf Try.f46) 4) (S_weqDamS_l4.enc (y0, y1, s)).1 (S_weqDamS_l4.enc (y0, y1, s)).2).to (stepD S_weqDamS_l4 X_weqDamS_l4) = (weqDamS_l4_t y0 y1 s).map (Sum.map (fun s : Int => (show DR S_weqDamS_l4.hs from (y0, y1, s))) id) := by kernel_rfl

theorem weqDamS_l4_r (x : DR S_weqDamS_l4.hs) : (weqDamS_l4 x.1 x.2.1 x.2.2 : Option (SumD (X_weqDamS_l4.map (·.2)))) = runL (meanS (envT Try.prog C26 mtab0) L_weqDamS_l4 4 (loopC (bodyOf Try.f46) 4) S_weqDamS_l4 X_weqDamS_l4) x := run_of (fun s : Int => (show DR S_weqDamS_l4.hs from (x.1, x.2.1, s))) (weqDamS_l4_e (x.1) (x.2.1)) x.2.2

theorem weqDamS_l4_k (L : Loops) (hn : L_weqDamS_l4.n = L.n) (hlv : L_weqDamS_l4.lv 4 = L.lv 4) (hL : ∀ vs bs, L.loop 4 vs bs = toldL S_weqDamS_l4 X_weqDamS_l4 (fun x => weqDamS_l4 x.1 x.2.1 x.2.2) vs bs) : LOk Try.prog (envT Try.prog C26 mtab0) L 4 (loopC (bodyOf Try.f46) 4) := toldL_ok (L1 := L_weqDamS_l4) (envT_ok (C26_ok) (mtab0_ok _)) mixedO hn hlv (loopFree_ok (by kernel_rfl)) weqDamS_l4_r hL

def A_weqDamS : Shp := ⟨[.h, .h], [], [.sl [.i .i64, .i .i64, .i .i64, .i .i64], .sl [.i .i64, .i .i64, .i .i64, .i .i64]]⟩
def R_weqDamS : List XShp := [(.ret, ⟨[.h], [], [.b]⟩)]

noncomputable def L_weqDamS : Loops := (⟨27, lvT [(4, [0, 1, 4, 5])], mdT [(4, .normal, [], [4]), (4, .exit 0, [], [0, 1, 4, 5]), (4, .ret, [], [0, 1, 5])], fun k vs bs => bif Nat.beq k 4 then toldL S_weqDamS_l4 X_weqDamS_l4 (fun x => weqDamS_l4 x.1 x.2.1 x.2.2) vs bs else .bad⟩ : Loops)

theorem weqDamS_e (x : DR A_weqDamS.hs) : (evFn (envT Try.prog C26 mtab0) L_weqDamS Try.f46 (A_weqDamS.enc x).1).to (fun q => decX R_weqDamS .ret [q.1] q.2) = weqDamS_t x.1 x.2 := by kernel_rfl

theorem weqDamS_m (x : DR A_weqDamS.hs) : meanF (envT Try.prog C26 mtab0) L_weqDamS Try.f46 A_weqDamS R_weqDamS x = (show Option (SumD (R_weqDamS.map (·.2))) from weqDamS x.1 x.2) := meanF_of (weqDamS_e x)

theorem weqDamS_ok : SpecOk Try.prog 46 (evFn (envT Try.prog C26 mtab0) L_weqDamS Try.f46) := fnL_ok (envT_ok (C26_ok) (mtab0_ok _)) mixedO Try.func46 (by kernel_rfl) (c := bodyOf Try.f46) (by kernel_rfl) (loopsL (l := [(4, loopC (bodyOf Try.f46) 4)]) (by kernel_rfl) (lk_cons (weqDamS_l4_k _ rfl rfl (fun _ _ => rfl)) lk_nil))

theorem weqDamS_told : SpecOk Try.prog 46 (toldO A_weqDamS R_weqDamS (fun x => weqDamS x.1 x.2) (C26 46)) := toldO_ok (by kernel_rfl) weqDamS_ok (rest_ok (C26_ok) _) weqDamS_m

noncomputable def C27 : Tab := tab 46 (toldO A_weqDamS R_weqDamS (fun x => weqDamS x.1 x.2) (C26 46)) C26
theorem C27_ok : TabOk Try.prog C27 := tab_ok (weqDamS_told) (C26_ok)

def A_weqRiver : Shp := ⟨[.agg [.h, .h, .h], .agg [.h, .h, .h]], [], [.sl [.i .i64], .sl [.i .i64, .i .i64, .i .i64, .i .i64], .sl [.i .i64], .sl [.i .i64], .sl [.i .i64, .i .i64, .i .i64, .i .i64], .sl [.i .i64]]⟩
def R_weqRiver : List XShp := [(.ret, ⟨[.h], [], [.b]⟩)]

theorem weqRiver_e (x : DR A_weqRiver.hs) : (evFn (envT Try.prog C27 mtab0) noLoops Try.f12 (A_weqRiver.enc x).1).to (fun q => decX R_weqRiver .ret [q.1] q.2) = weqRiver_t x.1 x.2.1 x.2.2.1 x.2.2.2.1 x.2.2.2.2.1 x.2.2.2.2.2 := by kernel_rfl

theorem weqRiver_m (x : DR A_weqRiver.hs) : meanF (envT Try.prog C27 mtab0) noLoops Try.f12 A_weqRiver R_weqRiver x = (show Option (SumD (R_weqRiver.map (·.2))) from weqRiver x.1 x.2.1 x.2.2.1 x.2.2.2.1 x.2.2.2.2.1 x.2.2.2.2.2) := meanF_of (weqRiver_e x)

theorem weqRiver_ok : SpecOk Try.prog 12 (evFn (envT Try.prog C27 mtab0) noLoops Try.f12) := fnL_ok (envT_ok (C27_ok) (mtab0_ok _)) mixedO Try.func12 (by kernel_rfl) (c := bodyOf Try.f12) (by kernel_rfl) (loopFree_ok (by kernel_rfl))

theorem weqRiver_told : SpecOk Try.prog 12 (toldO A_weqRiver R_weqRiver (fun x => weqRiver x.1 x.2.1 x.2.2.1 x.2.2.2.1 x.2.2.2.2.1 x.2.2.2.2.2) (C27 12)) := toldO_ok (by kernel_rfl) weqRiver_ok (rest_ok (C27_ok) _) weqRiver_m

noncomputable def C28 : Tab := tab 12 (toldO A_weqRiver R_weqRiver (fun x => weqRiver x.1 x.2.1 x.2.2.1 x.2.2.2.1 x.2.2.2.2.1 x.2.2.2.2.2) (C27 12)) C27
theorem C28_ok : TabOk Try.prog C28 := tab_ok (weqRiver_told) (C27_ok)

def S_wmarkInt64S_l2 : Shp := ⟨[.slw 0 1, .h, .h], [.arr [.i .i64] false], [.i .i64, .i .i64, .sl [.i .i64]]⟩
def X_wmarkInt64S_l2 : List XShp := [(.exit 0, ⟨[.undef, .h, .undef], [.arr [.i .i64] false], [.i .i64, .sl [.i .i64]]⟩)]

noncomputable def L_wmarkInt64S_l2 : Loops := (⟨19, lvT [(2, [0, 1, 5])], mdT [(2, .exit 0, [], [0, 5])], fun k vs bs => .bad⟩ : Loops)

theorem wmarkInt64S_l2_e (s : Int × Int × List Int) : (loopStep (envW Try.prog C28 mtab0 1) L_wmarkInt64S_l2 2 (loopC (bodyOf Try.f47) 2) (S_wmarkInt64S_l2.enc (s.1, s.2.1, s.2.2)).1 (S_wmarkInt64S_l2.enc (s.1, s.2.1, s.2.2)).2).to (stepD S_wmarkInt64S_l2 X_wmarkInt64S_l2) = (wmarkInt64S_l2_t  s.1 s.2.1 s.2.2).map (Sum.map (fun s : Int × Int × List Int => (show DR S_wmarkInt64S_l2.hs from (s.1, s.2.1, s.2.2))) id) := by kernel_rfl

theorem wmarkInt64S_l2_r (x : DR S_wmarkInt64S_l2.hs) : (wmarkInt64S_l2 x.1 x.2.1 x.2.2 : Option (SumD (X_wmarkInt64S_l2.map (·.2)))) = runL (meanS (envW Try.prog C28 mtab0 1) L_wmarkInt64S_l2 2 (loopC (bodyOf Try.f47) 2) S_wmarkInt64S_l2 X_wmarkInt64S_l2) x := run_of (fun s : Int × Int × List Int => (show DR S_wmarkInt64S_l2.hs from (s.1, s.2.1, s.2.2))) (wmarkInt64S_l2_e ) (x.1, x.2.1, x.2.2)

theorem wmarkInt64S_l2_k (L : Loops) (hn : L_wmarkInt64S_l2.n = L.n) (hlv : L_wmarkInt64S_l2.lv 2 = L.lv 2) (hL : ∀ vs bs, L.loop 2 vs bs = toldL S_wmarkInt64S_l2 X_wmarkInt64S_l2 (fun x => wmarkInt64S_l2 x.1 x.2.1 x.2.2) vs bs) : LOk Try.prog (envW Try.prog C28 mtab0 1) L 2 (loopC (bodyOf Try.f47) 2) := toldL_ok (L1 := L_wmarkInt64S_l2) (envW_ok (C28_ok) (mtab0_ok _)) mixedO hn hlv (loopFree_ok (by kernel_rfl)) wmarkInt64S_l2_r hL

def A_wmarkInt64S : Shp := ⟨[.slw 0 1, .h], [.arr [.i .i64] false], [.i .i64, .sl [.i .i64]]⟩
def R_wmarkInt64S : List XShp := [(.ret, ⟨[.h], [.arr [.i .i64] false], [.i .i64, .sl [.i .i64]]⟩)]

noncomputable def L_wmarkInt64S : Loops := (⟨19, lvT [(2, [0, 1, 5])], mdT [(2, .exit 0, [], [0, 5])], fun k vs bs => bif Nat.beq k 2 then toldL S_wmarkInt64S_l2 X_wmarkInt64S_l2 (fun x => wmarkInt64S_l2 x.1 x.2.1 x.2.2) vs bs else .bad⟩ : Loops)

theorem wmarkInt64S_e (x : DR A_wmarkInt64S.hs) : (evFnM (envW Try.prog C28 mtab0 1) L_wmarkInt64S Try.f47 (A_wmarkInt64S.enc x).1 ((A_wmarkInt64S.enc x).2.map (·.blk))).to (decM R_wmarkInt64S) = wmarkInt64S_t x.1 x.2 := by kernel_rfl

theorem wmarkInt64S_m (x : DR A_wmarkInt64S.hs) : meanM (envW Try.prog C28 mtab0 1) L_wmarkInt64S Try.f47 A_wmarkInt64S R_wmarkInt64S x = (show Option (SumD (R_wmarkInt64S.map (·.2))) from wmarkInt64S x.1 x.2) := meanM_of (wmarkInt64S_e x)

theorem wmarkInt64S_ok : MSpecOk Try.prog 47 (evFnM (envW Try.prog C28 mtab0 1) L_wmarkInt64S Try.f47) := fnM_ok (envW_ok (C28_ok) (mtab0_ok _)) rfl mixedO Try.func47 (by kernel_rfl) (c := bodyOf Try.f47) (by kernel_rfl) (loopsL (l := [(2, loopC (bodyOf Try.f47) 2)]) (by kernel_rfl) (lk_cons (wmarkInt64S_l2_k _ rfl rfl (fun _ _ => rfl)) lk_nil))

theorem wmarkInt64S_told : MSpecOk Try.prog 47 (toldMO A_wmarkInt64S R_wmarkInt64S (fun x => wmarkInt64S x.1 x.2) (mrest mtab0 47)) := toldMO_ok (by kernel_rfl) wmarkInt64S_ok (mrest_ok (mtab0_ok _) _) wmarkInt64S_m

noncomputable def M29 : MTab := mtab 47 (toldMO A_wmarkInt64S R_wmarkInt64S (fun x => wmarkInt64S x.1 x.2) (mrest mtab0 47)) mtab0
theorem M29_ok : MTabOk Try.prog M29 := mtab_ok (wmarkInt64S_told) (mtab0_ok _)

def S_wmarkDamS_l2 : Shp := ⟨[.slw 0 4, .h, .h], [.arr [.i .i64, .i .i64, .i .i64, .i .i64] false], [.i .i64, .i .i64, .sl [.i .i64, .i .i64, .i .i64, .i .i64]]⟩
def X_wmarkDamS_l2 : List XShp := [(.exit 0, ⟨[.undef, .h, .undef], [.arr [.i .i64, .i .i64, .i .i64, .i .i64] false], [.i .i64, .sl [.i .i64, .i .i64, .i .i64, .i .i64]]⟩)]

noncomputable def L_wmarkDamS_l2 : Loops := (⟨41, lvT [(2, [0, 1, 5])], mdT [(2, .exit 0, [], [0, 5])], fun k vs bs => .bad⟩ : Loops)

theorem wmarkDamS_l2_e (s : Int × Int × (List (Int × Int × Int × Int))) : (loopStep (envW Try.prog C28 M29 1) L_wmarkDamS_l2 2 (loopC (bodyOf Try.f48) 2) (S_wmarkDamS_l2.enc (s.1, s.2.1, s.2.2)).1 (S_wmarkDamS_l2.enc (s.1, s.2.1, s.2.2)).2).to (stepD S_wmarkDamS_l2 X_wmarkDamS_l2) = (wmarkDamS_l2_t  s.1 s.2.1 s.2.2).map (Sum.map (fun s : Int × Int × (List (Int × Int × Int × Int)) => (show DR S_wmarkDamS_l2.hs from (s.1, s.2.1, s.2.2))) id) := by kernel_rfl

theorem wmarkDamS_l2_r (x : DR S_wmarkDamS_l2.hs) : (wmarkDamS_l2 x.1 x.2.1 x.2.2 : Option (SumD (X_wmarkDamS_l2.map (·.2)))) = runL (meanS (envW Try.prog C28 M29 1) L_wmarkDamS_l2 2 (loopC (bodyOf Try.f48) 2) S_wmarkDamS_l2 X_wmarkDamS_l2) x := run_of (fun s : Int × Int × (List (Int × Int × Int × Int)) => (show DR S_wmarkDamS_l2.hs from (s.1, s.2.1, s.2.2))) (wmarkDamS_l2_e ) (x.1, x.2.1, x.2.2)

theorem wmarkDamS_l2_k (L : Loops) (hn : L_wmarkDamS_l2.n = L.n) (hlv : L_wmarkDamS_l2.lv 2 = L.lv 2) (hL : ∀ vs bs, L.loop 2 vs bs = toldL S_wmarkDamS_l2 X_wmarkDamS_l2 (fun x => wmarkDamS_l2 x.1 x.2.1 x.2.2) vs bs) : LOk Try.prog (envW Try.prog C28 M29 1) L 2 (loopC (bodyOf Try.f48) 2) := toldL_ok (L1 := L_wmarkDamS_l2) (envW_ok (C28_ok) (M29_ok)) mixedO hn hlv (loopFree_ok (by kernel_rfl)) wmarkDamS_l2_r hL

def A_wmarkDamS : Shp := ⟨[.slw 0 4, .h], [.arr [.i .i64, .i .i64, .i .i64, .i .i64] false], [.i .i64, .sl [.i .i64, .i .i64, .i .i64, .i .i64]]⟩
def R_wmarkDamS : List XShp := [(.ret, ⟨[.h], [.arr [.i .i64, .i .i64, .i .i64, .i .i64] false], [.i .i64, .sl [.i .i64, .i .i64, .i .i64, .i .i64]]⟩)]

noncomputable def L_wmarkDamS : Loops := (⟨41, lvT [(2, [0, 1, 5])], mdT [(2, .exit 0, [], [0, 5])], fun k vs bs => bif Nat.beq k 2 then toldL S_wmarkDamS_l2 X_wmarkDamS_l2 (fun x => wmarkDamS_l2 x.1 x.2.1 x.2.2) vs bs else .bad⟩ : Loops)

theorem wmarkDamS_e (x : DR A_wmarkDamS.hs) : (evFnM (envW Try.prog C28 M29 1) L_wmarkDamS Try.f48 (A_wmarkDamS.enc x).1 ((A_wmarkDamS.enc x).2.map (·.blk))).to (decM R_wmarkDamS) = wmarkDamS_t x.1 x.2 := by kernel_rfl

theorem wmarkDamS_m (x : DR A_wmarkDamS.hs) : meanM (envW Try.prog C28 M29 1) L_wmarkDamS Try.f48 A_wmarkDamS R_wmarkDamS x = (show Option (SumD (R_wmarkDamS.map (·.2))) from wmarkDamS x.1 x.2) := meanM_of (wmarkDamS_e x)

theorem wmarkDamS_ok : MSpecOk Try.prog 48 (evFnM (envW Try.prog C28 M29 1) L_wmarkDamS Try.f48) := fnM_ok (envW_ok (C28_ok) (M29_ok)) rfl mixedO Try.func48 (by kernel_rfl) (c := bodyOf Try.f48) (by kernel_rfl) (loopsL (l := [(2, loopC (bodyOf Try.f48) 2)]) (by kernel_rfl) (lk_cons (wmarkDamS_l2_k _ rfl rfl (fun _ _ => rfl)) lk_nil))

theorem wmarkDamS_told : MSpecOk Try.prog 48 (toldMO A_wmarkDamS R_wmarkDamS (fun x => wmarkDamS x.1 x.2) (mrest M29 48)) := toldMO_ok (by kernel_rfl) wmarkDamS_ok (mrest_ok (M29_ok) _) wmarkDamS_m

noncomputable def M30 : MTab := mtab 48 (toldMO A_wmarkDamS R_wmarkDamS (fun x => wmarkDamS x.1 x.2) (mrest M29 48)) M29
theorem M30_ok : MTabOk Try.prog M30 := mtab_ok (wmarkDamS_told) (M29_ok)

def A_wmarkRiver : Shp := ⟨[.agg [.slw 0 1, .slw 1 4, .slw 2 1], .h], [.arr [.i .i64] false, .arr [.i .i64, .i .i64, .i .i64, .i .i64] false, .arr [.i .i64] false], [.i .i64, .sl [.i .i64], .sl [.i .i64, .i .i64, .i .i64, .i .i64], .sl [.i .i64]]⟩
def R_wmarkRiver : List XShp := [(.ret, ⟨[.h], [.arr [.i .i64] false, .arr [.i .i64, .i .i64, .i .i64, .i .i64] false, .arr [.i .i64] false], [.i .i64, .sl [.i .i64], .sl [.i .i64, .i .i64, .i .i64, .i .i64], .sl [.i .i64]]⟩)]

theorem wmarkRiver_e (x : DR A_wmarkRiver.hs) : (evFnM (envW Try.prog C28 M30 3) noLoops Try.f13 (A_wmarkRiver.enc x).1 ((A_wmarkRiver.enc x).2.map (·.blk))).to (decM R_wmarkRiver) = wmarkRiver_t x.1 x.2.1 x.2.2.1 x.2.2.2 := by kernel_rfl

theorem wmarkRiver_m (x : DR A_wmarkRiver.hs) : meanM (envW Try.prog C28 M30 3) noLoops Try.f13 A_wmarkRiver R_wmarkRiver x = (show Option (SumD (R_wmarkRiver.map (·.2))) from wmarkRiver x.1 x.2.1 x.2.2.1 x.2.2.2) := meanM_of (wmarkRiver_e x)

theorem wmarkRiver_ok : MSpecOk Try.prog 13 (evFnM (envW Try.prog C28 M30 3) noLoops Try.f13) := fnM_ok (envW_ok (C28_ok) (M30_ok)) rfl mixedO Try.func13 (by kernel_rfl) (c := bodyOf Try.f13) (by kernel_rfl) (loopFree_ok (by kernel_rfl))

theorem wmarkRiver_told : MSpecOk Try.prog 13 (toldMO A_wmarkRiver R_wmarkRiver (fun x => wmarkRiver x.1 x.2.1 x.2.2.1 x.2.2.2) (mrest M30 13)) := toldMO_ok (by kernel_rfl) wmarkRiver_ok (mrest_ok (M30_ok) _) wmarkRiver_m

noncomputable def M31 : MTab := mtab 13 (toldMO A_wmarkRiver R_wmarkRiver (fun x => wmarkRiver x.1 x.2.1 x.2.2.1 x.2.2.2) (mrest M30 13)) M30
theorem M31_ok : MTabOk Try.prog M31 := mtab_ok (wmarkRiver_told) (M30_ok)

def S_wheldInt64S_l2 : Shp := ⟨[.h, .h, .undef, .h], [], [.sl [.i .i64], .i .i64, .i .i64]⟩
def X_wheldInt64S_l2 : List XShp := [(.ret, ⟨[.undef, .undef, .h, .undef], [], [.i .i64]⟩), (.exit 0, ⟨[.undef, .h, .undef, .undef], [], [.i .i64]⟩)]

noncomputable def L_wheldInt64S_l2 : Loops := (⟨21, lvT [(2, [0, 1, 4, 5])], mdT [(2, .normal, [], [4]), (2, .exit 0, [], [0, 4, 5]), (2, .ret, [], [0, 1, 5])], fun k vs bs => .bad⟩ : Loops)

theorem wheldInt64S_l2_e (y0 : List Int) (s : Int × Int) : (loopStep (envT Try.prog C28 M31) L_wheldInt64S_l2 2 (loopC (bodyOf Try.f49) 2) (S_wheldInt64S_l2.enc (y0, s.1, s.2)).1 (S_wheldInt64S_l2.enc (y0, s.1, s.2)).2).to (stepD S_wheldInt64S_l2 X_wheldInt64S_l2) = (wheldInt64S_l2_t y0 s.1 s.2).map (Sum.map (fun s : Int × Int => (show DR S_wheldInt64S_l2.hs from (y0, s.1, s.2))) id) := by kernel_rfl

theorem wheldInt64S_l2_r (x : DR S_wheldInt64S_l2.hs) : (wheldInt64S_l2 x.1 x.2.1 x.2.2 : Option (SumD (X_wheldInt64S_l2.map (·.2)))) = runL (meanS (envT Try.prog C28 M31) L_wheldInt64S_l2 2 (loopC (bodyOf Try.f49) 2) S_wheldInt64S_l2 X_wheldInt64S_l2) x := run_of (fun s : Int × Int => (show DR S_wheldInt64S_l2.hs from (x.1, s.1, s.2))) (wheldInt64S_l2_e (x.1)) (x.2.1, x.2.2)

theorem wheldInt64S_l2_k (L : Loops) (hn : L_wheldInt64S_l2.n = L.n) (hlv : L_wheldInt64S_l2.lv 2 = L.lv 2) (hL : ∀ vs bs, L.loop 2 vs bs = toldL S_wheldInt64S_l2 X_wheldInt64S_l2 (fun x => wheldInt64S_l2 x.1 x.2.1 x.2.2) vs bs) : LOk Try.prog (envT Try.prog C28 M31) L 2 (loopC (bodyOf Try.f49) 2) := toldL_ok (L1 := L_wheldInt64S_l2) (envT_ok (C28_ok) (M31_ok)) mixedO hn hlv (loopFree_ok (by kernel_rfl)) wheldInt64S_l2_r hL

def A_wheldInt64S : Shp := ⟨[.h, .h], [], [.sl [.i .i64], .i .i64]⟩
def R_wheldInt64S : List XShp := [(.ret, ⟨[.h], [], [.i .i64]⟩)]

noncomputable def L_wheldInt64S : Loops := (⟨21, lvT [(2, [0, 1, 4, 5])], mdT [(2, .normal, [], [4]), (2, .exit 0, [], [0, 4, 5]), (2, .ret, [], [0, 1, 5])], fun k vs bs => bif Nat.beq k 2 then toldL S_wheldInt64S_l2 X_wheldInt64S_l2 (fun x => wheldInt64S_l2 x.1 x.2.1 x.2.2) vs bs else .bad⟩ : Loops)

theorem wheldInt64S_e (x : DR A_wheldInt64S.hs) : (evFn (envT Try.prog C28 M31) L_wheldInt64S Try.f49 (A_wheldInt64S.enc x).1).to (fun q => decX R_wheldInt64S .ret [q.1] q.2) = wheldInt64S_t x.1 x.2 := by kernel_rfl

theorem wheldInt64S_m (x : DR A_wheldInt64S.hs) : meanF (envT Try.prog C28 M31) L_wheldInt64S Try.f49 A_wheldInt64S R_wheldInt64S x = (show Option (SumD (R_wheldInt64S.map (·.2))) from wheldInt64S x.1 x.2) := meanF_of (wheldInt64S_e x)

theorem wheldInt64S_ok : SpecOk Try.prog 49 (evFn (envT Try.prog C28 M31) L_wheldInt64S Try.f49) := fnL_ok (envT_ok (C28_ok) (M31_ok)) mixedO Try.func49 (by kernel_rfl) (c := bodyOf Try.f49) (by kernel_rfl) (loopsL (l := [(2, loopC (bodyOf Try.f49) 2)]) (by kernel_rfl) (lk_cons (wheldInt64S_l2_k _ rfl rfl (fun _ _ => rfl)) lk_nil))

theorem wheldInt64S_told : SpecOk Try.prog 49 (toldO A_wheldInt64S R_wheldInt64S (fun x => wheldInt64S x.1 x.2) (C28 49)) := toldO_ok (by kernel_rfl) wheldInt64S_ok (rest_ok (C28_ok) _) wheldInt64S_m

noncomputable def C32 : Tab := tab 49 (toldO A_wheldInt64S R_wheldInt64S (fun x => wheldInt64S x.1 x.2) (C28 49)) C28
theorem C32_ok : TabOk Try.prog C32 := tab_ok (wheldInt64S_told) (C28_ok)

def S_wheldDamS_l2 : Shp := ⟨[.h, .h, .undef, .h], [], [.sl [.i .i64, .i .i64, .i .i64, .i .i64], .i .i64, .i .i64]⟩
def X_wheldDamS_l2 : List XShp := [(.ret, ⟨[.undef, .undef, .h, .undef], [], [.i .i64]⟩), (.exit 0, ⟨[.undef, .h, .undef, .undef], [], [.i .i64]⟩)]

noncomputable def L_wheldDamS_l2 : Loops := (⟨49, lvT [(2, [0, 1, 4, 5])], mdT [(2, .normal, [], [4]), (2, .exit 0, [], [0, 4, 5]), (2, .ret, [], [0, 1, 5])], fun k vs bs => .bad⟩ : Loops)

theorem wheldDamS_l2_e (y0 : List (Int × Int × Int × Int)) (s : Int × Int) : (loopStep (envT Try.prog C32 M31) L_wheldDamS_l2 2 (loopC (bodyOf Try.f50) 2) (S_wheldDamS_l2.enc (y0, s.1, s.2)).1 (S_wheldDamS_l2.enc (y0, s.1, s.2)).2).to (stepD S_wheldDamS_l2 X_wheldDamS_l2) = (wheldDamS_l2_t y0 s.1 s.2).map (Sum.map (fun s : Int × Int => (show DR S_wheldDamS_l2.hs from (y0, s.1, s.2))) id) := by kernel_rfl

theorem wheldDamS_l2_r (x : DR S_wheldDamS_l2.hs) : (wheldDamS_l2 x.1 x.2.1 x.2.2 : Option (SumD (X_wheldDamS_l2.map (·.2)))) = runL (meanS (envT Try.prog C32 M31) L_wheldDamS_l2 2 (loopC (bodyOf Try.f50) 2) S_wheldDamS_l2 X_wheldDamS_l2) x := run_of (fun s : Int × Int => (show DR S_wheldDamS_l2.hs from (x.1, s.1, s.2))) (wheldDamS_l2_e (x.1)) (x.2.1, x.2.2)

theorem wheldDamS_l2_k (L : Loops) (hn : L_wheldDamS_l2.n = L.n) (hlv : L_wheldDamS_l2.lv 2 = L.lv 2) (hL : ∀ vs bs, L.loop 2 vs bs = toldL S_wheldDamS_l2 X_wheldDamS_l2 (fun x => wheldDamS_l2 x.1 x.2.1 x.2.2) vs bs) : LOk Try.prog (envT Try.prog C32 M31) L 2 (loopC (bodyOf Try.f50) 2) := toldL_ok (L1 := L_wheldDamS_l2) (envT_ok (C32_ok) (M31_ok)) mixedO hn hlv (loopFree_ok (by kernel_rfl)) wheldDamS_l2_r hL

def A_wheldDamS : Shp := ⟨[.h, .h], [], [.sl [.i .i64, .i .i64, .i .i64, .i .i64], .i .i64]⟩
def R_wheldDamS : List XShp := [(.ret, ⟨[.h], [], [.i .i64]⟩)]

noncomputable def L_wheldDamS : Loops := (⟨49, lvT [(2, [0, 1, 4, 5])], mdT [(2, .normal, [], [4]), (2, .exit 0, [], [0, 4, 5]), (2, .ret, [], [0, 1, 5])], fun k vs bs => bif Nat.beq k 2 then toldL S_wheldDamS_l2 X_wheldDamS_l2 (fun x => wheldDamS_l2 x.1 x.2.1 x.2.2) vs bs else .bad⟩ : Loops)

theorem wheldDamS_e (x : DR A_wheldDamS.hs) : (evFn (envT Try.prog C32 M31) L_wheldDamS Try.f50 (A_wheldDamS.enc x).1).to (fun q => decX R_wheldDamS .ret [q.1] q.2) = wheldDamS_t x.1 x.2 := by kernel_rfl

theorem wheldDamS_m (x : DR A_wheldDamS.hs) : meanF (envT Try.prog C32 M31) L_wheldDamS Try.f50 A_wheldDamS R_wheldDamS x = (show Option (SumD (R_wheldDamS.map (·.2))) from wheldDamS x.1 x.2) := meanF_of (wheldDamS_e x)

theorem wheldDamS_ok : SpecOk Try.prog 50 (evFn (envT Try.prog C32 M31) L_wheldDamS Try.f50) := fnL_ok (envT_ok (C32_ok) (M31_ok)) mixedO Try.func50 (by kernel_rfl) (c := bodyOf Try.f50) (by kernel_rfl) (loopsL (l := [(2, loopC (bodyOf Try.f50) 2)]) (by kernel_rfl) (lk_cons (wheldDamS_l2_k _ rfl rfl (fun _ _ => rfl)) lk_nil))

theorem wheldDamS_told : SpecOk Try.prog 50 (toldO A_wheldDamS R_wheldDamS (fun x => wheldDamS x.1 x.2) (C32 50)) := toldO_ok (by kernel_rfl) wheldDamS_ok (rest_ok (C32_ok) _) wheldDamS_m

noncomputable def C33 : Tab := tab 50 (toldO A_wheldDamS R_wheldDamS (fun x => wheldDamS x.1 x.2) (C32 50)) C32
theorem C33_ok : TabOk Try.prog C33 := tab_ok (wheldDamS_told) (C32_ok)

def A_wheldRiver : Shp := ⟨[.agg [.h, .h, .h], .h], [], [.sl [.i .i64], .sl [.i .i64, .i .i64, .i .i64, .i .i64], .sl [.i .i64], .i .i64]⟩
def R_wheldRiver : List XShp := [(.ret, ⟨[.h], [], [.i .i64]⟩)]

theorem wheldRiver_e (x : DR A_wheldRiver.hs) : (evFn (envT Try.prog C33 M31) noLoops Try.f14 (A_wheldRiver.enc x).1).to (fun q => decX R_wheldRiver .ret [q.1] q.2) = wheldRiver_t x.1 x.2.1 x.2.2.1 x.2.2.2 := by kernel_rfl

theorem wheldRiver_m (x : DR A_wheldRiver.hs) : meanF (envT Try.prog C33 M31) noLoops Try.f14 A_wheldRiver R_wheldRiver x = (show Option (SumD (R_wheldRiver.map (·.2))) from wheldRiver x.1 x.2.1 x.2.2.1 x.2.2.2) := meanF_of (wheldRiver_e x)

theorem wheldRiver_ok : SpecOk Try.prog 14 (evFn (envT Try.prog C33 M31) noLoops Try.f14) := fnL_ok (envT_ok (C33_ok) (M31_ok)) mixedO Try.func14 (by kernel_rfl) (c := bodyOf Try.f14) (by kernel_rfl) (loopFree_ok (by kernel_rfl))

theorem wheldRiver_told : SpecOk Try.prog 14 (toldO A_wheldRiver R_wheldRiver (fun x => wheldRiver x.1 x.2.1 x.2.2.1 x.2.2.2) (C33 14)) := toldO_ok (by kernel_rfl) wheldRiver_ok (rest_ok (C33_ok) _) wheldRiver_m

noncomputable def C34 : Tab := tab 14 (toldO A_wheldRiver R_wheldRiver (fun x => wheldRiver x.1 x.2.1 x.2.2.1 x.2.2.2) (C33 14)) C33
theorem C34_ok : TabOk Try.prog C34 := tab_ok (wheldRiver_told) (C33_ok)

def S_wmarkInt64S_nil_l2 : Shp := ⟨[.nils, .h, .h], [], [.i .i64, .i .i64]⟩
def X_wmarkInt64S_nil_l2 : List XShp := [(.exit 0, ⟨[.undef, .h, .undef], [], [.i .i64]⟩)]

noncomputable def L_wmarkInt64S_nil_l2 : Loops := (⟨19, lvT [(2, [0, 1, 5])], mdT [(2, .exit 0, [], [0, 5])], fun k vs bs => .bad⟩ : Loops)

theorem wmarkInt64S_nil_l2_e (y0 : Int) (y1 : Int) (s : Unit) : (loopStep (envW Try.prog C34 M31 0) L_wmarkInt64S_nil_l2 2 (loopC (bodyOf Try.f47) 2) (S_wmarkInt64S_nil_l2.enc (y0, y1)).1 (S_wmarkInt64S_nil_l2.enc (y0, y1)).2).to (stepD S_wmarkInt64S_nil_l2 X_wmarkInt64S_nil_l2) = (wmarkInt64S_nil_l2_t y0 y1 ).map (Sum.map (fun s : Unit => (show DR S_wmarkInt64S_nil_l2.hs from (y0, y1))) id) := by kernel_rfl

theorem wmarkInt64S_nil_l2_r (x : DR S_wmarkInt64S_nil_l2.hs) : (wmarkInt64S_nil_l2 x.1 x.2 : Option (SumD (X_wmarkInt64S_nil_l2.map (·.2)))) = runL (meanS (envW Try.prog C34 M31 0) L_wmarkInt64S_nil_l2 2 (loopC (bodyOf Try.f47) 2) S_wmarkInt64S_nil_l2 X_wmarkInt64S_nil_l2) x := run_of (fun s : Unit => (show DR S_wmarkInt64S_nil_l2.hs from (x.1, x.2))) (wmarkInt64S_nil_l2_e (x.1) (x.2)) ()

theorem wmarkInt64S_nil_l2_k (L : Loops) (hn : L_wmarkInt64S_nil_l2.n = L.n) (hlv : L_wmarkInt64S_nil_l2.lv 2 = L.lv 2) (hL : ∀ vs bs, L.loop 2 vs bs = toldL S_wmarkInt64S_nil_l2 X_wmarkInt64S_nil_l2 (fun x => wmarkInt64S_nil_l2 x.1 x.2) vs bs) : LOk Try.prog (envW Try.prog C34 M31 0) L 2 (loopC (bodyOf Try.f47) 2) := toldL_ok (L1 := L_wmarkInt64S_nil_l2) (envW_ok (C34_ok) (M31_ok)) mixedO hn hlv (loopFree_ok (by kernel_rfl)) wmarkInt64S_nil_l2_r hL

def A_wmarkInt64S_nil : Shp := ⟨[.nils, .h], [], [.i .i64]⟩
def R_wmarkInt64S_nil : List XShp := [(.ret, ⟨[.h], [], [.i .i64]⟩)]

noncomputable def L_wmarkInt64S_nil : Loops := (⟨19, lvT [(2, [0, 1, 5])], mdT [(2, .exit 0, [], [0, 5])], fun k vs bs => bif Nat.beq k 2 then toldL S_wmarkInt64S_nil_l2 X_wmarkInt64S_nil_l2 (fun x => wmarkInt64S_nil_l2 x.1 x.2) vs bs else .bad⟩ : Loops)

theorem wmarkInt64S_nil_e (x : DR A_wmarkInt64S_nil.hs) : (evFnM (envW Try.prog C34 M31 0) L_wmarkInt64S_nil Try.f47 (A_wmarkInt64S_nil.enc x).1 ((A_wmarkInt64S_nil.enc x).2.map (·.blk))).to (decM R_wmarkInt64S_nil) = wmarkInt64S_nil_t x := by kernel_rfl

theorem wmarkInt64S_nil_m (x : DR A_wmarkInt64S_nil.hs) : meanM (envW Try.prog C34 M31 0) L_wmarkInt64S_nil Try.f47 A_wmarkInt64S_nil R_wmarkInt64S_nil x = (show Option (SumD (R_wmarkInt64S_nil.map (·.2))) from wmarkInt64S_nil x) := meanM_of (wmarkInt64S_nil_e x)

theorem wmarkInt64S_nil_ok : MSpecOk Try.prog 47 (evFnM (envW Try.prog C34 M31 0) L_wmarkInt64S_nil Try.f47) := fnM_ok (envW_ok (C34_ok) (M31_ok)) rfl mixedO Try.func47 (by kernel_rfl) (c := bodyOf Try.f47) (by kernel_rfl) (loopsL (l := [(2, loopC (bodyOf Try.f47) 2)]) (by kernel_rfl) (lk_cons (wmarkInt64S_nil_l2_k _ rfl rfl (fun _ _ => rfl)) lk_nil))

theorem wmarkInt64S_nil_told : MSpecOk Try.prog 47 (toldMO A_wmarkInt64S_nil R_wmarkInt64S_nil (fun x => wmarkInt64S_nil x) (mrest M31 47)) := toldMO_ok (by kernel_rfl) wmarkInt64S_nil_ok (mrest_ok (M31_ok) _) wmarkInt64S_nil_m

noncomputable def M35 : MTab := mtab 47 (toldMO A_wmarkInt64S_nil R_wmarkInt64S_nil (fun x => wmarkInt64S_nil x) (mrest M31 47)) M31
theorem M35_ok : MTabOk Try.prog M35 := mtab_ok (wmarkInt64S_nil_told) (M31_ok)

def S_wmarkDamS_nil_l2 : Shp := ⟨[.nils, .h, .h], [], [.i .i64, .i .i64]⟩
def X_wmarkDamS_nil_l2 : List XShp := [(.exit 0, ⟨[.undef, .h, .undef], [], [.i .i64]⟩)]

noncomputable def L_wmarkDamS_nil_l2 : Loops := (⟨41, lvT [(2, [0, 1, 5])], mdT [(2, .exit 0, [], [0, 5])], fun k vs bs => .bad⟩ : Loops)

theorem wmarkDamS_nil_l2_e (y0 : Int) (y1 : Int) (s : Unit) : (loopStep (envW Try.prog C34 M35 0) L_wmarkDamS_nil_l2 2 (loopC (bodyOf Try.f48) 2) (S_wmarkDamS_nil_l2.enc (y0, y1)).1 (S_wmarkDamS_nil_l2.enc (y0, y1)).2).to (stepD S_wmarkDamS_nil_l2 X_wmarkDamS_nil_l2) = (wmarkDamS_nil_l2_t y0 y1 ).map (Sum.map (fun s : Unit => (show DR S_wmarkDamS_nil_l2.hs from (y0, y1))) id) := by kernel_rfl

theorem wmarkDamS_nil_l2_r (x : DR S_wmarkDamS_nil_l2.hs) : (wmarkDamS_nil_l2 x.1 x.2 : Option (SumD (X_wmarkDamS_nil_l2.map (·.2)))) = runL (meanS (envW Try.prog C34 M35 0) L_wmarkDamS_nil_l2 2 (loopC (bodyOf Try.f48) 2) S_wmarkDamS_nil_l2 X_wmarkDamS_nil_l2) x := run_of (fun s : Unit => (show DR S_wmarkDamS_nil_l2.hs from (x.1, x.2))) (wmarkDamS_nil_l2_e (x.1) (x.2)) ()

theorem wmarkDamS_nil_l2_k (L : Loops) (hn : L_wmarkDamS_nil_l2.n = L.n) (hlv : L_wmarkDamS_nil_l2.lv 2 = L.lv 2) (hL : ∀ vs bs, L.loop 2 vs bs = toldL S_wmarkDamS_nil_l2 X_wmarkDamS_nil_l2 (fun x => wmarkDamS_nil_l2 x.1 x.2) vs bs) : LOk Try.prog (envW Try.prog C34 M35 0) L 2 (loopC (bodyOf Try.f48) 2) := toldL_ok (L1 := L_wmarkDamS_nil_l2) (envW_ok (C34_ok) (M35_ok)) mixedO hn hlv (loopFree_ok (by kernel_rfl)) wmarkDamS_nil_l2_r hL

def A_wmarkDamS_nil : Shp := ⟨[.nils, .h], [], [.i .i64]⟩
def R_wmarkDamS_nil : List XShp := [(.ret, ⟨[.h], [], [.i .i64]⟩)]

noncomputable def L_wmarkDamS_nil : Loops := (⟨41, lvT [(2, [0, 1, 5])], mdT [(2, .exit 0, [], [0, 5])], fun k vs bs => bif Nat.beq k 2 then toldL S_wmarkDamS_nil_l2 X_wmarkDamS_nil_l2 (fun x => wmarkDamS_nil_l2 x.1 x.2) vs bs else .bad⟩ : Loops)

theorem wmarkDamS_nil_e (x : DR A_wmarkDamS_nil.hs) : (evFnM (envW Try.prog C34 M35 0) L_wmarkDamS_nil Try.f48 (A_wmarkDamS_nil.enc x).1 ((A_wmarkDamS_nil.enc x).2.map (·.blk))).to (decM R_wmarkDamS_nil) = wmarkDamS_nil_t x := by kernel_rfl

theorem wmarkDamS_nil_m (x : DR A_wmarkDamS_nil.hs) : meanM (envW Try.prog C34 M35 0) L_wmarkDamS_nil Try.f48 A_wmarkDamS_nil R_wmarkDamS_nil x = (show Option (SumD (R_wmarkDamS_nil.map (·.2))) from wmarkDamS_nil x) := meanM_of (wmarkDamS_nil_e x)

theorem wmarkDamS_nil_ok : MSpecOk Try.prog 48 (evFnM (envW Try.prog C34 M35 0) L_wmarkDamS_nil Try.f48) := fnM_ok (envW_ok (C34_ok) (M35_ok)) rfl mixedO Try.func48 (by kernel_rfl) (c := bodyOf Try.f48) (by kernel_rfl) (loopsL (l := [(2, loopC (bodyOf Try.f48) 2)]) (by kernel_rfl) (lk_cons (wmarkDamS_nil_l2_k _ rfl rfl (fun _ _ => rfl)) lk_nil))

theorem wmarkDamS_nil_told : MSpecOk Try.prog 48 (toldMO A_wmarkDamS_nil R_wmarkDamS_nil (fun x => wmarkDamS_nil x) (mrest M35 48)) := toldMO_ok (by kernel_rfl) wmarkDamS_nil_ok (mrest_ok (M35_ok) _) wmarkDamS_nil_m

noncomputable def M36 : MTab := mtab 48 (toldMO A_wmarkDamS_nil R_wmarkDamS_nil (fun x => wmarkDamS_nil x) (mrest M35 48)) M35
theorem M36_ok : MTabOk Try.prog M36 := mtab_ok (wmarkDamS_nil_told) (M35_ok)

def A_wmarkRiver_n1 : Shp := ⟨[.agg [.nils, .nils, .nils], .h], [], [.i .i64]⟩
def R_wmarkRiver_n1 : List XShp := [(.ret, ⟨[.h], [], [.i .i64]⟩)]

theorem wmarkRiver_n1_e (x : DR A_wmarkRiver_n1.hs) : (evFnM (envW Try.prog C34 M36 0) noLoops Try.f13 (A_wmarkRiver_n1.enc x).1 ((A_wmarkRiver_n1.enc x).2.map (·.blk))).to (decM R_wmarkRiver_n1) = wmarkRiver_n1_t x := by kernel_rfl

theorem wmarkRiver_n1_m (x : DR A_wmarkRiver_n1.hs) : meanM (envW Try.prog C34 M36 0) noLoops Try.f13 A_wmarkRiver_n1 R_wmarkRiver_n1 x = (show Option (SumD (R_wmarkRiver_n1.map (·.2))) from wmarkRiver_n1 x) := meanM_of (wmarkRiver_n1_e x)

theorem wmarkRiver_n1_ok : MSpecOk Try.prog 13 (evFnM (envW Try.prog C34 M36 0) noLoops Try.f13) := fnM_ok (envW_ok (C34_ok) (M36_ok)) rfl mixedO Try.func13 (by kernel_rfl) (c := bodyOf Try.f13) (by kernel_rfl) (loopFree_ok (by kernel_rfl))

theorem wmarkRiver_n1_told : MSpecOk Try.prog 13 (toldMO A_wmarkRiver_n1 R_wmarkRiver_n1 (fun x => wmarkRiver_n1 x) (mrest M36 13)) := toldMO_ok (by kernel_rfl) wmarkRiver_n1_ok (mrest_ok (M36_ok) _) wmarkRiver_n1_m

noncomputable def M37 : MTab := mtab 13 (toldMO A_wmarkRiver_n1 R_wmarkRiver_n1 (fun x => wmarkRiver_n1 x) (mrest M36 13)) M36
theorem M37_ok : MTabOk Try.prog M37 := mtab_ok (wmarkRiver_n1_told) (M36_ok)

def A_wFnExactCutWants : Shp := ⟨[.agg [.h, .h, .h], .h, .h], [], [.sl [.i .i64], .sl [.i .i64, .i .i64, .i .i64, .i .i64], .sl [.i .i64], .i .i64, .i .i64]⟩
def R_wFnExactCutWants : List XShp := [(.ret, ⟨[.h], [], [.b]⟩)]

theorem wFnExactCutWants_e (x : DR A_wFnExactCutWants.hs) : (evFn (envT Try.prog C34 M37) noLoops Try.f3 (A_wFnExactCutWants.enc x).1).to (fun q => decX R_wFnExactCutWants .ret [q.1] q.2) = wFnExactCutWants_t x.1 x.2.1 x.2.2.1 x.2.2.2.1 x.2.2.2.2 := by kernel_rfl

theorem wFnExactCutWants_m (x : DR A_wFnExactCutWants.hs) : meanF (envT Try.prog C34 M37) noLoops Try.f3 A_wFnExactCutWants R_wFnExactCutWants x = (show Option (SumD (R_wFnExactCutWants.map (·.2))) from wFnExactCutWants x.1 x.2.1 x.2.2.1 x.2.2.2.1 x.2.2.2.2) := meanF_of (wFnExactCutWants_e x)

theorem wFnExactCutWants_ok : SpecOk Try.prog 3 (evFn (envT Try.prog C34 M37) noLoops Try.f3) := fnL_ok (envT_ok (C34_ok) (M37_ok)) mixedO Try.func3 (by kernel_rfl) (c := bodyOf Try.f3) (by kernel_rfl) (loopFree_ok (by kernel_rfl))

theorem wFnExactCutWants_told : SpecOk Try.prog 3 (toldO A_wFnExactCutWants R_wFnExactCutWants (fun x => wFnExactCutWants x.1 x.2.1 x.2.2.1 x.2.2.2.1 x.2.2.2.2) (C34 3)) := toldO_ok (by kernel_rfl) wFnExactCutWants_ok (rest_ok (C34_ok) _) wFnExactCutWants_m

noncomputable def C38 : Tab := tab 3 (toldO A_wFnExactCutWants R_wFnExactCutWants (fun x => wFnExactCutWants x.1 x.2.1 x.2.2.1 x.2.2.2.1 x.2.2.2.2) (C34 3)) C34
theorem C38_ok : TabOk Try.prog C38 := tab_ok (wFnExactCutWants_told) (C34_ok)

theorem lawFnExactCutWants_ok : SpecOk Try.prog 3 (evFn (envT Try.prog C34 M37) noLoops Try.f3) := wFnExactCutWants_ok
theorem lawFnExactCutWants_says (x : DR A_wFnExactCutWants.hs) (h : (show Option (SumD (R_wFnExactCutWants.map (·.2))) from wFnExactCutWants x.1 x.2.1 x.2.2.1 x.2.2.2.1 x.2.2.2.2) = some true) : saysTrue (evFn (envT Try.prog C34 M37) noLoops Try.f3 (A_wFnExactCutWants.enc x).1) = true := law_says (x := x) ((wFnExactCutWants_m x).trans h)

theorem lawFnExactCutWants_true (x0 : List Int) (x1 : List (Int × Int × Int × Int)) (x2 : List Int) (x3 : Int) (x4 : Int) (h : wFnExactCutWants x0 x1 x2 x3 x4 = some true) : saysTrue (evFn (envT Try.prog C34 M37) noLoops Try.f3 [.agg [.ds [.i .i64] x0, .ds [.i .i64, .i .i64, .i .i64, .i .i64] x1, .ds [.i .i64] x2], .i .i64 x3, .i .i64 x4]) = true := (congrArg (fun l => saysTrue (evFn (envT Try.prog C34 M37) noLoops Try.f3 l)) (by kernel_rfl : ([.agg [.ds [.i .i64] x0, .ds [.i .i64, .i .i64, .i .i64, .i .i64] x1, .ds [.i .i64] x2], .i .i64 x3, .i .i64 x4] : List V) = (A_wFnExactCutWants.enc (x0, x1, x2, x3, x4)).1)).trans (lawFnExactCutWants_says (x0, x1, x2, x3, x4) h)

def A_sl06Has : Shp := ⟨[.dpt [.h, .h, .h] 0, .h], [], [.sl [.i .i64], .sl [.i .i64, .i .i64, .i .i64, .i .i64], .sl [.i .i64], .i .i64]⟩
def R_sl06Has : List XShp := [(.ret, ⟨[.h], [], [.b]⟩)]

theorem sl06Has_e (x : DR A_sl06Has.hs) : (evFn (envT Try.prog C38 M37) noLoops Try.f51 (A_sl06Has.enc x).1).to (fun q => decX R_sl06Has .ret [q.1] q.2) = sl06Has_t x.1 x.2.1 x.2.2.1 x.2.2.2 := by kernel_rfl

theorem sl06Has_m (x : DR A_sl06Has.hs) : meanF (envT Try.prog C38 M37) noLoops Try.f51 A_sl06Has R_sl06Has x = (show Option (SumD (R_sl06Has.map (·.2))) from sl06Has x.1 x.2.1 x.2.2.1 x.2.2.2) := meanF_of (sl06Has_e x)

theorem sl06Has_ok : SpecOk Try.prog 51 (evFn (envT Try.prog C38 M37) noLoops Try.f51) := fnL_ok (envT_ok (C38_ok) (M37_ok)) mixedO Try.func51 (by kernel_rfl) (c := bodyOf Try.f51) (by kernel_rfl) (loopFree_ok (by kernel_rfl))

theorem sl06Has_told : SpecOk Try.prog 51 (toldO A_sl06Has R_sl06Has (fun x => sl06Has x.1 x.2.1 x.2.2.1 x.2.2.2) (C38 51)) := toldO_ok (by kernel_rfl) sl06Has_ok (rest_ok (C38_ok) _) sl06Has_m

noncomputable def C39 : Tab := tab 51 (toldO A_sl06Has R_sl06Has (fun x => sl06Has x.1 x.2.1 x.2.2.1 x.2.2.2) (C38 51)) C38
theorem C39_ok : TabOk Try.prog C39 := tab_ok (sl06Has_told) (C38_ok)

def A_sl06Give : Shp := ⟨[.agg [.h, .h, .h]], [], [.sl [.i .i64], .sl [.i .i64, .i .i64, .i .i64, .i .i64], .sl [.i .i64]]⟩
def R_sl06Give : List XShp := [(.ret, ⟨[.tup [.agg [.h, .h, .h], .h]], [], [.sl [.i .i64], .sl [.i .i64, .i .i64, .i .i64, .i .i64], .sl [.i .i64], .b]⟩)]

theorem sl06Give_e (x : DR A_sl06Give.hs) : (evFn (envT Try.prog C39 M37) noLoops Try.f52 (A_sl06Give.enc x).1).to (fun q => decX R_sl06Give .ret [q.1] q.2) = sl06Give_t x.1 x.2.1 x.2.2 := by kernel_rfl

theorem sl06Give_m (x : DR A_sl06Give.hs) : meanF (envT Try.prog C39 M37) noLoops Try.f52 A_sl06Give R_sl06Give x = (show Option (SumD (R_sl06Give.map (·.2))) from sl06Give x.1 x.2.1 x.2.2) := meanF_of (sl06Give_e x)

theorem sl06Give_ok : SpecOk Try.prog 52 (evFn (envT Try.prog C39 M37) noLoops Try.f52) := fnL_ok (envT_ok (C39_ok) (M37_ok)) mixedO Try.func52 (by kernel_rfl) (c := bodyOf Try.f52) (by kernel_rfl) (loopFree_ok (by kernel_rfl))

theorem sl06Give_told : SpecOk Try.prog 52 (toldO A_sl06Give R_sl06Give (fun x => sl06Give x.1 x.2.1 x.2.2) (C39 52)) := toldO_ok (by kernel_rfl) sl06Give_ok (rest_ok (C39_ok) _) sl06Give_m

noncomputable def C40 : Tab := tab 52 (toldO A_sl06Give R_sl06Give (fun x => sl06Give x.1 x.2.1 x.2.2) (C39 52)) C39
theorem C40_ok : TabOk Try.prog C40 := tab_ok (sl06Give_told) (C39_ok)

def A_sSetDam : Shp := ⟨[.agg [.h, .h, .h], .h, .agg [.h, .h, .h, .h]], [], [.sl [.i .i64], .sl [.i .i64, .i .i64, .i .i64, .i .i64], .sl [.i .i64], .i .i64, .i .i64, .i .i64, .i .i64, .i .i64]⟩
def R_sSetDam : List XShp := [(.ret, ⟨[.tup [.agg [.h, .h, .h], .h]], [], [.sl [.i .i64], .sl [.i .i64, .i .i64, .i .i64, .i .i64], .sl [.i .i64], .b]⟩)]

theorem sSetDam_e (x : DR A_sSetDam.hs) : (evFn (envT Try.prog C40 M37) noLoops Try.f15 (A_sSetDam.enc x).1).to (fun q => decX R_sSetDam .ret [q.1] q.2) = sSetDam_t x.1 x.2.1 x.2.2.1 x.2.2.2.1 x.2.2.2.2.1 x.2.2.2.2.2.1 x.2.2.2.2.2.2.1 x.2.2.2.2.2.2.2 := by kernel_rfl

theorem sSetDam_m (x : DR A_sSetDam.hs) : meanF (envT Try.prog C40 M37) noLoops Try.f15 A_sSetDam R_sSetDam x = (show Option (SumD (R_sSetDam.map (·.2))) from sSetDam x.1 x.2.1 x.2.2.1 x.2.2.2.1 x.2.2.2.2.1 x.2.2.2.2.2.1 x.2.2.2.2.2.2.1 x.2.2.2.2.2.2.2) := meanF_of (sSetDam_e x)

theorem sSetDam_ok : SpecOk Try.prog 15 (evFn (envT Try.prog C40 M37) noLoops Try.f15) := fnL_ok (envT_ok (C40_ok) (M37_ok)) mixedO Try.func15 (by kernel_rfl) (c := bodyOf Try.f15) (by kernel_rfl) (loopFree_ok (by kernel_rfl))

theorem sSetDam_told : SpecOk Try.prog 15 (toldO A_sSetDam R_sSetDam (fun x => sSetDam x.1 x.2.1 x.2.2.1 x.2.2.2.1 x.2.2.2.2.1 x.2.2.2.2.2.1 x.2.2.2.2.2.2.1 x.2.2.2.2.2.2.2) (C40 15)) := toldO_ok (by kernel_rfl) sSetDam_ok (rest_ok (C40_ok) _) sSetDam_m

noncomputable def C41 : Tab := tab 15 (toldO A_sSetDam R_sSetDam (fun x => sSetDam x.1 x.2.1 x.2.2.1 x.2.2.2.1 x.2.2.2.2.1 x.2.2.2.2.2.1 x.2.2.2.2.2.2.1 x.2.2.2.2.2.2.2) (C40 15)) C40
theorem C41_ok : TabOk Try.prog C41 := tab_ok (sSetDam_told) (C40_ok)

def A_iRiver_isNode : Shp := ⟨[.agg [.h, .h, .h], .h], [], [.sl [.i .i64], .sl [.i .i64, .i .i64, .i .i64, .i .i64], .sl [.i .i64], .i .i64]⟩
def R_iRiver_isNode : List XShp := [(.ret, ⟨[.h], [], [.b]⟩)]

theorem iRiver_isNode_e (x : DR A_iRiver_isNode.hs) : (evFn (envT Try.prog C41 M37) noLoops Try.f53 (A_iRiver_isNode.enc x).1).to (fun q => decX R_iRiver_isNode .ret [q.1] q.2) = iRiver_isNode_t x.1 x.2.1 x.2.2.1 x.2.2.2 := by kernel_rfl

theorem iRiver_isNode_m (x : DR A_iRiver_isNode.hs) : meanF (envT Try.prog C41 M37) noLoops Try.f53 A_iRiver_isNode R_iRiver_isNode x = (show Option (SumD (R_iRiver_isNode.map (·.2))) from iRiver_isNode x.1 x.2.1 x.2.2.1 x.2.2.2) := meanF_of (iRiver_isNode_e x)

theorem iRiver_isNode_ok : SpecOk Try.prog 53 (evFn (envT Try.prog C41 M37) noLoops Try.f53) := fnL_ok (envT_ok (C41_ok) (M37_ok)) mixedO Try.func53 (by kernel_rfl) (c := bodyOf Try.f53) (by kernel_rfl) (loopFree_ok (by kernel_rfl))

theorem iRiver_isNode_told : SpecOk Try.prog 53 (toldO A_iRiver_isNode R_iRiver_isNode (fun x => iRiver_isNode x.1 x.2.1 x.2.2.1 x.2.2.2) (C41 53)) := toldO_ok (by kernel_rfl) iRiver_isNode_ok (rest_ok (C41_ok) _) iRiver_isNode_m

noncomputable def C42 : Tab := tab 53 (toldO A_iRiver_isNode R_iRiver_isNode (fun x => iRiver_isNode x.1 x.2.1 x.2.2.1 x.2.2.2) (C41 53)) C41
theorem C42_ok : TabOk Try.prog C42 := tab_ok (iRiver_isNode_told) (C41_ok)

def A_itoldRiver : Shp := ⟨[.agg [.slw 0 1, .slw 1 4, .slw 2 1]], [.arr [.i .i64] false, .arr [.i .i64, .i .i64, .i .i64, .i .i64] false, .arr [.i .i64] false], [.sl [.i .i64], .sl [.i .i64, .i .i64, .i .i64, .i .i64], .sl [.i .i64]]⟩
def R_itoldRiver : List XShp := [(.ret, ⟨[.tup [.agg [.nils, .nils, .nils], .lb false]], [.arr [.i .i64] false, .arr [.i .i64, .i .i64, .i .i64, .i .i64] false, .arr [.i .i64] false], [.sl [.i .i64], .sl [.i .i64, .i .i64, .i .i64, .i .i64], .sl [.i .i64]]⟩), (.ret, ⟨[.tup [.agg [.slw 0 1, .slw 1 4, .slw 2 1], .lb true]], [.arr [.i .i64] false, .arr [.i .i64, .i .i64, .i .i64, .i .i64] false, .arr [.i .i64] false], [.sl [.i .i64], .sl [.i .i64, .i .i64, .i .i64, .i .i64], .sl [.i .i64]]⟩)]

theorem itoldRiver_e (x : DR A_itoldRiver.hs) : (evFnM (envW Try.prog C42 M37 3) noLoops Try.f54 (A_itoldRiver.enc x).1 ((A_itoldRiver.enc x).2.map (·.blk))).to (decM R_itoldRiver) = itoldRiver_t x.1 x.2.1 x.2.2 := by kernel_rfl

theorem itoldRiver_m (x : DR A_itoldRiver.hs) : meanM (envW Try.prog C42 M37 3) noLoops Try.f54 A_itoldRiver R_itoldRiver x = (show Option (SumD (R_itoldRiver.map (·.2))) from itoldRiver x.1 x.2.1 x.2.2) := meanM_of (itoldRiver_e x)

theorem itoldRiver_ok : MSpecOk Try.prog 54 (evFnM (envW Try.prog C42 M37 3) noLoops Try.f54) := fnM_ok (envW_ok (C42_ok) (M37_ok)) rfl mixedO Try.func54 (by kernel_rfl) (c := bodyOf Try.f54) (by kernel_rfl) (loopFree_ok (by kernel_rfl))

theorem itoldRiver_told : MSpecOk Try.prog 54 (toldMO A_itoldRiver R_itoldRiver (fun x => itoldRiver x.1 x.2.1 x.2.2) (mrest M37 54)) := toldMO_ok (by kernel_rfl) itoldRiver_ok (mrest_ok (M37_ok) _) itoldRiver_m

noncomputable def M43 : MTab := mtab 54 (toldMO A_itoldRiver R_itoldRiver (fun x => itoldRiver x.1 x.2.1 x.2.2) (mrest M37 54)) M37
theorem M43_ok : MTabOk Try.prog M43 := mtab_ok (itoldRiver_told) (M37_ok)

def A_iSetDam : Shp := ⟨[.agg [.h, .h, .h], .h, .agg [.h, .h, .h, .h]], [], [.sl [.i .i64], .sl [.i .i64, .i .i64, .i .i64, .i .i64], .sl [.i .i64], .i .i64, .i .i64, .i .i64, .i .i64, .i .i64]⟩
def R_iSetDam : List XShp := [(.ret, ⟨[.tup [.agg [.nils, .nils, .nils], .lb false]], [], []⟩), (.ret, ⟨[.tup [.agg [.slw 0 1, .slw 1 4, .slw 2 1], .lb true]], [.arr [.i .i64] false, .arr [.i .i64, .i .i64, .i .i64, .i .i64] false, .arr [.i .i64] false], [.sl [.i .i64], .sl [.i .i64, .i .i64, .i .i64, .i .i64], .sl [.i .i64]]⟩)]

theorem iSetDam_e (x : DR A_iSetDam.hs) : (evFn (envT Try.prog C42 M43) noLoops Try.f17 (A_iSetDam.enc x).1).to (fun q => decX R_iSetDam .ret [q.1] q.2) = iSetDam_t x.1 x.2.1 x.2.2.1 x.2.2.2.1 x.2.2.2.2.1 x.2.2.2.2.2.1 x.2.2.2.2.2.2.1 x.2.2.2.2.2.2.2 := by kernel_rfl

theorem iSetDam_m (x : DR A_iSetDam.hs) : meanF (envT Try.prog C42 M43) noLoops Try.f17 A_iSetDam R_iSetDam x = (show Option (SumD (R_iSetDam.map (·.2))) from iSetDam x.1 x.2.1 x.2.2.1 x.2.2.2.1 x.2.2.2.2.1 x.2.2.2.2.2.1 x.2.2.2.2.2.2.1 x.2.2.2.2.2.2.2) := meanF_of (iSetDam_e x)

theorem iSetDam_ok : SpecOk Try.prog 17 (evFn (envT Try.prog C42 M43) noLoops Try.f17) := fnL_ok (envT_ok (C42_ok) (M43_ok)) mixedO Try.func17 (by kernel_rfl) (c := bodyOf Try.f17) (by kernel_rfl) (loopFree_ok (by kernel_rfl))

theorem iSetDam_told : SpecOk Try.prog 17 (toldO A_iSetDam R_iSetDam (fun x => iSetDam x.1 x.2.1 x.2.2.1 x.2.2.2.1 x.2.2.2.2.1 x.2.2.2.2.2.1 x.2.2.2.2.2.2.1 x.2.2.2.2.2.2.2) (C42 17)) := toldO_ok (by kernel_rfl) iSetDam_ok (rest_ok (C42_ok) _) iSetDam_m

noncomputable def C44 : Tab := tab 17 (toldO A_iSetDam R_iSetDam (fun x => iSetDam x.1 x.2.1 x.2.2.1 x.2.2.2.1 x.2.2.2.2.1 x.2.2.2.2.2.1 x.2.2.2.2.2.2.1 x.2.2.2.2.2.2.2) (C42 17)) C42
theorem C44_ok : TabOk Try.prog C44 := tab_ok (iSetDam_told) (C42_ok)

def A_wFnExactSetDam : Shp := ⟨[.agg [.h, .h, .h], .h, .agg [.h, .h, .h, .h]], [], [.sl [.i .i64], .sl [.i .i64, .i .i64, .i .i64, .i .i64], .sl [.i .i64], .i .i64, .i .i64, .i .i64, .i .i64, .i .i64]⟩
def R_wFnExactSetDam : List XShp := [(.ret, ⟨[.h], [], [.b]⟩)]

theorem wFnExactSetDam_e (x : DR A_wFnExactSetDam.hs) : (evFn (envT Try.prog C44 M43) noLoops Try.f4 (A_wFnExactSetDam.enc x).1).to (fun q => decX R_wFnExactSetDam .ret [q.1] q.2) = wFnExactSetDam_t x.1 x.2.1 x.2.2.1 x.2.2.2.1 x.2.2.2.2.1 x.2.2.2.2.2.1 x.2.2.2.2.2.2.1 x.2.2.2.2.2.2.2 := by kernel_rfl

theorem wFnExactSetDam_m (x : DR A_wFnExactSetDam.hs) : meanF (envT Try.prog C44 M43) noLoops Try.f4 A_wFnExactSetDam R_wFnExactSetDam x = (show Option (SumD (R_wFnExactSetDam.map (·.2))) from wFnExactSetDam x.1 x.2.1 x.2.2.1 x.2.2.2.1 x.2.2.2.2.1 x.2.2.2.2.2.1 x.2.2.2.2.2.2.1 x.2.2.2.2.2.2.2) := meanF_of (wFnExactSetDam_e x)

theorem wFnExactSetDam_ok : SpecOk Try.prog 4 (evFn (envT Try.prog C44 M43) noLoops Try.f4) := fnL_ok (envT_ok (C44_ok) (M43_ok)) mixedO Try.func4 (by kernel_rfl) (c := bodyOf Try.f4) (by kernel_rfl) (loopFree_ok (by kernel_rfl))

theorem wFnExactSetDam_told : SpecOk Try.prog 4 (toldO A_wFnExactSetDam R_wFnExactSetDam (fun x => wFnExactSetDam x.1 x.2.1 x.2.2.1 x.2.2.2.1 x.2.2.2.2.1 x.2.2.2.2.2.1 x.2.2.2.2.2.2.1 x.2.2.2.2.2.2.2) (C44 4)) := toldO_ok (by kernel_rfl) wFnExactSetDam_ok (rest_ok (C44_ok) _) wFnExactSetDam_m

noncomputable def C45 : Tab := tab 4 (toldO A_wFnExactSetDam R_wFnExactSetDam (fun x => wFnExactSetDam x.1 x.2.1 x.2.2.1 x.2.2.2.1 x.2.2.2.2.1 x.2.2.2.2.2.1 x.2.2.2.2.2.2.1 x.2.2.2.2.2.2.2) (C44 4)) C44
theorem C45_ok : TabOk Try.prog C45 := tab_ok (wFnExactSetDam_told) (C44_ok)

theorem lawFnExactSetDam_ok : SpecOk Try.prog 4 (evFn (envT Try.prog C44 M43) noLoops Try.f4) := wFnExactSetDam_ok
theorem lawFnExactSetDam_says (x : DR A_wFnExactSetDam.hs) (h : (show Option (SumD (R_wFnExactSetDam.map (·.2))) from wFnExactSetDam x.1 x.2.1 x.2.2.1 x.2.2.2.1 x.2.2.2.2.1 x.2.2.2.2.2.1 x.2.2.2.2.2.2.1 x.2.2.2.2.2.2.2) = some true) : saysTrue (evFn (envT Try.prog C44 M43) noLoops Try.f4 (A_wFnExactSetDam.enc x).1) = true := law_says (x := x) ((wFnExactSetDam_m x).trans h)

theorem lawFnExactSetDam_true (x0 : List Int) (x1 : List (Int × Int × Int × Int)) (x2 : List Int) (x3 : Int) (x4 : Int) (x5 : Int) (x6 : Int) (x7 : Int) (h : wFnExactSetDam x0 x1 x2 x3 x4 x5 x6 x7 = some true) : saysTrue (evFn (envT Try.prog C44 M43) noLoops Try.f4 [.agg [.ds [.i .i64] x0, .ds [.i .i64, .i .i64, .i .i64, .i .i64] x1, .ds [.i .i64] x2], .i .i64 x3, .agg [.i .i64 x4, .i .i64 x5, .i .i64 x6, .i .i64 x7]]) = true := (congrArg (fun l => saysTrue (evFn (envT Try.prog C44 M43) noLoops Try.f4 l)) (by kernel_rfl : ([.agg [.ds [.i .i64] x0, .ds [.i .i64, .i .i64, .i .i64, .i .i64] x1, .ds [.i .i64] x2], .i .i64 x3, .agg [.i .i64 x4, .i .i64 x5, .i .i64 x6, .i .i64 x7]] : List V) = (A_wFnExactSetDam.enc (x0, x1, x2, x3, x4, x5, x6, x7)).1)).trans (lawFnExactSetDam_says (x0, x1, x2, x3, x4, x5, x6, x7) h)
end Go.Proofs.Ytcjekndobhkmbaa
