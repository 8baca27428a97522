/- Functions, as plain functions. What the program comes to. -/
import Derived.Test.YtjohnpldkanjmaaGb2d
import Derived.Test.YtjohnpldkanjmaaGb1c
import Derived.KernelRfl
set_option linter.unusedVariables false
set_option linter.unusedSimpArgs false
set_option linter.constructorNameAsVariable false
namespace Go.Proofs.Ytjohnpldkanjmaa
open Go.RowKit
set_option maxRecDepth 100000
def S_sDepthsIn_l9 : Shp := ⟨[.ref 0 0, .slw 1 1, .h, .h, .h], [.cells [.h, .h, .h] false, .arr [.i .i64] false], [.i .i64, .i .i64, .i .i64, .sl [.i .i64], .sl [.i .i64, .i .i64, .i .i64, .i .i64], .sl [.i .i64], .sl [.i .i64]]⟩
def X_sDepthsIn_l9 : List XShp := [(.exit 2, ⟨[.ref 0 0, .slw 1 1, .h, .h, .undef], [.cells [.h, .h, .h] false, .arr [.i .i64] false], [.i .i64, .i .i64, .sl [.i .i64], .sl [.i .i64, .i .i64, .i .i64, .i .i64], .sl [.i .i64], .sl [.i .i64]]⟩)]

noncomputable def L_sDepthsIn_l9 : Loops := (⟨37, lvT [(9, [1, 4, 5, 6, 7]), (5, [1, 4, 5])], mdT [(9, .exit 2, [], [7]), (5, .exit 0, [], [1, 5])], fun k vs bs => .bad⟩ : Loops)

theorem sDepthsIn_l9_e (y0 : Int) (y3 : List Int) (y4 : List (Int × Int × Int × Int)) (y5 : List Int) (y6 : List Int) (s : Int × Int) : (loopStep (envT Try.prog C44 M43) L_sDepthsIn_l9 9 (loopC (loopC (bodyOf Try.f46) 5) 9) (S_sDepthsIn_l9.enc (y0, s.1, s.2, y3, y4, y5, y6)).1 (S_sDepthsIn_l9.enc (y0, s.1, s.2, y3, y4, y5, y6)).2).to (stepD S_sDepthsIn_l9 X_sDepthsIn_l9) = (sDepthsIn_l9_t y0 y3 y4 y5 y6 s.1 s.2).map (Sum.map (fun s : Int × Int => (show DR S_sDepthsIn_l9.hs from (y0, s.1, s.2, y3, y4, y5, y6))) id) := by kernel_rfl

theorem sDepthsIn_l9_r (x : DR S_sDepthsIn_l9.hs) : (sDepthsIn_l9 x.1 x.2.1 x.2.2.1 x.2.2.2.1 x.2.2.2.2.1 x.2.2.2.2.2.1 x.2.2.2.2.2.2 : Option (SumD (X_sDepthsIn_l9.map (·.2)))) = runL (meanS (envT Try.prog C44 M43) L_sDepthsIn_l9 9 (loopC (loopC (bodyOf Try.f46) 5) 9) S_sDepthsIn_l9 X_sDepthsIn_l9) x := run_of (fun s : Int × Int => (show DR S_sDepthsIn_l9.hs from (x.1, s.1, s.2, x.2.2.2.1, x.2.2.2.2.1, x.2.2.2.2.2.1, x.2.2.2.2.2.2))) (sDepthsIn_l9_e (x.1) (x.2.2.2.1) (x.2.2.2.2.1) (x.2.2.2.2.2.1) (x.2.2.2.2.2.2)) (x.2.1, x.2.2.1)

theorem sDepthsIn_l9_k (L : Loops) (hn : L_sDepthsIn_l9.n = L.n) (hlv : L_sDepthsIn_l9.lv 9 = L.lv 9) (hL : ∀ vs bs, L.loop 9 vs bs = toldL S_sDepthsIn_l9 X_sDepthsIn_l9 (fun x => sDepthsIn_l9 x.1 x.2.1 x.2.2.1 x.2.2.2.1 x.2.2.2.2.1 x.2.2.2.2.2.1 x.2.2.2.2.2.2) vs bs) : LOk Try.prog (envT Try.prog C44 M43) L 9 (loopC (loopC (bodyOf Try.f46) 5) 9) := toldL_ok (L1 := L_sDepthsIn_l9) (envT_ok (C44_ok) (M43_ok)) mixedO hn hlv (loopFree_ok (by kernel_rfl)) sDepthsIn_l9_r hL

def S_sDepthsIn_l5 : Shp := ⟨[.ref 0 0, .slw 1 1, .h], [.cells [.h, .h, .h] false, .arr [.i .i64] false], [.i .i64, .sl [.i .i64], .sl [.i .i64, .i .i64, .i .i64, .i .i64], .sl [.i .i64], .sl [.i .i64]]⟩
def X_sDepthsIn_l5 : List XShp := [(.exit 0, ⟨[.undef, .slw 0 1, .undef], [.arr [.i .i64] false], [.sl [.i .i64]]⟩)]

noncomputable def L_sDepthsIn_l5 : Loops := (⟨37, lvT [(9, [1, 4, 5, 6, 7]), (5, [1, 4, 5])], mdT [(9, .exit 2, [], [7]), (5, .exit 0, [], [1, 5])], fun k vs bs => bif Nat.beq k 9 then toldL S_sDepthsIn_l9 X_sDepthsIn_l9 (fun x => sDepthsIn_l9 x.1 x.2.1 x.2.2.1 x.2.2.2.1 x.2.2.2.2.1 x.2.2.2.2.2.1 x.2.2.2.2.2.2) vs bs else .bad⟩ : Loops)

theorem sDepthsIn_l5_e (s : Int × List Int × (List (Int × Int × Int × Int)) × List Int × List Int) : (loopStep (envT Try.prog C44 M43) L_sDepthsIn_l5 5 (loopC (bodyOf Try.f46) 5) (S_sDepthsIn_l5.enc (s.1, s.2.1, s.2.2.1, s.2.2.2.1, s.2.2.2.2)).1 (S_sDepthsIn_l5.enc (s.1, s.2.1, s.2.2.1, s.2.2.2.1, s.2.2.2.2)).2).to (stepD S_sDepthsIn_l5 X_sDepthsIn_l5) = (sDepthsIn_l5_t  s.1 s.2.1 s.2.2.1 s.2.2.2.1 s.2.2.2.2).map (Sum.map (fun s : Int × List Int × (List (Int × Int × Int × Int)) × List Int × List Int => (show DR S_sDepthsIn_l5.hs from (s.1, s.2.1, s.2.2.1, s.2.2.2.1, s.2.2.2.2))) id) := by kernel_rfl

theorem sDepthsIn_l5_r (x : DR S_sDepthsIn_l5.hs) : (sDepthsIn_l5 x.1 x.2.1 x.2.2.1 x.2.2.2.1 x.2.2.2.2 : Option (SumD (X_sDepthsIn_l5.map (·.2)))) = runL (meanS (envT Try.prog C44 M43) L_sDepthsIn_l5 5 (loopC (bodyOf Try.f46) 5) S_sDepthsIn_l5 X_sDepthsIn_l5) x := run_of (fun s : Int × List Int × (List (Int × Int × Int × Int)) × List Int × List Int => (show DR S_sDepthsIn_l5.hs from (s.1, s.2.1, s.2.2.1, s.2.2.2.1, s.2.2.2.2))) (sDepthsIn_l5_e ) (x.1, x.2.1, x.2.2.1, x.2.2.2.1, x.2.2.2.2)

theorem sDepthsIn_l5_k (L : Loops) (hn : L_sDepthsIn_l5.n = L.n) (hlv : L_sDepthsIn_l5.lv 5 = L.lv 5) (hL : ∀ vs bs, L.loop 5 vs bs = toldL S_sDepthsIn_l5 X_sDepthsIn_l5 (fun x => sDepthsIn_l5 x.1 x.2.1 x.2.2.1 x.2.2.2.1 x.2.2.2.2) vs bs) : LOk Try.prog (envT Try.prog C44 M43) L 5 (loopC (bodyOf Try.f46) 5) := toldL_ok (L1 := L_sDepthsIn_l5) (envT_ok (C44_ok) (M43_ok)) mixedO hn hlv (loopsL (l := [(9, loopC (loopC (bodyOf Try.f46) 5) 9)]) (by kernel_rfl) (lk_cons (sDepthsIn_l9_k _ rfl rfl (fun _ _ => rfl)) lk_nil)) sDepthsIn_l5_r hL

def A_sDepthsIn : Shp := ⟨[.agg [.h, .h, .h]], [], [.sl [.i .i64], .sl [.i .i64, .i .i64, .i .i64, .i .i64], .sl [.i .i64]]⟩
def R_sDepthsIn : List XShp := [(.ret, ⟨[.tup [.nils, .lb false]], [], []⟩), (.ret, ⟨[.tup [.slw 0 1, .lb true]], [.arr [.i .i64] false], [.sl [.i .i64]]⟩)]

noncomputable def L_sDepthsIn : Loops := (⟨37, lvT [(9, [1, 4, 5, 6, 7]), (5, [1, 4, 5])], mdT [(9, .exit 2, [], [7]), (5, .exit 0, [], [1, 5])], fun k vs bs => bif Nat.beq k 5 then toldL S_sDepthsIn_l5 X_sDepthsIn_l5 (fun x => sDepthsIn_l5 x.1 x.2.1 x.2.2.1 x.2.2.2.1 x.2.2.2.2) vs bs else .bad⟩ : Loops)

theorem sDepthsIn_e (x : DR A_sDepthsIn.hs) : (evFn (envT Try.prog C44 M43) L_sDepthsIn Try.f46 (A_sDepthsIn.enc x).1).to (fun q => decX R_sDepthsIn .ret [q.1] q.2) = sDepthsIn_t x.1 x.2.1 x.2.2 := by kernel_rfl

theorem sDepthsIn_m (x : DR A_sDepthsIn.hs) : meanF (envT Try.prog C44 M43) L_sDepthsIn Try.f46 A_sDepthsIn R_sDepthsIn x = (show Option (SumD (R_sDepthsIn.map (·.2))) from sDepthsIn x.1 x.2.1 x.2.2) := meanF_of (sDepthsIn_e x)

theorem sDepthsIn_ok : SpecOk Try.prog 46 (evFn (envT Try.prog C44 M43) L_sDepthsIn Try.f46) := fnL_ok (envT_ok (C44_ok) (M43_ok)) mixedO Try.func46 (by kernel_rfl) (c := bodyOf Try.f46) (by kernel_rfl) (loopsL (l := [(5, loopC (bodyOf Try.f46) 5)]) (by kernel_rfl) (lk_cons (sDepthsIn_l5_k _ rfl rfl (fun _ _ => rfl)) lk_nil))

theorem sDepthsIn_told : SpecOk Try.prog 46 (toldO A_sDepthsIn R_sDepthsIn (fun x => sDepthsIn x.1 x.2.1 x.2.2) (C44 46)) := toldO_ok (by kernel_rfl) sDepthsIn_ok (rest_ok (C44_ok) _) sDepthsIn_m

noncomputable def C45 : Tab := tab 46 (toldO A_sDepthsIn R_sDepthsIn (fun x => sDepthsIn x.1 x.2.1 x.2.2) (C44 46)) C44
theorem C45_ok : TabOk Try.prog C45 := tab_ok (sDepthsIn_told) (C44_ok)

def S_ipath_l2 : Shp := ⟨[.h, .h, .slw 0 1], [.arr [.i .i64] false], [.sl [.i .i64], .i .i64, .sl [.i .i64]]⟩
def X_ipath_l2 : List XShp := [(.exit 0, ⟨[.undef, .undef, .slw 0 1], [.arr [.i .i64] false], [.sl [.i .i64]]⟩)]

noncomputable def L_ipath_l2 : Loops := (⟨22, lvT [(2, [0, 1, 5])], mdT [(2, .exit 0, [], [0, 1])], fun k vs bs => .bad⟩ : Loops)

theorem ipath_l2_e (y0 : List Int) (s : Int × List Int) : (loopStep (envT Try.prog C45 M43) L_ipath_l2 2 (loopC (bodyOf Try.f82) 2) (S_ipath_l2.enc (y0, s.1, s.2)).1 (S_ipath_l2.enc (y0, s.1, s.2)).2).to (stepD S_ipath_l2 X_ipath_l2) = (ipath_l2_t y0 s.1 s.2).map (Sum.map (fun s : Int × List Int => (show DR S_ipath_l2.hs from (y0, s.1, s.2))) id) := by kernel_rfl

theorem ipath_l2_r (x : DR S_ipath_l2.hs) : (ipath_l2 x.1 x.2.1 x.2.2 : Option (SumD (X_ipath_l2.map (·.2)))) = runL (meanS (envT Try.prog C45 M43) L_ipath_l2 2 (loopC (bodyOf Try.f82) 2) S_ipath_l2 X_ipath_l2) x := run_of (fun s : Int × List Int => (show DR S_ipath_l2.hs from (x.1, s.1, s.2))) (ipath_l2_e (x.1)) (x.2.1, x.2.2)

theorem ipath_l2_k (L : Loops) (hn : L_ipath_l2.n = L.n) (hlv : L_ipath_l2.lv 2 = L.lv 2) (hL : ∀ vs bs, L.loop 2 vs bs = toldL S_ipath_l2 X_ipath_l2 (fun x => ipath_l2 x.1 x.2.1 x.2.2) vs bs) : LOk Try.prog (envT Try.prog C45 M43) L 2 (loopC (bodyOf Try.f82) 2) := toldL_ok (L1 := L_ipath_l2) (envT_ok (C45_ok) (M43_ok)) mixedO hn hlv (loopFree_ok (by kernel_rfl)) ipath_l2_r hL

def A_ipath : Shp := ⟨[.h, .h], [], [.sl [.i .i64], .i .i64]⟩
def R_ipath : List XShp := [(.ret, ⟨[.slw 0 1], [.arr [.i .i64] false], [.sl [.i .i64]]⟩)]

noncomputable def L_ipath : Loops := (⟨22, lvT [(2, [0, 1, 5])], mdT [(2, .exit 0, [], [0, 1])], fun k vs bs => bif Nat.beq k 2 then toldL S_ipath_l2 X_ipath_l2 (fun x => ipath_l2 x.1 x.2.1 x.2.2) vs bs else .bad⟩ : Loops)

theorem ipath_e (x : DR A_ipath.hs) : (evFn (envT Try.prog C45 M43) L_ipath Try.f82 (A_ipath.enc x).1).to (fun q => decX R_ipath .ret [q.1] q.2) = ipath_t x.1 x.2 := by kernel_rfl

theorem ipath_m (x : DR A_ipath.hs) : meanF (envT Try.prog C45 M43) L_ipath Try.f82 A_ipath R_ipath x = (show Option (SumD (R_ipath.map (·.2))) from ipath x.1 x.2) := meanF_of (ipath_e x)

theorem ipath_ok : SpecOk Try.prog 82 (evFn (envT Try.prog C45 M43) L_ipath Try.f82) := fnL_ok (envT_ok (C45_ok) (M43_ok)) mixedO Try.func82 (by kernel_rfl) (c := bodyOf Try.f82) (by kernel_rfl) (loopsL (l := [(2, loopC (bodyOf Try.f82) 2)]) (by kernel_rfl) (lk_cons (ipath_l2_k _ rfl rfl (fun _ _ => rfl)) lk_nil))

theorem ipath_told : SpecOk Try.prog 82 (toldO A_ipath R_ipath (fun x => ipath x.1 x.2) (C45 82)) := toldO_ok (by kernel_rfl) ipath_ok (rest_ok (C45_ok) _) ipath_m

noncomputable def C46 : Tab := tab 82 (toldO A_ipath R_ipath (fun x => ipath x.1 x.2) (C45 82)) C45
theorem C46_ok : TabOk Try.prog C46 := tab_ok (ipath_told) (C45_ok)

def S_iDepthsIn_l5 : Shp := ⟨[.ref 0 0, .slw 1 1, .h, .h], [.cells [.h, .h, .h] false, .arr [.i .i64] false], [.i .i64, .i .i64, .sl [.i .i64], .sl [.i .i64, .i .i64, .i .i64, .i .i64], .sl [.i .i64], .sl [.i .i64]]⟩
def X_iDepthsIn_l5 : List XShp := [(.exit 0, ⟨[.undef, .slw 0 1, .undef, .undef], [.arr [.i .i64] false], [.sl [.i .i64]]⟩)]

noncomputable def L_iDepthsIn_l5 : Loops := (⟨27, lvT [(5, [1, 4, 12, 13])], mdT [(5, .exit 0, [], [1, 12, 13])], fun k vs bs => .bad⟩ : Loops)

theorem iDepthsIn_l5_e (y0 : Int) (y2 : List Int) (y3 : List (Int × Int × Int × Int)) (y4 : List Int) (s : Int × List Int) : (loopStep (envT Try.prog C46 M43) L_iDepthsIn_l5 5 (loopC (bodyOf Try.f47) 5) (S_iDepthsIn_l5.enc (y0, s.1, y2, y3, y4, s.2)).1 (S_iDepthsIn_l5.enc (y0, s.1, y2, y3, y4, s.2)).2).to (stepD S_iDepthsIn_l5 X_iDepthsIn_l5) = (iDepthsIn_l5_t y0 y2 y3 y4 s.1 s.2).map (Sum.map (fun s : Int × List Int => (show DR S_iDepthsIn_l5.hs from (y0, s.1, y2, y3, y4, s.2))) id) := by kernel_rfl

theorem iDepthsIn_l5_r (x : DR S_iDepthsIn_l5.hs) : (iDepthsIn_l5 x.1 x.2.1 x.2.2.1 x.2.2.2.1 x.2.2.2.2.1 x.2.2.2.2.2 : Option (SumD (X_iDepthsIn_l5.map (·.2)))) = runL (meanS (envT Try.prog C46 M43) L_iDepthsIn_l5 5 (loopC (bodyOf Try.f47) 5) S_iDepthsIn_l5 X_iDepthsIn_l5) x := run_of (fun s : Int × List Int => (show DR S_iDepthsIn_l5.hs from (x.1, s.1, x.2.2.1, x.2.2.2.1, x.2.2.2.2.1, s.2))) (iDepthsIn_l5_e (x.1) (x.2.2.1) (x.2.2.2.1) (x.2.2.2.2.1)) (x.2.1, x.2.2.2.2.2)

theorem iDepthsIn_l5_k (L : Loops) (hn : L_iDepthsIn_l5.n = L.n) (hlv : L_iDepthsIn_l5.lv 5 = L.lv 5) (hL : ∀ vs bs, L.loop 5 vs bs = toldL S_iDepthsIn_l5 X_iDepthsIn_l5 (fun x => iDepthsIn_l5 x.1 x.2.1 x.2.2.1 x.2.2.2.1 x.2.2.2.2.1 x.2.2.2.2.2) vs bs) : LOk Try.prog (envT Try.prog C46 M43) L 5 (loopC (bodyOf Try.f47) 5) := toldL_ok (L1 := L_iDepthsIn_l5) (envT_ok (C46_ok) (M43_ok)) mixedO hn hlv (loopFree_ok (by kernel_rfl)) iDepthsIn_l5_r hL

def A_iDepthsIn : Shp := ⟨[.agg [.h, .h, .h]], [], [.sl [.i .i64], .sl [.i .i64, .i .i64, .i .i64, .i .i64], .sl [.i .i64]]⟩
def R_iDepthsIn : List XShp := [(.ret, ⟨[.tup [.nils, .lb false]], [], []⟩), (.ret, ⟨[.tup [.slw 0 1, .lb true]], [.arr [.i .i64] false], [.sl [.i .i64]]⟩)]

noncomputable def L_iDepthsIn : Loops := (⟨27, lvT [(5, [1, 4, 12, 13])], mdT [(5, .exit 0, [], [1, 12, 13])], fun k vs bs => bif Nat.beq k 5 then toldL S_iDepthsIn_l5 X_iDepthsIn_l5 (fun x => iDepthsIn_l5 x.1 x.2.1 x.2.2.1 x.2.2.2.1 x.2.2.2.2.1 x.2.2.2.2.2) vs bs else .bad⟩ : Loops)

theorem iDepthsIn_e (x : DR A_iDepthsIn.hs) : (evFn (envT Try.prog C46 M43) L_iDepthsIn Try.f47 (A_iDepthsIn.enc x).1).to (fun q => decX R_iDepthsIn .ret [q.1] q.2) = iDepthsIn_t x.1 x.2.1 x.2.2 := by kernel_rfl

theorem iDepthsIn_m (x : DR A_iDepthsIn.hs) : meanF (envT Try.prog C46 M43) L_iDepthsIn Try.f47 A_iDepthsIn R_iDepthsIn x = (show Option (SumD (R_iDepthsIn.map (·.2))) from iDepthsIn x.1 x.2.1 x.2.2) := meanF_of (iDepthsIn_e x)

theorem iDepthsIn_ok : SpecOk Try.prog 47 (evFn (envT Try.prog C46 M43) L_iDepthsIn Try.f47) := fnL_ok (envT_ok (C46_ok) (M43_ok)) mixedO Try.func47 (by kernel_rfl) (c := bodyOf Try.f47) (by kernel_rfl) (loopsL (l := [(5, loopC (bodyOf Try.f47) 5)]) (by kernel_rfl) (lk_cons (iDepthsIn_l5_k _ rfl rfl (fun _ _ => rfl)) lk_nil))

theorem iDepthsIn_told : SpecOk Try.prog 47 (toldO A_iDepthsIn R_iDepthsIn (fun x => iDepthsIn x.1 x.2.1 x.2.2) (C46 47)) := toldO_ok (by kernel_rfl) iDepthsIn_ok (rest_ok (C46_ok) _) iDepthsIn_m

noncomputable def C47 : Tab := tab 47 (toldO A_iDepthsIn R_iDepthsIn (fun x => iDepthsIn x.1 x.2.1 x.2.2) (C46 47)) C46
theorem C47_ok : TabOk Try.prog C47 := tab_ok (iDepthsIn_told) (C46_ok)

def A_wFnExactDepthsIn : Shp := ⟨[.agg [.h, .h, .h]], [], [.sl [.i .i64], .sl [.i .i64, .i .i64, .i .i64, .i .i64], .sl [.i .i64]]⟩
def R_wFnExactDepthsIn : List XShp := [(.ret, ⟨[.h], [], [.b]⟩)]

theorem wFnExactDepthsIn_e (x : DR A_wFnExactDepthsIn.hs) : (evFn (envT Try.prog C47 M43) noLoops Try.f12 (A_wFnExactDepthsIn.enc x).1).to (fun q => decX R_wFnExactDepthsIn .ret [q.1] q.2) = wFnExactDepthsIn_t x.1 x.2.1 x.2.2 := by kernel_rfl

theorem wFnExactDepthsIn_m (x : DR A_wFnExactDepthsIn.hs) : meanF (envT Try.prog C47 M43) noLoops Try.f12 A_wFnExactDepthsIn R_wFnExactDepthsIn x = (show Option (SumD (R_wFnExactDepthsIn.map (·.2))) from wFnExactDepthsIn x.1 x.2.1 x.2.2) := meanF_of (wFnExactDepthsIn_e x)

theorem wFnExactDepthsIn_ok : SpecOk Try.prog 12 (evFn (envT Try.prog C47 M43) noLoops Try.f12) := fnL_ok (envT_ok (C47_ok) (M43_ok)) mixedO Try.func12 (by kernel_rfl) (c := bodyOf Try.f12) (by kernel_rfl) (loopFree_ok (by kernel_rfl))

theorem wFnExactDepthsIn_told : SpecOk Try.prog 12 (toldO A_wFnExactDepthsIn R_wFnExactDepthsIn (fun x => wFnExactDepthsIn x.1 x.2.1 x.2.2) (C47 12)) := toldO_ok (by kernel_rfl) wFnExactDepthsIn_ok (rest_ok (C47_ok) _) wFnExactDepthsIn_m

noncomputable def C48 : Tab := tab 12 (toldO A_wFnExactDepthsIn R_wFnExactDepthsIn (fun x => wFnExactDepthsIn x.1 x.2.1 x.2.2) (C47 12)) C47
theorem C48_ok : TabOk Try.prog C48 := tab_ok (wFnExactDepthsIn_told) (C47_ok)

theorem lawFnExactDepthsIn_ok : SpecOk Try.prog 12 (evFn (envT Try.prog C47 M43) noLoops Try.f12) := wFnExactDepthsIn_ok
theorem lawFnExactDepthsIn_says (x : DR A_wFnExactDepthsIn.hs) (h : (show Option (SumD (R_wFnExactDepthsIn.map (·.2))) from wFnExactDepthsIn x.1 x.2.1 x.2.2) = some true) : saysTrue (evFn (envT Try.prog C47 M43) noLoops Try.f12 (A_wFnExactDepthsIn.enc x).1) = true := law_says (x := x) ((wFnExactDepthsIn_m x).trans h)

theorem lawFnExactDepthsIn_true (x0 : List Int) (x1 : List (Int × Int × Int × Int)) (x2 : List Int) (h : wFnExactDepthsIn x0 x1 x2 = some true) : saysTrue (evFn (envT Try.prog C47 M43) noLoops Try.f12 [.agg [.ds [.i .i64] x0, .ds [.i .i64, .i .i64, .i .i64, .i .i64] x1, .ds [.i .i64] x2]]) = true := (congrArg (fun l => saysTrue (evFn (envT Try.prog C47 M43) noLoops Try.f12 l)) (by kernel_rfl : ([.agg [.ds [.i .i64] x0, .ds [.i .i64, .i .i64, .i .i64, .i .i64] x1, .ds [.i .i64] x2]] : List V) = (A_wFnExactDepthsIn.enc (x0, x1, x2)).1)).trans (lawFnExactDepthsIn_says (x0, x1, x2) h)

def A_sl06Has : Shp := ⟨[.dpt [.h, .h, .h] 0, .h], [], [.sl [.i .i64], .sl [.i .i64, .i .i64, .i .i64, .i .i64], .sl [.i .i64], .i .i64]⟩
def R_sl06Has : List XShp := [(.ret, ⟨[.h], [], [.b]⟩)]

theorem sl06Has_e (x : DR A_sl06Has.hs) : (evFn (envT Try.prog C48 M43) noLoops Try.f79 (A_sl06Has.enc x).1).to (fun q => decX R_sl06Has .ret [q.1] q.2) = sl06Has_t x.1 x.2.1 x.2.2.1 x.2.2.2 := by kernel_rfl

theorem sl06Has_m (x : DR A_sl06Has.hs) : meanF (envT Try.prog C48 M43) noLoops Try.f79 A_sl06Has R_sl06Has x = (show Option (SumD (R_sl06Has.map (·.2))) from sl06Has x.1 x.2.1 x.2.2.1 x.2.2.2) := meanF_of (sl06Has_e x)

theorem sl06Has_ok : SpecOk Try.prog 79 (evFn (envT Try.prog C48 M43) noLoops Try.f79) := fnL_ok (envT_ok (C48_ok) (M43_ok)) mixedO Try.func79 (by kernel_rfl) (c := bodyOf Try.f79) (by kernel_rfl) (loopFree_ok (by kernel_rfl))

theorem sl06Has_told : SpecOk Try.prog 79 (toldO A_sl06Has R_sl06Has (fun x => sl06Has x.1 x.2.1 x.2.2.1 x.2.2.2) (C48 79)) := toldO_ok (by kernel_rfl) sl06Has_ok (rest_ok (C48_ok) _) sl06Has_m

noncomputable def C49 : Tab := tab 79 (toldO A_sl06Has R_sl06Has (fun x => sl06Has x.1 x.2.1 x.2.2.1 x.2.2.2) (C48 79)) C48
theorem C49_ok : TabOk Try.prog C49 := tab_ok (sl06Has_told) (C48_ok)

def S_sl06Comes_l2 : Shp := ⟨[.dpt [.h, .h, .h] 0, .h, .undef, .h], [], [.sl [.i .i64], .sl [.i .i64, .i .i64, .i .i64, .i .i64], .sl [.i .i64], .i .i64, .i .i64]⟩
def X_sl06Comes_l2 : List XShp := [(.ret, ⟨[.undef, .undef, .lb true, .undef], [], []⟩), (.exit 0, ⟨[.undef, .undef, .undef, .undef], [], []⟩)]

noncomputable def L_sl06Comes_l2 : Loops := (⟨21, lvT [(2, [0, 2, 6, 7])], mdT [(2, .normal, [], [6]), (2, .exit 0, [], [0, 2, 6, 7]), (2, .ret, [], [0, 2, 7])], fun k vs bs => .bad⟩ : Loops)

theorem sl06Comes_l2_e (y0 : List Int) (y1 : List (Int × Int × Int × Int)) (y2 : List Int) (y3 : Int) (s : Int) : (loopStep (envT Try.prog C49 M43) L_sl06Comes_l2 2 (loopC (bodyOf Try.f80) 2) (S_sl06Comes_l2.enc (y0, y1, y2, y3, s)).1 (S_sl06Comes_l2.enc (y0, y1, y2, y3, s)).2).to (stepD S_sl06Comes_l2 X_sl06Comes_l2) = (sl06Comes_l2_t y0 y1 y2 y3 s).map (Sum.map (fun s : Int => (show DR S_sl06Comes_l2.hs from (y0, y1, y2, y3, s))) id) := by kernel_rfl

theorem sl06Comes_l2_r (x : DR S_sl06Comes_l2.hs) : (sl06Comes_l2 x.1 x.2.1 x.2.2.1 x.2.2.2.1 x.2.2.2.2 : Option (SumD (X_sl06Comes_l2.map (·.2)))) = runL (meanS (envT Try.prog C49 M43) L_sl06Comes_l2 2 (loopC (bodyOf Try.f80) 2) S_sl06Comes_l2 X_sl06Comes_l2) x := run_of (fun s : Int => (show DR S_sl06Comes_l2.hs from (x.1, x.2.1, x.2.2.1, x.2.2.2.1, s))) (sl06Comes_l2_e (x.1) (x.2.1) (x.2.2.1) (x.2.2.2.1)) x.2.2.2.2

theorem sl06Comes_l2_k (L : Loops) (hn : L_sl06Comes_l2.n = L.n) (hlv : L_sl06Comes_l2.lv 2 = L.lv 2) (hL : ∀ vs bs, L.loop 2 vs bs = toldL S_sl06Comes_l2 X_sl06Comes_l2 (fun x => sl06Comes_l2 x.1 x.2.1 x.2.2.1 x.2.2.2.1 x.2.2.2.2) vs bs) : LOk Try.prog (envT Try.prog C49 M43) L 2 (loopC (bodyOf Try.f80) 2) := toldL_ok (L1 := L_sl06Comes_l2) (envT_ok (C49_ok) (M43_ok)) mixedO hn hlv (loopFree_ok (by kernel_rfl)) sl06Comes_l2_r hL

def A_sl06Comes : Shp := ⟨[.dpt [.h, .h, .h] 0, .h, .h], [], [.sl [.i .i64], .sl [.i .i64, .i .i64, .i .i64, .i .i64], .sl [.i .i64], .i .i64, .i .i64]⟩
def R_sl06Comes : List XShp := [(.ret, ⟨[.h], [], [.b]⟩)]

noncomputable def L_sl06Comes : Loops := (⟨21, lvT [(2, [0, 2, 6, 7])], mdT [(2, .normal, [], [6]), (2, .exit 0, [], [0, 2, 6, 7]), (2, .ret, [], [0, 2, 7])], fun k vs bs => bif Nat.beq k 2 then toldL S_sl06Comes_l2 X_sl06Comes_l2 (fun x => sl06Comes_l2 x.1 x.2.1 x.2.2.1 x.2.2.2.1 x.2.2.2.2) vs bs else .bad⟩ : Loops)

theorem sl06Comes_e (x : DR A_sl06Comes.hs) : (evFn (envT Try.prog C49 M43) L_sl06Comes Try.f80 (A_sl06Comes.enc x).1).to (fun q => decX R_sl06Comes .ret [q.1] q.2) = sl06Comes_t x.1 x.2.1 x.2.2.1 x.2.2.2.1 x.2.2.2.2 := by kernel_rfl

theorem sl06Comes_m (x : DR A_sl06Comes.hs) : meanF (envT Try.prog C49 M43) L_sl06Comes Try.f80 A_sl06Comes R_sl06Comes x = (show Option (SumD (R_sl06Comes.map (·.2))) from sl06Comes x.1 x.2.1 x.2.2.1 x.2.2.2.1 x.2.2.2.2) := meanF_of (sl06Comes_e x)

theorem sl06Comes_ok : SpecOk Try.prog 80 (evFn (envT Try.prog C49 M43) L_sl06Comes Try.f80) := fnL_ok (envT_ok (C49_ok) (M43_ok)) mixedO Try.func80 (by kernel_rfl) (c := bodyOf Try.f80) (by kernel_rfl) (loopsL (l := [(2, loopC (bodyOf Try.f80) 2)]) (by kernel_rfl) (lk_cons (sl06Comes_l2_k _ rfl rfl (fun _ _ => rfl)) lk_nil))

theorem sl06Comes_told : SpecOk Try.prog 80 (toldO A_sl06Comes R_sl06Comes (fun x => sl06Comes x.1 x.2.1 x.2.2.1 x.2.2.2.1 x.2.2.2.2) (C49 80)) := toldO_ok (by kernel_rfl) sl06Comes_ok (rest_ok (C49_ok) _) sl06Comes_m

noncomputable def C50 : Tab := tab 80 (toldO A_sl06Comes R_sl06Comes (fun x => sl06Comes x.1 x.2.1 x.2.2.1 x.2.2.2.1 x.2.2.2.2) (C49 80)) C49
theorem C50_ok : TabOk Try.prog C50 := tab_ok (sl06Comes_told) (C49_ok)

def S_sUpFrom_l5 : Shp := ⟨[.h, .ref 0 0, .slw 1 1, .h], [.cells [.h, .h, .h] false, .arr [.i .i64] false], [.i .i64, .i .i64, .sl [.i .i64], .sl [.i .i64, .i .i64, .i .i64, .i .i64], .sl [.i .i64], .sl [.i .i64]]⟩
def X_sUpFrom_l5 : List XShp := [(.exit 0, ⟨[.undef, .undef, .slw 0 1, .undef], [.arr [.i .i64] false], [.sl [.i .i64]]⟩)]

noncomputable def L_sUpFrom_l5 : Loops := (⟨27, lvT [(5, [1, 2, 6, 7])], mdT [(5, .exit 0, [], [1, 2, 7])], fun k vs bs => .bad⟩ : Loops)

theorem sUpFrom_l5_e (y0 : Int) (y2 : List Int) (y3 : List (Int × Int × Int × Int)) (y4 : List Int) (s : Int × List Int) : (loopStep (envT Try.prog C50 M43) L_sUpFrom_l5 5 (loopC (bodyOf Try.f48) 5) (S_sUpFrom_l5.enc (y0, s.1, y2, y3, y4, s.2)).1 (S_sUpFrom_l5.enc (y0, s.1, y2, y3, y4, s.2)).2).to (stepD S_sUpFrom_l5 X_sUpFrom_l5) = (sUpFrom_l5_t y0 y2 y3 y4 s.1 s.2).map (Sum.map (fun s : Int × List Int => (show DR S_sUpFrom_l5.hs from (y0, s.1, y2, y3, y4, s.2))) id) := by kernel_rfl

theorem sUpFrom_l5_r (x : DR S_sUpFrom_l5.hs) : (sUpFrom_l5 x.1 x.2.1 x.2.2.1 x.2.2.2.1 x.2.2.2.2.1 x.2.2.2.2.2 : Option (SumD (X_sUpFrom_l5.map (·.2)))) = runL (meanS (envT Try.prog C50 M43) L_sUpFrom_l5 5 (loopC (bodyOf Try.f48) 5) S_sUpFrom_l5 X_sUpFrom_l5) x := run_of (fun s : Int × List Int => (show DR S_sUpFrom_l5.hs from (x.1, s.1, x.2.2.1, x.2.2.2.1, x.2.2.2.2.1, s.2))) (sUpFrom_l5_e (x.1) (x.2.2.1) (x.2.2.2.1) (x.2.2.2.2.1)) (x.2.1, x.2.2.2.2.2)

theorem sUpFrom_l5_k (L : Loops) (hn : L_sUpFrom_l5.n = L.n) (hlv : L_sUpFrom_l5.lv 5 = L.lv 5) (hL : ∀ vs bs, L.loop 5 vs bs = toldL S_sUpFrom_l5 X_sUpFrom_l5 (fun x => sUpFrom_l5 x.1 x.2.1 x.2.2.1 x.2.2.2.1 x.2.2.2.2.1 x.2.2.2.2.2) vs bs) : LOk Try.prog (envT Try.prog C50 M43) L 5 (loopC (bodyOf Try.f48) 5) := toldL_ok (L1 := L_sUpFrom_l5) (envT_ok (C50_ok) (M43_ok)) mixedO hn hlv (loopFree_ok (by kernel_rfl)) sUpFrom_l5_r hL

def A_sUpFrom : Shp := ⟨[.agg [.h, .h, .h], .h], [], [.sl [.i .i64], .sl [.i .i64, .i .i64, .i .i64, .i .i64], .sl [.i .i64], .i .i64]⟩
def R_sUpFrom : List XShp := [(.ret, ⟨[.tup [.nils, .lb false]], [], []⟩), (.ret, ⟨[.tup [.slw 0 1, .lb true]], [.arr [.i .i64] false], [.sl [.i .i64]]⟩)]

noncomputable def L_sUpFrom : Loops := (⟨27, lvT [(5, [1, 2, 6, 7])], mdT [(5, .exit 0, [], [1, 2, 7])], fun k vs bs => bif Nat.beq k 5 then toldL S_sUpFrom_l5 X_sUpFrom_l5 (fun x => sUpFrom_l5 x.1 x.2.1 x.2.2.1 x.2.2.2.1 x.2.2.2.2.1 x.2.2.2.2.2) vs bs else .bad⟩ : Loops)

theorem sUpFrom_e (x : DR A_sUpFrom.hs) : (evFn (envT Try.prog C50 M43) L_sUpFrom Try.f48 (A_sUpFrom.enc x).1).to (fun q => decX R_sUpFrom .ret [q.1] q.2) = sUpFrom_t x.1 x.2.1 x.2.2.1 x.2.2.2 := by kernel_rfl

theorem sUpFrom_m (x : DR A_sUpFrom.hs) : meanF (envT Try.prog C50 M43) L_sUpFrom Try.f48 A_sUpFrom R_sUpFrom x = (show Option (SumD (R_sUpFrom.map (·.2))) from sUpFrom x.1 x.2.1 x.2.2.1 x.2.2.2) := meanF_of (sUpFrom_e x)

theorem sUpFrom_ok : SpecOk Try.prog 48 (evFn (envT Try.prog C50 M43) L_sUpFrom Try.f48) := fnL_ok (envT_ok (C50_ok) (M43_ok)) mixedO Try.func48 (by kernel_rfl) (c := bodyOf Try.f48) (by kernel_rfl) (loopsL (l := [(5, loopC (bodyOf Try.f48) 5)]) (by kernel_rfl) (lk_cons (sUpFrom_l5_k _ rfl rfl (fun _ _ => rfl)) lk_nil))

theorem sUpFrom_told : SpecOk Try.prog 48 (toldO A_sUpFrom R_sUpFrom (fun x => sUpFrom x.1 x.2.1 x.2.2.1 x.2.2.2) (C50 48)) := toldO_ok (by kernel_rfl) sUpFrom_ok (rest_ok (C50_ok) _) sUpFrom_m

noncomputable def C51 : Tab := tab 48 (toldO A_sUpFrom R_sUpFrom (fun x => sUpFrom x.1 x.2.1 x.2.2.1 x.2.2.2) (C50 48)) C50
theorem C51_ok : TabOk Try.prog C51 := tab_ok (sUpFrom_told) (C50_ok)

def A_iRiver_isNode : Shp := ⟨[.agg [.h, .h, .h], .h], [], [.sl [.i .i64], .sl [.i .i64, .i .i64, .i .i64, .i .i64], .sl [.i .i64], .i .i64]⟩
def R_iRiver_isNode : List XShp := [(.ret, ⟨[.h], [], [.b]⟩)]

theorem iRiver_isNode_e (x : DR A_iRiver_isNode.hs) : (evFn (envT Try.prog C51 M43) noLoops Try.f81 (A_iRiver_isNode.enc x).1).to (fun q => decX R_iRiver_isNode .ret [q.1] q.2) = iRiver_isNode_t x.1 x.2.1 x.2.2.1 x.2.2.2 := by kernel_rfl

theorem iRiver_isNode_m (x : DR A_iRiver_isNode.hs) : meanF (envT Try.prog C51 M43) noLoops Try.f81 A_iRiver_isNode R_iRiver_isNode x = (show Option (SumD (R_iRiver_isNode.map (·.2))) from iRiver_isNode x.1 x.2.1 x.2.2.1 x.2.2.2) := meanF_of (iRiver_isNode_e x)

theorem iRiver_isNode_ok : SpecOk Try.prog 81 (evFn (envT Try.prog C51 M43) noLoops Try.f81) := fnL_ok (envT_ok (C51_ok) (M43_ok)) mixedO Try.func81 (by kernel_rfl) (c := bodyOf Try.f81) (by kernel_rfl) (loopFree_ok (by kernel_rfl))

theorem iRiver_isNode_told : SpecOk Try.prog 81 (toldO A_iRiver_isNode R_iRiver_isNode (fun x => iRiver_isNode x.1 x.2.1 x.2.2.1 x.2.2.2) (C51 81)) := toldO_ok (by kernel_rfl) iRiver_isNode_ok (rest_ok (C51_ok) _) iRiver_isNode_m

noncomputable def C52 : Tab := tab 81 (toldO A_iRiver_isNode R_iRiver_isNode (fun x => iRiver_isNode x.1 x.2.1 x.2.2.1 x.2.2.2) (C51 81)) C51
theorem C52_ok : TabOk Try.prog C52 := tab_ok (iRiver_isNode_told) (C51_ok)

def S_lIndex_l2 : Shp := ⟨[.h, .h, .undef, .h, .h], [], [.sl [.i .i64], .i .i64, .i .i64, .i .i64]⟩
def X_lIndex_l2 : List XShp := [(.ret, ⟨[.undef, .undef, .h, .undef, .undef], [], [.i .i64]⟩), (.exit 0, ⟨[.undef, .undef, .undef, .undef, .undef], [], []⟩)]

noncomputable def L_lIndex_l2 : Loops := (⟨19, lvT [(2, [0, 1, 4, 7, 8])], mdT [(2, .normal, [], [4]), (2, .exit 0, [], [0, 1, 4, 7, 8]), (2, .ret, [], [0, 1, 7, 8])], fun k vs bs => .bad⟩ : Loops)

theorem lIndex_l2_e (y0 : List Int) (y1 : Int) (y2 : Int) (s : Int) : (loopStep (envT Try.prog C52 M43) L_lIndex_l2 2 (loopC (bodyOf Try.f94) 2) (S_lIndex_l2.enc (y0, y1, y2, s)).1 (S_lIndex_l2.enc (y0, y1, y2, s)).2).to (stepD S_lIndex_l2 X_lIndex_l2) = (lIndex_l2_t y0 y1 y2 s).map (Sum.map (fun s : Int => (show DR S_lIndex_l2.hs from (y0, y1, y2, s))) id) := by kernel_rfl

theorem lIndex_l2_r (x : DR S_lIndex_l2.hs) : (lIndex_l2 x.1 x.2.1 x.2.2.1 x.2.2.2 : Option (SumD (X_lIndex_l2.map (·.2)))) = runL (meanS (envT Try.prog C52 M43) L_lIndex_l2 2 (loopC (bodyOf Try.f94) 2) S_lIndex_l2 X_lIndex_l2) x := run_of (fun s : Int => (show DR S_lIndex_l2.hs from (x.1, x.2.1, x.2.2.1, s))) (lIndex_l2_e (x.1) (x.2.1) (x.2.2.1)) x.2.2.2

theorem lIndex_l2_k (L : Loops) (hn : L_lIndex_l2.n = L.n) (hlv : L_lIndex_l2.lv 2 = L.lv 2) (hL : ∀ vs bs, L.loop 2 vs bs = toldL S_lIndex_l2 X_lIndex_l2 (fun x => lIndex_l2 x.1 x.2.1 x.2.2.1 x.2.2.2) vs bs) : LOk Try.prog (envT Try.prog C52 M43) L 2 (loopC (bodyOf Try.f94) 2) := toldL_ok (L1 := L_lIndex_l2) (envT_ok (C52_ok) (M43_ok)) mixedO hn hlv (loopFree_ok (by kernel_rfl)) lIndex_l2_r hL

def A_lIndex : Shp := ⟨[.h, .h], [], [.sl [.i .i64], .i .i64]⟩
def R_lIndex : List XShp := [(.ret, ⟨[.h], [], [.i .i64]⟩)]

noncomputable def L_lIndex : Loops := (⟨19, lvT [(2, [0, 1, 4, 7, 8])], mdT [(2, .normal, [], [4]), (2, .exit 0, [], [0, 1, 4, 7, 8]), (2, .ret, [], [0, 1, 7, 8])], fun k vs bs => bif Nat.beq k 2 then toldL S_lIndex_l2 X_lIndex_l2 (fun x => lIndex_l2 x.1 x.2.1 x.2.2.1 x.2.2.2) vs bs else .bad⟩ : Loops)

theorem lIndex_e (x : DR A_lIndex.hs) : (evFn (envT Try.prog C52 M43) L_lIndex Try.f94 (A_lIndex.enc x).1).to (fun q => decX R_lIndex .ret [q.1] q.2) = lIndex_t x.1 x.2 := by kernel_rfl

theorem lIndex_m (x : DR A_lIndex.hs) : meanF (envT Try.prog C52 M43) L_lIndex Try.f94 A_lIndex R_lIndex x = (show Option (SumD (R_lIndex.map (·.2))) from lIndex x.1 x.2) := meanF_of (lIndex_e x)

theorem lIndex_ok : SpecOk Try.prog 94 (evFn (envT Try.prog C52 M43) L_lIndex Try.f94) := fnL_ok (envT_ok (C52_ok) (M43_ok)) mixedO Try.func94 (by kernel_rfl) (c := bodyOf Try.f94) (by kernel_rfl) (loopsL (l := [(2, loopC (bodyOf Try.f94) 2)]) (by kernel_rfl) (lk_cons (lIndex_l2_k _ rfl rfl (fun _ _ => rfl)) lk_nil))

theorem lIndex_told : SpecOk Try.prog 94 (toldO A_lIndex R_lIndex (fun x => lIndex x.1 x.2) (C52 94)) := toldO_ok (by kernel_rfl) lIndex_ok (rest_ok (C52_ok) _) lIndex_m

noncomputable def C53 : Tab := tab 94 (toldO A_lIndex R_lIndex (fun x => lIndex x.1 x.2) (C52 94)) C52
theorem C53_ok : TabOk Try.prog C53 := tab_ok (lIndex_told) (C52_ok)

def A_lContains : Shp := ⟨[.h, .h], [], [.sl [.i .i64], .i .i64]⟩
def R_lContains : List XShp := [(.ret, ⟨[.h], [], [.b]⟩)]

theorem lContains_e (x : DR A_lContains.hs) : (evFn (envT Try.prog C53 M43) noLoops Try.f83 (A_lContains.enc x).1).to (fun q => decX R_lContains .ret [q.1] q.2) = lContains_t x.1 x.2 := by kernel_rfl

theorem lContains_m (x : DR A_lContains.hs) : meanF (envT Try.prog C53 M43) noLoops Try.f83 A_lContains R_lContains x = (show Option (SumD (R_lContains.map (·.2))) from lContains x.1 x.2) := meanF_of (lContains_e x)

theorem lContains_ok : SpecOk Try.prog 83 (evFn (envT Try.prog C53 M43) noLoops Try.f83) := fnL_ok (envT_ok (C53_ok) (M43_ok)) mixedO Try.func83 (by kernel_rfl) (c := bodyOf Try.f83) (by kernel_rfl) (loopFree_ok (by kernel_rfl))

theorem lContains_told : SpecOk Try.prog 83 (toldO A_lContains R_lContains (fun x => lContains x.1 x.2) (C53 83)) := toldO_ok (by kernel_rfl) lContains_ok (rest_ok (C53_ok) _) lContains_m

noncomputable def C54 : Tab := tab 83 (toldO A_lContains R_lContains (fun x => lContains x.1 x.2) (C53 83)) C53
theorem C54_ok : TabOk Try.prog C54 := tab_ok (lContains_told) (C53_ok)

def S_iUpFrom_l5 : Shp := ⟨[.h, .ref 0 0, .slw 1 1, .h, .h], [.cells [.h, .h, .h] false, .arr [.i .i64] false], [.i .i64, .i .i64, .i .i64, .sl [.i .i64], .sl [.i .i64, .i .i64, .i .i64, .i .i64], .sl [.i .i64], .sl [.i .i64]]⟩
def X_iUpFrom_l5 : List XShp := [(.exit 0, ⟨[.undef, .undef, .slw 0 1, .undef, .undef], [.arr [.i .i64] false], [.sl [.i .i64]]⟩)]

noncomputable def L_iUpFrom_l5 : Loops := (⟨31, lvT [(5, [1, 2, 6, 15, 16])], mdT [(5, .exit 0, [], [1, 2, 15, 16])], fun k vs bs => .bad⟩ : Loops)

theorem iUpFrom_l5_e (y0 : Int) (y1 : Int) (y3 : List Int) (y4 : List (Int × Int × Int × Int)) (y5 : List Int) (s : Int × List Int) : (loopStep (envT Try.prog C54 M43) L_iUpFrom_l5 5 (loopC (bodyOf Try.f49) 5) (S_iUpFrom_l5.enc (y0, y1, s.1, y3, y4, y5, s.2)).1 (S_iUpFrom_l5.enc (y0, y1, s.1, y3, y4, y5, s.2)).2).to (stepD S_iUpFrom_l5 X_iUpFrom_l5) = (iUpFrom_l5_t y0 y1 y3 y4 y5 s.1 s.2).map (Sum.map (fun s : Int × List Int => (show DR S_iUpFrom_l5.hs from (y0, y1, s.1, y3, y4, y5, s.2))) id) := by kernel_rfl

theorem iUpFrom_l5_r (x : DR S_iUpFrom_l5.hs) : (iUpFrom_l5 x.1 x.2.1 x.2.2.1 x.2.2.2.1 x.2.2.2.2.1 x.2.2.2.2.2.1 x.2.2.2.2.2.2 : Option (SumD (X_iUpFrom_l5.map (·.2)))) = runL (meanS (envT Try.prog C54 M43) L_iUpFrom_l5 5 (loopC (bodyOf Try.f49) 5) S_iUpFrom_l5 X_iUpFrom_l5) x := run_of (fun s : Int × List Int => (show DR S_iUpFrom_l5.hs from (x.1, x.2.1, s.1, x.2.2.2.1, x.2.2.2.2.1, x.2.2.2.2.2.1, s.2))) (iUpFrom_l5_e (x.1) (x.2.1) (x.2.2.2.1) (x.2.2.2.2.1) (x.2.2.2.2.2.1)) (x.2.2.1, x.2.2.2.2.2.2)

theorem iUpFrom_l5_k (L : Loops) (hn : L_iUpFrom_l5.n = L.n) (hlv : L_iUpFrom_l5.lv 5 = L.lv 5) (hL : ∀ vs bs, L.loop 5 vs bs = toldL S_iUpFrom_l5 X_iUpFrom_l5 (fun x => iUpFrom_l5 x.1 x.2.1 x.2.2.1 x.2.2.2.1 x.2.2.2.2.1 x.2.2.2.2.2.1 x.2.2.2.2.2.2) vs bs) : LOk Try.prog (envT Try.prog C54 M43) L 5 (loopC (bodyOf Try.f49) 5) := toldL_ok (L1 := L_iUpFrom_l5) (envT_ok (C54_ok) (M43_ok)) mixedO hn hlv (loopFree_ok (by kernel_rfl)) iUpFrom_l5_r hL

def A_iUpFrom : Shp := ⟨[.agg [.h, .h, .h], .h], [], [.sl [.i .i64], .sl [.i .i64, .i .i64, .i .i64, .i .i64], .sl [.i .i64], .i .i64]⟩
def R_iUpFrom : List XShp := [(.ret, ⟨[.tup [.nils, .lb false]], [], []⟩), (.ret, ⟨[.tup [.slw 0 1, .lb true]], [.arr [.i .i64] false], [.sl [.i .i64]]⟩)]

noncomputable def L_iUpFrom : Loops := (⟨31, lvT [(5, [1, 2, 6, 15, 16])], mdT [(5, .exit 0, [], [1, 2, 15, 16])], fun k vs bs => bif Nat.beq k 5 then toldL S_iUpFrom_l5 X_iUpFrom_l5 (fun x => iUpFrom_l5 x.1 x.2.1 x.2.2.1 x.2.2.2.1 x.2.2.2.2.1 x.2.2.2.2.2.1 x.2.2.2.2.2.2) vs bs else .bad⟩ : Loops)

theorem iUpFrom_e (x : DR A_iUpFrom.hs) : (evFn (envT Try.prog C54 M43) L_iUpFrom Try.f49 (A_iUpFrom.enc x).1).to (fun q => decX R_iUpFrom .ret [q.1] q.2) = iUpFrom_t x.1 x.2.1 x.2.2.1 x.2.2.2 := by kernel_rfl

theorem iUpFrom_m (x : DR A_iUpFrom.hs) : meanF (envT Try.prog C54 M43) L_iUpFrom Try.f49 A_iUpFrom R_iUpFrom x = (show Option (SumD (R_iUpFrom.map (·.2))) from iUpFrom x.1 x.2.1 x.2.2.1 x.2.2.2) := meanF_of (iUpFrom_e x)

theorem iUpFrom_ok : SpecOk Try.prog 49 (evFn (envT Try.prog C54 M43) L_iUpFrom Try.f49) := fnL_ok (envT_ok (C54_ok) (M43_ok)) mixedO Try.func49 (by kernel_rfl) (c := bodyOf Try.f49) (by kernel_rfl) (loopsL (l := [(5, loopC (bodyOf Try.f49) 5)]) (by kernel_rfl) (lk_cons (iUpFrom_l5_k _ rfl rfl (fun _ _ => rfl)) lk_nil))

theorem iUpFrom_told : SpecOk Try.prog 49 (toldO A_iUpFrom R_iUpFrom (fun x => iUpFrom x.1 x.2.1 x.2.2.1 x.2.2.2) (C54 49)) := toldO_ok (by kernel_rfl) iUpFrom_ok (rest_ok (C54_ok) _) iUpFrom_m

noncomputable def C55 : Tab := tab 49 (toldO A_iUpFrom R_iUpFrom (fun x => iUpFrom x.1 x.2.1 x.2.2.1 x.2.2.2) (C54 49)) C54
theorem C55_ok : TabOk Try.prog C55 := tab_ok (iUpFrom_told) (C54_ok)

def A_wFnExactUpFrom : Shp := ⟨[.agg [.h, .h, .h], .h], [], [.sl [.i .i64], .sl [.i .i64, .i .i64, .i .i64, .i .i64], .sl [.i .i64], .i .i64]⟩
def R_wFnExactUpFrom : List XShp := [(.ret, ⟨[.h], [], [.b]⟩)]

theorem wFnExactUpFrom_e (x : DR A_wFnExactUpFrom.hs) : (evFn (envT Try.prog C55 M43) noLoops Try.f13 (A_wFnExactUpFrom.enc x).1).to (fun q => decX R_wFnExactUpFrom .ret [q.1] q.2) = wFnExactUpFrom_t x.1 x.2.1 x.2.2.1 x.2.2.2 := by kernel_rfl

theorem wFnExactUpFrom_m (x : DR A_wFnExactUpFrom.hs) : meanF (envT Try.prog C55 M43) noLoops Try.f13 A_wFnExactUpFrom R_wFnExactUpFrom x = (show Option (SumD (R_wFnExactUpFrom.map (·.2))) from wFnExactUpFrom x.1 x.2.1 x.2.2.1 x.2.2.2) := meanF_of (wFnExactUpFrom_e x)

theorem wFnExactUpFrom_ok : SpecOk Try.prog 13 (evFn (envT Try.prog C55 M43) noLoops Try.f13) := fnL_ok (envT_ok (C55_ok) (M43_ok)) mixedO Try.func13 (by kernel_rfl) (c := bodyOf Try.f13) (by kernel_rfl) (loopFree_ok (by kernel_rfl))

theorem wFnExactUpFrom_told : SpecOk Try.prog 13 (toldO A_wFnExactUpFrom R_wFnExactUpFrom (fun x => wFnExactUpFrom x.1 x.2.1 x.2.2.1 x.2.2.2) (C55 13)) := toldO_ok (by kernel_rfl) wFnExactUpFrom_ok (rest_ok (C55_ok) _) wFnExactUpFrom_m

noncomputable def C56 : Tab := tab 13 (toldO A_wFnExactUpFrom R_wFnExactUpFrom (fun x => wFnExactUpFrom x.1 x.2.1 x.2.2.1 x.2.2.2) (C55 13)) C55
theorem C56_ok : TabOk Try.prog C56 := tab_ok (wFnExactUpFrom_told) (C55_ok)

theorem lawFnExactUpFrom_ok : SpecOk Try.prog 13 (evFn (envT Try.prog C55 M43) noLoops Try.f13) := wFnExactUpFrom_ok
theorem lawFnExactUpFrom_says (x : DR A_wFnExactUpFrom.hs) (h : (show Option (SumD (R_wFnExactUpFrom.map (·.2))) from wFnExactUpFrom x.1 x.2.1 x.2.2.1 x.2.2.2) = some true) : saysTrue (evFn (envT Try.prog C55 M43) noLoops Try.f13 (A_wFnExactUpFrom.enc x).1) = true := law_says (x := x) ((wFnExactUpFrom_m x).trans h)

theorem lawFnExactUpFrom_true (x0 : List Int) (x1 : List (Int × Int × Int × Int)) (x2 : List Int) (x3 : Int) (h : wFnExactUpFrom x0 x1 x2 x3 = some true) : saysTrue (evFn (envT Try.prog C55 M43) noLoops Try.f13 [.agg [.ds [.i .i64] x0, .ds [.i .i64, .i .i64, .i .i64, .i .i64] x1, .ds [.i .i64] x2], .i .i64 x3]) = true := (congrArg (fun l => saysTrue (evFn (envT Try.prog C55 M43) noLoops Try.f13 l)) (by kernel_rfl : ([.agg [.ds [.i .i64] x0, .ds [.i .i64, .i .i64, .i .i64, .i .i64] x1, .ds [.i .i64] x2], .i .i64 x3] : List V) = (A_wFnExactUpFrom.enc (x0, x1, x2, x3)).1)).trans (lawFnExactUpFrom_says (x0, x1, x2, x3) h)

def S_sMeetingOf_l4 : Shp := ⟨[.h, .ref 0 0, .undef, .undef, .h], [.cells [.h, .h, .h] false], [.i .i64, .i .i64, .sl [.i .i64], .sl [.i .i64, .i .i64, .i .i64, .i .i64], .sl [.i .i64]]⟩
def X_sMeetingOf_l4 : List XShp := [(.ret, ⟨[.undef, .undef, .h, .lb true, .undef], [], [.i .i64]⟩), (.exit 0, ⟨[.undef, .undef, .undef, .undef, .undef], [], []⟩)]

noncomputable def L_sMeetingOf_l4 : Loops := (⟨29, lvT [(4, [2, 3, 6, 7, 8])], mdT [(4, .normal, [], [6, 7]), (4, .exit 0, [], [2, 3, 6, 7, 8]), (4, .ret, [], [2, 3, 8])], fun k vs bs => .bad⟩ : Loops)

theorem sMeetingOf_l4_e (y0 : Int) (y2 : List Int) (y3 : List (Int × Int × Int × Int)) (y4 : List Int) (s : Int) : (loopStep (envT Try.prog C56 M43) L_sMeetingOf_l4 4 (loopC (bodyOf Try.f42) 4) (S_sMeetingOf_l4.enc (y0, s, y2, y3, y4)).1 (S_sMeetingOf_l4.enc (y0, s, y2, y3, y4)).2).to (stepD S_sMeetingOf_l4 X_sMeetingOf_l4) = (sMeetingOf_l4_t y0 y2 y3 y4 s).map (Sum.map (fun s : Int => (show DR S_sMeetingOf_l4.hs from (y0, s, y2, y3, y4))) id) := by kernel_rfl

theorem sMeetingOf_l4_r (x : DR S_sMeetingOf_l4.hs) : (sMeetingOf_l4 x.1 x.2.1 x.2.2.1 x.2.2.2.1 x.2.2.2.2 : Option (SumD (X_sMeetingOf_l4.map (·.2)))) = runL (meanS (envT Try.prog C56 M43) L_sMeetingOf_l4 4 (loopC (bodyOf Try.f42) 4) S_sMeetingOf_l4 X_sMeetingOf_l4) x := run_of (fun s : Int => (show DR S_sMeetingOf_l4.hs from (x.1, s, x.2.2.1, x.2.2.2.1, x.2.2.2.2))) (sMeetingOf_l4_e (x.1) (x.2.2.1) (x.2.2.2.1) (x.2.2.2.2)) x.2.1

theorem sMeetingOf_l4_k (L : Loops) (hn : L_sMeetingOf_l4.n = L.n) (hlv : L_sMeetingOf_l4.lv 4 = L.lv 4) (hL : ∀ vs bs, L.loop 4 vs bs = toldL S_sMeetingOf_l4 X_sMeetingOf_l4 (fun x => sMeetingOf_l4 x.1 x.2.1 x.2.2.1 x.2.2.2.1 x.2.2.2.2) vs bs) : LOk Try.prog (envT Try.prog C56 M43) L 4 (loopC (bodyOf Try.f42) 4) := toldL_ok (L1 := L_sMeetingOf_l4) (envT_ok (C56_ok) (M43_ok)) mixedO hn hlv (loopFree_ok (by kernel_rfl)) sMeetingOf_l4_r hL

def A_sMeetingOf : Shp := ⟨[.agg [.h, .h, .h], .h, .h], [], [.sl [.i .i64], .sl [.i .i64, .i .i64, .i .i64, .i .i64], .sl [.i .i64], .i .i64, .i .i64]⟩
def R_sMeetingOf : List XShp := [(.ret, ⟨[.tup [.h, .h]], [], [.i .i64, .b]⟩)]

noncomputable def L_sMeetingOf : Loops := (⟨29, lvT [(4, [2, 3, 6, 7, 8])], mdT [(4, .normal, [], [6, 7]), (4, .exit 0, [], [2, 3, 6, 7, 8]), (4, .ret, [], [2, 3, 8])], fun k vs bs => bif Nat.beq k 4 then toldL S_sMeetingOf_l4 X_sMeetingOf_l4 (fun x => sMeetingOf_l4 x.1 x.2.1 x.2.2.1 x.2.2.2.1 x.2.2.2.2) vs bs else .bad⟩ : Loops)

theorem sMeetingOf_e (x : DR A_sMeetingOf.hs) : (evFn (envT Try.prog C56 M43) L_sMeetingOf Try.f42 (A_sMeetingOf.enc x).1).to (fun q => decX R_sMeetingOf .ret [q.1] q.2) = sMeetingOf_t x.1 x.2.1 x.2.2.1 x.2.2.2.1 x.2.2.2.2 := by kernel_rfl

theorem sMeetingOf_m (x : DR A_sMeetingOf.hs) : meanF (envT Try.prog C56 M43) L_sMeetingOf Try.f42 A_sMeetingOf R_sMeetingOf x = (show Option (SumD (R_sMeetingOf.map (·.2))) from sMeetingOf x.1 x.2.1 x.2.2.1 x.2.2.2.1 x.2.2.2.2) := meanF_of (sMeetingOf_e x)

theorem sMeetingOf_ok : SpecOk Try.prog 42 (evFn (envT Try.prog C56 M43) L_sMeetingOf Try.f42) := fnL_ok (envT_ok (C56_ok) (M43_ok)) mixedO Try.func42 (by kernel_rfl) (c := bodyOf Try.f42) (by kernel_rfl) (loopsL (l := [(4, loopC (bodyOf Try.f42) 4)]) (by kernel_rfl) (lk_cons (sMeetingOf_l4_k _ rfl rfl (fun _ _ => rfl)) lk_nil))

theorem sMeetingOf_told : SpecOk Try.prog 42 (toldO A_sMeetingOf R_sMeetingOf (fun x => sMeetingOf x.1 x.2.1 x.2.2.1 x.2.2.2.1 x.2.2.2.2) (C56 42)) := toldO_ok (by kernel_rfl) sMeetingOf_ok (rest_ok (C56_ok) _) sMeetingOf_m

noncomputable def C57 : Tab := tab 42 (toldO A_sMeetingOf R_sMeetingOf (fun x => sMeetingOf x.1 x.2.1 x.2.2.1 x.2.2.2.1 x.2.2.2.2) (C56 42)) C56
theorem C57_ok : TabOk Try.prog C57 := tab_ok (sMeetingOf_told) (C56_ok)

def S_iMeetingOf_l5 : Shp := ⟨[.undef, .undef, .slw 0 1, .slw 1 1, .h, .h], [.arr [.i .i64] false, .arr [.i .i64] false], [.i .i64, .i .i64, .sl [.i .i64], .sl [.i .i64]]⟩
def X_iMeetingOf_l5 : List XShp := [(.ret, ⟨[.h, .lb true, .undef, .undef, .undef, .undef], [], [.i .i64]⟩), (.exit 0, ⟨[.undef, .undef, .undef, .undef, .undef, .undef], [], []⟩)]

noncomputable def L_iMeetingOf_l5 : Loops := (⟨39, lvT [(5, [6, 7, 8, 28, 29, 30])], mdT [(5, .normal, [], [6, 7]), (5, .exit 0, [], [6, 7, 8, 28, 29, 30]), (5, .ret, [], [8, 28, 29, 30])], fun k vs bs => .bad⟩ : Loops)

theorem iMeetingOf_l5_e (y0 : Int) (y2 : List Int) (y3 : List Int) (s : Int) : (loopStep (envT Try.prog C57 M43) L_iMeetingOf_l5 5 (loopC (bodyOf Try.f43) 5) (S_iMeetingOf_l5.enc (y0, s, y2, y3)).1 (S_iMeetingOf_l5.enc (y0, s, y2, y3)).2).to (stepD S_iMeetingOf_l5 X_iMeetingOf_l5) = (iMeetingOf_l5_t y0 y2 y3 s).map (Sum.map (fun s : Int => (show DR S_iMeetingOf_l5.hs from (y0, s, y2, y3))) id) := by kernel_rfl

theorem iMeetingOf_l5_r (x : DR S_iMeetingOf_l5.hs) : (iMeetingOf_l5 x.1 x.2.1 x.2.2.1 x.2.2.2 : Option (SumD (X_iMeetingOf_l5.map (·.2)))) = runL (meanS (envT Try.prog C57 M43) L_iMeetingOf_l5 5 (loopC (bodyOf Try.f43) 5) S_iMeetingOf_l5 X_iMeetingOf_l5) x := run_of (fun s : Int => (show DR S_iMeetingOf_l5.hs from (x.1, s, x.2.2.1, x.2.2.2))) (iMeetingOf_l5_e (x.1) (x.2.2.1) (x.2.2.2)) x.2.1

theorem iMeetingOf_l5_k (L : Loops) (hn : L_iMeetingOf_l5.n = L.n) (hlv : L_iMeetingOf_l5.lv 5 = L.lv 5) (hL : ∀ vs bs, L.loop 5 vs bs = toldL S_iMeetingOf_l5 X_iMeetingOf_l5 (fun x => iMeetingOf_l5 x.1 x.2.1 x.2.2.1 x.2.2.2) vs bs) : LOk Try.prog (envT Try.prog C57 M43) L 5 (loopC (bodyOf Try.f43) 5) := toldL_ok (L1 := L_iMeetingOf_l5) (envT_ok (C57_ok) (M43_ok)) mixedO hn hlv (loopFree_ok (by kernel_rfl)) iMeetingOf_l5_r hL

def A_iMeetingOf : Shp := ⟨[.agg [.h, .h, .h], .h, .h], [], [.sl [.i .i64], .sl [.i .i64, .i .i64, .i .i64, .i .i64], .sl [.i .i64], .i .i64, .i .i64]⟩
def R_iMeetingOf : List XShp := [(.ret, ⟨[.tup [.h, .h]], [], [.i .i64, .b]⟩)]

noncomputable def L_iMeetingOf : Loops := (⟨39, lvT [(5, [6, 7, 8, 28, 29, 30])], mdT [(5, .normal, [], [6, 7]), (5, .exit 0, [], [6, 7, 8, 28, 29, 30]), (5, .ret, [], [8, 28, 29, 30])], fun k vs bs => bif Nat.beq k 5 then toldL S_iMeetingOf_l5 X_iMeetingOf_l5 (fun x => iMeetingOf_l5 x.1 x.2.1 x.2.2.1 x.2.2.2) vs bs else .bad⟩ : Loops)

theorem iMeetingOf_e (x : DR A_iMeetingOf.hs) : (evFn (envT Try.prog C57 M43) L_iMeetingOf Try.f43 (A_iMeetingOf.enc x).1).to (fun q => decX R_iMeetingOf .ret [q.1] q.2) = iMeetingOf_t x.1 x.2.1 x.2.2.1 x.2.2.2.1 x.2.2.2.2 := by kernel_rfl

theorem iMeetingOf_m (x : DR A_iMeetingOf.hs) : meanF (envT Try.prog C57 M43) L_iMeetingOf Try.f43 A_iMeetingOf R_iMeetingOf x = (show Option (SumD (R_iMeetingOf.map (·.2))) from iMeetingOf x.1 x.2.1 x.2.2.1 x.2.2.2.1 x.2.2.2.2) := meanF_of (iMeetingOf_e x)

theorem iMeetingOf_ok : SpecOk Try.prog 43 (evFn (envT Try.prog C57 M43) L_iMeetingOf Try.f43) := fnL_ok (envT_ok (C57_ok) (M43_ok)) mixedO Try.func43 (by kernel_rfl) (c := bodyOf Try.f43) (by kernel_rfl) (loopsL (l := [(5, loopC (bodyOf Try.f43) 5)]) (by kernel_rfl) (lk_cons (iMeetingOf_l5_k _ rfl rfl (fun _ _ => rfl)) lk_nil))

theorem iMeetingOf_told : SpecOk Try.prog 43 (toldO A_iMeetingOf R_iMeetingOf (fun x => iMeetingOf x.1 x.2.1 x.2.2.1 x.2.2.2.1 x.2.2.2.2) (C57 43)) := toldO_ok (by kernel_rfl) iMeetingOf_ok (rest_ok (C57_ok) _) iMeetingOf_m

noncomputable def C58 : Tab := tab 43 (toldO A_iMeetingOf R_iMeetingOf (fun x => iMeetingOf x.1 x.2.1 x.2.2.1 x.2.2.2.1 x.2.2.2.2) (C57 43)) C57
theorem C58_ok : TabOk Try.prog C58 := tab_ok (iMeetingOf_told) (C57_ok)

def A_wFnExactMeetingOf : Shp := ⟨[.agg [.h, .h, .h], .h, .h], [], [.sl [.i .i64], .sl [.i .i64, .i .i64, .i .i64, .i .i64], .sl [.i .i64], .i .i64, .i .i64]⟩
def R_wFnExactMeetingOf : List XShp := [(.ret, ⟨[.h], [], [.b]⟩)]

theorem wFnExactMeetingOf_e (x : DR A_wFnExactMeetingOf.hs) : (evFn (envT Try.prog C58 M43) noLoops Try.f10 (A_wFnExactMeetingOf.enc x).1).to (fun q => decX R_wFnExactMeetingOf .ret [q.1] q.2) = wFnExactMeetingOf_t x.1 x.2.1 x.2.2.1 x.2.2.2.1 x.2.2.2.2 := by kernel_rfl

theorem wFnExactMeetingOf_m (x : DR A_wFnExactMeetingOf.hs) : meanF (envT Try.prog C58 M43) noLoops Try.f10 A_wFnExactMeetingOf R_wFnExactMeetingOf x = (show Option (SumD (R_wFnExactMeetingOf.map (·.2))) from wFnExactMeetingOf x.1 x.2.1 x.2.2.1 x.2.2.2.1 x.2.2.2.2) := meanF_of (wFnExactMeetingOf_e x)

theorem wFnExactMeetingOf_ok : SpecOk Try.prog 10 (evFn (envT Try.prog C58 M43) noLoops Try.f10) := fnL_ok (envT_ok (C58_ok) (M43_ok)) mixedO Try.func10 (by kernel_rfl) (c := bodyOf Try.f10) (by kernel_rfl) (loopFree_ok (by kernel_rfl))

theorem wFnExactMeetingOf_told : SpecOk Try.prog 10 (toldO A_wFnExactMeetingOf R_wFnExactMeetingOf (fun x => wFnExactMeetingOf x.1 x.2.1 x.2.2.1 x.2.2.2.1 x.2.2.2.2) (C58 10)) := toldO_ok (by kernel_rfl) wFnExactMeetingOf_ok (rest_ok (C58_ok) _) wFnExactMeetingOf_m

noncomputable def C59 : Tab := tab 10 (toldO A_wFnExactMeetingOf R_wFnExactMeetingOf (fun x => wFnExactMeetingOf x.1 x.2.1 x.2.2.1 x.2.2.2.1 x.2.2.2.2) (C58 10)) C58
theorem C59_ok : TabOk Try.prog C59 := tab_ok (wFnExactMeetingOf_told) (C58_ok)

theorem lawFnExactMeetingOf_ok : SpecOk Try.prog 10 (evFn (envT Try.prog C58 M43) noLoops Try.f10) := wFnExactMeetingOf_ok
theorem lawFnExactMeetingOf_says (x : DR A_wFnExactMeetingOf.hs) (h : (show Option (SumD (R_wFnExactMeetingOf.map (·.2))) from wFnExactMeetingOf x.1 x.2.1 x.2.2.1 x.2.2.2.1 x.2.2.2.2) = some true) : saysTrue (evFn (envT Try.prog C58 M43) noLoops Try.f10 (A_wFnExactMeetingOf.enc x).1) = true := law_says (x := x) ((wFnExactMeetingOf_m x).trans h)

theorem lawFnExactMeetingOf_true (x0 : List Int) (x1 : List (Int × Int × Int × Int)) (x2 : List Int) (x3 : Int) (x4 : Int) (h : wFnExactMeetingOf x0 x1 x2 x3 x4 = some true) : saysTrue (evFn (envT Try.prog C58 M43) noLoops Try.f10 [.agg [.ds [.i .i64] x0, .ds [.i .i64, .i .i64, .i .i64, .i .i64] x1, .ds [.i .i64] x2], .i .i64 x3, .i .i64 x4]) = true := (congrArg (fun l => saysTrue (evFn (envT Try.prog C58 M43) noLoops Try.f10 l)) (by kernel_rfl : ([.agg [.ds [.i .i64] x0, .ds [.i .i64, .i .i64, .i .i64, .i .i64] x1, .ds [.i .i64] x2], .i .i64 x3, .i .i64 x4] : List V) = (A_wFnExactMeetingOf.enc (x0, x1, x2, x3, x4)).1)).trans (lawFnExactMeetingOf_says (x0, x1, x2, x3, x4) h)

def A_sValidRiver : Shp := ⟨[.agg [.h, .h, .h]], [], [.sl [.i .i64], .sl [.i .i64, .i .i64, .i .i64, .i .i64], .sl [.i .i64]]⟩
def R_sValidRiver : List XShp := [(.ret, ⟨[.h], [], [.b]⟩)]

theorem sValidRiver_e (x : DR A_sValidRiver.hs) : (evFn (envT Try.prog C59 M43) noLoops Try.f36 (A_sValidRiver.enc x).1).to (fun q => decX R_sValidRiver .ret [q.1] q.2) = sValidRiver_t x.1 x.2.1 x.2.2 := by kernel_rfl

theorem sValidRiver_m (x : DR A_sValidRiver.hs) : meanF (envT Try.prog C59 M43) noLoops Try.f36 A_sValidRiver R_sValidRiver x = (show Option (SumD (R_sValidRiver.map (·.2))) from sValidRiver x.1 x.2.1 x.2.2) := meanF_of (sValidRiver_e x)

theorem sValidRiver_ok : SpecOk Try.prog 36 (evFn (envT Try.prog C59 M43) noLoops Try.f36) := fnL_ok (envT_ok (C59_ok) (M43_ok)) mixedO Try.func36 (by kernel_rfl) (c := bodyOf Try.f36) (by kernel_rfl) (loopFree_ok (by kernel_rfl))

theorem sValidRiver_told : SpecOk Try.prog 36 (toldO A_sValidRiver R_sValidRiver (fun x => sValidRiver x.1 x.2.1 x.2.2) (C59 36)) := toldO_ok (by kernel_rfl) sValidRiver_ok (rest_ok (C59_ok) _) sValidRiver_m

noncomputable def C60 : Tab := tab 36 (toldO A_sValidRiver R_sValidRiver (fun x => sValidRiver x.1 x.2.1 x.2.2) (C59 36)) C59
theorem C60_ok : TabOk Try.prog C60 := tab_ok (sValidRiver_told) (C59_ok)

def A_wFnExactValidRiver : Shp := ⟨[.agg [.h, .h, .h]], [], [.sl [.i .i64], .sl [.i .i64, .i .i64, .i .i64, .i .i64], .sl [.i .i64]]⟩
def R_wFnExactValidRiver : List XShp := [(.ret, ⟨[.h], [], [.b]⟩)]

theorem wFnExactValidRiver_e (x : DR A_wFnExactValidRiver.hs) : (evFn (envT Try.prog C60 M43) noLoops Try.f7 (A_wFnExactValidRiver.enc x).1).to (fun q => decX R_wFnExactValidRiver .ret [q.1] q.2) = wFnExactValidRiver_t x.1 x.2.1 x.2.2 := by kernel_rfl

theorem wFnExactValidRiver_m (x : DR A_wFnExactValidRiver.hs) : meanF (envT Try.prog C60 M43) noLoops Try.f7 A_wFnExactValidRiver R_wFnExactValidRiver x = (show Option (SumD (R_wFnExactValidRiver.map (·.2))) from wFnExactValidRiver x.1 x.2.1 x.2.2) := meanF_of (wFnExactValidRiver_e x)

theorem wFnExactValidRiver_ok : SpecOk Try.prog 7 (evFn (envT Try.prog C60 M43) noLoops Try.f7) := fnL_ok (envT_ok (C60_ok) (M43_ok)) mixedO Try.func7 (by kernel_rfl) (c := bodyOf Try.f7) (by kernel_rfl) (loopFree_ok (by kernel_rfl))

theorem wFnExactValidRiver_told : SpecOk Try.prog 7 (toldO A_wFnExactValidRiver R_wFnExactValidRiver (fun x => wFnExactValidRiver x.1 x.2.1 x.2.2) (C60 7)) := toldO_ok (by kernel_rfl) wFnExactValidRiver_ok (rest_ok (C60_ok) _) wFnExactValidRiver_m

noncomputable def C61 : Tab := tab 7 (toldO A_wFnExactValidRiver R_wFnExactValidRiver (fun x => wFnExactValidRiver x.1 x.2.1 x.2.2) (C60 7)) C60
theorem C61_ok : TabOk Try.prog C61 := tab_ok (wFnExactValidRiver_told) (C60_ok)

theorem lawFnExactValidRiver_ok : SpecOk Try.prog 7 (evFn (envT Try.prog C60 M43) noLoops Try.f7) := wFnExactValidRiver_ok
theorem lawFnExactValidRiver_says (x : DR A_wFnExactValidRiver.hs) (h : (show Option (SumD (R_wFnExactValidRiver.map (·.2))) from wFnExactValidRiver x.1 x.2.1 x.2.2) = some true) : saysTrue (evFn (envT Try.prog C60 M43) noLoops Try.f7 (A_wFnExactValidRiver.enc x).1) = true := law_says (x := x) ((wFnExactValidRiver_m x).trans h)

theorem lawFnExactValidRiver_true (x0 : List Int) (x1 : List (Int × Int × Int × Int)) (x2 : List Int) (h : wFnExactValidRiver x0 x1 x2 = some true) : saysTrue (evFn (envT Try.prog C60 M43) noLoops Try.f7 [.agg [.ds [.i .i64] x0, .ds [.i .i64, .i .i64, .i .i64, .i .i64] x1, .ds [.i .i64] x2]]) = true := (congrArg (fun l => saysTrue (evFn (envT Try.prog C60 M43) noLoops Try.f7 l)) (by kernel_rfl : ([.agg [.ds [.i .i64] x0, .ds [.i .i64, .i .i64, .i .i64, .i .i64] x1, .ds [.i .i64] x2]] : List V) = (A_wFnExactValidRiver.enc (x0, x1, x2)).1)).trans (lawFnExactValidRiver_says (x0, x1, x2) h)

def S_sl06Order_l11 : Shp := ⟨[.dpt [.h, .h, .h] 0, .h, .slw 0 1, .slw 1 1, .h], [.arr [.i .i64] false, .arr [.i .i64] false], [.sl [.i .i64], .sl [.i .i64, .i .i64, .i .i64, .i .i64], .sl [.i .i64], .i .i64, .i .i64, .sl [.i .i64], .sl [.i .i64]]⟩
def X_sl06Order_l11 : List XShp := [(.exit 4, ⟨[.dpt [.h, .h, .h] 0, .h, .slw 0 1, .slw 1 1, .h], [.arr [.i .i64] false, .arr [.i .i64] false], [.sl [.i .i64], .sl [.i .i64, .i .i64, .i .i64, .i .i64], .sl [.i .i64], .i .i64, .i .i64, .sl [.i .i64], .sl [.i .i64]]⟩)]

noncomputable def L_sl06Order_l11 : Loops := (⟨80, lvT [(11, [0, 3, 4, 6, 7]), (9, [0, 3, 4, 6]), (4, [0, 3, 4, 5])], mdT [(9, .exit 2, [], [0, 3, 4]), (4, .exit 0, [], [5])], fun k vs bs => .bad⟩ : Loops)

theorem sl06Order_l11_e (y0 : List Int) (y1 : List (Int × Int × Int × Int)) (y2 : List Int) (y3 : Int) (y5 : List Int) (y6 : List Int) (s : Int) : (loopStep (envT Try.prog C61 M43) L_sl06Order_l11 11 (loopC (loopC (bodyOf Try.f84) 9) 11) (S_sl06Order_l11.enc (y0, y1, y2, y3, s, y5, y6)).1 (S_sl06Order_l11.enc (y0, y1, y2, y3, s, y5, y6)).2).to (stepD S_sl06Order_l11 X_sl06Order_l11) = (sl06Order_l11_t y0 y1 y2 y3 y5 y6 s).map (Sum.map (fun s : Int => (show DR S_sl06Order_l11.hs from (y0, y1, y2, y3, s, y5, y6))) id) := by kernel_rfl

theorem sl06Order_l11_r (x : DR S_sl06Order_l11.hs) : (sl06Order_l11 x.1 x.2.1 x.2.2.1 x.2.2.2.1 x.2.2.2.2.1 x.2.2.2.2.2.1 x.2.2.2.2.2.2 : Option (SumD (X_sl06Order_l11.map (·.2)))) = runL (meanS (envT Try.prog C61 M43) L_sl06Order_l11 11 (loopC (loopC (bodyOf Try.f84) 9) 11) S_sl06Order_l11 X_sl06Order_l11) x := run_of (fun s : Int => (show DR S_sl06Order_l11.hs from (x.1, x.2.1, x.2.2.1, x.2.2.2.1, s, x.2.2.2.2.2.1, x.2.2.2.2.2.2))) (sl06Order_l11_e (x.1) (x.2.1) (x.2.2.1) (x.2.2.2.1) (x.2.2.2.2.2.1) (x.2.2.2.2.2.2)) x.2.2.2.2.1

theorem sl06Order_l11_k (L : Loops) (hn : L_sl06Order_l11.n = L.n) (hlv : L_sl06Order_l11.lv 11 = L.lv 11) (hL : ∀ vs bs, L.loop 11 vs bs = toldL S_sl06Order_l11 X_sl06Order_l11 (fun x => sl06Order_l11 x.1 x.2.1 x.2.2.1 x.2.2.2.1 x.2.2.2.2.1 x.2.2.2.2.2.1 x.2.2.2.2.2.2) vs bs) : LOk Try.prog (envT Try.prog C61 M43) L 11 (loopC (loopC (bodyOf Try.f84) 9) 11) := toldL_ok (L1 := L_sl06Order_l11) (envT_ok (C61_ok) (M43_ok)) mixedO hn hlv (loopFree_ok (by kernel_rfl)) sl06Order_l11_r hL

def S_sl06Order_l4 : Shp := ⟨[.dpt [.h, .h, .h] 0, .h, .slw 0 1, .h], [.arr [.i .i64] false], [.sl [.i .i64], .sl [.i .i64, .i .i64, .i .i64, .i .i64], .sl [.i .i64], .i .i64, .i .i64, .sl [.i .i64]]⟩
def X_sl06Order_l4 : List XShp := [(.exit 0, ⟨[.dpt [.h, .h, .h] 0, .h, .slw 0 1, .undef], [.arr [.i .i64] false], [.sl [.i .i64], .sl [.i .i64, .i .i64, .i .i64, .i .i64], .sl [.i .i64], .i .i64, .sl [.i .i64]]⟩)]

noncomputable def L_sl06Order_l4 : Loops := (⟨80, lvT [(11, [0, 3, 4, 6, 7]), (9, [0, 3, 4, 6]), (4, [0, 3, 4, 5])], mdT [(9, .exit 2, [], [0, 3, 4]), (4, .exit 0, [], [5])], fun k vs bs => .bad⟩ : Loops)

theorem sl06Order_l4_e (y0 : List Int) (y1 : List (Int × Int × Int × Int)) (y2 : List Int) (y3 : Int) (s : Int × List Int) : (loopStep (envT Try.prog C61 M43) L_sl06Order_l4 4 (loopC (bodyOf Try.f84) 4) (S_sl06Order_l4.enc (y0, y1, y2, y3, s.1, s.2)).1 (S_sl06Order_l4.enc (y0, y1, y2, y3, s.1, s.2)).2).to (stepD S_sl06Order_l4 X_sl06Order_l4) = (sl06Order_l4_t y0 y1 y2 y3 s.1 s.2).map (Sum.map (fun s : Int × List Int => (show DR S_sl06Order_l4.hs from (y0, y1, y2, y3, s.1, s.2))) id) := by kernel_rfl

theorem sl06Order_l4_r (x : DR S_sl06Order_l4.hs) : (sl06Order_l4 x.1 x.2.1 x.2.2.1 x.2.2.2.1 x.2.2.2.2.1 x.2.2.2.2.2 : Option (SumD (X_sl06Order_l4.map (·.2)))) = runL (meanS (envT Try.prog C61 M43) L_sl06Order_l4 4 (loopC (bodyOf Try.f84) 4) S_sl06Order_l4 X_sl06Order_l4) x := run_of (fun s : Int × List Int => (show DR S_sl06Order_l4.hs from (x.1, x.2.1, x.2.2.1, x.2.2.2.1, s.1, s.2))) (sl06Order_l4_e (x.1) (x.2.1) (x.2.2.1) (x.2.2.2.1)) (x.2.2.2.2.1, x.2.2.2.2.2)

theorem sl06Order_l4_k (L : Loops) (hn : L_sl06Order_l4.n = L.n) (hlv : L_sl06Order_l4.lv 4 = L.lv 4) (hL : ∀ vs bs, L.loop 4 vs bs = toldL S_sl06Order_l4 X_sl06Order_l4 (fun x => sl06Order_l4 x.1 x.2.1 x.2.2.1 x.2.2.2.1 x.2.2.2.2.1 x.2.2.2.2.2) vs bs) : LOk Try.prog (envT Try.prog C61 M43) L 4 (loopC (bodyOf Try.f84) 4) := toldL_ok (L1 := L_sl06Order_l4) (envT_ok (C61_ok) (M43_ok)) mixedO hn hlv (loopFree_ok (by kernel_rfl)) sl06Order_l4_r hL

def S_sl06Order_l9 : Shp := ⟨[.dpt [.h, .h, .h] 0, .h, .slw 0 1, .slw 1 1], [.arr [.i .i64] false, .arr [.i .i64] false], [.sl [.i .i64], .sl [.i .i64, .i .i64, .i .i64, .i .i64], .sl [.i .i64], .i .i64, .sl [.i .i64], .sl [.i .i64]]⟩
def X_sl06Order_l9 : List XShp := [(.exit 2, ⟨[.undef, .undef, .undef, .slw 0 1], [.arr [.i .i64] false], [.sl [.i .i64]]⟩)]

noncomputable def L_sl06Order_l9 : Loops := (⟨80, lvT [(11, [0, 3, 4, 6, 7]), (9, [0, 3, 4, 6]), (4, [0, 3, 4, 5])], mdT [(9, .exit 2, [], [0, 3, 4]), (4, .exit 0, [], [5])], fun k vs bs => bif Nat.beq k 11 then toldL S_sl06Order_l11 X_sl06Order_l11 (fun x => sl06Order_l11 x.1 x.2.1 x.2.2.1 x.2.2.2.1 x.2.2.2.2.1 x.2.2.2.2.2.1 x.2.2.2.2.2.2) vs bs else .bad⟩ : Loops)

theorem sl06Order_l9_e (s : List Int × (List (Int × Int × Int × Int)) × List Int × Int × List Int × List Int) : (loopStep (envT Try.prog C61 M43) L_sl06Order_l9 9 (loopC (bodyOf Try.f84) 9) (S_sl06Order_l9.enc (s.1, s.2.1, s.2.2.1, s.2.2.2.1, s.2.2.2.2.1, s.2.2.2.2.2)).1 (S_sl06Order_l9.enc (s.1, s.2.1, s.2.2.1, s.2.2.2.1, s.2.2.2.2.1, s.2.2.2.2.2)).2).to (stepD S_sl06Order_l9 X_sl06Order_l9) = (sl06Order_l9_t  s.1 s.2.1 s.2.2.1 s.2.2.2.1 s.2.2.2.2.1 s.2.2.2.2.2).map (Sum.map (fun s : List Int × (List (Int × Int × Int × Int)) × List Int × Int × List Int × List Int => (show DR S_sl06Order_l9.hs from (s.1, s.2.1, s.2.2.1, s.2.2.2.1, s.2.2.2.2.1, s.2.2.2.2.2))) id) := by kernel_rfl

theorem sl06Order_l9_r (x : DR S_sl06Order_l9.hs) : (sl06Order_l9 x.1 x.2.1 x.2.2.1 x.2.2.2.1 x.2.2.2.2.1 x.2.2.2.2.2 : Option (SumD (X_sl06Order_l9.map (·.2)))) = runL (meanS (envT Try.prog C61 M43) L_sl06Order_l9 9 (loopC (bodyOf Try.f84) 9) S_sl06Order_l9 X_sl06Order_l9) x := run_of (fun s : List Int × (List (Int × Int × Int × Int)) × List Int × Int × List Int × List Int => (show DR S_sl06Order_l9.hs from (s.1, s.2.1, s.2.2.1, s.2.2.2.1, s.2.2.2.2.1, s.2.2.2.2.2))) (sl06Order_l9_e ) (x.1, x.2.1, x.2.2.1, x.2.2.2.1, x.2.2.2.2.1, x.2.2.2.2.2)

theorem sl06Order_l9_k (L : Loops) (hn : L_sl06Order_l9.n = L.n) (hlv : L_sl06Order_l9.lv 9 = L.lv 9) (hL : ∀ vs bs, L.loop 9 vs bs = toldL S_sl06Order_l9 X_sl06Order_l9 (fun x => sl06Order_l9 x.1 x.2.1 x.2.2.1 x.2.2.2.1 x.2.2.2.2.1 x.2.2.2.2.2) vs bs) : LOk Try.prog (envT Try.prog C61 M43) L 9 (loopC (bodyOf Try.f84) 9) := toldL_ok (L1 := L_sl06Order_l9) (envT_ok (C61_ok) (M43_ok)) mixedO hn hlv (loopsL (l := [(11, loopC (loopC (bodyOf Try.f84) 9) 11)]) (by kernel_rfl) (lk_cons (sl06Order_l11_k _ rfl rfl (fun _ _ => rfl)) lk_nil)) sl06Order_l9_r hL

def A_sl06Order : Shp := ⟨[.dpt [.h, .h, .h] 0], [], [.sl [.i .i64], .sl [.i .i64, .i .i64, .i .i64, .i .i64], .sl [.i .i64]]⟩
def R_sl06Order : List XShp := [(.ret, ⟨[.slw 0 1], [.arr [.i .i64] false], [.sl [.i .i64]]⟩)]

noncomputable def L_sl06Order : Loops := (⟨80, lvT [(11, [0, 3, 4, 6, 7]), (9, [0, 3, 4, 6]), (4, [0, 3, 4, 5])], mdT [(9, .exit 2, [], [0, 3, 4]), (4, .exit 0, [], [5])], fun k vs bs => bif Nat.beq k 9 then toldL S_sl06Order_l9 X_sl06Order_l9 (fun x => sl06Order_l9 x.1 x.2.1 x.2.2.1 x.2.2.2.1 x.2.2.2.2.1 x.2.2.2.2.2) vs bs else bif Nat.beq k 4 then toldL S_sl06Order_l4 X_sl06Order_l4 (fun x => sl06Order_l4 x.1 x.2.1 x.2.2.1 x.2.2.2.1 x.2.2.2.2.1 x.2.2.2.2.2) vs bs else .bad⟩ : Loops)

theorem sl06Order_e (x : DR A_sl06Order.hs) : (evFn (envT Try.prog C61 M43) L_sl06Order Try.f84 (A_sl06Order.enc x).1).to (fun q => decX R_sl06Order .ret [q.1] q.2) = sl06Order_t x.1 x.2.1 x.2.2 := by kernel_rfl

theorem sl06Order_m (x : DR A_sl06Order.hs) : meanF (envT Try.prog C61 M43) L_sl06Order Try.f84 A_sl06Order R_sl06Order x = (show Option (SumD (R_sl06Order.map (·.2))) from sl06Order x.1 x.2.1 x.2.2) := meanF_of (sl06Order_e x)

theorem sl06Order_ok : SpecOk Try.prog 84 (evFn (envT Try.prog C61 M43) L_sl06Order Try.f84) := fnL_ok (envT_ok (C61_ok) (M43_ok)) mixedO Try.func84 (by kernel_rfl) (c := bodyOf Try.f84) (by kernel_rfl) (loopsL (l := [(4, loopC (bodyOf Try.f84) 4), (9, loopC (bodyOf Try.f84) 9)]) (by kernel_rfl) (lk_cons (sl06Order_l4_k _ rfl rfl (fun _ _ => rfl)) (lk_cons (sl06Order_l9_k _ rfl rfl (fun _ _ => rfl)) lk_nil)))

theorem sl06Order_told : SpecOk Try.prog 84 (toldO A_sl06Order R_sl06Order (fun x => sl06Order x.1 x.2.1 x.2.2) (C61 84)) := toldO_ok (by kernel_rfl) sl06Order_ok (rest_ok (C61_ok) _) sl06Order_m

noncomputable def C62 : Tab := tab 84 (toldO A_sl06Order R_sl06Order (fun x => sl06Order x.1 x.2.1 x.2.2) (C61 84)) C61
theorem C62_ok : TabOk Try.prog C62 := tab_ok (sl06Order_told) (C61_ok)

def A_sFlowOrder : Shp := ⟨[.agg [.h, .h, .h]], [], [.sl [.i .i64], .sl [.i .i64, .i .i64, .i .i64, .i .i64], .sl [.i .i64]]⟩
def R_sFlowOrder : List XShp := [(.ret, ⟨[.tup [.nils, .lb false]], [], []⟩), (.ret, ⟨[.tup [.slw 0 1, .lb true]], [.arr [.i .i64] false], [.sl [.i .i64]]⟩)]

theorem sFlowOrder_e (x : DR A_sFlowOrder.hs) : (evFn (envT Try.prog C62 M43) noLoops Try.f50 (A_sFlowOrder.enc x).1).to (fun q => decX R_sFlowOrder .ret [q.1] q.2) = sFlowOrder_t x.1 x.2.1 x.2.2 := by kernel_rfl

theorem sFlowOrder_m (x : DR A_sFlowOrder.hs) : meanF (envT Try.prog C62 M43) noLoops Try.f50 A_sFlowOrder R_sFlowOrder x = (show Option (SumD (R_sFlowOrder.map (·.2))) from sFlowOrder x.1 x.2.1 x.2.2) := meanF_of (sFlowOrder_e x)

theorem sFlowOrder_ok : SpecOk Try.prog 50 (evFn (envT Try.prog C62 M43) noLoops Try.f50) := fnL_ok (envT_ok (C62_ok) (M43_ok)) mixedO Try.func50 (by kernel_rfl) (c := bodyOf Try.f50) (by kernel_rfl) (loopFree_ok (by kernel_rfl))

theorem sFlowOrder_told : SpecOk Try.prog 50 (toldO A_sFlowOrder R_sFlowOrder (fun x => sFlowOrder x.1 x.2.1 x.2.2) (C62 50)) := toldO_ok (by kernel_rfl) sFlowOrder_ok (rest_ok (C62_ok) _) sFlowOrder_m

noncomputable def C63 : Tab := tab 50 (toldO A_sFlowOrder R_sFlowOrder (fun x => sFlowOrder x.1 x.2.1 x.2.2) (C62 50)) C62
theorem C63_ok : TabOk Try.prog C63 := tab_ok (sFlowOrder_told) (C62_ok)

def S_iRiver_flowOrder_l9 : Shp := ⟨[.ref 0 0, .slw 1 1, .h, .h, .h, .h, .h, .h, .h, .h, .h], [.cells [.h, .h, .h] false, .arr [.i .i64] false], [.i .i64, .b, .i .i64, .i .i64, .i .i64, .i .i64, .sl [.i .i64], .i .i64, .i .i64, .sl [.i .i64], .sl [.i .i64, .i .i64, .i .i64, .i .i64], .sl [.i .i64], .sl [.i .i64]]⟩
def X_iRiver_flowOrder_l9 : List XShp := [(.exit 4, ⟨[.ref 0 0, .slw 1 1, .h, .h, .h, .h, .h, .h, .undef, .undef, .undef], [.cells [.h, .h, .h] false, .arr [.i .i64] false], [.i .i64, .b, .i .i64, .i .i64, .i .i64, .i .i64, .sl [.i .i64], .sl [.i .i64, .i .i64, .i .i64, .i .i64], .sl [.i .i64], .sl [.i .i64]]⟩)]

noncomputable def L_iRiver_flowOrder_l9 : Loops := (⟨52, lvT [(9, [1, 3, 4, 5, 11, 12, 16, 17, 25, 26, 27]), (5, [1, 3, 11, 12, 16, 17]), (3, [1, 3, 11, 12])], mdT [(9, .exit 4, [], [25, 26, 27]), (5, .exit 2, [], [16, 17]), (3, .exit 0, [], [1, 11, 12])], fun k vs bs => .bad⟩ : Loops)

theorem iRiver_flowOrder_l9_e (y0 : Int) (y2 : Int) (y3 : Int) (y4 : Int) (y5 : Int) (y6 : List Int) (y7 : Int) (y9 : List Int) (y10 : List (Int × Int × Int × Int)) (y11 : List Int) (y12 : List Int) (s : Bool × Int) : (loopStep (envT Try.prog C63 M43) L_iRiver_flowOrder_l9 9 (loopC (loopC (loopC (bodyOf Try.f85) 3) 5) 9) (S_iRiver_flowOrder_l9.enc (y0, s.1, y2, y3, y4, y5, y6, y7, s.2, y9, y10, y11, y12)).1 (S_iRiver_flowOrder_l9.enc (y0, s.1, y2, y3, y4, y5, y6, y7, s.2, y9, y10, y11, y12)).2).to (stepD S_iRiver_flowOrder_l9 X_iRiver_flowOrder_l9) = (iRiver_flowOrder_l9_t y0 y2 y3 y4 y5 y6 y7 y9 y10 y11 y12 s.1 s.2).map (Sum.map (fun s : Bool × Int => (show DR S_iRiver_flowOrder_l9.hs from (y0, s.1, y2, y3, y4, y5, y6, y7, s.2, y9, y10, y11, y12))) id) := by kernel_rfl

theorem iRiver_flowOrder_l9_r (x : DR S_iRiver_flowOrder_l9.hs) : (iRiver_flowOrder_l9 x.1 x.2.1 x.2.2.1 x.2.2.2.1 x.2.2.2.2.1 x.2.2.2.2.2.1 x.2.2.2.2.2.2.1 x.2.2.2.2.2.2.2.1 x.2.2.2.2.2.2.2.2.1 x.2.2.2.2.2.2.2.2.2.1 x.2.2.2.2.2.2.2.2.2.2.1 x.2.2.2.2.2.2.2.2.2.2.2.1 x.2.2.2.2.2.2.2.2.2.2.2.2 : Option (SumD (X_iRiver_flowOrder_l9.map (·.2)))) = runL (meanS (envT Try.prog C63 M43) L_iRiver_flowOrder_l9 9 (loopC (loopC (loopC (bodyOf Try.f85) 3) 5) 9) S_iRiver_flowOrder_l9 X_iRiver_flowOrder_l9) x := run_of (fun s : Bool × Int => (show DR S_iRiver_flowOrder_l9.hs from (x.1, s.1, x.2.2.1, x.2.2.2.1, x.2.2.2.2.1, x.2.2.2.2.2.1, x.2.2.2.2.2.2.1, x.2.2.2.2.2.2.2.1, s.2, x.2.2.2.2.2.2.2.2.2.1, x.2.2.2.2.2.2.2.2.2.2.1, x.2.2.2.2.2.2.2.2.2.2.2.1, x.2.2.2.2.2.2.2.2.2.2.2.2))) (iRiver_flowOrder_l9_e (x.1) (x.2.2.1) (x.2.2.2.1) (x.2.2.2.2.1) (x.2.2.2.2.2.1) (x.2.2.2.2.2.2.1) (x.2.2.2.2.2.2.2.1) (x.2.2.2.2.2.2.2.2.2.1) (x.2.2.2.2.2.2.2.2.2.2.1) (x.2.2.2.2.2.2.2.2.2.2.2.1) (x.2.2.2.2.2.2.2.2.2.2.2.2)) (x.2.1, x.2.2.2.2.2.2.2.2.1)

theorem iRiver_flowOrder_l9_k (L : Loops) (hn : L_iRiver_flowOrder_l9.n = L.n) (hlv : L_iRiver_flowOrder_l9.lv 9 = L.lv 9) (hL : ∀ vs bs, L.loop 9 vs bs = toldL S_iRiver_flowOrder_l9 X_iRiver_flowOrder_l9 (fun x => iRiver_flowOrder_l9 x.1 x.2.1 x.2.2.1 x.2.2.2.1 x.2.2.2.2.1 x.2.2.2.2.2.1 x.2.2.2.2.2.2.1 x.2.2.2.2.2.2.2.1 x.2.2.2.2.2.2.2.2.1 x.2.2.2.2.2.2.2.2.2.1 x.2.2.2.2.2.2.2.2.2.2.1 x.2.2.2.2.2.2.2.2.2.2.2.1 x.2.2.2.2.2.2.2.2.2.2.2.2) vs bs) : LOk Try.prog (envT Try.prog C63 M43) L 9 (loopC (loopC (loopC (bodyOf Try.f85) 3) 5) 9) := toldL_ok (L1 := L_iRiver_flowOrder_l9) (envT_ok (C63_ok) (M43_ok)) mixedO hn hlv (loopFree_ok (by kernel_rfl)) iRiver_flowOrder_l9_r hL

def S_iRiver_flowOrder_l5 : Shp := ⟨[.ref 0 0, .slw 1 1, .h, .h, .h, .h], [.cells [.h, .h, .h] false, .arr [.i .i64] false], [.i .i64, .i .i64, .i .i64, .i .i64, .sl [.i .i64], .sl [.i .i64, .i .i64, .i .i64, .i .i64], .sl [.i .i64], .sl [.i .i64]]⟩
def X_iRiver_flowOrder_l5 : List XShp := [(.exit 2, ⟨[.ref 0 0, .slw 1 1, .h, .h, .undef, .undef], [.cells [.h, .h, .h] false, .arr [.i .i64] false], [.i .i64, .i .i64, .sl [.i .i64], .sl [.i .i64, .i .i64, .i .i64, .i .i64], .sl [.i .i64], .sl [.i .i64]]⟩)]

noncomputable def L_iRiver_flowOrder_l5 : Loops := (⟨52, lvT [(9, [1, 3, 4, 5, 11, 12, 16, 17, 25, 26, 27]), (5, [1, 3, 11, 12, 16, 17]), (3, [1, 3, 11, 12])], mdT [(9, .exit 4, [], [25, 26, 27]), (5, .exit 2, [], [16, 17]), (3, .exit 0, [], [1, 11, 12])], fun k vs bs => bif Nat.beq k 9 then toldL S_iRiver_flowOrder_l9 X_iRiver_flowOrder_l9 (fun x => iRiver_flowOrder_l9 x.1 x.2.1 x.2.2.1 x.2.2.2.1 x.2.2.2.2.1 x.2.2.2.2.2.1 x.2.2.2.2.2.2.1 x.2.2.2.2.2.2.2.1 x.2.2.2.2.2.2.2.2.1 x.2.2.2.2.2.2.2.2.2.1 x.2.2.2.2.2.2.2.2.2.2.1 x.2.2.2.2.2.2.2.2.2.2.2.1 x.2.2.2.2.2.2.2.2.2.2.2.2) vs bs else .bad⟩ : Loops)

theorem iRiver_flowOrder_l5_e (s : Int × Int × Int × Int × List Int × (List (Int × Int × Int × Int)) × List Int × List Int) : (loopStep (envT Try.prog C63 M43) L_iRiver_flowOrder_l5 5 (loopC (loopC (bodyOf Try.f85) 3) 5) (S_iRiver_flowOrder_l5.enc (s.1, s.2.1, s.2.2.1, s.2.2.2.1, s.2.2.2.2.1, s.2.2.2.2.2.1, s.2.2.2.2.2.2.1, s.2.2.2.2.2.2.2)).1 (S_iRiver_flowOrder_l5.enc (s.1, s.2.1, s.2.2.1, s.2.2.2.1, s.2.2.2.2.1, s.2.2.2.2.2.1, s.2.2.2.2.2.2.1, s.2.2.2.2.2.2.2)).2).to (stepD S_iRiver_flowOrder_l5 X_iRiver_flowOrder_l5) = (iRiver_flowOrder_l5_t  s.1 s.2.1 s.2.2.1 s.2.2.2.1 s.2.2.2.2.1 s.2.2.2.2.2.1 s.2.2.2.2.2.2.1 s.2.2.2.2.2.2.2).map (Sum.map (fun s : Int × Int × Int × Int × List Int × (List (Int × Int × Int × Int)) × List Int × List Int => (show DR S_iRiver_flowOrder_l5.hs from (s.1, s.2.1, s.2.2.1, s.2.2.2.1, s.2.2.2.2.1, s.2.2.2.2.2.1, s.2.2.2.2.2.2.1, s.2.2.2.2.2.2.2))) id) := by kernel_rfl

theorem iRiver_flowOrder_l5_r (x : DR S_iRiver_flowOrder_l5.hs) : (iRiver_flowOrder_l5 x.1 x.2.1 x.2.2.1 x.2.2.2.1 x.2.2.2.2.1 x.2.2.2.2.2.1 x.2.2.2.2.2.2.1 x.2.2.2.2.2.2.2 : Option (SumD (X_iRiver_flowOrder_l5.map (·.2)))) = runL (meanS (envT Try.prog C63 M43) L_iRiver_flowOrder_l5 5 (loopC (loopC (bodyOf Try.f85) 3) 5) S_iRiver_flowOrder_l5 X_iRiver_flowOrder_l5) x := run_of (fun s : Int × Int × Int × Int × List Int × (List (Int × Int × Int × Int)) × List Int × List Int => (show DR S_iRiver_flowOrder_l5.hs from (s.1, s.2.1, s.2.2.1, s.2.2.2.1, s.2.2.2.2.1, s.2.2.2.2.2.1, s.2.2.2.2.2.2.1, s.2.2.2.2.2.2.2))) (iRiver_flowOrder_l5_e ) (x.1, x.2.1, x.2.2.1, x.2.2.2.1, x.2.2.2.2.1, x.2.2.2.2.2.1, x.2.2.2.2.2.2.1, x.2.2.2.2.2.2.2)

theorem iRiver_flowOrder_l5_k (L : Loops) (hn : L_iRiver_flowOrder_l5.n = L.n) (hlv : L_iRiver_flowOrder_l5.lv 5 = L.lv 5) (hL : ∀ vs bs, L.loop 5 vs bs = toldL S_iRiver_flowOrder_l5 X_iRiver_flowOrder_l5 (fun x => iRiver_flowOrder_l5 x.1 x.2.1 x.2.2.1 x.2.2.2.1 x.2.2.2.2.1 x.2.2.2.2.2.1 x.2.2.2.2.2.2.1 x.2.2.2.2.2.2.2) vs bs) : LOk Try.prog (envT Try.prog C63 M43) L 5 (loopC (loopC (bodyOf Try.f85) 3) 5) := toldL_ok (L1 := L_iRiver_flowOrder_l5) (envT_ok (C63_ok) (M43_ok)) mixedO hn hlv (loopsL (l := [(9, loopC (loopC (loopC (bodyOf Try.f85) 3) 5) 9)]) (by kernel_rfl) (lk_cons (iRiver_flowOrder_l9_k _ rfl rfl (fun _ _ => rfl)) lk_nil)) iRiver_flowOrder_l5_r hL

def S_iRiver_flowOrder_l3 : Shp := ⟨[.ref 0 0, .slw 1 1, .h, .h], [.cells [.h, .h, .h] false, .arr [.i .i64] false], [.i .i64, .i .i64, .sl [.i .i64], .sl [.i .i64, .i .i64, .i .i64, .i .i64], .sl [.i .i64], .sl [.i .i64]]⟩
def X_iRiver_flowOrder_l3 : List XShp := [(.exit 0, ⟨[.undef, .slw 0 1, .undef, .undef], [.arr [.i .i64] false], [.sl [.i .i64]]⟩)]

noncomputable def L_iRiver_flowOrder_l3 : Loops := (⟨52, lvT [(9, [1, 3, 4, 5, 11, 12, 16, 17, 25, 26, 27]), (5, [1, 3, 11, 12, 16, 17]), (3, [1, 3, 11, 12])], mdT [(9, .exit 4, [], [25, 26, 27]), (5, .exit 2, [], [16, 17]), (3, .exit 0, [], [1, 11, 12])], fun k vs bs => bif Nat.beq k 5 then toldL S_iRiver_flowOrder_l5 X_iRiver_flowOrder_l5 (fun x => iRiver_flowOrder_l5 x.1 x.2.1 x.2.2.1 x.2.2.2.1 x.2.2.2.2.1 x.2.2.2.2.2.1 x.2.2.2.2.2.2.1 x.2.2.2.2.2.2.2) vs bs else .bad⟩ : Loops)

theorem iRiver_flowOrder_l3_e (s : Int × Int × List Int × (List (Int × Int × Int × Int)) × List Int × List Int) : (loopStep (envT Try.prog C63 M43) L_iRiver_flowOrder_l3 3 (loopC (bodyOf Try.f85) 3) (S_iRiver_flowOrder_l3.enc (s.1, s.2.1, s.2.2.1, s.2.2.2.1, s.2.2.2.2.1, s.2.2.2.2.2)).1 (S_iRiver_flowOrder_l3.enc (s.1, s.2.1, s.2.2.1, s.2.2.2.1, s.2.2.2.2.1, s.2.2.2.2.2)).2).to (stepD S_iRiver_flowOrder_l3 X_iRiver_flowOrder_l3) = (iRiver_flowOrder_l3_t  s.1 s.2.1 s.2.2.1 s.2.2.2.1 s.2.2.2.2.1 s.2.2.2.2.2).map (Sum.map (fun s : Int × Int × List Int × (List (Int × Int × Int × Int)) × List Int × List Int => (show DR S_iRiver_flowOrder_l3.hs from (s.1, s.2.1, s.2.2.1, s.2.2.2.1, s.2.2.2.2.1, s.2.2.2.2.2))) id) := by kernel_rfl

theorem iRiver_flowOrder_l3_r (x : DR S_iRiver_flowOrder_l3.hs) : (iRiver_flowOrder_l3 x.1 x.2.1 x.2.2.1 x.2.2.2.1 x.2.2.2.2.1 x.2.2.2.2.2 : Option (SumD (X_iRiver_flowOrder_l3.map (·.2)))) = runL (meanS (envT Try.prog C63 M43) L_iRiver_flowOrder_l3 3 (loopC (bodyOf Try.f85) 3) S_iRiver_flowOrder_l3 X_iRiver_flowOrder_l3) x := run_of (fun s : Int × Int × List Int × (List (Int × Int × Int × Int)) × List Int × List Int => (show DR S_iRiver_flowOrder_l3.hs from (s.1, s.2.1, s.2.2.1, s.2.2.2.1, s.2.2.2.2.1, s.2.2.2.2.2))) (iRiver_flowOrder_l3_e ) (x.1, x.2.1, x.2.2.1, x.2.2.2.1, x.2.2.2.2.1, x.2.2.2.2.2)

theorem iRiver_flowOrder_l3_k (L : Loops) (hn : L_iRiver_flowOrder_l3.n = L.n) (hlv : L_iRiver_flowOrder_l3.lv 3 = L.lv 3) (hL : ∀ vs bs, L.loop 3 vs bs = toldL S_iRiver_flowOrder_l3 X_iRiver_flowOrder_l3 (fun x => iRiver_flowOrder_l3 x.1 x.2.1 x.2.2.1 x.2.2.2.1 x.2.2.2.2.1 x.2.2.2.2.2) vs bs) : LOk Try.prog (envT Try.prog C63 M43) L 3 (loopC (bodyOf Try.f85) 3) := toldL_ok (L1 := L_iRiver_flowOrder_l3) (envT_ok (C63_ok) (M43_ok)) mixedO hn hlv (loopsL (l := [(5, loopC (loopC (bodyOf Try.f85) 3) 5)]) (by kernel_rfl) (lk_cons (iRiver_flowOrder_l5_k _ rfl rfl (fun _ _ => rfl)) lk_nil)) iRiver_flowOrder_l3_r hL

def A_iRiver_flowOrder : Shp := ⟨[.agg [.h, .h, .h]], [], [.sl [.i .i64], .sl [.i .i64, .i .i64, .i .i64, .i .i64], .sl [.i .i64]]⟩
def R_iRiver_flowOrder : List XShp := [(.ret, ⟨[.slw 0 1], [.arr [.i .i64] false], [.sl [.i .i64]]⟩)]

noncomputable def L_iRiver_flowOrder : Loops := (⟨52, lvT [(9, [1, 3, 4, 5, 11, 12, 16, 17, 25, 26, 27]), (5, [1, 3, 11, 12, 16, 17]), (3, [1, 3, 11, 12])], mdT [(9, .exit 4, [], [25, 26, 27]), (5, .exit 2, [], [16, 17]), (3, .exit 0, [], [1, 11, 12])], fun k vs bs => bif Nat.beq k 3 then toldL S_iRiver_flowOrder_l3 X_iRiver_flowOrder_l3 (fun x => iRiver_flowOrder_l3 x.1 x.2.1 x.2.2.1 x.2.2.2.1 x.2.2.2.2.1 x.2.2.2.2.2) vs bs else .bad⟩ : Loops)

theorem iRiver_flowOrder_e (x : DR A_iRiver_flowOrder.hs) : (evFn (envT Try.prog C63 M43) L_iRiver_flowOrder Try.f85 (A_iRiver_flowOrder.enc x).1).to (fun q => decX R_iRiver_flowOrder .ret [q.1] q.2) = iRiver_flowOrder_t x.1 x.2.1 x.2.2 := by kernel_rfl

theorem iRiver_flowOrder_m (x : DR A_iRiver_flowOrder.hs) : meanF (envT Try.prog C63 M43) L_iRiver_flowOrder Try.f85 A_iRiver_flowOrder R_iRiver_flowOrder x = (show Option (SumD (R_iRiver_flowOrder.map (·.2))) from iRiver_flowOrder x.1 x.2.1 x.2.2) := meanF_of (iRiver_flowOrder_e x)

theorem iRiver_flowOrder_ok : SpecOk Try.prog 85 (evFn (envT Try.prog C63 M43) L_iRiver_flowOrder Try.f85) := fnL_ok (envT_ok (C63_ok) (M43_ok)) mixedO Try.func85 (by kernel_rfl) (c := bodyOf Try.f85) (by kernel_rfl) (loopsL (l := [(3, loopC (bodyOf Try.f85) 3)]) (by kernel_rfl) (lk_cons (iRiver_flowOrder_l3_k _ rfl rfl (fun _ _ => rfl)) lk_nil))

theorem iRiver_flowOrder_told : SpecOk Try.prog 85 (toldO A_iRiver_flowOrder R_iRiver_flowOrder (fun x => iRiver_flowOrder x.1 x.2.1 x.2.2) (C63 85)) := toldO_ok (by kernel_rfl) iRiver_flowOrder_ok (rest_ok (C63_ok) _) iRiver_flowOrder_m

noncomputable def C64 : Tab := tab 85 (toldO A_iRiver_flowOrder R_iRiver_flowOrder (fun x => iRiver_flowOrder x.1 x.2.1 x.2.2) (C63 85)) C63
theorem C64_ok : TabOk Try.prog C64 := tab_ok (iRiver_flowOrder_told) (C63_ok)

def A_iFlowOrder : Shp := ⟨[.agg [.h, .h, .h]], [], [.sl [.i .i64], .sl [.i .i64, .i .i64, .i .i64, .i .i64], .sl [.i .i64]]⟩
def R_iFlowOrder : List XShp := [(.ret, ⟨[.tup [.nils, .lb false]], [], []⟩), (.ret, ⟨[.tup [.slw 0 1, .lb true]], [.arr [.i .i64] false], [.sl [.i .i64]]⟩)]

theorem iFlowOrder_e (x : DR A_iFlowOrder.hs) : (evFn (envT Try.prog C64 M43) noLoops Try.f51 (A_iFlowOrder.enc x).1).to (fun q => decX R_iFlowOrder .ret [q.1] q.2) = iFlowOrder_t x.1 x.2.1 x.2.2 := by kernel_rfl

theorem iFlowOrder_m (x : DR A_iFlowOrder.hs) : meanF (envT Try.prog C64 M43) noLoops Try.f51 A_iFlowOrder R_iFlowOrder x = (show Option (SumD (R_iFlowOrder.map (·.2))) from iFlowOrder x.1 x.2.1 x.2.2) := meanF_of (iFlowOrder_e x)

theorem iFlowOrder_ok : SpecOk Try.prog 51 (evFn (envT Try.prog C64 M43) noLoops Try.f51) := fnL_ok (envT_ok (C64_ok) (M43_ok)) mixedO Try.func51 (by kernel_rfl) (c := bodyOf Try.f51) (by kernel_rfl) (loopFree_ok (by kernel_rfl))

theorem iFlowOrder_told : SpecOk Try.prog 51 (toldO A_iFlowOrder R_iFlowOrder (fun x => iFlowOrder x.1 x.2.1 x.2.2) (C64 51)) := toldO_ok (by kernel_rfl) iFlowOrder_ok (rest_ok (C64_ok) _) iFlowOrder_m

noncomputable def C65 : Tab := tab 51 (toldO A_iFlowOrder R_iFlowOrder (fun x => iFlowOrder x.1 x.2.1 x.2.2) (C64 51)) C64
theorem C65_ok : TabOk Try.prog C65 := tab_ok (iFlowOrder_told) (C64_ok)

def A_wFnExactFlowOrder : Shp := ⟨[.agg [.h, .h, .h]], [], [.sl [.i .i64], .sl [.i .i64, .i .i64, .i .i64, .i .i64], .sl [.i .i64]]⟩
def R_wFnExactFlowOrder : List XShp := [(.ret, ⟨[.h], [], [.b]⟩)]

theorem wFnExactFlowOrder_e (x : DR A_wFnExactFlowOrder.hs) : (evFn (envT Try.prog C65 M43) noLoops Try.f14 (A_wFnExactFlowOrder.enc x).1).to (fun q => decX R_wFnExactFlowOrder .ret [q.1] q.2) = wFnExactFlowOrder_t x.1 x.2.1 x.2.2 := by kernel_rfl

theorem wFnExactFlowOrder_m (x : DR A_wFnExactFlowOrder.hs) : meanF (envT Try.prog C65 M43) noLoops Try.f14 A_wFnExactFlowOrder R_wFnExactFlowOrder x = (show Option (SumD (R_wFnExactFlowOrder.map (·.2))) from wFnExactFlowOrder x.1 x.2.1 x.2.2) := meanF_of (wFnExactFlowOrder_e x)

theorem wFnExactFlowOrder_ok : SpecOk Try.prog 14 (evFn (envT Try.prog C65 M43) noLoops Try.f14) := fnL_ok (envT_ok (C65_ok) (M43_ok)) mixedO Try.func14 (by kernel_rfl) (c := bodyOf Try.f14) (by kernel_rfl) (loopFree_ok (by kernel_rfl))

theorem wFnExactFlowOrder_told : SpecOk Try.prog 14 (toldO A_wFnExactFlowOrder R_wFnExactFlowOrder (fun x => wFnExactFlowOrder x.1 x.2.1 x.2.2) (C65 14)) := toldO_ok (by kernel_rfl) wFnExactFlowOrder_ok (rest_ok (C65_ok) _) wFnExactFlowOrder_m

noncomputable def C66 : Tab := tab 14 (toldO A_wFnExactFlowOrder R_wFnExactFlowOrder (fun x => wFnExactFlowOrder x.1 x.2.1 x.2.2) (C65 14)) C65
theorem C66_ok : TabOk Try.prog C66 := tab_ok (wFnExactFlowOrder_told) (C65_ok)

theorem lawFnExactFlowOrder_ok : SpecOk Try.prog 14 (evFn (envT Try.prog C65 M43) noLoops Try.f14) := wFnExactFlowOrder_ok
theorem lawFnExactFlowOrder_says (x : DR A_wFnExactFlowOrder.hs) (h : (show Option (SumD (R_wFnExactFlowOrder.map (·.2))) from wFnExactFlowOrder x.1 x.2.1 x.2.2) = some true) : saysTrue (evFn (envT Try.prog C65 M43) noLoops Try.f14 (A_wFnExactFlowOrder.enc x).1) = true := law_says (x := x) ((wFnExactFlowOrder_m x).trans h)

theorem lawFnExactFlowOrder_true (x0 : List Int) (x1 : List (Int × Int × Int × Int)) (x2 : List Int) (h : wFnExactFlowOrder x0 x1 x2 = some true) : saysTrue (evFn (envT Try.prog C65 M43) noLoops Try.f14 [.agg [.ds [.i .i64] x0, .ds [.i .i64, .i .i64, .i .i64, .i .i64] x1, .ds [.i .i64] x2]]) = true := (congrArg (fun l => saysTrue (evFn (envT Try.prog C65 M43) noLoops Try.f14 l)) (by kernel_rfl : ([.agg [.ds [.i .i64] x0, .ds [.i .i64, .i .i64, .i .i64, .i .i64] x1, .ds [.i .i64] x2]] : List V) = (A_wFnExactFlowOrder.enc (x0, x1, x2)).1)).trans (lawFnExactFlowOrder_says (x0, x1, x2) h)

def S_sl06Inflows_l2 : Shp := ⟨[.h, .h, .undef, .h], [], [.sl [.i .i64], .i .i64, .i .i64]⟩
def X_sl06Inflows_l2 : List XShp := [(.ret, ⟨[.undef, .undef, .lb false, .undef], [], []⟩), (.exit 0, ⟨[.h, .h, .undef, .undef], [], [.sl [.i .i64], .i .i64]⟩)]

noncomputable def L_sl06Inflows_l2 : Loops := (⟨28, lvT [(2, [0, 1, 4, 5])], mdT [(2, .normal, [], [4]), (2, .exit 0, [], [4, 5]), (2, .ret, [], [0, 1, 5])], fun k vs bs => .bad⟩ : Loops)

theorem sl06Inflows_l2_e (y0 : List Int) (y1 : Int) (s : Int) : (loopStep (envT Try.prog C66 M43) L_sl06Inflows_l2 2 (loopC (bodyOf Try.f86) 2) (S_sl06Inflows_l2.enc (y0, y1, s)).1 (S_sl06Inflows_l2.enc (y0, y1, s)).2).to (stepD S_sl06Inflows_l2 X_sl06Inflows_l2) = (sl06Inflows_l2_t y0 y1 s).map (Sum.map (fun s : Int => (show DR S_sl06Inflows_l2.hs from (y0, y1, s))) id) := by kernel_rfl

theorem sl06Inflows_l2_r (x : DR S_sl06Inflows_l2.hs) : (sl06Inflows_l2 x.1 x.2.1 x.2.2 : Option (SumD (X_sl06Inflows_l2.map (·.2)))) = runL (meanS (envT Try.prog C66 M43) L_sl06Inflows_l2 2 (loopC (bodyOf Try.f86) 2) S_sl06Inflows_l2 X_sl06Inflows_l2) x := run_of (fun s : Int => (show DR S_sl06Inflows_l2.hs from (x.1, x.2.1, s))) (sl06Inflows_l2_e (x.1) (x.2.1)) x.2.2

theorem sl06Inflows_l2_k (L : Loops) (hn : L_sl06Inflows_l2.n = L.n) (hlv : L_sl06Inflows_l2.lv 2 = L.lv 2) (hL : ∀ vs bs, L.loop 2 vs bs = toldL S_sl06Inflows_l2 X_sl06Inflows_l2 (fun x => sl06Inflows_l2 x.1 x.2.1 x.2.2) vs bs) : LOk Try.prog (envT Try.prog C66 M43) L 2 (loopC (bodyOf Try.f86) 2) := toldL_ok (L1 := L_sl06Inflows_l2) (envT_ok (C66_ok) (M43_ok)) mixedO hn hlv (loopFree_ok (by kernel_rfl)) sl06Inflows_l2_r hL

def A_sl06Inflows : Shp := ⟨[.h, .h], [], [.sl [.i .i64], .i .i64]⟩
def R_sl06Inflows : List XShp := [(.ret, ⟨[.h], [], [.b]⟩)]

noncomputable def L_sl06Inflows : Loops := (⟨28, lvT [(2, [0, 1, 4, 5])], mdT [(2, .normal, [], [4]), (2, .exit 0, [], [4, 5]), (2, .ret, [], [0, 1, 5])], fun k vs bs => bif Nat.beq k 2 then toldL S_sl06Inflows_l2 X_sl06Inflows_l2 (fun x => sl06Inflows_l2 x.1 x.2.1 x.2.2) vs bs else .bad⟩ : Loops)

theorem sl06Inflows_e (x : DR A_sl06Inflows.hs) : (evFn (envT Try.prog C66 M43) L_sl06Inflows Try.f86 (A_sl06Inflows.enc x).1).to (fun q => decX R_sl06Inflows .ret [q.1] q.2) = sl06Inflows_t x.1 x.2 := by kernel_rfl

theorem sl06Inflows_m (x : DR A_sl06Inflows.hs) : meanF (envT Try.prog C66 M43) L_sl06Inflows Try.f86 A_sl06Inflows R_sl06Inflows x = (show Option (SumD (R_sl06Inflows.map (·.2))) from sl06Inflows x.1 x.2) := meanF_of (sl06Inflows_e x)

theorem sl06Inflows_ok : SpecOk Try.prog 86 (evFn (envT Try.prog C66 M43) L_sl06Inflows Try.f86) := fnL_ok (envT_ok (C66_ok) (M43_ok)) mixedO Try.func86 (by kernel_rfl) (c := bodyOf Try.f86) (by kernel_rfl) (loopsL (l := [(2, loopC (bodyOf Try.f86) 2)]) (by kernel_rfl) (lk_cons (sl06Inflows_l2_k _ rfl rfl (fun _ _ => rfl)) lk_nil))

theorem sl06Inflows_told : SpecOk Try.prog 86 (toldO A_sl06Inflows R_sl06Inflows (fun x => sl06Inflows x.1 x.2) (C66 86)) := toldO_ok (by kernel_rfl) sl06Inflows_ok (rest_ok (C66_ok) _) sl06Inflows_m

noncomputable def C67 : Tab := tab 86 (toldO A_sl06Inflows R_sl06Inflows (fun x => sl06Inflows x.1 x.2) (C66 86)) C66
theorem C67_ok : TabOk Try.prog C67 := tab_ok (sl06Inflows_told) (C66_ok)

def A_sl06List : Shp := ⟨[.h], [], [.sl [.i .i64]]⟩
def R_sl06List : List XShp := [(.ret, ⟨[.h], [], [.b]⟩)]

theorem sl06List_e (x : DR A_sl06List.hs) : (evFn (envT Try.prog C67 M43) noLoops Try.f53 (A_sl06List.enc x).1).to (fun q => decX R_sl06List .ret [q.1] q.2) = sl06List_t x := by kernel_rfl

theorem sl06List_m (x : DR A_sl06List.hs) : meanF (envT Try.prog C67 M43) noLoops Try.f53 A_sl06List R_sl06List x = (show Option (SumD (R_sl06List.map (·.2))) from sl06List x) := meanF_of (sl06List_e x)

theorem sl06List_ok : SpecOk Try.prog 53 (evFn (envT Try.prog C67 M43) noLoops Try.f53) := fnL_ok (envT_ok (C67_ok) (M43_ok)) mixedO Try.func53 (by kernel_rfl) (c := bodyOf Try.f53) (by kernel_rfl) (loopFree_ok (by kernel_rfl))

theorem sl06List_told : SpecOk Try.prog 53 (toldO A_sl06List R_sl06List (fun x => sl06List x) (C67 53)) := toldO_ok (by kernel_rfl) sl06List_ok (rest_ok (C67_ok) _) sl06List_m

noncomputable def C68 : Tab := tab 53 (toldO A_sl06List R_sl06List (fun x => sl06List x) (C67 53)) C67
theorem C68_ok : TabOk Try.prog C68 := tab_ok (sl06List_told) (C67_ok)

def S_sl06Sum_l3 : Shp := ⟨[.h, .h, .h], [], [.sl [.i .i64], .i .i64, .i .i64]⟩
def X_sl06Sum_l3 : List XShp := [(.exit 0, ⟨[.undef, .h, .undef], [], [.i .i64]⟩)]

noncomputable def L_sl06Sum_l3 : Loops := (⟨18, lvT [(3, [0, 3, 4])], mdT [(3, .exit 0, [], [0, 4])], fun k vs bs => .bad⟩ : Loops)

theorem sl06Sum_l3_e (y0 : List Int) (s : Int × Int) : (loopStep (envT Try.prog C68 M43) L_sl06Sum_l3 3 (loopC (bodyOf Try.f54) 3) (S_sl06Sum_l3.enc (y0, s.1, s.2)).1 (S_sl06Sum_l3.enc (y0, s.1, s.2)).2).to (stepD S_sl06Sum_l3 X_sl06Sum_l3) = (sl06Sum_l3_t y0 s.1 s.2).map (Sum.map (fun s : Int × Int => (show DR S_sl06Sum_l3.hs from (y0, s.1, s.2))) id) := by kernel_rfl

theorem sl06Sum_l3_r (x : DR S_sl06Sum_l3.hs) : (sl06Sum_l3 x.1 x.2.1 x.2.2 : Option (SumD (X_sl06Sum_l3.map (·.2)))) = runL (meanS (envT Try.prog C68 M43) L_sl06Sum_l3 3 (loopC (bodyOf Try.f54) 3) S_sl06Sum_l3 X_sl06Sum_l3) x := run_of (fun s : Int × Int => (show DR S_sl06Sum_l3.hs from (x.1, s.1, s.2))) (sl06Sum_l3_e (x.1)) (x.2.1, x.2.2)

theorem sl06Sum_l3_k (L : Loops) (hn : L_sl06Sum_l3.n = L.n) (hlv : L_sl06Sum_l3.lv 3 = L.lv 3) (hL : ∀ vs bs, L.loop 3 vs bs = toldL S_sl06Sum_l3 X_sl06Sum_l3 (fun x => sl06Sum_l3 x.1 x.2.1 x.2.2) vs bs) : LOk Try.prog (envT Try.prog C68 M43) L 3 (loopC (bodyOf Try.f54) 3) := toldL_ok (L1 := L_sl06Sum_l3) (envT_ok (C68_ok) (M43_ok)) mixedO hn hlv (loopFree_ok (by kernel_rfl)) sl06Sum_l3_r hL

def A_sl06Sum : Shp := ⟨[.h], [], [.sl [.i .i64]]⟩
def R_sl06Sum : List XShp := [(.ret, ⟨[.h], [], [.i .i64]⟩)]

noncomputable def L_sl06Sum : Loops := (⟨18, lvT [(3, [0, 3, 4])], mdT [(3, .exit 0, [], [0, 4])], fun k vs bs => bif Nat.beq k 3 then toldL S_sl06Sum_l3 X_sl06Sum_l3 (fun x => sl06Sum_l3 x.1 x.2.1 x.2.2) vs bs else .bad⟩ : Loops)

theorem sl06Sum_e (x : DR A_sl06Sum.hs) : (evFn (envT Try.prog C68 M43) L_sl06Sum Try.f54 (A_sl06Sum.enc x).1).to (fun q => decX R_sl06Sum .ret [q.1] q.2) = sl06Sum_t x := by kernel_rfl

theorem sl06Sum_m (x : DR A_sl06Sum.hs) : meanF (envT Try.prog C68 M43) L_sl06Sum Try.f54 A_sl06Sum R_sl06Sum x = (show Option (SumD (R_sl06Sum.map (·.2))) from sl06Sum x) := meanF_of (sl06Sum_e x)

theorem sl06Sum_ok : SpecOk Try.prog 54 (evFn (envT Try.prog C68 M43) L_sl06Sum Try.f54) := fnL_ok (envT_ok (C68_ok) (M43_ok)) mixedO Try.func54 (by kernel_rfl) (c := bodyOf Try.f54) (by kernel_rfl) (loopsL (l := [(3, loopC (bodyOf Try.f54) 3)]) (by kernel_rfl) (lk_cons (sl06Sum_l3_k _ rfl rfl (fun _ _ => rfl)) lk_nil))

theorem sl06Sum_told : SpecOk Try.prog 54 (toldO A_sl06Sum R_sl06Sum (fun x => sl06Sum x) (C68 54)) := toldO_ok (by kernel_rfl) sl06Sum_ok (rest_ok (C68_ok) _) sl06Sum_m

noncomputable def C69 : Tab := tab 54 (toldO A_sl06Sum R_sl06Sum (fun x => sl06Sum x) (C68 54)) C68
theorem C69_ok : TabOk Try.prog C69 := tab_ok (sl06Sum_told) (C68_ok)

def S_sl06Split_l16 : Shp := ⟨[.slw 0 1, .slw 1 1, .h, .h, .h], [.arr [.i .i64] false, .arr [.i .i64] false], [.i .i64, .i .i64, .i .i64, .sl [.i .i64], .sl [.i .i64]]⟩
def X_sl06Split_l16 : List XShp := [(.exit 4, ⟨[.slw 0 1, .slw 1 1, .h, .h, .undef], [.arr [.i .i64] false, .arr [.i .i64] false], [.i .i64, .i .i64, .sl [.i .i64], .sl [.i .i64]]⟩)]

noncomputable def L_sl06Split_l16 : Loops := (⟨80, lvT [(16, [6, 7, 8, 11, 12]), (12, [6, 7, 8]), (6, [0, 1, 5, 6, 7, 8, 9])], mdT [(16, .exit 4, [], [12]), (12, .exit 2, [], [7, 8]), (6, .exit 0, [], [0, 1, 5, 9])], fun k vs bs => .bad⟩ : Loops)

theorem sl06Split_l16_e (y0 : Int) (y3 : List Int) (y4 : List Int) (s : Int × Int) : (loopStep (envT Try.prog C69 M43) L_sl06Split_l16 16 (loopC (loopC (bodyOf Try.f55) 12) 16) (S_sl06Split_l16.enc (y0, s.1, s.2, y3, y4)).1 (S_sl06Split_l16.enc (y0, s.1, s.2, y3, y4)).2).to (stepD S_sl06Split_l16 X_sl06Split_l16) = (sl06Split_l16_t y0 y3 y4 s.1 s.2).map (Sum.map (fun s : Int × Int => (show DR S_sl06Split_l16.hs from (y0, s.1, s.2, y3, y4))) id) := by kernel_rfl

theorem sl06Split_l16_r (x : DR S_sl06Split_l16.hs) : (sl06Split_l16 x.1 x.2.1 x.2.2.1 x.2.2.2.1 x.2.2.2.2 : Option (SumD (X_sl06Split_l16.map (·.2)))) = runL (meanS (envT Try.prog C69 M43) L_sl06Split_l16 16 (loopC (loopC (bodyOf Try.f55) 12) 16) S_sl06Split_l16 X_sl06Split_l16) x := run_of (fun s : Int × Int => (show DR S_sl06Split_l16.hs from (x.1, s.1, s.2, x.2.2.2.1, x.2.2.2.2))) (sl06Split_l16_e (x.1) (x.2.2.2.1) (x.2.2.2.2)) (x.2.1, x.2.2.1)

theorem sl06Split_l16_k (L : Loops) (hn : L_sl06Split_l16.n = L.n) (hlv : L_sl06Split_l16.lv 16 = L.lv 16) (hL : ∀ vs bs, L.loop 16 vs bs = toldL S_sl06Split_l16 X_sl06Split_l16 (fun x => sl06Split_l16 x.1 x.2.1 x.2.2.1 x.2.2.2.1 x.2.2.2.2) vs bs) : LOk Try.prog (envT Try.prog C69 M43) L 16 (loopC (loopC (bodyOf Try.f55) 12) 16) := toldL_ok (L1 := L_sl06Split_l16) (envT_ok (C69_ok) (M43_ok)) mixedO hn hlv (loopFree_ok (by kernel_rfl)) sl06Split_l16_r hL

def S_sl06Split_l6 : Shp := ⟨[.h, .h, .h, .slw 0 1, .slw 1 1, .h, .h], [.arr [.i .i64] false, .arr [.i .i64] false], [.i .i64, .sl [.i .i64], .i .i64, .i .i64, .i .i64, .sl [.i .i64], .sl [.i .i64]]⟩
def X_sl06Split_l6 : List XShp := [(.exit 0, ⟨[.undef, .undef, .undef, .slw 0 1, .slw 1 1, .h, .undef], [.arr [.i .i64] false, .arr [.i .i64] false], [.i .i64, .sl [.i .i64], .sl [.i .i64]]⟩)]

noncomputable def L_sl06Split_l6 : Loops := (⟨80, lvT [(16, [6, 7, 8, 11, 12]), (12, [6, 7, 8]), (6, [0, 1, 5, 6, 7, 8, 9])], mdT [(16, .exit 4, [], [12]), (12, .exit 2, [], [7, 8]), (6, .exit 0, [], [0, 1, 5, 9])], fun k vs bs => .bad⟩ : Loops)

theorem sl06Split_l6_e (y0 : Int) (y1 : List Int) (y2 : Int) (s : Int × Int × List Int × List Int) : (loopStep (envT Try.prog C69 M43) L_sl06Split_l6 6 (loopC (bodyOf Try.f55) 6) (S_sl06Split_l6.enc (y0, y1, y2, s.1, s.2.1, s.2.2.1, s.2.2.2)).1 (S_sl06Split_l6.enc (y0, y1, y2, s.1, s.2.1, s.2.2.1, s.2.2.2)).2).to (stepD S_sl06Split_l6 X_sl06Split_l6) = (sl06Split_l6_t y0 y1 y2 s.1 s.2.1 s.2.2.1 s.2.2.2).map (Sum.map (fun s : Int × Int × List Int × List Int => (show DR S_sl06Split_l6.hs from (y0, y1, y2, s.1, s.2.1, s.2.2.1, s.2.2.2))) id) := by kernel_rfl

theorem sl06Split_l6_r (x : DR S_sl06Split_l6.hs) : (sl06Split_l6 x.1 x.2.1 x.2.2.1 x.2.2.2.1 x.2.2.2.2.1 x.2.2.2.2.2.1 x.2.2.2.2.2.2 : Option (SumD (X_sl06Split_l6.map (·.2)))) = runL (meanS (envT Try.prog C69 M43) L_sl06Split_l6 6 (loopC (bodyOf Try.f55) 6) S_sl06Split_l6 X_sl06Split_l6) x := run_of (fun s : Int × Int × List Int × List Int => (show DR S_sl06Split_l6.hs from (x.1, x.2.1, x.2.2.1, s.1, s.2.1, s.2.2.1, s.2.2.2))) (sl06Split_l6_e (x.1) (x.2.1) (x.2.2.1)) (x.2.2.2.1, x.2.2.2.2.1, x.2.2.2.2.2.1, x.2.2.2.2.2.2)

theorem sl06Split_l6_k (L : Loops) (hn : L_sl06Split_l6.n = L.n) (hlv : L_sl06Split_l6.lv 6 = L.lv 6) (hL : ∀ vs bs, L.loop 6 vs bs = toldL S_sl06Split_l6 X_sl06Split_l6 (fun x => sl06Split_l6 x.1 x.2.1 x.2.2.1 x.2.2.2.1 x.2.2.2.2.1 x.2.2.2.2.2.1 x.2.2.2.2.2.2) vs bs) : LOk Try.prog (envT Try.prog C69 M43) L 6 (loopC (bodyOf Try.f55) 6) := toldL_ok (L1 := L_sl06Split_l6) (envT_ok (C69_ok) (M43_ok)) mixedO hn hlv (loopFree_ok (by kernel_rfl)) sl06Split_l6_r hL

def S_sl06Split_l12 : Shp := ⟨[.slw 0 1, .slw 1 1, .h], [.arr [.i .i64] false, .arr [.i .i64] false], [.i .i64, .sl [.i .i64], .sl [.i .i64]]⟩
def X_sl06Split_l12 : List XShp := [(.exit 2, ⟨[.slw 0 1, .undef, .undef], [.arr [.i .i64] false], [.sl [.i .i64]]⟩)]

noncomputable def L_sl06Split_l12 : Loops := (⟨80, lvT [(16, [6, 7, 8, 11, 12]), (12, [6, 7, 8]), (6, [0, 1, 5, 6, 7, 8, 9])], mdT [(16, .exit 4, [], [12]), (12, .exit 2, [], [7, 8]), (6, .exit 0, [], [0, 1, 5, 9])], fun k vs bs => bif Nat.beq k 16 then toldL S_sl06Split_l16 X_sl06Split_l16 (fun x => sl06Split_l16 x.1 x.2.1 x.2.2.1 x.2.2.2.1 x.2.2.2.2) vs bs else .bad⟩ : Loops)

theorem sl06Split_l12_e (s : Int × List Int × List Int) : (loopStep (envT Try.prog C69 M43) L_sl06Split_l12 12 (loopC (bodyOf Try.f55) 12) (S_sl06Split_l12.enc (s.1, s.2.1, s.2.2)).1 (S_sl06Split_l12.enc (s.1, s.2.1, s.2.2)).2).to (stepD S_sl06Split_l12 X_sl06Split_l12) = (sl06Split_l12_t  s.1 s.2.1 s.2.2).map (Sum.map (fun s : Int × List Int × List Int => (show DR S_sl06Split_l12.hs from (s.1, s.2.1, s.2.2))) id) := by kernel_rfl

theorem sl06Split_l12_r (x : DR S_sl06Split_l12.hs) : (sl06Split_l12 x.1 x.2.1 x.2.2 : Option (SumD (X_sl06Split_l12.map (·.2)))) = runL (meanS (envT Try.prog C69 M43) L_sl06Split_l12 12 (loopC (bodyOf Try.f55) 12) S_sl06Split_l12 X_sl06Split_l12) x := run_of (fun s : Int × List Int × List Int => (show DR S_sl06Split_l12.hs from (s.1, s.2.1, s.2.2))) (sl06Split_l12_e ) (x.1, x.2.1, x.2.2)

theorem sl06Split_l12_k (L : Loops) (hn : L_sl06Split_l12.n = L.n) (hlv : L_sl06Split_l12.lv 12 = L.lv 12) (hL : ∀ vs bs, L.loop 12 vs bs = toldL S_sl06Split_l12 X_sl06Split_l12 (fun x => sl06Split_l12 x.1 x.2.1 x.2.2) vs bs) : LOk Try.prog (envT Try.prog C69 M43) L 12 (loopC (bodyOf Try.f55) 12) := toldL_ok (L1 := L_sl06Split_l12) (envT_ok (C69_ok) (M43_ok)) mixedO hn hlv (loopsL (l := [(16, loopC (loopC (bodyOf Try.f55) 12) 16)]) (by kernel_rfl) (lk_cons (sl06Split_l16_k _ rfl rfl (fun _ _ => rfl)) lk_nil)) sl06Split_l12_r hL

def A_sl06Split : Shp := ⟨[.h, .h], [], [.i .i64, .sl [.i .i64]]⟩
def R_sl06Split : List XShp := [(.ret, ⟨[.slw 0 1], [.arr [.i .i64] false], [.sl [.i .i64]]⟩)]

noncomputable def L_sl06Split : Loops := (⟨80, lvT [(16, [6, 7, 8, 11, 12]), (12, [6, 7, 8]), (6, [0, 1, 5, 6, 7, 8, 9])], mdT [(16, .exit 4, [], [12]), (12, .exit 2, [], [7, 8]), (6, .exit 0, [], [0, 1, 5, 9])], fun k vs bs => bif Nat.beq k 12 then toldL S_sl06Split_l12 X_sl06Split_l12 (fun x => sl06Split_l12 x.1 x.2.1 x.2.2) vs bs else bif Nat.beq k 6 then toldL S_sl06Split_l6 X_sl06Split_l6 (fun x => sl06Split_l6 x.1 x.2.1 x.2.2.1 x.2.2.2.1 x.2.2.2.2.1 x.2.2.2.2.2.1 x.2.2.2.2.2.2) vs bs else .bad⟩ : Loops)

theorem sl06Split_e (x : DR A_sl06Split.hs) : (evFn (envT Try.prog C69 M43) L_sl06Split Try.f55 (A_sl06Split.enc x).1).to (fun q => decX R_sl06Split .ret [q.1] q.2) = sl06Split_t x.1 x.2 := by kernel_rfl

theorem sl06Split_m (x : DR A_sl06Split.hs) : meanF (envT Try.prog C69 M43) L_sl06Split Try.f55 A_sl06Split R_sl06Split x = (show Option (SumD (R_sl06Split.map (·.2))) from sl06Split x.1 x.2) := meanF_of (sl06Split_e x)

theorem sl06Split_ok : SpecOk Try.prog 55 (evFn (envT Try.prog C69 M43) L_sl06Split Try.f55) := fnL_ok (envT_ok (C69_ok) (M43_ok)) mixedO Try.func55 (by kernel_rfl) (c := bodyOf Try.f55) (by kernel_rfl) (loopsL (l := [(6, loopC (bodyOf Try.f55) 6), (12, loopC (bodyOf Try.f55) 12)]) (by kernel_rfl) (lk_cons (sl06Split_l6_k _ rfl rfl (fun _ _ => rfl)) (lk_cons (sl06Split_l12_k _ rfl rfl (fun _ _ => rfl)) lk_nil)))

theorem sl06Split_told : SpecOk Try.prog 55 (toldO A_sl06Split R_sl06Split (fun x => sl06Split x.1 x.2) (C69 55)) := toldO_ok (by kernel_rfl) sl06Split_ok (rest_ok (C69_ok) _) sl06Split_m

noncomputable def C70 : Tab := tab 55 (toldO A_sl06Split R_sl06Split (fun x => sl06Split x.1 x.2) (C69 55)) C69
theorem C70_ok : TabOk Try.prog C70 := tab_ok (sl06Split_told) (C69_ok)

def A_sSplitExact : Shp := ⟨[.h, .h], [], [.i .i64, .sl [.i .i64]]⟩
def R_sSplitExact : List XShp := [(.ret, ⟨[.tup [.nils, .lb false]], [], []⟩), (.ret, ⟨[.tup [.slw 0 1, .lb true]], [.arr [.i .i64] false], [.sl [.i .i64]]⟩)]

theorem sSplitExact_e (x : DR A_sSplitExact.hs) : (evFn (envT Try.prog C70 M43) noLoops Try.f15 (A_sSplitExact.enc x).1).to (fun q => decX R_sSplitExact .ret [q.1] q.2) = sSplitExact_t x.1 x.2 := by kernel_rfl

theorem sSplitExact_m (x : DR A_sSplitExact.hs) : meanF (envT Try.prog C70 M43) noLoops Try.f15 A_sSplitExact R_sSplitExact x = (show Option (SumD (R_sSplitExact.map (·.2))) from sSplitExact x.1 x.2) := meanF_of (sSplitExact_e x)

theorem sSplitExact_ok : SpecOk Try.prog 15 (evFn (envT Try.prog C70 M43) noLoops Try.f15) := fnL_ok (envT_ok (C70_ok) (M43_ok)) mixedO Try.func15 (by kernel_rfl) (c := bodyOf Try.f15) (by kernel_rfl) (loopFree_ok (by kernel_rfl))

theorem sSplitExact_told : SpecOk Try.prog 15 (toldO A_sSplitExact R_sSplitExact (fun x => sSplitExact x.1 x.2) (C70 15)) := toldO_ok (by kernel_rfl) sSplitExact_ok (rest_ok (C70_ok) _) sSplitExact_m

noncomputable def C71 : Tab := tab 15 (toldO A_sSplitExact R_sSplitExact (fun x => sSplitExact x.1 x.2) (C70 15)) C70
theorem C71_ok : TabOk Try.prog C71 := tab_ok (sSplitExact_told) (C70_ok)

def A_iareUnits : Shp := ⟨[.h, .h], [], [.i .i64, .sl [.i .i64]]⟩
def R_iareUnits : List XShp := [(.ret, ⟨[.h], [], [.b]⟩)]

theorem iareUnits_e (x : DR A_iareUnits.hs) : (evFn (envT Try.prog C71 M43) noLoops Try.f56 (A_iareUnits.enc x).1).to (fun q => decX R_iareUnits .ret [q.1] q.2) = iareUnits_t x.1 x.2 := by kernel_rfl

theorem iareUnits_m (x : DR A_iareUnits.hs) : meanF (envT Try.prog C71 M43) noLoops Try.f56 A_iareUnits R_iareUnits x = (show Option (SumD (R_iareUnits.map (·.2))) from iareUnits x.1 x.2) := meanF_of (iareUnits_e x)

theorem iareUnits_ok : SpecOk Try.prog 56 (evFn (envT Try.prog C71 M43) noLoops Try.f56) := fnL_ok (envT_ok (C71_ok) (M43_ok)) mixedO Try.func56 (by kernel_rfl) (c := bodyOf Try.f56) (by kernel_rfl) (loopFree_ok (by kernel_rfl))

theorem iareUnits_told : SpecOk Try.prog 56 (toldO A_iareUnits R_iareUnits (fun x => iareUnits x.1 x.2) (C71 56)) := toldO_ok (by kernel_rfl) iareUnits_ok (rest_ok (C71_ok) _) iareUnits_m

noncomputable def C72 : Tab := tab 56 (toldO A_iareUnits R_iareUnits (fun x => iareUnits x.1 x.2) (C71 56)) C71
theorem C72_ok : TabOk Try.prog C72 := tab_ok (iareUnits_told) (C71_ok)

def S_itotal_l6 : Shp := ⟨[.h, .h, .h, .h, .h, .h, .h], [], [.i .i64, .sl [.sl [.i .i64]], .i .i64, .i .i64, .sl [.i .i64], .i .i64, .i .i64]⟩
def X_itotal_l6 : List XShp := [(.exit 2, ⟨[.h, .h, .h, .h, .undef, .undef, .undef], [], [.i .i64, .sl [.sl [.i .i64]], .i .i64, .i .i64]⟩)]

noncomputable def L_itotal_l6 : Loops := (⟨26, lvT [(6, [3, 8, 9, 10, 14, 15, 16]), (3, [3, 8, 9, 10])], mdT [(6, .exit 2, [], [14, 15, 16]), (3, .exit 0, [], [8, 9, 10])], fun k vs bs => .bad⟩ : Loops)

theorem itotal_l6_e (y1 : List (List Int)) (y2 : Int) (y3 : Int) (y4 : List Int) (y5 : Int) (s : Int × Int) : (loopStep (envT Try.prog C72 M43) L_itotal_l6 6 (loopC (loopC (bodyOf Try.f57) 3) 6) (S_itotal_l6.enc (s.1, y1, y2, y3, y4, y5, s.2)).1 (S_itotal_l6.enc (s.1, y1, y2, y3, y4, y5, s.2)).2).to (stepD S_itotal_l6 X_itotal_l6) = (itotal_l6_t y1 y2 y3 y4 y5 s.1 s.2).map (Sum.map (fun s : Int × Int => (show DR S_itotal_l6.hs from (s.1, y1, y2, y3, y4, y5, s.2))) id) := by kernel_rfl

theorem itotal_l6_r (x : DR S_itotal_l6.hs) : (itotal_l6 x.1 x.2.1 x.2.2.1 x.2.2.2.1 x.2.2.2.2.1 x.2.2.2.2.2.1 x.2.2.2.2.2.2 : Option (SumD (X_itotal_l6.map (·.2)))) = runL (meanS (envT Try.prog C72 M43) L_itotal_l6 6 (loopC (loopC (bodyOf Try.f57) 3) 6) S_itotal_l6 X_itotal_l6) x := run_of (fun s : Int × Int => (show DR S_itotal_l6.hs from (s.1, x.2.1, x.2.2.1, x.2.2.2.1, x.2.2.2.2.1, x.2.2.2.2.2.1, s.2))) (itotal_l6_e (x.2.1) (x.2.2.1) (x.2.2.2.1) (x.2.2.2.2.1) (x.2.2.2.2.2.1)) (x.1, x.2.2.2.2.2.2)

theorem itotal_l6_k (L : Loops) (hn : L_itotal_l6.n = L.n) (hlv : L_itotal_l6.lv 6 = L.lv 6) (hL : ∀ vs bs, L.loop 6 vs bs = toldL S_itotal_l6 X_itotal_l6 (fun x => itotal_l6 x.1 x.2.1 x.2.2.1 x.2.2.2.1 x.2.2.2.2.1 x.2.2.2.2.2.1 x.2.2.2.2.2.2) vs bs) : LOk Try.prog (envT Try.prog C72 M43) L 6 (loopC (loopC (bodyOf Try.f57) 3) 6) := toldL_ok (L1 := L_itotal_l6) (envT_ok (C72_ok) (M43_ok)) mixedO hn hlv (loopFree_ok (by kernel_rfl)) itotal_l6_r hL

def S_itotal_l3 : Shp := ⟨[.h, .h, .h, .h], [], [.i .i64, .sl [.sl [.i .i64]], .i .i64, .i .i64]⟩
def X_itotal_l3 : List XShp := [(.exit 0, ⟨[.h, .undef, .undef, .undef], [], [.i .i64]⟩)]

noncomputable def L_itotal_l3 : Loops := (⟨26, lvT [(6, [3, 8, 9, 10, 14, 15, 16]), (3, [3, 8, 9, 10])], mdT [(6, .exit 2, [], [14, 15, 16]), (3, .exit 0, [], [8, 9, 10])], fun k vs bs => bif Nat.beq k 6 then toldL S_itotal_l6 X_itotal_l6 (fun x => itotal_l6 x.1 x.2.1 x.2.2.1 x.2.2.2.1 x.2.2.2.2.1 x.2.2.2.2.2.1 x.2.2.2.2.2.2) vs bs else .bad⟩ : Loops)

theorem itotal_l3_e (s : Int × List (List Int) × Int × Int) : (loopStep (envT Try.prog C72 M43) L_itotal_l3 3 (loopC (bodyOf Try.f57) 3) (S_itotal_l3.enc (s.1, s.2.1, s.2.2.1, s.2.2.2)).1 (S_itotal_l3.enc (s.1, s.2.1, s.2.2.1, s.2.2.2)).2).to (stepD S_itotal_l3 X_itotal_l3) = (itotal_l3_t  s.1 s.2.1 s.2.2.1 s.2.2.2).map (Sum.map (fun s : Int × List (List Int) × Int × Int => (show DR S_itotal_l3.hs from (s.1, s.2.1, s.2.2.1, s.2.2.2))) id) := by kernel_rfl

theorem itotal_l3_r (x : DR S_itotal_l3.hs) : (itotal_l3 x.1 x.2.1 x.2.2.1 x.2.2.2 : Option (SumD (X_itotal_l3.map (·.2)))) = runL (meanS (envT Try.prog C72 M43) L_itotal_l3 3 (loopC (bodyOf Try.f57) 3) S_itotal_l3 X_itotal_l3) x := run_of (fun s : Int × List (List Int) × Int × Int => (show DR S_itotal_l3.hs from (s.1, s.2.1, s.2.2.1, s.2.2.2))) (itotal_l3_e ) (x.1, x.2.1, x.2.2.1, x.2.2.2)

theorem itotal_l3_k (L : Loops) (hn : L_itotal_l3.n = L.n) (hlv : L_itotal_l3.lv 3 = L.lv 3) (hL : ∀ vs bs, L.loop 3 vs bs = toldL S_itotal_l3 X_itotal_l3 (fun x => itotal_l3 x.1 x.2.1 x.2.2.1 x.2.2.2) vs bs) : LOk Try.prog (envT Try.prog C72 M43) L 3 (loopC (bodyOf Try.f57) 3) := toldL_ok (L1 := L_itotal_l3) (envT_ok (C72_ok) (M43_ok)) mixedO hn hlv (loopsL (l := [(6, loopC (loopC (bodyOf Try.f57) 3) 6)]) (by kernel_rfl) (lk_cons (itotal_l6_k _ rfl rfl (fun _ _ => rfl)) lk_nil)) itotal_l3_r hL

def A_itotal : Shp := ⟨[.h], [], [.sl [.sl [.i .i64]]]⟩
def R_itotal : List XShp := [(.ret, ⟨[.h], [], [.i .i64]⟩)]

noncomputable def L_itotal : Loops := (⟨26, lvT [(6, [3, 8, 9, 10, 14, 15, 16]), (3, [3, 8, 9, 10])], mdT [(6, .exit 2, [], [14, 15, 16]), (3, .exit 0, [], [8, 9, 10])], fun k vs bs => bif Nat.beq k 3 then toldL S_itotal_l3 X_itotal_l3 (fun x => itotal_l3 x.1 x.2.1 x.2.2.1 x.2.2.2) vs bs else .bad⟩ : Loops)

theorem itotal_e (x : DR A_itotal.hs) : (evFn (envT Try.prog C72 M43) L_itotal Try.f57 (A_itotal.enc x).1).to (fun q => decX R_itotal .ret [q.1] q.2) = itotal_t x := by kernel_rfl

theorem itotal_m (x : DR A_itotal.hs) : meanF (envT Try.prog C72 M43) L_itotal Try.f57 A_itotal R_itotal x = (show Option (SumD (R_itotal.map (·.2))) from itotal x) := meanF_of (itotal_e x)

theorem itotal_ok : SpecOk Try.prog 57 (evFn (envT Try.prog C72 M43) L_itotal Try.f57) := fnL_ok (envT_ok (C72_ok) (M43_ok)) mixedO Try.func57 (by kernel_rfl) (c := bodyOf Try.f57) (by kernel_rfl) (loopsL (l := [(3, loopC (bodyOf Try.f57) 3)]) (by kernel_rfl) (lk_cons (itotal_l3_k _ rfl rfl (fun _ _ => rfl)) lk_nil))

theorem itotal_told : SpecOk Try.prog 57 (toldO A_itotal R_itotal (fun x => itotal x) (C72 57)) := toldO_ok (by kernel_rfl) itotal_ok (rest_ok (C72_ok) _) itotal_m

noncomputable def C73 : Tab := tab 57 (toldO A_itotal R_itotal (fun x => itotal x) (C72 57)) C72
theorem C73_ok : TabOk Try.prog C73 := tab_ok (itotal_told) (C72_ok)

def S_isplit_l13 : Shp := ⟨[.h, .slw 0 1, .slw 1 1, .h, .slw 1 1, .h, .h], [.arr [.i .i64] false, .arr [.i .i64] false], [.i .i64, .i .i64, .i .i64, .i .i64, .sl [.i .i64], .sl [.i .i64]]⟩
def X_isplit_l13 : List XShp := [(.exit 4, ⟨[.h, .slw 0 1, .slw 1 1, .h, .undef, .undef, .undef], [.arr [.i .i64] false, .arr [.i .i64] false], [.i .i64, .i .i64, .sl [.i .i64], .sl [.i .i64]]⟩)]

noncomputable def L_isplit_l13 : Loops := (⟨79, lvT [(13, [6, 7, 8, 11, 54, 55, 56]), (9, [6, 7, 8]), (4, [0, 5, 6, 7, 8, 20, 21, 22])], mdT [(13, .exit 4, [], [54, 55, 56]), (9, .exit 2, [], [6, 8]), (4, .exit 0, [], [0, 5, 20, 21, 22])], fun k vs bs => .bad⟩ : Loops)

theorem isplit_l13_e (y0 : Int) (y2 : Int) (y4 : List Int) (y5 : List Int) (s : Int × Int) : (loopStep (envT Try.prog C73 M43) L_isplit_l13 13 (loopC (loopC (bodyOf Try.f58) 9) 13) (S_isplit_l13.enc (y0, s.1, y2, s.2, y4, y5)).1 (S_isplit_l13.enc (y0, s.1, y2, s.2, y4, y5)).2).to (stepD S_isplit_l13 X_isplit_l13) = (isplit_l13_t y0 y2 y4 y5 s.1 s.2).map (Sum.map (fun s : Int × Int => (show DR S_isplit_l13.hs from (y0, s.1, y2, s.2, y4, y5))) id) := by kernel_rfl

theorem isplit_l13_r (x : DR S_isplit_l13.hs) : (isplit_l13 x.1 x.2.1 x.2.2.1 x.2.2.2.1 x.2.2.2.2.1 x.2.2.2.2.2 : Option (SumD (X_isplit_l13.map (·.2)))) = runL (meanS (envT Try.prog C73 M43) L_isplit_l13 13 (loopC (loopC (bodyOf Try.f58) 9) 13) S_isplit_l13 X_isplit_l13) x := run_of (fun s : Int × Int => (show DR S_isplit_l13.hs from (x.1, s.1, x.2.2.1, s.2, x.2.2.2.2.1, x.2.2.2.2.2))) (isplit_l13_e (x.1) (x.2.2.1) (x.2.2.2.2.1) (x.2.2.2.2.2)) (x.2.1, x.2.2.2.1)

theorem isplit_l13_k (L : Loops) (hn : L_isplit_l13.n = L.n) (hlv : L_isplit_l13.lv 13 = L.lv 13) (hL : ∀ vs bs, L.loop 13 vs bs = toldL S_isplit_l13 X_isplit_l13 (fun x => isplit_l13 x.1 x.2.1 x.2.2.1 x.2.2.2.1 x.2.2.2.2.1 x.2.2.2.2.2) vs bs) : LOk Try.prog (envT Try.prog C73 M43) L 13 (loopC (loopC (bodyOf Try.f58) 9) 13) := toldL_ok (L1 := L_isplit_l13) (envT_ok (C73_ok) (M43_ok)) mixedO hn hlv (loopFree_ok (by kernel_rfl)) isplit_l13_r hL

def S_isplit_l4 : Shp := ⟨[.h, .h, .h, .slw 0 1, .slw 1 1, .h, .h, .h], [.arr [.i .i64] false, .arr [.i .i64] false], [.i .i64, .i .i64, .i .i64, .sl [.i .i64], .i .i64, .i .i64, .sl [.i .i64], .sl [.i .i64]]⟩
def X_isplit_l4 : List XShp := [(.exit 0, ⟨[.undef, .undef, .h, .slw 0 1, .slw 1 1, .undef, .undef, .undef], [.arr [.i .i64] false, .arr [.i .i64] false], [.i .i64, .sl [.i .i64], .sl [.i .i64]]⟩)]

noncomputable def L_isplit_l4 : Loops := (⟨79, lvT [(13, [6, 7, 8, 11, 54, 55, 56]), (9, [6, 7, 8]), (4, [0, 5, 6, 7, 8, 20, 21, 22])], mdT [(13, .exit 4, [], [54, 55, 56]), (9, .exit 2, [], [6, 8]), (4, .exit 0, [], [0, 5, 20, 21, 22])], fun k vs bs => .bad⟩ : Loops)

theorem isplit_l4_e (y0 : Int) (y1 : Int) (y3 : List Int) (y4 : Int) (s : Int × Int × List Int × List Int) : (loopStep (envT Try.prog C73 M43) L_isplit_l4 4 (loopC (bodyOf Try.f58) 4) (S_isplit_l4.enc (y0, y1, s.1, y3, y4, s.2.1, s.2.2.1, s.2.2.2)).1 (S_isplit_l4.enc (y0, y1, s.1, y3, y4, s.2.1, s.2.2.1, s.2.2.2)).2).to (stepD S_isplit_l4 X_isplit_l4) = (isplit_l4_t y0 y1 y3 y4 s.1 s.2.1 s.2.2.1 s.2.2.2).map (Sum.map (fun s : Int × Int × List Int × List Int => (show DR S_isplit_l4.hs from (y0, y1, s.1, y3, y4, s.2.1, s.2.2.1, s.2.2.2))) id) := by kernel_rfl

theorem isplit_l4_r (x : DR S_isplit_l4.hs) : (isplit_l4 x.1 x.2.1 x.2.2.1 x.2.2.2.1 x.2.2.2.2.1 x.2.2.2.2.2.1 x.2.2.2.2.2.2.1 x.2.2.2.2.2.2.2 : Option (SumD (X_isplit_l4.map (·.2)))) = runL (meanS (envT Try.prog C73 M43) L_isplit_l4 4 (loopC (bodyOf Try.f58) 4) S_isplit_l4 X_isplit_l4) x := run_of (fun s : Int × Int × List Int × List Int => (show DR S_isplit_l4.hs from (x.1, x.2.1, s.1, x.2.2.2.1, x.2.2.2.2.1, s.2.1, s.2.2.1, s.2.2.2))) (isplit_l4_e (x.1) (x.2.1) (x.2.2.2.1) (x.2.2.2.2.1)) (x.2.2.1, x.2.2.2.2.2.1, x.2.2.2.2.2.2.1, x.2.2.2.2.2.2.2)

theorem isplit_l4_k (L : Loops) (hn : L_isplit_l4.n = L.n) (hlv : L_isplit_l4.lv 4 = L.lv 4) (hL : ∀ vs bs, L.loop 4 vs bs = toldL S_isplit_l4 X_isplit_l4 (fun x => isplit_l4 x.1 x.2.1 x.2.2.1 x.2.2.2.1 x.2.2.2.2.1 x.2.2.2.2.2.1 x.2.2.2.2.2.2.1 x.2.2.2.2.2.2.2) vs bs) : LOk Try.prog (envT Try.prog C73 M43) L 4 (loopC (bodyOf Try.f58) 4) := toldL_ok (L1 := L_isplit_l4) (envT_ok (C73_ok) (M43_ok)) mixedO hn hlv (loopFree_ok (by kernel_rfl)) isplit_l4_r hL

def S_isplit_l9 : Shp := ⟨[.h, .slw 0 1, .slw 1 1], [.arr [.i .i64] false, .arr [.i .i64] false], [.i .i64, .sl [.i .i64], .sl [.i .i64]]⟩
def X_isplit_l9 : List XShp := [(.exit 2, ⟨[.undef, .slw 0 1, .undef], [.arr [.i .i64] false], [.sl [.i .i64]]⟩)]

noncomputable def L_isplit_l9 : Loops := (⟨79, lvT [(13, [6, 7, 8, 11, 54, 55, 56]), (9, [6, 7, 8]), (4, [0, 5, 6, 7, 8, 20, 21, 22])], mdT [(13, .exit 4, [], [54, 55, 56]), (9, .exit 2, [], [6, 8]), (4, .exit 0, [], [0, 5, 20, 21, 22])], fun k vs bs => bif Nat.beq k 13 then toldL S_isplit_l13 X_isplit_l13 (fun x => isplit_l13 x.1 x.2.1 x.2.2.1 x.2.2.2.1 x.2.2.2.2.1 x.2.2.2.2.2) vs bs else .bad⟩ : Loops)

theorem isplit_l9_e (s : Int × List Int × List Int) : (loopStep (envT Try.prog C73 M43) L_isplit_l9 9 (loopC (bodyOf Try.f58) 9) (S_isplit_l9.enc (s.1, s.2.1, s.2.2)).1 (S_isplit_l9.enc (s.1, s.2.1, s.2.2)).2).to (stepD S_isplit_l9 X_isplit_l9) = (isplit_l9_t  s.1 s.2.1 s.2.2).map (Sum.map (fun s : Int × List Int × List Int => (show DR S_isplit_l9.hs from (s.1, s.2.1, s.2.2))) id) := by kernel_rfl

theorem isplit_l9_r (x : DR S_isplit_l9.hs) : (isplit_l9 x.1 x.2.1 x.2.2 : Option (SumD (X_isplit_l9.map (·.2)))) = runL (meanS (envT Try.prog C73 M43) L_isplit_l9 9 (loopC (bodyOf Try.f58) 9) S_isplit_l9 X_isplit_l9) x := run_of (fun s : Int × List Int × List Int => (show DR S_isplit_l9.hs from (s.1, s.2.1, s.2.2))) (isplit_l9_e ) (x.1, x.2.1, x.2.2)

theorem isplit_l9_k (L : Loops) (hn : L_isplit_l9.n = L.n) (hlv : L_isplit_l9.lv 9 = L.lv 9) (hL : ∀ vs bs, L.loop 9 vs bs = toldL S_isplit_l9 X_isplit_l9 (fun x => isplit_l9 x.1 x.2.1 x.2.2) vs bs) : LOk Try.prog (envT Try.prog C73 M43) L 9 (loopC (bodyOf Try.f58) 9) := toldL_ok (L1 := L_isplit_l9) (envT_ok (C73_ok) (M43_ok)) mixedO hn hlv (loopsL (l := [(13, loopC (loopC (bodyOf Try.f58) 9) 13)]) (by kernel_rfl) (lk_cons (isplit_l13_k _ rfl rfl (fun _ _ => rfl)) lk_nil)) isplit_l9_r hL

def A_isplit : Shp := ⟨[.h, .h], [], [.i .i64, .sl [.i .i64]]⟩
def R_isplit : List XShp := [(.ret, ⟨[.slw 0 1], [.arr [.i .i64] false], [.sl [.i .i64]]⟩)]

noncomputable def L_isplit : Loops := (⟨79, lvT [(13, [6, 7, 8, 11, 54, 55, 56]), (9, [6, 7, 8]), (4, [0, 5, 6, 7, 8, 20, 21, 22])], mdT [(13, .exit 4, [], [54, 55, 56]), (9, .exit 2, [], [6, 8]), (4, .exit 0, [], [0, 5, 20, 21, 22])], fun k vs bs => bif Nat.beq k 9 then toldL S_isplit_l9 X_isplit_l9 (fun x => isplit_l9 x.1 x.2.1 x.2.2) vs bs else bif Nat.beq k 4 then toldL S_isplit_l4 X_isplit_l4 (fun x => isplit_l4 x.1 x.2.1 x.2.2.1 x.2.2.2.1 x.2.2.2.2.1 x.2.2.2.2.2.1 x.2.2.2.2.2.2.1 x.2.2.2.2.2.2.2) vs bs else .bad⟩ : Loops)

theorem isplit_e (x : DR A_isplit.hs) : (evFn (envT Try.prog C73 M43) L_isplit Try.f58 (A_isplit.enc x).1).to (fun q => decX R_isplit .ret [q.1] q.2) = isplit_t x.1 x.2 := by kernel_rfl

theorem isplit_m (x : DR A_isplit.hs) : meanF (envT Try.prog C73 M43) L_isplit Try.f58 A_isplit R_isplit x = (show Option (SumD (R_isplit.map (·.2))) from isplit x.1 x.2) := meanF_of (isplit_e x)

theorem isplit_ok : SpecOk Try.prog 58 (evFn (envT Try.prog C73 M43) L_isplit Try.f58) := fnL_ok (envT_ok (C73_ok) (M43_ok)) mixedO Try.func58 (by kernel_rfl) (c := bodyOf Try.f58) (by kernel_rfl) (loopsL (l := [(4, loopC (bodyOf Try.f58) 4), (9, loopC (bodyOf Try.f58) 9)]) (by kernel_rfl) (lk_cons (isplit_l4_k _ rfl rfl (fun _ _ => rfl)) (lk_cons (isplit_l9_k _ rfl rfl (fun _ _ => rfl)) lk_nil)))

theorem isplit_told : SpecOk Try.prog 58 (toldO A_isplit R_isplit (fun x => isplit x.1 x.2) (C73 58)) := toldO_ok (by kernel_rfl) isplit_ok (rest_ok (C73_ok) _) isplit_m

noncomputable def C74 : Tab := tab 58 (toldO A_isplit R_isplit (fun x => isplit x.1 x.2) (C73 58)) C73
theorem C74_ok : TabOk Try.prog C74 := tab_ok (isplit_told) (C73_ok)

def A_iSplitExact : Shp := ⟨[.h, .h], [], [.i .i64, .sl [.i .i64]]⟩
def R_iSplitExact : List XShp := [(.ret, ⟨[.tup [.nils, .lb false]], [], []⟩), (.ret, ⟨[.tup [.slw 0 1, .lb true]], [.arr [.i .i64] false], [.sl [.i .i64]]⟩)]

theorem iSplitExact_e (x : DR A_iSplitExact.hs) : (evFn (envT Try.prog C74 M43) noLoops Try.f17 (A_iSplitExact.enc x).1).to (fun q => decX R_iSplitExact .ret [q.1] q.2) = iSplitExact_t x.1 x.2 := by kernel_rfl

theorem iSplitExact_m (x : DR A_iSplitExact.hs) : meanF (envT Try.prog C74 M43) noLoops Try.f17 A_iSplitExact R_iSplitExact x = (show Option (SumD (R_iSplitExact.map (·.2))) from iSplitExact x.1 x.2) := meanF_of (iSplitExact_e x)

theorem iSplitExact_ok : SpecOk Try.prog 17 (evFn (envT Try.prog C74 M43) noLoops Try.f17) := fnL_ok (envT_ok (C74_ok) (M43_ok)) mixedO Try.func17 (by kernel_rfl) (c := bodyOf Try.f17) (by kernel_rfl) (loopFree_ok (by kernel_rfl))

theorem iSplitExact_told : SpecOk Try.prog 17 (toldO A_iSplitExact R_iSplitExact (fun x => iSplitExact x.1 x.2) (C74 17)) := toldO_ok (by kernel_rfl) iSplitExact_ok (rest_ok (C74_ok) _) iSplitExact_m

noncomputable def C75 : Tab := tab 17 (toldO A_iSplitExact R_iSplitExact (fun x => iSplitExact x.1 x.2) (C74 17)) C74
theorem C75_ok : TabOk Try.prog C75 := tab_ok (iSplitExact_told) (C74_ok)

def A_wFnExactSplitExact : Shp := ⟨[.h, .h], [], [.i .i64, .sl [.i .i64]]⟩
def R_wFnExactSplitExact : List XShp := [(.ret, ⟨[.h], [], [.b]⟩)]

theorem wFnExactSplitExact_e (x : DR A_wFnExactSplitExact.hs) : (evFn (envT Try.prog C75 M43) noLoops Try.f3 (A_wFnExactSplitExact.enc x).1).to (fun q => decX R_wFnExactSplitExact .ret [q.1] q.2) = wFnExactSplitExact_t x.1 x.2 := by kernel_rfl

theorem wFnExactSplitExact_m (x : DR A_wFnExactSplitExact.hs) : meanF (envT Try.prog C75 M43) noLoops Try.f3 A_wFnExactSplitExact R_wFnExactSplitExact x = (show Option (SumD (R_wFnExactSplitExact.map (·.2))) from wFnExactSplitExact x.1 x.2) := meanF_of (wFnExactSplitExact_e x)

theorem wFnExactSplitExact_ok : SpecOk Try.prog 3 (evFn (envT Try.prog C75 M43) noLoops Try.f3) := fnL_ok (envT_ok (C75_ok) (M43_ok)) mixedO Try.func3 (by kernel_rfl) (c := bodyOf Try.f3) (by kernel_rfl) (loopFree_ok (by kernel_rfl))

theorem wFnExactSplitExact_told : SpecOk Try.prog 3 (toldO A_wFnExactSplitExact R_wFnExactSplitExact (fun x => wFnExactSplitExact x.1 x.2) (C75 3)) := toldO_ok (by kernel_rfl) wFnExactSplitExact_ok (rest_ok (C75_ok) _) wFnExactSplitExact_m

noncomputable def C76 : Tab := tab 3 (toldO A_wFnExactSplitExact R_wFnExactSplitExact (fun x => wFnExactSplitExact x.1 x.2) (C75 3)) C75
theorem C76_ok : TabOk Try.prog C76 := tab_ok (wFnExactSplitExact_told) (C75_ok)

theorem lawFnExactSplitExact_ok : SpecOk Try.prog 3 (evFn (envT Try.prog C75 M43) noLoops Try.f3) := wFnExactSplitExact_ok
theorem lawFnExactSplitExact_says (x : DR A_wFnExactSplitExact.hs) (h : (show Option (SumD (R_wFnExactSplitExact.map (·.2))) from wFnExactSplitExact x.1 x.2) = some true) : saysTrue (evFn (envT Try.prog C75 M43) noLoops Try.f3 (A_wFnExactSplitExact.enc x).1) = true := law_says (x := x) ((wFnExactSplitExact_m x).trans h)

theorem lawFnExactSplitExact_true (x0 : Int) (x1 : List Int) (h : wFnExactSplitExact x0 x1 = some true) : saysTrue (evFn (envT Try.prog C75 M43) noLoops Try.f3 [.i .i64 x0, .ds [.i .i64] x1]) = true := (congrArg (fun l => saysTrue (evFn (envT Try.prog C75 M43) noLoops Try.f3 l)) (by kernel_rfl : ([.i .i64 x0, .ds [.i .i64] x1] : List V) = (A_wFnExactSplitExact.enc (x0, x1)).1)).trans (lawFnExactSplitExact_says (x0, x1) h)

def S_wszInt64SS_l5 : Shp := ⟨[.h, .h, .undef, .h], [], [.sl [.sl [.i .i64]], .i .i64, .i .i64]⟩
def X_wszInt64SS_l5 : List XShp := [(.ret, ⟨[.undef, .undef, .h, .undef], [], [.i .i64]⟩), (.exit 0, ⟨[.undef, .h, .undef, .undef], [], [.i .i64]⟩)]

noncomputable def L_wszInt64SS_l5 : Loops := (⟨27, lvT [(5, [0, 1, 4, 5])], mdT [(5, .normal, [], [4]), (5, .exit 0, [], [0, 4, 5]), (5, .ret, [], [0, 1, 5])], fun k vs bs => .bad⟩ : Loops)

theorem wszInt64SS_l5_e (y0 : List (List Int)) (s : Int × Int) : (loopStep (envT Try.prog C76 M43) L_wszInt64SS_l5 5 (loopC (bodyOf Try.f30) 5) (S_wszInt64SS_l5.enc (y0, s.1, s.2)).1 (S_wszInt64SS_l5.enc (y0, s.1, s.2)).2).to (stepD S_wszInt64SS_l5 X_wszInt64SS_l5) = (wszInt64SS_l5_t y0 s.1 s.2).map (Sum.map (fun s : Int × Int => (show DR S_wszInt64SS_l5.hs from (y0, s.1, s.2))) id) := by kernel_rfl

theorem wszInt64SS_l5_r (x : DR S_wszInt64SS_l5.hs) : (wszInt64SS_l5 x.1 x.2.1 x.2.2 : Option (SumD (X_wszInt64SS_l5.map (·.2)))) = runL (meanS (envT Try.prog C76 M43) L_wszInt64SS_l5 5 (loopC (bodyOf Try.f30) 5) S_wszInt64SS_l5 X_wszInt64SS_l5) x := run_of (fun s : Int × Int => (show DR S_wszInt64SS_l5.hs from (x.1, s.1, s.2))) (wszInt64SS_l5_e (x.1)) (x.2.1, x.2.2)

theorem wszInt64SS_l5_k (L : Loops) (hn : L_wszInt64SS_l5.n = L.n) (hlv : L_wszInt64SS_l5.lv 5 = L.lv 5) (hL : ∀ vs bs, L.loop 5 vs bs = toldL S_wszInt64SS_l5 X_wszInt64SS_l5 (fun x => wszInt64SS_l5 x.1 x.2.1 x.2.2) vs bs) : LOk Try.prog (envT Try.prog C76 M43) L 5 (loopC (bodyOf Try.f30) 5) := toldL_ok (L1 := L_wszInt64SS_l5) (envT_ok (C76_ok) (M43_ok)) mixedO hn hlv (loopFree_ok (by kernel_rfl)) wszInt64SS_l5_r hL

def A_wszInt64SS : Shp := ⟨[.h, .h], [], [.sl [.sl [.i .i64]], .i .i64]⟩
def R_wszInt64SS : List XShp := [(.ret, ⟨[.h], [], [.i .i64]⟩)]

noncomputable def L_wszInt64SS : Loops := (⟨27, lvT [(5, [0, 1, 4, 5])], mdT [(5, .normal, [], [4]), (5, .exit 0, [], [0, 4, 5]), (5, .ret, [], [0, 1, 5])], fun k vs bs => bif Nat.beq k 5 then toldL S_wszInt64SS_l5 X_wszInt64SS_l5 (fun x => wszInt64SS_l5 x.1 x.2.1 x.2.2) vs bs else .bad⟩ : Loops)

theorem wszInt64SS_e (x : DR A_wszInt64SS.hs) : (evFn (envT Try.prog C76 M43) L_wszInt64SS Try.f30 (A_wszInt64SS.enc x).1).to (fun q => decX R_wszInt64SS .ret [q.1] q.2) = wszInt64SS_t x.1 x.2 := by kernel_rfl

theorem wszInt64SS_m (x : DR A_wszInt64SS.hs) : meanF (envT Try.prog C76 M43) L_wszInt64SS Try.f30 A_wszInt64SS R_wszInt64SS x = (show Option (SumD (R_wszInt64SS.map (·.2))) from wszInt64SS x.1 x.2) := meanF_of (wszInt64SS_e x)

theorem wszInt64SS_ok : SpecOk Try.prog 30 (evFn (envT Try.prog C76 M43) L_wszInt64SS Try.f30) := fnL_ok (envT_ok (C76_ok) (M43_ok)) mixedO Try.func30 (by kernel_rfl) (c := bodyOf Try.f30) (by kernel_rfl) (loopsL (l := [(5, loopC (bodyOf Try.f30) 5)]) (by kernel_rfl) (lk_cons (wszInt64SS_l5_k _ rfl rfl (fun _ _ => rfl)) lk_nil))

theorem wszInt64SS_told : SpecOk Try.prog 30 (toldO A_wszInt64SS R_wszInt64SS (fun x => wszInt64SS x.1 x.2) (C76 30)) := toldO_ok (by kernel_rfl) wszInt64SS_ok (rest_ok (C76_ok) _) wszInt64SS_m

noncomputable def C77 : Tab := tab 30 (toldO A_wszInt64SS R_wszInt64SS (fun x => wszInt64SS x.1 x.2) (C76 30)) C76
theorem C77_ok : TabOk Try.prog C77 := tab_ok (wszInt64SS_told) (C76_ok)

def S_wtoInt64SS_l3 : Shp := ⟨[.h, .slw 0 1, .h], [.arr [.sl [.i .i64]] false], [.sl [.sl [.i .i64]], .i .i64, .sl [.sl [.i .i64]]]⟩
def X_wtoInt64SS_l3 : List XShp := [(.exit 0, ⟨[.undef, .slw 0 1, .undef], [.arr [.sl [.i .i64]] false], [.sl [.sl [.i .i64]]]⟩)]

noncomputable def L_wtoInt64SS_l3 : Loops := (⟨23, lvT [(3, [0, 3, 4])], mdT [(3, .exit 0, [], [0, 4])], fun k vs bs => .bad⟩ : Loops)

theorem wtoInt64SS_l3_e (y0 : List (List Int)) (y1 : Int) (y2 : List (List Int)) (s : Unit) : (loopStep (envT Try.prog C77 M43) L_wtoInt64SS_l3 3 (loopC (bodyOf Try.f32) 3) (S_wtoInt64SS_l3.enc (y0, y1, y2)).1 (S_wtoInt64SS_l3.enc (y0, y1, y2)).2).to (stepD S_wtoInt64SS_l3 X_wtoInt64SS_l3) = (wtoInt64SS_l3_t y0 y1 y2 ).map (Sum.map (fun s : Unit => (show DR S_wtoInt64SS_l3.hs from (y0, y1, y2))) id) := by kernel_rfl

theorem wtoInt64SS_l3_r (x : DR S_wtoInt64SS_l3.hs) : (wtoInt64SS_l3 x.1 x.2.1 x.2.2 : Option (SumD (X_wtoInt64SS_l3.map (·.2)))) = runL (meanS (envT Try.prog C77 M43) L_wtoInt64SS_l3 3 (loopC (bodyOf Try.f32) 3) S_wtoInt64SS_l3 X_wtoInt64SS_l3) x := run_of (fun s : Unit => (show DR S_wtoInt64SS_l3.hs from (x.1, x.2.1, x.2.2))) (wtoInt64SS_l3_e (x.1) (x.2.1) (x.2.2)) ()

theorem wtoInt64SS_l3_k (L : Loops) (hn : L_wtoInt64SS_l3.n = L.n) (hlv : L_wtoInt64SS_l3.lv 3 = L.lv 3) (hL : ∀ vs bs, L.loop 3 vs bs = toldL S_wtoInt64SS_l3 X_wtoInt64SS_l3 (fun x => wtoInt64SS_l3 x.1 x.2.1 x.2.2) vs bs) : LOk Try.prog (envT Try.prog C77 M43) L 3 (loopC (bodyOf Try.f32) 3) := toldL_ok (L1 := L_wtoInt64SS_l3) (envT_ok (C77_ok) (M43_ok)) mixedO hn hlv (loopFree_ok (by kernel_rfl)) wtoInt64SS_l3_r hL

def A_wtoInt64SS : Shp := ⟨[.h], [], [.sl [.sl [.i .i64]]]⟩
def R_wtoInt64SS : List XShp := [(.ret, ⟨[.slw 0 1], [.arr [.sl [.i .i64]] false], [.sl [.sl [.i .i64]]]⟩)]

noncomputable def L_wtoInt64SS : Loops := (⟨23, lvT [(3, [0, 3, 4])], mdT [(3, .exit 0, [], [0, 4])], fun k vs bs => bif Nat.beq k 3 then toldL S_wtoInt64SS_l3 X_wtoInt64SS_l3 (fun x => wtoInt64SS_l3 x.1 x.2.1 x.2.2) vs bs else .bad⟩ : Loops)

theorem wtoInt64SS_e (x : DR A_wtoInt64SS.hs) : (evFn (envT Try.prog C77 M43) L_wtoInt64SS Try.f32 (A_wtoInt64SS.enc x).1).to (fun q => decX R_wtoInt64SS .ret [q.1] q.2) = wtoInt64SS_t x := by kernel_rfl

theorem wtoInt64SS_m (x : DR A_wtoInt64SS.hs) : meanF (envT Try.prog C77 M43) L_wtoInt64SS Try.f32 A_wtoInt64SS R_wtoInt64SS x = (show Option (SumD (R_wtoInt64SS.map (·.2))) from wtoInt64SS x) := meanF_of (wtoInt64SS_e x)

theorem wtoInt64SS_ok : SpecOk Try.prog 32 (evFn (envT Try.prog C77 M43) L_wtoInt64SS Try.f32) := fnL_ok (envT_ok (C77_ok) (M43_ok)) mixedO Try.func32 (by kernel_rfl) (c := bodyOf Try.f32) (by kernel_rfl) (loopsL (l := [(3, loopC (bodyOf Try.f32) 3)]) (by kernel_rfl) (lk_cons (wtoInt64SS_l3_k _ rfl rfl (fun _ _ => rfl)) lk_nil))

theorem wtoInt64SS_told : SpecOk Try.prog 32 (toldO A_wtoInt64SS R_wtoInt64SS (fun x => wtoInt64SS x) (C77 32)) := toldO_ok (by kernel_rfl) wtoInt64SS_ok (rest_ok (C77_ok) _) wtoInt64SS_m

noncomputable def C78 : Tab := tab 32 (toldO A_wtoInt64SS R_wtoInt64SS (fun x => wtoInt64SS x) (C77 32)) C77
theorem C78_ok : TabOk Try.prog C78 := tab_ok (wtoInt64SS_told) (C77_ok)

def S_sl06Days_l2 : Shp := ⟨[.h, .h, .undef, .h], [], [.sl [.sl [.i .i64]], .i .i64, .i .i64]⟩
def X_sl06Days_l2 : List XShp := [(.ret, ⟨[.undef, .undef, .lb false, .undef], [], []⟩), (.exit 0, ⟨[.h, .undef, .undef, .undef], [], [.sl [.sl [.i .i64]]]⟩)]

noncomputable def L_sl06Days_l2 : Loops := (⟨27, lvT [(2, [0, 1, 4, 5])], mdT [(2, .normal, [], [4]), (2, .exit 0, [], [1, 4, 5]), (2, .ret, [], [0, 1, 5])], fun k vs bs => .bad⟩ : Loops)

theorem sl06Days_l2_e (y0 : List (List Int)) (y1 : Int) (s : Int) : (loopStep (envT Try.prog C78 M43) L_sl06Days_l2 2 (loopC (bodyOf Try.f71) 2) (S_sl06Days_l2.enc (y0, y1, s)).1 (S_sl06Days_l2.enc (y0, y1, s)).2).to (stepD S_sl06Days_l2 X_sl06Days_l2) = (sl06Days_l2_t y0 y1 s).map (Sum.map (fun s : Int => (show DR S_sl06Days_l2.hs from (y0, y1, s))) id) := by kernel_rfl

theorem sl06Days_l2_r (x : DR S_sl06Days_l2.hs) : (sl06Days_l2 x.1 x.2.1 x.2.2 : Option (SumD (X_sl06Days_l2.map (·.2)))) = runL (meanS (envT Try.prog C78 M43) L_sl06Days_l2 2 (loopC (bodyOf Try.f71) 2) S_sl06Days_l2 X_sl06Days_l2) x := run_of (fun s : Int => (show DR S_sl06Days_l2.hs from (x.1, x.2.1, s))) (sl06Days_l2_e (x.1) (x.2.1)) x.2.2

theorem sl06Days_l2_k (L : Loops) (hn : L_sl06Days_l2.n = L.n) (hlv : L_sl06Days_l2.lv 2 = L.lv 2) (hL : ∀ vs bs, L.loop 2 vs bs = toldL S_sl06Days_l2 X_sl06Days_l2 (fun x => sl06Days_l2 x.1 x.2.1 x.2.2) vs bs) : LOk Try.prog (envT Try.prog C78 M43) L 2 (loopC (bodyOf Try.f71) 2) := toldL_ok (L1 := L_sl06Days_l2) (envT_ok (C78_ok) (M43_ok)) mixedO hn hlv (loopFree_ok (by kernel_rfl)) sl06Days_l2_r hL

def A_sl06Days : Shp := ⟨[.h, .h], [], [.sl [.sl [.i .i64]], .i .i64]⟩
def R_sl06Days : List XShp := [(.ret, ⟨[.h], [], [.b]⟩)]

noncomputable def L_sl06Days : Loops := (⟨27, lvT [(2, [0, 1, 4, 5])], mdT [(2, .normal, [], [4]), (2, .exit 0, [], [1, 4, 5]), (2, .ret, [], [0, 1, 5])], fun k vs bs => bif Nat.beq k 2 then toldL S_sl06Days_l2 X_sl06Days_l2 (fun x => sl06Days_l2 x.1 x.2.1 x.2.2) vs bs else .bad⟩ : Loops)

theorem sl06Days_e (x : DR A_sl06Days.hs) : (evFn (envT Try.prog C78 M43) L_sl06Days Try.f71 (A_sl06Days.enc x).1).to (fun q => decX R_sl06Days .ret [q.1] q.2) = sl06Days_t x.1 x.2 := by kernel_rfl

theorem sl06Days_m (x : DR A_sl06Days.hs) : meanF (envT Try.prog C78 M43) L_sl06Days Try.f71 A_sl06Days R_sl06Days x = (show Option (SumD (R_sl06Days.map (·.2))) from sl06Days x.1 x.2) := meanF_of (sl06Days_e x)

theorem sl06Days_ok : SpecOk Try.prog 71 (evFn (envT Try.prog C78 M43) L_sl06Days Try.f71) := fnL_ok (envT_ok (C78_ok) (M43_ok)) mixedO Try.func71 (by kernel_rfl) (c := bodyOf Try.f71) (by kernel_rfl) (loopsL (l := [(2, loopC (bodyOf Try.f71) 2)]) (by kernel_rfl) (lk_cons (sl06Days_l2_k _ rfl rfl (fun _ _ => rfl)) lk_nil))

theorem sl06Days_told : SpecOk Try.prog 71 (toldO A_sl06Days R_sl06Days (fun x => sl06Days x.1 x.2) (C78 71)) := toldO_ok (by kernel_rfl) sl06Days_ok (rest_ok (C78_ok) _) sl06Days_m

noncomputable def C79 : Tab := tab 71 (toldO A_sl06Days R_sl06Days (fun x => sl06Days x.1 x.2) (C78 71)) C78
theorem C79_ok : TabOk Try.prog C79 := tab_ok (sl06Days_told) (C78_ok)

def S_sHalfWay_l12 : Shp := ⟨[.h, .h, .slw 0 1, .h, .h, .h], [.arr [.i .i64] false], [.sl [.sl [.i .i64]], .i .i64, .i .i64, .i .i64, .i .i64, .sl [.i .i64]]⟩
def X_sHalfWay_l12 : List XShp := [(.exit 2, ⟨[.h, .h, .slw 0 1, .h, .h, .undef], [.arr [.i .i64] false], [.sl [.sl [.i .i64]], .i .i64, .i .i64, .i .i64, .sl [.i .i64]]⟩)]

noncomputable def L_sHalfWay_l12 : Loops := (⟨86, lvT [(18, [0, 4, 5, 6, 7, 9, 10, 11]), (12, [0, 4, 5, 6, 7, 8]), (8, [0, 4, 5, 6])], mdT [(18, .exit 4, [], [7, 9, 11]), (12, .exit 2, [], [8]), (8, .exit 0, [], [0, 4, 6])], fun k vs bs => .bad⟩ : Loops)

theorem sHalfWay_l12_e (y0 : List (List Int)) (y1 : Int) (y2 : Int) (y5 : List Int) (s : Int × Int) : (loopStep (envT Try.prog C79 M43) L_sHalfWay_l12 12 (loopC (loopC (bodyOf Try.f31) 8) 12) (S_sHalfWay_l12.enc (y0, y1, y2, s.1, s.2, y5)).1 (S_sHalfWay_l12.enc (y0, y1, y2, s.1, s.2, y5)).2).to (stepD S_sHalfWay_l12 X_sHalfWay_l12) = (sHalfWay_l12_t y0 y1 y2 y5 s.1 s.2).map (Sum.map (fun s : Int × Int => (show DR S_sHalfWay_l12.hs from (y0, y1, y2, s.1, s.2, y5))) id) := by kernel_rfl

theorem sHalfWay_l12_r (x : DR S_sHalfWay_l12.hs) : (sHalfWay_l12 x.1 x.2.1 x.2.2.1 x.2.2.2.1 x.2.2.2.2.1 x.2.2.2.2.2 : Option (SumD (X_sHalfWay_l12.map (·.2)))) = runL (meanS (envT Try.prog C79 M43) L_sHalfWay_l12 12 (loopC (loopC (bodyOf Try.f31) 8) 12) S_sHalfWay_l12 X_sHalfWay_l12) x := run_of (fun s : Int × Int => (show DR S_sHalfWay_l12.hs from (x.1, x.2.1, x.2.2.1, s.1, s.2, x.2.2.2.2.2))) (sHalfWay_l12_e (x.1) (x.2.1) (x.2.2.1) (x.2.2.2.2.2)) (x.2.2.2.1, x.2.2.2.2.1)

theorem sHalfWay_l12_k (L : Loops) (hn : L_sHalfWay_l12.n = L.n) (hlv : L_sHalfWay_l12.lv 12 = L.lv 12) (hL : ∀ vs bs, L.loop 12 vs bs = toldL S_sHalfWay_l12 X_sHalfWay_l12 (fun x => sHalfWay_l12 x.1 x.2.1 x.2.2.1 x.2.2.2.1 x.2.2.2.2.1 x.2.2.2.2.2) vs bs) : LOk Try.prog (envT Try.prog C79 M43) L 12 (loopC (loopC (bodyOf Try.f31) 8) 12) := toldL_ok (L1 := L_sHalfWay_l12) (envT_ok (C79_ok) (M43_ok)) mixedO hn hlv (loopFree_ok (by kernel_rfl)) sHalfWay_l12_r hL

def S_sHalfWay_l18 : Shp := ⟨[.h, .h, .slw 0 1, .h, .h, .h, .h, .h], [.arr [.i .i64] false], [.sl [.sl [.i .i64]], .i .i64, .i .i64, .i .i64, .i .i64, .i .i64, .i .i64, .sl [.i .i64]]⟩
def X_sHalfWay_l18 : List XShp := [(.exit 4, ⟨[.h, .h, .slw 0 1, .h, .undef, .undef, .h, .undef], [.arr [.i .i64] false], [.sl [.sl [.i .i64]], .i .i64, .i .i64, .i .i64, .sl [.i .i64]]⟩)]

noncomputable def L_sHalfWay_l18 : Loops := (⟨86, lvT [(18, [0, 4, 5, 6, 7, 9, 10, 11]), (12, [0, 4, 5, 6, 7, 8]), (8, [0, 4, 5, 6])], mdT [(18, .exit 4, [], [7, 9, 11]), (12, .exit 2, [], [8]), (8, .exit 0, [], [0, 4, 6])], fun k vs bs => .bad⟩ : Loops)

theorem sHalfWay_l18_e (y0 : List (List Int)) (y1 : Int) (y2 : Int) (y3 : Int) (y7 : List Int) (s : Int × Int × Int) : (loopStep (envT Try.prog C79 M43) L_sHalfWay_l18 18 (loopC (loopC (bodyOf Try.f31) 8) 18) (S_sHalfWay_l18.enc (y0, y1, y2, y3, s.1, s.2.1, s.2.2, y7)).1 (S_sHalfWay_l18.enc (y0, y1, y2, y3, s.1, s.2.1, s.2.2, y7)).2).to (stepD S_sHalfWay_l18 X_sHalfWay_l18) = (sHalfWay_l18_t y0 y1 y2 y3 y7 s.1 s.2.1 s.2.2).map (Sum.map (fun s : Int × Int × Int => (show DR S_sHalfWay_l18.hs from (y0, y1, y2, y3, s.1, s.2.1, s.2.2, y7))) id) := by kernel_rfl

theorem sHalfWay_l18_r (x : DR S_sHalfWay_l18.hs) : (sHalfWay_l18 x.1 x.2.1 x.2.2.1 x.2.2.2.1 x.2.2.2.2.1 x.2.2.2.2.2.1 x.2.2.2.2.2.2.1 x.2.2.2.2.2.2.2 : Option (SumD (X_sHalfWay_l18.map (·.2)))) = runL (meanS (envT Try.prog C79 M43) L_sHalfWay_l18 18 (loopC (loopC (bodyOf Try.f31) 8) 18) S_sHalfWay_l18 X_sHalfWay_l18) x := run_of (fun s : Int × Int × Int => (show DR S_sHalfWay_l18.hs from (x.1, x.2.1, x.2.2.1, x.2.2.2.1, s.1, s.2.1, s.2.2, x.2.2.2.2.2.2.2))) (sHalfWay_l18_e (x.1) (x.2.1) (x.2.2.1) (x.2.2.2.1) (x.2.2.2.2.2.2.2)) (x.2.2.2.2.1, x.2.2.2.2.2.1, x.2.2.2.2.2.2.1)

theorem sHalfWay_l18_k (L : Loops) (hn : L_sHalfWay_l18.n = L.n) (hlv : L_sHalfWay_l18.lv 18 = L.lv 18) (hL : ∀ vs bs, L.loop 18 vs bs = toldL S_sHalfWay_l18 X_sHalfWay_l18 (fun x => sHalfWay_l18 x.1 x.2.1 x.2.2.1 x.2.2.2.1 x.2.2.2.2.1 x.2.2.2.2.2.1 x.2.2.2.2.2.2.1 x.2.2.2.2.2.2.2) vs bs) : LOk Try.prog (envT Try.prog C79 M43) L 18 (loopC (loopC (bodyOf Try.f31) 8) 18) := toldL_ok (L1 := L_sHalfWay_l18) (envT_ok (C79_ok) (M43_ok)) mixedO hn hlv (loopFree_ok (by kernel_rfl)) sHalfWay_l18_r hL

def S_sHalfWay_l8 : Shp := ⟨[.h, .h, .slw 0 1, .h], [.arr [.i .i64] false], [.sl [.sl [.i .i64]], .i .i64, .i .i64, .sl [.i .i64]]⟩
def X_sHalfWay_l8 : List XShp := [(.exit 0, ⟨[.undef, .undef, .slw 0 1, .undef], [.arr [.i .i64] false], [.sl [.i .i64]]⟩)]

noncomputable def L_sHalfWay_l8 : Loops := (⟨86, lvT [(18, [0, 4, 5, 6, 7, 9, 10, 11]), (12, [0, 4, 5, 6, 7, 8]), (8, [0, 4, 5, 6])], mdT [(18, .exit 4, [], [7, 9, 11]), (12, .exit 2, [], [8]), (8, .exit 0, [], [0, 4, 6])], fun k vs bs => bif Nat.beq k 18 then toldL S_sHalfWay_l18 X_sHalfWay_l18 (fun x => sHalfWay_l18 x.1 x.2.1 x.2.2.1 x.2.2.2.1 x.2.2.2.2.1 x.2.2.2.2.2.1 x.2.2.2.2.2.2.1 x.2.2.2.2.2.2.2) vs bs else bif Nat.beq k 12 then toldL S_sHalfWay_l12 X_sHalfWay_l12 (fun x => sHalfWay_l12 x.1 x.2.1 x.2.2.1 x.2.2.2.1 x.2.2.2.2.1 x.2.2.2.2.2) vs bs else .bad⟩ : Loops)

theorem sHalfWay_l8_e (s : List (List Int) × Int × Int × List Int) : (loopStep (envT Try.prog C79 M43) L_sHalfWay_l8 8 (loopC (bodyOf Try.f31) 8) (S_sHalfWay_l8.enc (s.1, s.2.1, s.2.2.1, s.2.2.2)).1 (S_sHalfWay_l8.enc (s.1, s.2.1, s.2.2.1, s.2.2.2)).2).to (stepD S_sHalfWay_l8 X_sHalfWay_l8) = (sHalfWay_l8_t  s.1 s.2.1 s.2.2.1 s.2.2.2).map (Sum.map (fun s : List (List Int) × Int × Int × List Int => (show DR S_sHalfWay_l8.hs from (s.1, s.2.1, s.2.2.1, s.2.2.2))) id) := by kernel_rfl

theorem sHalfWay_l8_r (x : DR S_sHalfWay_l8.hs) : (sHalfWay_l8 x.1 x.2.1 x.2.2.1 x.2.2.2 : Option (SumD (X_sHalfWay_l8.map (·.2)))) = runL (meanS (envT Try.prog C79 M43) L_sHalfWay_l8 8 (loopC (bodyOf Try.f31) 8) S_sHalfWay_l8 X_sHalfWay_l8) x := run_of (fun s : List (List Int) × Int × Int × List Int => (show DR S_sHalfWay_l8.hs from (s.1, s.2.1, s.2.2.1, s.2.2.2))) (sHalfWay_l8_e ) (x.1, x.2.1, x.2.2.1, x.2.2.2)

theorem sHalfWay_l8_k (L : Loops) (hn : L_sHalfWay_l8.n = L.n) (hlv : L_sHalfWay_l8.lv 8 = L.lv 8) (hL : ∀ vs bs, L.loop 8 vs bs = toldL S_sHalfWay_l8 X_sHalfWay_l8 (fun x => sHalfWay_l8 x.1 x.2.1 x.2.2.1 x.2.2.2) vs bs) : LOk Try.prog (envT Try.prog C79 M43) L 8 (loopC (bodyOf Try.f31) 8) := toldL_ok (L1 := L_sHalfWay_l8) (envT_ok (C79_ok) (M43_ok)) mixedO hn hlv (loopsL (l := [(12, loopC (loopC (bodyOf Try.f31) 8) 12), (18, loopC (loopC (bodyOf Try.f31) 8) 18)]) (by kernel_rfl) (lk_cons (sHalfWay_l12_k _ rfl rfl (fun _ _ => rfl)) (lk_cons (sHalfWay_l18_k _ rfl rfl (fun _ _ => rfl)) lk_nil))) sHalfWay_l8_r hL

def A_sHalfWay : Shp := ⟨[.h], [], [.sl [.sl [.i .i64]]]⟩
def R_sHalfWay : List XShp := [(.ret, ⟨[.tup [.nils, .lb false]], [], []⟩), (.ret, ⟨[.tup [.slw 0 1, .lb true]], [.arr [.i .i64] false], [.sl [.i .i64]]⟩)]

noncomputable def L_sHalfWay : Loops := (⟨86, lvT [(18, [0, 4, 5, 6, 7, 9, 10, 11]), (12, [0, 4, 5, 6, 7, 8]), (8, [0, 4, 5, 6])], mdT [(18, .exit 4, [], [7, 9, 11]), (12, .exit 2, [], [8]), (8, .exit 0, [], [0, 4, 6])], fun k vs bs => bif Nat.beq k 8 then toldL S_sHalfWay_l8 X_sHalfWay_l8 (fun x => sHalfWay_l8 x.1 x.2.1 x.2.2.1 x.2.2.2) vs bs else .bad⟩ : Loops)

theorem sHalfWay_e (x : DR A_sHalfWay.hs) : (evFn (envT Try.prog C79 M43) L_sHalfWay Try.f31 (A_sHalfWay.enc x).1).to (fun q => decX R_sHalfWay .ret [q.1] q.2) = sHalfWay_t x := by kernel_rfl

theorem sHalfWay_m (x : DR A_sHalfWay.hs) : meanF (envT Try.prog C79 M43) L_sHalfWay Try.f31 A_sHalfWay R_sHalfWay x = (show Option (SumD (R_sHalfWay.map (·.2))) from sHalfWay x) := meanF_of (sHalfWay_e x)

theorem sHalfWay_ok : SpecOk Try.prog 31 (evFn (envT Try.prog C79 M43) L_sHalfWay Try.f31) := fnL_ok (envT_ok (C79_ok) (M43_ok)) mixedO Try.func31 (by kernel_rfl) (c := bodyOf Try.f31) (by kernel_rfl) (loopsL (l := [(8, loopC (bodyOf Try.f31) 8)]) (by kernel_rfl) (lk_cons (sHalfWay_l8_k _ rfl rfl (fun _ _ => rfl)) lk_nil))

theorem sHalfWay_told : SpecOk Try.prog 31 (toldO A_sHalfWay R_sHalfWay (fun x => sHalfWay x) (C79 31)) := toldO_ok (by kernel_rfl) sHalfWay_ok (rest_ok (C79_ok) _) sHalfWay_m

noncomputable def C80 : Tab := tab 31 (toldO A_sHalfWay R_sHalfWay (fun x => sHalfWay x) (C79 31)) C79
theorem C80_ok : TabOk Try.prog C80 := tab_ok (sHalfWay_told) (C79_ok)

def S_iHalfWay_l10 : Shp := ⟨[.h, .slw 0 1, .h, .h, .h, .h, .h, .h], [.arr [.i .i64] false], [.sl [.sl [.i .i64]], .sl [.sl [.i .i64]], .i .i64, .i .i64, .sl [.i .i64], .i .i64, .i .i64, .sl [.i .i64]]⟩
def X_iHalfWay_l10 : List XShp := [(.exit 2, ⟨[.h, .slw 0 1, .h, .h, .h, .undef, .undef, .undef], [.arr [.i .i64] false], [.sl [.sl [.i .i64]], .sl [.sl [.i .i64]], .i .i64, .i .i64, .sl [.i .i64]]⟩)]

noncomputable def L_iHalfWay_l10 : Loops := (⟨96, lvT [(21, [0, 9, 10, 11, 12, 65, 66, 67, 72, 73, 74]), (17, [0, 9, 65, 66, 67]), (10, [0, 4, 32, 33, 34, 48, 49, 50]), (5, [0, 2, 3, 4, 32, 33, 34])], mdT [(21, .exit 6, [], [10, 11, 12, 72, 73, 74]), (17, .exit 4, [], [0, 65, 66, 67]), (10, .exit 2, [], [48, 49, 50]), (5, .normal, [], [2, 3]), (5, .exit 0, [], [2, 3, 32, 33, 34]), (5, .ret, [], [0, 4, 32, 33, 34])], fun k vs bs => .bad⟩ : Loops)

theorem iHalfWay_l10_e (y0 : List (List Int)) (y1 : List (List Int)) (y2 : Int) (y3 : Int) (y4 : List Int) (y5 : Int) (s : Int × List Int) : (loopStep (envT Try.prog C80 M43) L_iHalfWay_l10 10 (loopC (loopC (bodyOf Try.f33) 5) 10) (S_iHalfWay_l10.enc (y0, y1, y2, y3, y4, y5, s.1, s.2)).1 (S_iHalfWay_l10.enc (y0, y1, y2, y3, y4, y5, s.1, s.2)).2).to (stepD S_iHalfWay_l10 X_iHalfWay_l10) = (iHalfWay_l10_t y0 y1 y2 y3 y4 y5 s.1 s.2).map (Sum.map (fun s : Int × List Int => (show DR S_iHalfWay_l10.hs from (y0, y1, y2, y3, y4, y5, s.1, s.2))) id) := by kernel_rfl

theorem iHalfWay_l10_r (x : DR S_iHalfWay_l10.hs) : (iHalfWay_l10 x.1 x.2.1 x.2.2.1 x.2.2.2.1 x.2.2.2.2.1 x.2.2.2.2.2.1 x.2.2.2.2.2.2.1 x.2.2.2.2.2.2.2 : Option (SumD (X_iHalfWay_l10.map (·.2)))) = runL (meanS (envT Try.prog C80 M43) L_iHalfWay_l10 10 (loopC (loopC (bodyOf Try.f33) 5) 10) S_iHalfWay_l10 X_iHalfWay_l10) x := run_of (fun s : Int × List Int => (show DR S_iHalfWay_l10.hs from (x.1, x.2.1, x.2.2.1, x.2.2.2.1, x.2.2.2.2.1, x.2.2.2.2.2.1, s.1, s.2))) (iHalfWay_l10_e (x.1) (x.2.1) (x.2.2.1) (x.2.2.2.1) (x.2.2.2.2.1) (x.2.2.2.2.2.1)) (x.2.2.2.2.2.2.1, x.2.2.2.2.2.2.2)

theorem iHalfWay_l10_k (L : Loops) (hn : L_iHalfWay_l10.n = L.n) (hlv : L_iHalfWay_l10.lv 10 = L.lv 10) (hL : ∀ vs bs, L.loop 10 vs bs = toldL S_iHalfWay_l10 X_iHalfWay_l10 (fun x => iHalfWay_l10 x.1 x.2.1 x.2.2.1 x.2.2.2.1 x.2.2.2.2.1 x.2.2.2.2.2.1 x.2.2.2.2.2.2.1 x.2.2.2.2.2.2.2) vs bs) : LOk Try.prog (envT Try.prog C80 M43) L 10 (loopC (loopC (bodyOf Try.f33) 5) 10) := toldL_ok (L1 := L_iHalfWay_l10) (envT_ok (C80_ok) (M43_ok)) mixedO hn hlv (loopFree_ok (by kernel_rfl)) iHalfWay_l10_r hL

def S_iHalfWay_l21 : Shp := ⟨[.h, .slw 0 1, .h, .h, .h, .slw 1 1, .h, .h, .h, .h, .h], [.arr [.i .i64] false, .arr [.i .i64] false], [.sl [.sl [.i .i64]], .i .i64, .i .i64, .i .i64, .i .i64, .i .i64, .sl [.sl [.i .i64]], .i .i64, .i .i64, .sl [.i .i64], .sl [.i .i64]]⟩
def X_iHalfWay_l21 : List XShp := [(.exit 6, ⟨[.h, .slw 0 1, .undef, .undef, .undef, .slw 1 1, .h, .h, .undef, .undef, .undef], [.arr [.i .i64] false, .arr [.i .i64] false], [.sl [.sl [.i .i64]], .i .i64, .i .i64, .sl [.i .i64], .sl [.i .i64]]⟩)]

noncomputable def L_iHalfWay_l21 : Loops := (⟨96, lvT [(21, [0, 9, 10, 11, 12, 65, 66, 67, 72, 73, 74]), (17, [0, 9, 65, 66, 67]), (10, [0, 4, 32, 33, 34, 48, 49, 50]), (5, [0, 2, 3, 4, 32, 33, 34])], mdT [(21, .exit 6, [], [10, 11, 12, 72, 73, 74]), (17, .exit 4, [], [0, 65, 66, 67]), (10, .exit 2, [], [48, 49, 50]), (5, .normal, [], [2, 3]), (5, .exit 0, [], [2, 3, 32, 33, 34]), (5, .ret, [], [0, 4, 32, 33, 34])], fun k vs bs => .bad⟩ : Loops)

theorem iHalfWay_l21_e (y0 : List (List Int)) (y1 : Int) (y2 : Int) (y4 : Int) (y5 : Int) (y6 : List (List Int)) (y7 : Int) (y9 : List Int) (y10 : List Int) (s : Int × Int) : (loopStep (envT Try.prog C80 M43) L_iHalfWay_l21 21 (loopC (loopC (bodyOf Try.f33) 17) 21) (S_iHalfWay_l21.enc (y0, y1, y2, s.1, y4, y5, y6, y7, s.2, y9, y10)).1 (S_iHalfWay_l21.enc (y0, y1, y2, s.1, y4, y5, y6, y7, s.2, y9, y10)).2).to (stepD S_iHalfWay_l21 X_iHalfWay_l21) = (iHalfWay_l21_t y0 y1 y2 y4 y5 y6 y7 y9 y10 s.1 s.2).map (Sum.map (fun s : Int × Int => (show DR S_iHalfWay_l21.hs from (y0, y1, y2, s.1, y4, y5, y6, y7, s.2, y9, y10))) id) := by kernel_rfl

theorem iHalfWay_l21_r (x : DR S_iHalfWay_l21.hs) : (iHalfWay_l21 x.1 x.2.1 x.2.2.1 x.2.2.2.1 x.2.2.2.2.1 x.2.2.2.2.2.1 x.2.2.2.2.2.2.1 x.2.2.2.2.2.2.2.1 x.2.2.2.2.2.2.2.2.1 x.2.2.2.2.2.2.2.2.2.1 x.2.2.2.2.2.2.2.2.2.2 : Option (SumD (X_iHalfWay_l21.map (·.2)))) = runL (meanS (envT Try.prog C80 M43) L_iHalfWay_l21 21 (loopC (loopC (bodyOf Try.f33) 17) 21) S_iHalfWay_l21 X_iHalfWay_l21) x := run_of (fun s : Int × Int => (show DR S_iHalfWay_l21.hs from (x.1, x.2.1, x.2.2.1, s.1, x.2.2.2.2.1, x.2.2.2.2.2.1, x.2.2.2.2.2.2.1, x.2.2.2.2.2.2.2.1, s.2, x.2.2.2.2.2.2.2.2.2.1, x.2.2.2.2.2.2.2.2.2.2))) (iHalfWay_l21_e (x.1) (x.2.1) (x.2.2.1) (x.2.2.2.2.1) (x.2.2.2.2.2.1) (x.2.2.2.2.2.2.1) (x.2.2.2.2.2.2.2.1) (x.2.2.2.2.2.2.2.2.2.1) (x.2.2.2.2.2.2.2.2.2.2)) (x.2.2.2.1, x.2.2.2.2.2.2.2.2.1)

theorem iHalfWay_l21_k (L : Loops) (hn : L_iHalfWay_l21.n = L.n) (hlv : L_iHalfWay_l21.lv 21 = L.lv 21) (hL : ∀ vs bs, L.loop 21 vs bs = toldL S_iHalfWay_l21 X_iHalfWay_l21 (fun x => iHalfWay_l21 x.1 x.2.1 x.2.2.1 x.2.2.2.1 x.2.2.2.2.1 x.2.2.2.2.2.1 x.2.2.2.2.2.2.1 x.2.2.2.2.2.2.2.1 x.2.2.2.2.2.2.2.2.1 x.2.2.2.2.2.2.2.2.2.1 x.2.2.2.2.2.2.2.2.2.2) vs bs) : LOk Try.prog (envT Try.prog C80 M43) L 21 (loopC (loopC (bodyOf Try.f33) 17) 21) := toldL_ok (L1 := L_iHalfWay_l21) (envT_ok (C80_ok) (M43_ok)) mixedO hn hlv (loopFree_ok (by kernel_rfl)) iHalfWay_l21_r hL

def S_iHalfWay_l5 : Shp := ⟨[.h, .undef, .undef, .slw 0 1, .h, .h, .h], [.arr [.i .i64] false], [.sl [.sl [.i .i64]], .sl [.sl [.i .i64]], .i .i64, .i .i64, .sl [.i .i64]]⟩
def X_iHalfWay_l5 : List XShp := [(.ret, ⟨[.undef, .nils, .lb false, .undef, .undef, .undef, .undef], [], []⟩), (.exit 0, ⟨[.h, .undef, .undef, .slw 0 1, .undef, .undef, .undef], [.arr [.i .i64] false], [.sl [.sl [.i .i64]], .sl [.i .i64]]⟩)]

noncomputable def L_iHalfWay_l5 : Loops := (⟨96, lvT [(21, [0, 9, 10, 11, 12, 65, 66, 67, 72, 73, 74]), (17, [0, 9, 65, 66, 67]), (10, [0, 4, 32, 33, 34, 48, 49, 50]), (5, [0, 2, 3, 4, 32, 33, 34])], mdT [(21, .exit 6, [], [10, 11, 12, 72, 73, 74]), (17, .exit 4, [], [0, 65, 66, 67]), (10, .exit 2, [], [48, 49, 50]), (5, .normal, [], [2, 3]), (5, .exit 0, [], [2, 3, 32, 33, 34]), (5, .ret, [], [0, 4, 32, 33, 34])], fun k vs bs => bif Nat.beq k 10 then toldL S_iHalfWay_l10 X_iHalfWay_l10 (fun x => iHalfWay_l10 x.1 x.2.1 x.2.2.1 x.2.2.2.1 x.2.2.2.2.1 x.2.2.2.2.2.1 x.2.2.2.2.2.2.1 x.2.2.2.2.2.2.2) vs bs else .bad⟩ : Loops)

theorem iHalfWay_l5_e (s : List (List Int) × List (List Int) × Int × Int × List Int) : (loopStep (envT Try.prog C80 M43) L_iHalfWay_l5 5 (loopC (bodyOf Try.f33) 5) (S_iHalfWay_l5.enc (s.1, s.2.1, s.2.2.1, s.2.2.2.1, s.2.2.2.2)).1 (S_iHalfWay_l5.enc (s.1, s.2.1, s.2.2.1, s.2.2.2.1, s.2.2.2.2)).2).to (stepD S_iHalfWay_l5 X_iHalfWay_l5) = (iHalfWay_l5_t  s.1 s.2.1 s.2.2.1 s.2.2.2.1 s.2.2.2.2).map (Sum.map (fun s : List (List Int) × List (List Int) × Int × Int × List Int => (show DR S_iHalfWay_l5.hs from (s.1, s.2.1, s.2.2.1, s.2.2.2.1, s.2.2.2.2))) id) := by kernel_rfl

theorem iHalfWay_l5_r (x : DR S_iHalfWay_l5.hs) : (iHalfWay_l5 x.1 x.2.1 x.2.2.1 x.2.2.2.1 x.2.2.2.2 : Option (SumD (X_iHalfWay_l5.map (·.2)))) = runL (meanS (envT Try.prog C80 M43) L_iHalfWay_l5 5 (loopC (bodyOf Try.f33) 5) S_iHalfWay_l5 X_iHalfWay_l5) x := run_of (fun s : List (List Int) × List (List Int) × Int × Int × List Int => (show DR S_iHalfWay_l5.hs from (s.1, s.2.1, s.2.2.1, s.2.2.2.1, s.2.2.2.2))) (iHalfWay_l5_e ) (x.1, x.2.1, x.2.2.1, x.2.2.2.1, x.2.2.2.2)

theorem iHalfWay_l5_k (L : Loops) (hn : L_iHalfWay_l5.n = L.n) (hlv : L_iHalfWay_l5.lv 5 = L.lv 5) (hL : ∀ vs bs, L.loop 5 vs bs = toldL S_iHalfWay_l5 X_iHalfWay_l5 (fun x => iHalfWay_l5 x.1 x.2.1 x.2.2.1 x.2.2.2.1 x.2.2.2.2) vs bs) : LOk Try.prog (envT Try.prog C80 M43) L 5 (loopC (bodyOf Try.f33) 5) := toldL_ok (L1 := L_iHalfWay_l5) (envT_ok (C80_ok) (M43_ok)) mixedO hn hlv (loopsL (l := [(10, loopC (loopC (bodyOf Try.f33) 5) 10)]) (by kernel_rfl) (lk_cons (iHalfWay_l10_k _ rfl rfl (fun _ _ => rfl)) lk_nil)) iHalfWay_l5_r hL

def S_iHalfWay_l17 : Shp := ⟨[.h, .slw 0 1, .slw 1 1, .h, .h], [.arr [.i .i64] false, .arr [.i .i64] false], [.sl [.sl [.i .i64]], .i .i64, .i .i64, .sl [.i .i64], .sl [.i .i64]]⟩
def X_iHalfWay_l17 : List XShp := [(.exit 4, ⟨[.undef, .slw 0 1, .undef, .undef, .undef], [.arr [.i .i64] false], [.sl [.i .i64]]⟩)]

noncomputable def L_iHalfWay_l17 : Loops := (⟨96, lvT [(21, [0, 9, 10, 11, 12, 65, 66, 67, 72, 73, 74]), (17, [0, 9, 65, 66, 67]), (10, [0, 4, 32, 33, 34, 48, 49, 50]), (5, [0, 2, 3, 4, 32, 33, 34])], mdT [(21, .exit 6, [], [10, 11, 12, 72, 73, 74]), (17, .exit 4, [], [0, 65, 66, 67]), (10, .exit 2, [], [48, 49, 50]), (5, .normal, [], [2, 3]), (5, .exit 0, [], [2, 3, 32, 33, 34]), (5, .ret, [], [0, 4, 32, 33, 34])], fun k vs bs => bif Nat.beq k 21 then toldL S_iHalfWay_l21 X_iHalfWay_l21 (fun x => iHalfWay_l21 x.1 x.2.1 x.2.2.1 x.2.2.2.1 x.2.2.2.2.1 x.2.2.2.2.2.1 x.2.2.2.2.2.2.1 x.2.2.2.2.2.2.2.1 x.2.2.2.2.2.2.2.2.1 x.2.2.2.2.2.2.2.2.2.1 x.2.2.2.2.2.2.2.2.2.2) vs bs else .bad⟩ : Loops)

theorem iHalfWay_l17_e (s : List (List Int) × Int × Int × List Int × List Int) : (loopStep (envT Try.prog C80 M43) L_iHalfWay_l17 17 (loopC (bodyOf Try.f33) 17) (S_iHalfWay_l17.enc (s.1, s.2.1, s.2.2.1, s.2.2.2.1, s.2.2.2.2)).1 (S_iHalfWay_l17.enc (s.1, s.2.1, s.2.2.1, s.2.2.2.1, s.2.2.2.2)).2).to (stepD S_iHalfWay_l17 X_iHalfWay_l17) = (iHalfWay_l17_t  s.1 s.2.1 s.2.2.1 s.2.2.2.1 s.2.2.2.2).map (Sum.map (fun s : List (List Int) × Int × Int × List Int × List Int => (show DR S_iHalfWay_l17.hs from (s.1, s.2.1, s.2.2.1, s.2.2.2.1, s.2.2.2.2))) id) := by kernel_rfl

theorem iHalfWay_l17_r (x : DR S_iHalfWay_l17.hs) : (iHalfWay_l17 x.1 x.2.1 x.2.2.1 x.2.2.2.1 x.2.2.2.2 : Option (SumD (X_iHalfWay_l17.map (·.2)))) = runL (meanS (envT Try.prog C80 M43) L_iHalfWay_l17 17 (loopC (bodyOf Try.f33) 17) S_iHalfWay_l17 X_iHalfWay_l17) x := run_of (fun s : List (List Int) × Int × Int × List Int × List Int => (show DR S_iHalfWay_l17.hs from (s.1, s.2.1, s.2.2.1, s.2.2.2.1, s.2.2.2.2))) (iHalfWay_l17_e ) (x.1, x.2.1, x.2.2.1, x.2.2.2.1, x.2.2.2.2)

theorem iHalfWay_l17_k (L : Loops) (hn : L_iHalfWay_l17.n = L.n) (hlv : L_iHalfWay_l17.lv 17 = L.lv 17) (hL : ∀ vs bs, L.loop 17 vs bs = toldL S_iHalfWay_l17 X_iHalfWay_l17 (fun x => iHalfWay_l17 x.1 x.2.1 x.2.2.1 x.2.2.2.1 x.2.2.2.2) vs bs) : LOk Try.prog (envT Try.prog C80 M43) L 17 (loopC (bodyOf Try.f33) 17) := toldL_ok (L1 := L_iHalfWay_l17) (envT_ok (C80_ok) (M43_ok)) mixedO hn hlv (loopsL (l := [(21, loopC (loopC (bodyOf Try.f33) 17) 21)]) (by kernel_rfl) (lk_cons (iHalfWay_l21_k _ rfl rfl (fun _ _ => rfl)) lk_nil)) iHalfWay_l17_r hL

def A_iHalfWay : Shp := ⟨[.h], [], [.sl [.sl [.i .i64]]]⟩
def R_iHalfWay : List XShp := [(.ret, ⟨[.tup [.nils, .lb false]], [], []⟩), (.ret, ⟨[.tup [.slw 0 1, .lb true]], [.arr [.i .i64] false], [.sl [.i .i64]]⟩)]

noncomputable def L_iHalfWay : Loops := (⟨96, lvT [(21, [0, 9, 10, 11, 12, 65, 66, 67, 72, 73, 74]), (17, [0, 9, 65, 66, 67]), (10, [0, 4, 32, 33, 34, 48, 49, 50]), (5, [0, 2, 3, 4, 32, 33, 34])], mdT [(21, .exit 6, [], [10, 11, 12, 72, 73, 74]), (17, .exit 4, [], [0, 65, 66, 67]), (10, .exit 2, [], [48, 49, 50]), (5, .normal, [], [2, 3]), (5, .exit 0, [], [2, 3, 32, 33, 34]), (5, .ret, [], [0, 4, 32, 33, 34])], fun k vs bs => bif Nat.beq k 17 then toldL S_iHalfWay_l17 X_iHalfWay_l17 (fun x => iHalfWay_l17 x.1 x.2.1 x.2.2.1 x.2.2.2.1 x.2.2.2.2) vs bs else bif Nat.beq k 5 then toldL S_iHalfWay_l5 X_iHalfWay_l5 (fun x => iHalfWay_l5 x.1 x.2.1 x.2.2.1 x.2.2.2.1 x.2.2.2.2) vs bs else .bad⟩ : Loops)

theorem iHalfWay_e (x : DR A_iHalfWay.hs) : (evFn (envT Try.prog C80 M43) L_iHalfWay Try.f33 (A_iHalfWay.enc x).1).to (fun q => decX R_iHalfWay .ret [q.1] q.2) = iHalfWay_t x := by kernel_rfl

theorem iHalfWay_m (x : DR A_iHalfWay.hs) : meanF (envT Try.prog C80 M43) L_iHalfWay Try.f33 A_iHalfWay R_iHalfWay x = (show Option (SumD (R_iHalfWay.map (·.2))) from iHalfWay x) := meanF_of (iHalfWay_e x)

theorem iHalfWay_ok : SpecOk Try.prog 33 (evFn (envT Try.prog C80 M43) L_iHalfWay Try.f33) := fnL_ok (envT_ok (C80_ok) (M43_ok)) mixedO Try.func33 (by kernel_rfl) (c := bodyOf Try.f33) (by kernel_rfl) (loopsL (l := [(5, loopC (bodyOf Try.f33) 5), (17, loopC (bodyOf Try.f33) 17)]) (by kernel_rfl) (lk_cons (iHalfWay_l5_k _ rfl rfl (fun _ _ => rfl)) (lk_cons (iHalfWay_l17_k _ rfl rfl (fun _ _ => rfl)) lk_nil)))

theorem iHalfWay_told : SpecOk Try.prog 33 (toldO A_iHalfWay R_iHalfWay (fun x => iHalfWay x) (C80 33)) := toldO_ok (by kernel_rfl) iHalfWay_ok (rest_ok (C80_ok) _) iHalfWay_m

noncomputable def C81 : Tab := tab 33 (toldO A_iHalfWay R_iHalfWay (fun x => iHalfWay x) (C80 33)) C80
theorem C81_ok : TabOk Try.prog C81 := tab_ok (iHalfWay_told) (C80_ok)

def S_weqInt64SS_l4 : Shp := ⟨[.h, .h, .undef, .h], [], [.sl [.sl [.i .i64]], .sl [.sl [.i .i64]], .i .i64]⟩
def X_weqInt64SS_l4 : List XShp := [(.ret, ⟨[.undef, .undef, .lb false, .undef], [], []⟩), (.exit 0, ⟨[.undef, .undef, .undef, .undef], [], []⟩)]

noncomputable def L_weqInt64SS_l4 : Loops := (⟨27, lvT [(4, [0, 1, 4, 5])], mdT [(4, .normal, [], [4]), (4, .exit 0, [], [0, 1, 4, 5]), (4, .ret, [], [0, 1, 5])], fun k vs bs => .bad⟩ : Loops)

theorem weqInt64SS_l4_e (y0 : List (List Int)) (y1 : List (List Int)) (s : Int) : (loopStep (envT Try.prog C81 M43) L_weqInt64SS_l4 4 (loopC (bodyOf Try.f34) 4) (S_weqInt64SS_l4.enc (y0, y1, s)).1 (S_weqInt64SS_l4.enc (y0, y1, s)).2).to (stepD S_weqInt64SS_l4 X_weqInt64SS_l4) = (weqInt64SS_l4_t y0 y1 s).map (Sum.map (fun s : Int => (show DR S_weqInt64SS_l4.hs from (y0, y1, s))) id) := by kernel_rfl

theorem weqInt64SS_l4_r (x : DR S_weqInt64SS_l4.hs) : (weqInt64SS_l4 x.1 x.2.1 x.2.2 : Option (SumD (X_weqInt64SS_l4.map (·.2)))) = runL (meanS (envT Try.prog C81 M43) L_weqInt64SS_l4 4 (loopC (bodyOf Try.f34) 4) S_weqInt64SS_l4 X_weqInt64SS_l4) x := run_of (fun s : Int => (show DR S_weqInt64SS_l4.hs from (x.1, x.2.1, s))) (weqInt64SS_l4_e (x.1) (x.2.1)) x.2.2

theorem weqInt64SS_l4_k (L : Loops) (hn : L_weqInt64SS_l4.n = L.n) (hlv : L_weqInt64SS_l4.lv 4 = L.lv 4) (hL : ∀ vs bs, L.loop 4 vs bs = toldL S_weqInt64SS_l4 X_weqInt64SS_l4 (fun x => weqInt64SS_l4 x.1 x.2.1 x.2.2) vs bs) : LOk Try.prog (envT Try.prog C81 M43) L 4 (loopC (bodyOf Try.f34) 4) := toldL_ok (L1 := L_weqInt64SS_l4) (envT_ok (C81_ok) (M43_ok)) mixedO hn hlv (loopFree_ok (by kernel_rfl)) weqInt64SS_l4_r hL

def A_weqInt64SS : Shp := ⟨[.h, .h], [], [.sl [.sl [.i .i64]], .sl [.sl [.i .i64]]]⟩
def R_weqInt64SS : List XShp := [(.ret, ⟨[.h], [], [.b]⟩)]

noncomputable def L_weqInt64SS : Loops := (⟨27, lvT [(4, [0, 1, 4, 5])], mdT [(4, .normal, [], [4]), (4, .exit 0, [], [0, 1, 4, 5]), (4, .ret, [], [0, 1, 5])], fun k vs bs => bif Nat.beq k 4 then toldL S_weqInt64SS_l4 X_weqInt64SS_l4 (fun x => weqInt64SS_l4 x.1 x.2.1 x.2.2) vs bs else .bad⟩ : Loops)

theorem weqInt64SS_e (x : DR A_weqInt64SS.hs) : (evFn (envT Try.prog C81 M43) L_weqInt64SS Try.f34 (A_weqInt64SS.enc x).1).to (fun q => decX R_weqInt64SS .ret [q.1] q.2) = weqInt64SS_t x.1 x.2 := by kernel_rfl

theorem weqInt64SS_m (x : DR A_weqInt64SS.hs) : meanF (envT Try.prog C81 M43) L_weqInt64SS Try.f34 A_weqInt64SS R_weqInt64SS x = (show Option (SumD (R_weqInt64SS.map (·.2))) from weqInt64SS x.1 x.2) := meanF_of (weqInt64SS_e x)

theorem weqInt64SS_ok : SpecOk Try.prog 34 (evFn (envT Try.prog C81 M43) L_weqInt64SS Try.f34) := fnL_ok (envT_ok (C81_ok) (M43_ok)) mixedO Try.func34 (by kernel_rfl) (c := bodyOf Try.f34) (by kernel_rfl) (loopsL (l := [(4, loopC (bodyOf Try.f34) 4)]) (by kernel_rfl) (lk_cons (weqInt64SS_l4_k _ rfl rfl (fun _ _ => rfl)) lk_nil))

theorem weqInt64SS_told : SpecOk Try.prog 34 (toldO A_weqInt64SS R_weqInt64SS (fun x => weqInt64SS x.1 x.2) (C81 34)) := toldO_ok (by kernel_rfl) weqInt64SS_ok (rest_ok (C81_ok) _) weqInt64SS_m

noncomputable def C82 : Tab := tab 34 (toldO A_weqInt64SS R_weqInt64SS (fun x => weqInt64SS x.1 x.2) (C81 34)) C81
theorem C82_ok : TabOk Try.prog C82 := tab_ok (weqInt64SS_told) (C81_ok)

def S_wmarkInt64S_n1_l2 : Shp := ⟨[.h, .h, .h], [], [.sl [.i .i64], .i .i64, .i .i64]⟩
def X_wmarkInt64S_n1_l2 : List XShp := [(.exit 0, ⟨[.undef, .h, .undef], [], [.i .i64]⟩)]

noncomputable def L_wmarkInt64S_n1_l2 : Loops := (⟨19, lvT [(2, [0, 1, 5])], mdT [(2, .exit 0, [], [0, 5])], fun k vs bs => .bad⟩ : Loops)

theorem wmarkInt64S_n1_l2_e (y0 : List Int) (y1 : Int) (y2 : Int) (s : Unit) : (loopStep (envW Try.prog C82 M43 0) L_wmarkInt64S_n1_l2 2 (loopC (bodyOf Try.f19) 2) (S_wmarkInt64S_n1_l2.enc (y0, y1, y2)).1 (S_wmarkInt64S_n1_l2.enc (y0, y1, y2)).2).to (stepD S_wmarkInt64S_n1_l2 X_wmarkInt64S_n1_l2) = (wmarkInt64S_n1_l2_t y0 y1 y2 ).map (Sum.map (fun s : Unit => (show DR S_wmarkInt64S_n1_l2.hs from (y0, y1, y2))) id) := by kernel_rfl

theorem wmarkInt64S_n1_l2_r (x : DR S_wmarkInt64S_n1_l2.hs) : (wmarkInt64S_n1_l2 x.1 x.2.1 x.2.2 : Option (SumD (X_wmarkInt64S_n1_l2.map (·.2)))) = runL (meanS (envW Try.prog C82 M43 0) L_wmarkInt64S_n1_l2 2 (loopC (bodyOf Try.f19) 2) S_wmarkInt64S_n1_l2 X_wmarkInt64S_n1_l2) x := run_of (fun s : Unit => (show DR S_wmarkInt64S_n1_l2.hs from (x.1, x.2.1, x.2.2))) (wmarkInt64S_n1_l2_e (x.1) (x.2.1) (x.2.2)) ()

theorem wmarkInt64S_n1_l2_k (L : Loops) (hn : L_wmarkInt64S_n1_l2.n = L.n) (hlv : L_wmarkInt64S_n1_l2.lv 2 = L.lv 2) (hL : ∀ vs bs, L.loop 2 vs bs = toldL S_wmarkInt64S_n1_l2 X_wmarkInt64S_n1_l2 (fun x => wmarkInt64S_n1_l2 x.1 x.2.1 x.2.2) vs bs) : LOk Try.prog (envW Try.prog C82 M43 0) L 2 (loopC (bodyOf Try.f19) 2) := toldL_ok (L1 := L_wmarkInt64S_n1_l2) (envW_ok (C82_ok) (M43_ok)) mixedO hn hlv (loopFree_ok (by kernel_rfl)) wmarkInt64S_n1_l2_r hL

def A_wmarkInt64S_n1 : Shp := ⟨[.h, .h], [], [.sl [.i .i64], .i .i64]⟩
def R_wmarkInt64S_n1 : List XShp := [(.ret, ⟨[.h], [], [.i .i64]⟩)]

noncomputable def L_wmarkInt64S_n1 : Loops := (⟨19, lvT [(2, [0, 1, 5])], mdT [(2, .exit 0, [], [0, 5])], fun k vs bs => bif Nat.beq k 2 then toldL S_wmarkInt64S_n1_l2 X_wmarkInt64S_n1_l2 (fun x => wmarkInt64S_n1_l2 x.1 x.2.1 x.2.2) vs bs else .bad⟩ : Loops)

theorem wmarkInt64S_n1_e (x : DR A_wmarkInt64S_n1.hs) : (evFnM (envW Try.prog C82 M43 0) L_wmarkInt64S_n1 Try.f19 (A_wmarkInt64S_n1.enc x).1 ((A_wmarkInt64S_n1.enc x).2.map (·.blk))).to (decM R_wmarkInt64S_n1) = wmarkInt64S_n1_t x.1 x.2 := by kernel_rfl

theorem wmarkInt64S_n1_m (x : DR A_wmarkInt64S_n1.hs) : meanM (envW Try.prog C82 M43 0) L_wmarkInt64S_n1 Try.f19 A_wmarkInt64S_n1 R_wmarkInt64S_n1 x = (show Option (SumD (R_wmarkInt64S_n1.map (·.2))) from wmarkInt64S_n1 x.1 x.2) := meanM_of (wmarkInt64S_n1_e x)

theorem wmarkInt64S_n1_ok : MSpecOk Try.prog 19 (evFnM (envW Try.prog C82 M43 0) L_wmarkInt64S_n1 Try.f19) := fnM_ok (envW_ok (C82_ok) (M43_ok)) rfl mixedO Try.func19 (by kernel_rfl) (c := bodyOf Try.f19) (by kernel_rfl) (loopsL (l := [(2, loopC (bodyOf Try.f19) 2)]) (by kernel_rfl) (lk_cons (wmarkInt64S_n1_l2_k _ rfl rfl (fun _ _ => rfl)) lk_nil))

theorem wmarkInt64S_n1_told : MSpecOk Try.prog 19 (toldMO A_wmarkInt64S_n1 R_wmarkInt64S_n1 (fun x => wmarkInt64S_n1 x.1 x.2) (mrest M43 19)) := toldMO_ok (by kernel_rfl) wmarkInt64S_n1_ok (mrest_ok (M43_ok) _) wmarkInt64S_n1_m

noncomputable def M83 : MTab := mtab 19 (toldMO A_wmarkInt64S_n1 R_wmarkInt64S_n1 (fun x => wmarkInt64S_n1 x.1 x.2) (mrest M43 19)) M43
theorem M83_ok : MTabOk Try.prog M83 := mtab_ok (wmarkInt64S_n1_told) (M43_ok)

def S_wmarkInt64SS_l2 : Shp := ⟨[.slw 0 1, .h, .h], [.arr [.sl [.i .i64]] false], [.i .i64, .i .i64, .sl [.sl [.i .i64]]]⟩
def X_wmarkInt64SS_l2 : List XShp := [(.exit 0, ⟨[.undef, .h, .undef], [.arr [.sl [.i .i64]] false], [.i .i64, .sl [.sl [.i .i64]]]⟩)]

noncomputable def L_wmarkInt64SS_l2 : Loops := (⟨19, lvT [(2, [0, 1, 5])], mdT [(2, .exit 0, [], [0, 5])], fun k vs bs => .bad⟩ : Loops)

theorem wmarkInt64SS_l2_e (y2 : List (List Int)) (s : Int × Int) : (loopStep (envW Try.prog C82 M83 1) L_wmarkInt64SS_l2 2 (loopC (bodyOf Try.f35) 2) (S_wmarkInt64SS_l2.enc (s.1, s.2, y2)).1 (S_wmarkInt64SS_l2.enc (s.1, s.2, y2)).2).to (stepD S_wmarkInt64SS_l2 X_wmarkInt64SS_l2) = (wmarkInt64SS_l2_t y2 s.1 s.2).map (Sum.map (fun s : Int × Int => (show DR S_wmarkInt64SS_l2.hs from (s.1, s.2, y2))) id) := by kernel_rfl

theorem wmarkInt64SS_l2_r (x : DR S_wmarkInt64SS_l2.hs) : (wmarkInt64SS_l2 x.1 x.2.1 x.2.2 : Option (SumD (X_wmarkInt64SS_l2.map (·.2)))) = runL (meanS (envW Try.prog C82 M83 1) L_wmarkInt64SS_l2 2 (loopC (bodyOf Try.f35) 2) S_wmarkInt64SS_l2 X_wmarkInt64SS_l2) x := run_of (fun s : Int × Int => (show DR S_wmarkInt64SS_l2.hs from (s.1, s.2, x.2.2))) (wmarkInt64SS_l2_e (x.2.2)) (x.1, x.2.1)

theorem wmarkInt64SS_l2_k (L : Loops) (hn : L_wmarkInt64SS_l2.n = L.n) (hlv : L_wmarkInt64SS_l2.lv 2 = L.lv 2) (hL : ∀ vs bs, L.loop 2 vs bs = toldL S_wmarkInt64SS_l2 X_wmarkInt64SS_l2 (fun x => wmarkInt64SS_l2 x.1 x.2.1 x.2.2) vs bs) : LOk Try.prog (envW Try.prog C82 M83 1) L 2 (loopC (bodyOf Try.f35) 2) := toldL_ok (L1 := L_wmarkInt64SS_l2) (envW_ok (C82_ok) (M83_ok)) mixedO hn hlv (loopFree_ok (by kernel_rfl)) wmarkInt64SS_l2_r hL

def A_wmarkInt64SS : Shp := ⟨[.slw 0 1, .h], [.arr [.sl [.i .i64]] false], [.i .i64, .sl [.sl [.i .i64]]]⟩
def R_wmarkInt64SS : List XShp := [(.ret, ⟨[.h], [.arr [.sl [.i .i64]] false], [.i .i64, .sl [.sl [.i .i64]]]⟩)]

noncomputable def L_wmarkInt64SS : Loops := (⟨19, lvT [(2, [0, 1, 5])], mdT [(2, .exit 0, [], [0, 5])], fun k vs bs => bif Nat.beq k 2 then toldL S_wmarkInt64SS_l2 X_wmarkInt64SS_l2 (fun x => wmarkInt64SS_l2 x.1 x.2.1 x.2.2) vs bs else .bad⟩ : Loops)

theorem wmarkInt64SS_e (x : DR A_wmarkInt64SS.hs) : (evFnM (envW Try.prog C82 M83 1) L_wmarkInt64SS Try.f35 (A_wmarkInt64SS.enc x).1 ((A_wmarkInt64SS.enc x).2.map (·.blk))).to (decM R_wmarkInt64SS) = wmarkInt64SS_t x.1 x.2 := by kernel_rfl

theorem wmarkInt64SS_m (x : DR A_wmarkInt64SS.hs) : meanM (envW Try.prog C82 M83 1) L_wmarkInt64SS Try.f35 A_wmarkInt64SS R_wmarkInt64SS x = (show Option (SumD (R_wmarkInt64SS.map (·.2))) from wmarkInt64SS x.1 x.2) := meanM_of (wmarkInt64SS_e x)

theorem wmarkInt64SS_ok : MSpecOk Try.prog 35 (evFnM (envW Try.prog C82 M83 1) L_wmarkInt64SS Try.f35) := fnM_ok (envW_ok (C82_ok) (M83_ok)) rfl mixedO Try.func35 (by kernel_rfl) (c := bodyOf Try.f35) (by kernel_rfl) (loopsL (l := [(2, loopC (bodyOf Try.f35) 2)]) (by kernel_rfl) (lk_cons (wmarkInt64SS_l2_k _ rfl rfl (fun _ _ => rfl)) lk_nil))

theorem wmarkInt64SS_told : MSpecOk Try.prog 35 (toldMO A_wmarkInt64SS R_wmarkInt64SS (fun x => wmarkInt64SS x.1 x.2) (mrest M83 35)) := toldMO_ok (by kernel_rfl) wmarkInt64SS_ok (mrest_ok (M83_ok) _) wmarkInt64SS_m

noncomputable def M84 : MTab := mtab 35 (toldMO A_wmarkInt64SS R_wmarkInt64SS (fun x => wmarkInt64SS x.1 x.2) (mrest M83 35)) M83
theorem M84_ok : MTabOk Try.prog M84 := mtab_ok (wmarkInt64SS_told) (M83_ok)

def A_wFnExactHalfWay : Shp := ⟨[.h], [], [.sl [.sl [.i .i64]]]⟩
def R_wFnExactHalfWay : List XShp := [(.ret, ⟨[.h], [], [.b]⟩)]

theorem wFnExactHalfWay_e (x : DR A_wFnExactHalfWay.hs) : (evFn (envT Try.prog C82 M84) noLoops Try.f6 (A_wFnExactHalfWay.enc x).1).to (fun q => decX R_wFnExactHalfWay .ret [q.1] q.2) = wFnExactHalfWay_t x := by kernel_rfl

theorem wFnExactHalfWay_m (x : DR A_wFnExactHalfWay.hs) : meanF (envT Try.prog C82 M84) noLoops Try.f6 A_wFnExactHalfWay R_wFnExactHalfWay x = (show Option (SumD (R_wFnExactHalfWay.map (·.2))) from wFnExactHalfWay x) := meanF_of (wFnExactHalfWay_e x)

theorem wFnExactHalfWay_ok : SpecOk Try.prog 6 (evFn (envT Try.prog C82 M84) noLoops Try.f6) := fnL_ok (envT_ok (C82_ok) (M84_ok)) mixedO Try.func6 (by kernel_rfl) (c := bodyOf Try.f6) (by kernel_rfl) (loopFree_ok (by kernel_rfl))

theorem wFnExactHalfWay_told : SpecOk Try.prog 6 (toldO A_wFnExactHalfWay R_wFnExactHalfWay (fun x => wFnExactHalfWay x) (C82 6)) := toldO_ok (by kernel_rfl) wFnExactHalfWay_ok (rest_ok (C82_ok) _) wFnExactHalfWay_m

noncomputable def C85 : Tab := tab 6 (toldO A_wFnExactHalfWay R_wFnExactHalfWay (fun x => wFnExactHalfWay x) (C82 6)) C82
theorem C85_ok : TabOk Try.prog C85 := tab_ok (wFnExactHalfWay_told) (C82_ok)

theorem lawFnExactHalfWay_ok : SpecOk Try.prog 6 (evFn (envT Try.prog C82 M84) noLoops Try.f6) := wFnExactHalfWay_ok
theorem lawFnExactHalfWay_says (x : DR A_wFnExactHalfWay.hs) (h : (show Option (SumD (R_wFnExactHalfWay.map (·.2))) from wFnExactHalfWay x) = some true) : saysTrue (evFn (envT Try.prog C82 M84) noLoops Try.f6 (A_wFnExactHalfWay.enc x).1) = true := law_says (x := x) ((wFnExactHalfWay_m x).trans h)

theorem lawFnExactHalfWay_true (x0 : List (List Int)) (h : wFnExactHalfWay x0 = some true) : saysTrue (evFn (envT Try.prog C82 M84) noLoops Try.f6 [.ds [.sl [.i .i64]] x0]) = true := (congrArg (fun l => saysTrue (evFn (envT Try.prog C82 M84) noLoops Try.f6 l)) (by kernel_rfl : ([.ds [.sl [.i .i64]] x0] : List V) = (A_wFnExactHalfWay.enc x0).1)).trans (lawFnExactHalfWay_says x0 h)
end Go.Proofs.Ytjohnpldkanjmaa
