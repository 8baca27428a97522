/- Functions, as plain functions. What the program comes to. -/
import Derived.Test.YtjohnpldkanjmaaGb1d
import Derived.Test.YtjohnpldkanjmaaDb
import Derived.Test.YtjohnpldkanjmaaNv
import Derived.KernelRfl
set_option linter.unusedVariables false
set_option linter.unusedSimpArgs false
set_option linter.constructorNameAsVariable false
namespace Go.Proofs.Ytjohnpldkanjmaa
open Go.RowKit
set_option maxRecDepth 100000
theorem mixedO : (Try.prog).follows .mixedOrders = true := by kernel_rfl
def A_wszInt64S : Shp := ⟨[.h, .h], [], [.sl [.i .i64], .i .i64]⟩
def R_wszInt64S : List XShp := [(.ret, ⟨[.h], [], [.i .i64]⟩)]

theorem wszInt64S_e (x : DR A_wszInt64S.hs) : (evFn (envT Try.prog tab0 mtab0) noLoops Try.f59 (A_wszInt64S.enc x).1).to (fun q => decX R_wszInt64S .ret [q.1] q.2) = wszInt64S_t x.1 x.2 := by kernel_rfl

theorem wszInt64S_m (x : DR A_wszInt64S.hs) : meanF (envT Try.prog tab0 mtab0) noLoops Try.f59 A_wszInt64S R_wszInt64S x = some (show SumD (R_wszInt64S.map (·.2)) from wszInt64S x.1 x.2) := @meanF_tot _ _ _ _ _ _ _ (wszInt64S_e x) (show Inhabited (Int) from inferInstance) (by kernel_rfl)

theorem wszInt64S_ok : SpecOk Try.prog 59 (evFn (envT Try.prog tab0 mtab0) noLoops Try.f59) := fnL_ok (envT_ok (tab0_ok _) (mtab0_ok _)) mixedO Try.func59 (by kernel_rfl) (c := bodyOf Try.f59) (by kernel_rfl) (loopFree_ok (by kernel_rfl))

theorem wszInt64S_told : SpecOk Try.prog 59 (toldT A_wszInt64S R_wszInt64S (fun x => wszInt64S x.1 x.2) (tab0 59)) := toldT_ok (by kernel_rfl) wszInt64S_ok (rest_ok (tab0_ok _) _) wszInt64S_m

noncomputable def C0 : Tab := tab 59 (toldT A_wszInt64S R_wszInt64S (fun x => wszInt64S x.1 x.2) (tab0 59)) tab0
theorem C0_ok : TabOk Try.prog C0 := tab_ok (wszInt64S_told) (tab0_ok _)

def A_wszDamS : Shp := ⟨[.h, .h], [], [.sl [.i .i64, .i .i64, .i .i64, .i .i64], .i .i64]⟩
def R_wszDamS : List XShp := [(.ret, ⟨[.h], [], [.i .i64]⟩)]

theorem wszDamS_e (x : DR A_wszDamS.hs) : (evFn (envT Try.prog C0 mtab0) noLoops Try.f60 (A_wszDamS.enc x).1).to (fun q => decX R_wszDamS .ret [q.1] q.2) = wszDamS_t x.1 x.2 := by kernel_rfl

theorem wszDamS_m (x : DR A_wszDamS.hs) : meanF (envT Try.prog C0 mtab0) noLoops Try.f60 A_wszDamS R_wszDamS x = some (show SumD (R_wszDamS.map (·.2)) from wszDamS x.1 x.2) := @meanF_tot _ _ _ _ _ _ _ (wszDamS_e x) (show Inhabited (Int) from inferInstance) (by kernel_rfl)

theorem wszDamS_ok : SpecOk Try.prog 60 (evFn (envT Try.prog C0 mtab0) noLoops Try.f60) := fnL_ok (envT_ok (C0_ok) (mtab0_ok _)) mixedO Try.func60 (by kernel_rfl) (c := bodyOf Try.f60) (by kernel_rfl) (loopFree_ok (by kernel_rfl))

theorem wszDamS_told : SpecOk Try.prog 60 (toldT A_wszDamS R_wszDamS (fun x => wszDamS x.1 x.2) (C0 60)) := toldT_ok (by kernel_rfl) wszDamS_ok (rest_ok (C0_ok) _) wszDamS_m

noncomputable def C1 : Tab := tab 60 (toldT A_wszDamS R_wszDamS (fun x => wszDamS x.1 x.2) (C0 60)) C0
theorem C1_ok : TabOk Try.prog C1 := tab_ok (wszDamS_told) (C0_ok)

def A_wszRiver : Shp := ⟨[.agg [.h, .h, .h], .h], [], [.sl [.i .i64], .sl [.i .i64, .i .i64, .i .i64, .i .i64], .sl [.i .i64], .i .i64]⟩
def R_wszRiver : List XShp := [(.ret, ⟨[.h], [], [.i .i64]⟩)]

theorem wszRiver_e (x : DR A_wszRiver.hs) : (evFn (envT Try.prog C1 mtab0) noLoops Try.f21 (A_wszRiver.enc x).1).to (fun q => decX R_wszRiver .ret [q.1] q.2) = wszRiver_t x.1 x.2.1 x.2.2.1 x.2.2.2 := by kernel_rfl

theorem wszRiver_m (x : DR A_wszRiver.hs) : meanF (envT Try.prog C1 mtab0) noLoops Try.f21 A_wszRiver R_wszRiver x = some (show SumD (R_wszRiver.map (·.2)) from wszRiver x.1 x.2.1 x.2.2.1 x.2.2.2) := @meanF_tot _ _ _ _ _ _ _ (wszRiver_e x) (show Inhabited (Int) from inferInstance) (by kernel_rfl)

theorem wszRiver_ok : SpecOk Try.prog 21 (evFn (envT Try.prog C1 mtab0) noLoops Try.f21) := fnL_ok (envT_ok (C1_ok) (mtab0_ok _)) mixedO Try.func21 (by kernel_rfl) (c := bodyOf Try.f21) (by kernel_rfl) (loopFree_ok (by kernel_rfl))

theorem wszRiver_told : SpecOk Try.prog 21 (toldT A_wszRiver R_wszRiver (fun x => wszRiver x.1 x.2.1 x.2.2.1 x.2.2.2) (C1 21)) := toldT_ok (by kernel_rfl) wszRiver_ok (rest_ok (C1_ok) _) wszRiver_m

noncomputable def C2 : Tab := tab 21 (toldT A_wszRiver R_wszRiver (fun x => wszRiver x.1 x.2.1 x.2.2.1 x.2.2.2) (C1 21)) C1
theorem C2_ok : TabOk Try.prog C2 := tab_ok (wszRiver_told) (C1_ok)

def S_wtoInt64S_l3 : Shp := ⟨[.h, .slw 0 1, .h], [.arr [.i .i64] false], [.sl [.i .i64], .i .i64, .sl [.i .i64]]⟩
def X_wtoInt64S_l3 : List XShp := [(.exit 0, ⟨[.undef, .slw 0 1, .undef], [.arr [.i .i64] false], [.sl [.i .i64]]⟩)]

noncomputable def L_wtoInt64S_l3 : Loops := (⟨22, lvT [(3, [0, 3, 4])], mdT [(3, .exit 0, [], [0, 4])], fun k vs bs => .bad⟩ : Loops)

theorem wtoInt64S_l3_e (y0 : List Int) (s : Int × List Int) : (loopStep (envT Try.prog C2 mtab0) L_wtoInt64S_l3 3 (loopC (bodyOf Try.f16) 3) (S_wtoInt64S_l3.enc (y0, s.1, s.2)).1 (S_wtoInt64S_l3.enc (y0, s.1, s.2)).2).to (stepD S_wtoInt64S_l3 X_wtoInt64S_l3) = (wtoInt64S_l3_t y0 s.1 s.2).map (Sum.map (fun s : Int × List Int => (show DR S_wtoInt64S_l3.hs from (y0, s.1, s.2))) id) := by kernel_rfl

theorem wtoInt64S_l3_r (x : DR S_wtoInt64S_l3.hs) : (wtoInt64S_l3 x.1 x.2.1 x.2.2 : Option (SumD (X_wtoInt64S_l3.map (·.2)))) = runL (meanS (envT Try.prog C2 mtab0) L_wtoInt64S_l3 3 (loopC (bodyOf Try.f16) 3) S_wtoInt64S_l3 X_wtoInt64S_l3) x := run_of (fun s : Int × List Int => (show DR S_wtoInt64S_l3.hs from (x.1, s.1, s.2))) (wtoInt64S_l3_e (x.1)) (x.2.1, x.2.2)

theorem wtoInt64S_l3_k (L : Loops) (hn : L_wtoInt64S_l3.n = L.n) (hlv : L_wtoInt64S_l3.lv 3 = L.lv 3) (hL : ∀ vs bs, L.loop 3 vs bs = toldL S_wtoInt64S_l3 X_wtoInt64S_l3 (fun x => wtoInt64S_l3 x.1 x.2.1 x.2.2) vs bs) : LOk Try.prog (envT Try.prog C2 mtab0) L 3 (loopC (bodyOf Try.f16) 3) := toldL_ok (L1 := L_wtoInt64S_l3) (envT_ok (C2_ok) (mtab0_ok _)) mixedO hn hlv (loopFree_ok (by kernel_rfl)) wtoInt64S_l3_r hL

def A_wtoInt64S : Shp := ⟨[.h], [], [.sl [.i .i64]]⟩
def R_wtoInt64S : List XShp := [(.ret, ⟨[.slw 0 1], [.arr [.i .i64] false], [.sl [.i .i64]]⟩)]

noncomputable def L_wtoInt64S : Loops := (⟨22, lvT [(3, [0, 3, 4])], mdT [(3, .exit 0, [], [0, 4])], fun k vs bs => bif Nat.beq k 3 then toldL S_wtoInt64S_l3 X_wtoInt64S_l3 (fun x => wtoInt64S_l3 x.1 x.2.1 x.2.2) vs bs else .bad⟩ : Loops)

theorem wtoInt64S_e (x : DR A_wtoInt64S.hs) : (evFn (envT Try.prog C2 mtab0) L_wtoInt64S Try.f16 (A_wtoInt64S.enc x).1).to (fun q => decX R_wtoInt64S .ret [q.1] q.2) = wtoInt64S_t x := by kernel_rfl

theorem wtoInt64S_m (x : DR A_wtoInt64S.hs) : meanF (envT Try.prog C2 mtab0) L_wtoInt64S Try.f16 A_wtoInt64S R_wtoInt64S x = (show Option (SumD (R_wtoInt64S.map (·.2))) from wtoInt64S x) := meanF_of (wtoInt64S_e x)

theorem wtoInt64S_ok : SpecOk Try.prog 16 (evFn (envT Try.prog C2 mtab0) L_wtoInt64S Try.f16) := fnL_ok (envT_ok (C2_ok) (mtab0_ok _)) mixedO Try.func16 (by kernel_rfl) (c := bodyOf Try.f16) (by kernel_rfl) (loopsL (l := [(3, loopC (bodyOf Try.f16) 3)]) (by kernel_rfl) (lk_cons (wtoInt64S_l3_k _ rfl rfl (fun _ _ => rfl)) lk_nil))

theorem wtoInt64S_told : SpecOk Try.prog 16 (toldO A_wtoInt64S R_wtoInt64S (fun x => wtoInt64S x) (C2 16)) := toldO_ok (by kernel_rfl) wtoInt64S_ok (rest_ok (C2_ok) _) wtoInt64S_m

noncomputable def C3 : Tab := tab 16 (toldO A_wtoInt64S R_wtoInt64S (fun x => wtoInt64S x) (C2 16)) C2
theorem C3_ok : TabOk Try.prog C3 := tab_ok (wtoInt64S_told) (C2_ok)

def A_wtoDam : Shp := ⟨[.agg [.h, .h, .h, .h]], [], [.i .i64, .i .i64, .i .i64, .i .i64]⟩
def R_wtoDam : List XShp := [(.ret, ⟨[.agg [.h, .h, .h, .h]], [], [.i .i64, .i .i64, .i .i64, .i .i64]⟩)]

theorem wtoDam_e (x : DR A_wtoDam.hs) : (evFn (envT Try.prog C3 mtab0) noLoops Try.f88 (A_wtoDam.enc x).1).to (fun q => decX R_wtoDam .ret [q.1] q.2) = wtoDam_t x.1 x.2.1 x.2.2.1 x.2.2.2 := by kernel_rfl

theorem wtoDam_m (x : DR A_wtoDam.hs) : meanF (envT Try.prog C3 mtab0) noLoops Try.f88 A_wtoDam R_wtoDam x = some (show SumD (R_wtoDam.map (·.2)) from wtoDam x.1 x.2.1 x.2.2.1 x.2.2.2) := @meanF_tot _ _ _ _ _ _ _ (wtoDam_e x) (show Inhabited (Int × Int × Int × Int) from inferInstance) (by kernel_rfl)

theorem wtoDam_ok : SpecOk Try.prog 88 (evFn (envT Try.prog C3 mtab0) noLoops Try.f88) := fnL_ok (envT_ok (C3_ok) (mtab0_ok _)) mixedO Try.func88 (by kernel_rfl) (c := bodyOf Try.f88) (by kernel_rfl) (loopFree_ok (by kernel_rfl))

theorem wtoDam_told : SpecOk Try.prog 88 (toldT A_wtoDam R_wtoDam (fun x => wtoDam x.1 x.2.1 x.2.2.1 x.2.2.2) (C3 88)) := toldT_ok (by kernel_rfl) wtoDam_ok (rest_ok (C3_ok) _) wtoDam_m

noncomputable def C4 : Tab := tab 88 (toldT A_wtoDam R_wtoDam (fun x => wtoDam x.1 x.2.1 x.2.2.1 x.2.2.2) (C3 88)) C3
theorem C4_ok : TabOk Try.prog C4 := tab_ok (wtoDam_told) (C3_ok)

def S_wtoDamS_l3 : Shp := ⟨[.h, .slw 0 4, .h], [.arr [.i .i64, .i .i64, .i .i64, .i .i64] false], [.sl [.i .i64, .i .i64, .i .i64, .i .i64], .i .i64, .sl [.i .i64, .i .i64, .i .i64, .i .i64]]⟩
def X_wtoDamS_l3 : List XShp := [(.exit 0, ⟨[.undef, .slw 0 4, .undef], [.arr [.i .i64, .i .i64, .i .i64, .i .i64] false], [.sl [.i .i64, .i .i64, .i .i64, .i .i64]]⟩)]

noncomputable def L_wtoDamS_l3 : Loops := (⟨23, lvT [(3, [0, 3, 4])], mdT [(3, .exit 0, [], [0, 4])], fun k vs bs => .bad⟩ : Loops)

theorem wtoDamS_l3_e (y0 : List (Int × Int × Int × Int)) (s : Int × (List (Int × Int × Int × Int))) : (loopStep (envT Try.prog C4 mtab0) L_wtoDamS_l3 3 (loopC (bodyOf Try.f62) 3) (S_wtoDamS_l3.enc (y0, s.1, s.2)).1 (S_wtoDamS_l3.enc (y0, s.1, s.2)).2).to (stepD S_wtoDamS_l3 X_wtoDamS_l3) = (wtoDamS_l3_t y0 s.1 s.2).map (Sum.map (fun s : Int × (List (Int × Int × Int × Int)) => (show DR S_wtoDamS_l3.hs from (y0, s.1, s.2))) id) := by kernel_rfl

theorem wtoDamS_l3_r (x : DR S_wtoDamS_l3.hs) : (wtoDamS_l3 x.1 x.2.1 x.2.2 : Option (SumD (X_wtoDamS_l3.map (·.2)))) = runL (meanS (envT Try.prog C4 mtab0) L_wtoDamS_l3 3 (loopC (bodyOf Try.f62) 3) S_wtoDamS_l3 X_wtoDamS_l3) x := run_of (fun s : Int × (List (Int × Int × Int × Int)) => (show DR S_wtoDamS_l3.hs from (x.1, s.1, s.2))) (wtoDamS_l3_e (x.1)) (x.2.1, x.2.2)

theorem wtoDamS_l3_k (L : Loops) (hn : L_wtoDamS_l3.n = L.n) (hlv : L_wtoDamS_l3.lv 3 = L.lv 3) (hL : ∀ vs bs, L.loop 3 vs bs = toldL S_wtoDamS_l3 X_wtoDamS_l3 (fun x => wtoDamS_l3 x.1 x.2.1 x.2.2) vs bs) : LOk Try.prog (envT Try.prog C4 mtab0) L 3 (loopC (bodyOf Try.f62) 3) := toldL_ok (L1 := L_wtoDamS_l3) (envT_ok (C4_ok) (mtab0_ok _)) mixedO hn hlv (loopFree_ok (by kernel_rfl)) wtoDamS_l3_r hL

def A_wtoDamS : Shp := ⟨[.h], [], [.sl [.i .i64, .i .i64, .i .i64, .i .i64]]⟩
def R_wtoDamS : List XShp := [(.ret, ⟨[.slw 0 4], [.arr [.i .i64, .i .i64, .i .i64, .i .i64] false], [.sl [.i .i64, .i .i64, .i .i64, .i .i64]]⟩)]

noncomputable def L_wtoDamS : Loops := (⟨23, lvT [(3, [0, 3, 4])], mdT [(3, .exit 0, [], [0, 4])], fun k vs bs => bif Nat.beq k 3 then toldL S_wtoDamS_l3 X_wtoDamS_l3 (fun x => wtoDamS_l3 x.1 x.2.1 x.2.2) vs bs else .bad⟩ : Loops)

theorem wtoDamS_e (x : DR A_wtoDamS.hs) : (evFn (envT Try.prog C4 mtab0) L_wtoDamS Try.f62 (A_wtoDamS.enc x).1).to (fun q => decX R_wtoDamS .ret [q.1] q.2) = wtoDamS_t x := by kernel_rfl

theorem wtoDamS_m (x : DR A_wtoDamS.hs) : meanF (envT Try.prog C4 mtab0) L_wtoDamS Try.f62 A_wtoDamS R_wtoDamS x = (show Option (SumD (R_wtoDamS.map (·.2))) from wtoDamS x) := meanF_of (wtoDamS_e x)

theorem wtoDamS_ok : SpecOk Try.prog 62 (evFn (envT Try.prog C4 mtab0) L_wtoDamS Try.f62) := fnL_ok (envT_ok (C4_ok) (mtab0_ok _)) mixedO Try.func62 (by kernel_rfl) (c := bodyOf Try.f62) (by kernel_rfl) (loopsL (l := [(3, loopC (bodyOf Try.f62) 3)]) (by kernel_rfl) (lk_cons (wtoDamS_l3_k _ rfl rfl (fun _ _ => rfl)) lk_nil))

theorem wtoDamS_told : SpecOk Try.prog 62 (toldO A_wtoDamS R_wtoDamS (fun x => wtoDamS x) (C4 62)) := toldO_ok (by kernel_rfl) wtoDamS_ok (rest_ok (C4_ok) _) wtoDamS_m

noncomputable def C5 : Tab := tab 62 (toldO A_wtoDamS R_wtoDamS (fun x => wtoDamS x) (C4 62)) C4
theorem C5_ok : TabOk Try.prog C5 := tab_ok (wtoDamS_told) (C4_ok)

def A_wtoRiver : Shp := ⟨[.agg [.h, .h, .h]], [], [.sl [.i .i64], .sl [.i .i64, .i .i64, .i .i64, .i .i64], .sl [.i .i64]]⟩
def R_wtoRiver : List XShp := [(.ret, ⟨[.agg [.slw 0 1, .slw 1 4, .slw 2 1]], [.arr [.i .i64] false, .arr [.i .i64, .i .i64, .i .i64, .i .i64] false, .arr [.i .i64] false], [.sl [.i .i64], .sl [.i .i64, .i .i64, .i .i64, .i .i64], .sl [.i .i64]]⟩)]

theorem wtoRiver_e (x : DR A_wtoRiver.hs) : (evFn (envT Try.prog C5 mtab0) noLoops Try.f23 (A_wtoRiver.enc x).1).to (fun q => decX R_wtoRiver .ret [q.1] q.2) = wtoRiver_t x.1 x.2.1 x.2.2 := by kernel_rfl

theorem wtoRiver_m (x : DR A_wtoRiver.hs) : meanF (envT Try.prog C5 mtab0) noLoops Try.f23 A_wtoRiver R_wtoRiver x = (show Option (SumD (R_wtoRiver.map (·.2))) from wtoRiver x.1 x.2.1 x.2.2) := meanF_of (wtoRiver_e x)

theorem wtoRiver_ok : SpecOk Try.prog 23 (evFn (envT Try.prog C5 mtab0) noLoops Try.f23) := fnL_ok (envT_ok (C5_ok) (mtab0_ok _)) mixedO Try.func23 (by kernel_rfl) (c := bodyOf Try.f23) (by kernel_rfl) (loopFree_ok (by kernel_rfl))

theorem wtoRiver_told : SpecOk Try.prog 23 (toldO A_wtoRiver R_wtoRiver (fun x => wtoRiver x.1 x.2.1 x.2.2) (C5 23)) := toldO_ok (by kernel_rfl) wtoRiver_ok (rest_ok (C5_ok) _) wtoRiver_m

noncomputable def C6 : Tab := tab 23 (toldO A_wtoRiver R_wtoRiver (fun x => wtoRiver x.1 x.2.1 x.2.2) (C5 23)) C5
theorem C6_ok : TabOk Try.prog C6 := tab_ok (wtoRiver_told) (C5_ok)

def S_sl06SameList_l4 : Shp := ⟨[.h, .h, .undef, .h], [], [.sl [.i .i64], .sl [.i .i64], .i .i64]⟩
def X_sl06SameList_l4 : List XShp := [(.ret, ⟨[.undef, .undef, .lb false, .undef], [], []⟩), (.exit 0, ⟨[.undef, .undef, .undef, .undef], [], []⟩)]

noncomputable def L_sl06SameList_l4 : Loops := (⟨26, lvT [(4, [0, 1, 4, 5])], mdT [(4, .normal, [], [4]), (4, .exit 0, [], [0, 1, 4, 5]), (4, .ret, [], [0, 1, 5])], fun k vs bs => .bad⟩ : Loops)

theorem sl06SameList_l4_e (y0 : List Int) (y1 : List Int) (s : Int) : (loopStep (envT Try.prog C6 mtab0) L_sl06SameList_l4 4 (loopC (bodyOf Try.f87) 4) (S_sl06SameList_l4.enc (y0, y1, s)).1 (S_sl06SameList_l4.enc (y0, y1, s)).2).to (stepD S_sl06SameList_l4 X_sl06SameList_l4) = (sl06SameList_l4_t y0 y1 s).map (Sum.map (fun s : Int => (show DR S_sl06SameList_l4.hs from (y0, y1, s))) id) := by kernel_rfl

theorem sl06SameList_l4_r (x : DR S_sl06SameList_l4.hs) : (sl06SameList_l4 x.1 x.2.1 x.2.2 : Option (SumD (X_sl06SameList_l4.map (·.2)))) = runL (meanS (envT Try.prog C6 mtab0) L_sl06SameList_l4 4 (loopC (bodyOf Try.f87) 4) S_sl06SameList_l4 X_sl06SameList_l4) x := run_of (fun s : Int => (show DR S_sl06SameList_l4.hs from (x.1, x.2.1, s))) (sl06SameList_l4_e (x.1) (x.2.1)) x.2.2

theorem sl06SameList_l4_k (L : Loops) (hn : L_sl06SameList_l4.n = L.n) (hlv : L_sl06SameList_l4.lv 4 = L.lv 4) (hL : ∀ vs bs, L.loop 4 vs bs = toldL S_sl06SameList_l4 X_sl06SameList_l4 (fun x => sl06SameList_l4 x.1 x.2.1 x.2.2) vs bs) : LOk Try.prog (envT Try.prog C6 mtab0) L 4 (loopC (bodyOf Try.f87) 4) := toldL_ok (L1 := L_sl06SameList_l4) (envT_ok (C6_ok) (mtab0_ok _)) mixedO hn hlv (loopFree_ok (by kernel_rfl)) sl06SameList_l4_r hL

def A_sl06SameList : Shp := ⟨[.h, .h], [], [.sl [.i .i64], .sl [.i .i64]]⟩
def R_sl06SameList : List XShp := [(.ret, ⟨[.h], [], [.b]⟩)]

noncomputable def L_sl06SameList : Loops := (⟨26, lvT [(4, [0, 1, 4, 5])], mdT [(4, .normal, [], [4]), (4, .exit 0, [], [0, 1, 4, 5]), (4, .ret, [], [0, 1, 5])], fun k vs bs => bif Nat.beq k 4 then toldL S_sl06SameList_l4 X_sl06SameList_l4 (fun x => sl06SameList_l4 x.1 x.2.1 x.2.2) vs bs else .bad⟩ : Loops)

theorem sl06SameList_e (x : DR A_sl06SameList.hs) : (evFn (envT Try.prog C6 mtab0) L_sl06SameList Try.f87 (A_sl06SameList.enc x).1).to (fun q => decX R_sl06SameList .ret [q.1] q.2) = sl06SameList_t x.1 x.2 := by kernel_rfl

theorem sl06SameList_m (x : DR A_sl06SameList.hs) : meanF (envT Try.prog C6 mtab0) L_sl06SameList Try.f87 A_sl06SameList R_sl06SameList x = (show Option (SumD (R_sl06SameList.map (·.2))) from sl06SameList x.1 x.2) := meanF_of (sl06SameList_e x)

theorem sl06SameList_ok : SpecOk Try.prog 87 (evFn (envT Try.prog C6 mtab0) L_sl06SameList Try.f87) := fnL_ok (envT_ok (C6_ok) (mtab0_ok _)) mixedO Try.func87 (by kernel_rfl) (c := bodyOf Try.f87) (by kernel_rfl) (loopsL (l := [(4, loopC (bodyOf Try.f87) 4)]) (by kernel_rfl) (lk_cons (sl06SameList_l4_k _ rfl rfl (fun _ _ => rfl)) lk_nil))

theorem sl06SameList_told : SpecOk Try.prog 87 (toldO A_sl06SameList R_sl06SameList (fun x => sl06SameList x.1 x.2) (C6 87)) := toldO_ok (by kernel_rfl) sl06SameList_ok (rest_ok (C6_ok) _) sl06SameList_m

noncomputable def C7 : Tab := tab 87 (toldO A_sl06SameList R_sl06SameList (fun x => sl06SameList x.1 x.2) (C6 87)) C6
theorem C7_ok : TabOk Try.prog C7 := tab_ok (sl06SameList_told) (C6_ok)

def S_sl06Same_l4 : Shp := ⟨[.dpt [.h, .h, .h] 0, .dpt [.h, .h, .h] 0, .undef, .h], [], [.sl [.i .i64], .sl [.i .i64, .i .i64, .i .i64, .i .i64], .sl [.i .i64], .sl [.i .i64], .sl [.i .i64, .i .i64, .i .i64, .i .i64], .sl [.i .i64], .i .i64]⟩
def X_sl06Same_l4 : List XShp := [(.exit 0, ⟨[.undef, .undef, .undef, .undef], [], []⟩)]

noncomputable def L_sl06Same_l4 : Loops := (⟨65, lvT [(4, [0, 1, 4, 5])], mdT [(4, .normal, [], [4]), (4, .exit 0, [], [0, 1, 4, 5]), (4, .ret, [], [0, 1, 5])], fun k vs bs => .bad⟩ : Loops)

theorem sl06Same_l4_e (y0 : List Int) (y1 : List (Int × Int × Int × Int)) (y2 : List Int) (y3 : List Int) (y4 : List (Int × Int × Int × Int)) (y5 : List Int) (y6 : Int) (s : Unit) : (loopStep (envT Try.prog C7 mtab0) L_sl06Same_l4 4 (loopC (bodyOf Try.f61) 4) (S_sl06Same_l4.enc (y0, y1, y2, y3, y4, y5, y6)).1 (S_sl06Same_l4.enc (y0, y1, y2, y3, y4, y5, y6)).2).to (stepD S_sl06Same_l4 X_sl06Same_l4) = (sl06Same_l4_t y0 y1 y2 y3 y4 y5 y6 ).map (Sum.map (fun s : Unit => (show DR S_sl06Same_l4.hs from (y0, y1, y2, y3, y4, y5, y6))) id) := by kernel_rfl

theorem sl06Same_l4_r (x : DR S_sl06Same_l4.hs) : (sl06Same_l4 x.1 x.2.1 x.2.2.1 x.2.2.2.1 x.2.2.2.2.1 x.2.2.2.2.2.1 x.2.2.2.2.2.2 : Option (SumD (X_sl06Same_l4.map (·.2)))) = runL (meanS (envT Try.prog C7 mtab0) L_sl06Same_l4 4 (loopC (bodyOf Try.f61) 4) S_sl06Same_l4 X_sl06Same_l4) x := run_of (fun s : Unit => (show DR S_sl06Same_l4.hs from (x.1, x.2.1, x.2.2.1, x.2.2.2.1, x.2.2.2.2.1, x.2.2.2.2.2.1, x.2.2.2.2.2.2))) (sl06Same_l4_e (x.1) (x.2.1) (x.2.2.1) (x.2.2.2.1) (x.2.2.2.2.1) (x.2.2.2.2.2.1) (x.2.2.2.2.2.2)) ()

theorem sl06Same_l4_k (L : Loops) (hn : L_sl06Same_l4.n = L.n) (hlv : L_sl06Same_l4.lv 4 = L.lv 4) (hL : ∀ vs bs, L.loop 4 vs bs = toldL S_sl06Same_l4 X_sl06Same_l4 (fun x => sl06Same_l4 x.1 x.2.1 x.2.2.1 x.2.2.2.1 x.2.2.2.2.1 x.2.2.2.2.2.1 x.2.2.2.2.2.2) vs bs) : LOk Try.prog (envT Try.prog C7 mtab0) L 4 (loopC (bodyOf Try.f61) 4) := toldL_ok (L1 := L_sl06Same_l4) (envT_ok (C7_ok) (mtab0_ok _)) mixedO hn hlv (loopFree_ok (by kernel_rfl)) sl06Same_l4_r hL

def A_sl06Same : Shp := ⟨[.dpt [.h, .h, .h] 0, .dpt [.h, .h, .h] 0], [], [.sl [.i .i64], .sl [.i .i64, .i .i64, .i .i64, .i .i64], .sl [.i .i64], .sl [.i .i64], .sl [.i .i64, .i .i64, .i .i64, .i .i64], .sl [.i .i64]]⟩
def R_sl06Same : List XShp := [(.ret, ⟨[.h], [], [.b]⟩)]

noncomputable def L_sl06Same : Loops := (⟨65, lvT [(4, [0, 1, 4, 5])], mdT [(4, .normal, [], [4]), (4, .exit 0, [], [0, 1, 4, 5]), (4, .ret, [], [0, 1, 5])], fun k vs bs => bif Nat.beq k 4 then toldL S_sl06Same_l4 X_sl06Same_l4 (fun x => sl06Same_l4 x.1 x.2.1 x.2.2.1 x.2.2.2.1 x.2.2.2.2.1 x.2.2.2.2.2.1 x.2.2.2.2.2.2) vs bs else .bad⟩ : Loops)

theorem sl06Same_e (x : DR A_sl06Same.hs) : (evFn (envT Try.prog C7 mtab0) L_sl06Same Try.f61 (A_sl06Same.enc x).1).to (fun q => decX R_sl06Same .ret [q.1] q.2) = sl06Same_t x.1 x.2.1 x.2.2.1 x.2.2.2.1 x.2.2.2.2.1 x.2.2.2.2.2 := by kernel_rfl

theorem sl06Same_m (x : DR A_sl06Same.hs) : meanF (envT Try.prog C7 mtab0) L_sl06Same Try.f61 A_sl06Same R_sl06Same x = (show Option (SumD (R_sl06Same.map (·.2))) from sl06Same x.1 x.2.1 x.2.2.1 x.2.2.2.1 x.2.2.2.2.1 x.2.2.2.2.2) := meanF_of (sl06Same_e x)

theorem sl06Same_ok : SpecOk Try.prog 61 (evFn (envT Try.prog C7 mtab0) L_sl06Same Try.f61) := fnL_ok (envT_ok (C7_ok) (mtab0_ok _)) mixedO Try.func61 (by kernel_rfl) (c := bodyOf Try.f61) (by kernel_rfl) (loopsL (l := [(4, loopC (bodyOf Try.f61) 4)]) (by kernel_rfl) (lk_cons (sl06Same_l4_k _ rfl rfl (fun _ _ => rfl)) lk_nil))

theorem sl06Same_told : SpecOk Try.prog 61 (toldO A_sl06Same R_sl06Same (fun x => sl06Same x.1 x.2.1 x.2.2.1 x.2.2.2.1 x.2.2.2.2.1 x.2.2.2.2.2) (C7 61)) := toldO_ok (by kernel_rfl) sl06Same_ok (rest_ok (C7_ok) _) sl06Same_m

noncomputable def C8 : Tab := tab 61 (toldO A_sl06Same R_sl06Same (fun x => sl06Same x.1 x.2.1 x.2.2.1 x.2.2.2.1 x.2.2.2.2.1 x.2.2.2.2.2) (C7 61)) C7
theorem C8_ok : TabOk Try.prog C8 := tab_ok (sl06Same_told) (C7_ok)

def A_sSameRiver : Shp := ⟨[.agg [.h, .h, .h], .agg [.h, .h, .h]], [], [.sl [.i .i64], .sl [.i .i64, .i .i64, .i .i64, .i .i64], .sl [.i .i64], .sl [.i .i64], .sl [.i .i64, .i .i64, .i .i64, .i .i64], .sl [.i .i64]]⟩
def R_sSameRiver : List XShp := [(.ret, ⟨[.h], [], [.b]⟩)]

theorem sSameRiver_e (x : DR A_sSameRiver.hs) : (evFn (envT Try.prog C8 mtab0) noLoops Try.f22 (A_sSameRiver.enc x).1).to (fun q => decX R_sSameRiver .ret [q.1] q.2) = sSameRiver_t x.1 x.2.1 x.2.2.1 x.2.2.2.1 x.2.2.2.2.1 x.2.2.2.2.2 := by kernel_rfl

theorem sSameRiver_m (x : DR A_sSameRiver.hs) : meanF (envT Try.prog C8 mtab0) noLoops Try.f22 A_sSameRiver R_sSameRiver x = (show Option (SumD (R_sSameRiver.map (·.2))) from sSameRiver x.1 x.2.1 x.2.2.1 x.2.2.2.1 x.2.2.2.2.1 x.2.2.2.2.2) := meanF_of (sSameRiver_e x)

theorem sSameRiver_ok : SpecOk Try.prog 22 (evFn (envT Try.prog C8 mtab0) noLoops Try.f22) := fnL_ok (envT_ok (C8_ok) (mtab0_ok _)) mixedO Try.func22 (by kernel_rfl) (c := bodyOf Try.f22) (by kernel_rfl) (loopFree_ok (by kernel_rfl))

theorem sSameRiver_told : SpecOk Try.prog 22 (toldO A_sSameRiver R_sSameRiver (fun x => sSameRiver x.1 x.2.1 x.2.2.1 x.2.2.2.1 x.2.2.2.2.1 x.2.2.2.2.2) (C8 22)) := toldO_ok (by kernel_rfl) sSameRiver_ok (rest_ok (C8_ok) _) sSameRiver_m

noncomputable def C9 : Tab := tab 22 (toldO A_sSameRiver R_sSameRiver (fun x => sSameRiver x.1 x.2.1 x.2.2.1 x.2.2.2.1 x.2.2.2.2.1 x.2.2.2.2.2) (C8 22)) C8
theorem C9_ok : TabOk Try.prog C9 := tab_ok (sSameRiver_told) (C8_ok)

def S_lEqual_l4 : Shp := ⟨[.h, .h, .undef, .h, .h], [], [.sl [.i .i64], .sl [.i .i64], .i .i64, .i .i64]⟩
def X_lEqual_l4 : List XShp := [(.ret, ⟨[.undef, .undef, .lb false, .undef, .undef], [], []⟩), (.exit 0, ⟨[.undef, .undef, .undef, .undef, .undef], [], []⟩)]

noncomputable def L_lEqual_l4 : Loops := (⟨26, lvT [(4, [0, 1, 4, 12, 13])], mdT [(4, .normal, [], [4]), (4, .exit 0, [], [0, 1, 4, 12, 13]), (4, .ret, [], [0, 1, 12, 13])], fun k vs bs => .bad⟩ : Loops)

theorem lEqual_l4_e (y0 : List Int) (y1 : List Int) (y2 : Int) (s : Int) : (loopStep (envT Try.prog C9 mtab0) L_lEqual_l4 4 (loopC (bodyOf Try.f63) 4) (S_lEqual_l4.enc (y0, y1, y2, s)).1 (S_lEqual_l4.enc (y0, y1, y2, s)).2).to (stepD S_lEqual_l4 X_lEqual_l4) = (lEqual_l4_t y0 y1 y2 s).map (Sum.map (fun s : Int => (show DR S_lEqual_l4.hs from (y0, y1, y2, s))) id) := by kernel_rfl

theorem lEqual_l4_r (x : DR S_lEqual_l4.hs) : (lEqual_l4 x.1 x.2.1 x.2.2.1 x.2.2.2 : Option (SumD (X_lEqual_l4.map (·.2)))) = runL (meanS (envT Try.prog C9 mtab0) L_lEqual_l4 4 (loopC (bodyOf Try.f63) 4) S_lEqual_l4 X_lEqual_l4) x := run_of (fun s : Int => (show DR S_lEqual_l4.hs from (x.1, x.2.1, x.2.2.1, s))) (lEqual_l4_e (x.1) (x.2.1) (x.2.2.1)) x.2.2.2

theorem lEqual_l4_k (L : Loops) (hn : L_lEqual_l4.n = L.n) (hlv : L_lEqual_l4.lv 4 = L.lv 4) (hL : ∀ vs bs, L.loop 4 vs bs = toldL S_lEqual_l4 X_lEqual_l4 (fun x => lEqual_l4 x.1 x.2.1 x.2.2.1 x.2.2.2) vs bs) : LOk Try.prog (envT Try.prog C9 mtab0) L 4 (loopC (bodyOf Try.f63) 4) := toldL_ok (L1 := L_lEqual_l4) (envT_ok (C9_ok) (mtab0_ok _)) mixedO hn hlv (loopFree_ok (by kernel_rfl)) lEqual_l4_r hL

def A_lEqual : Shp := ⟨[.h, .h], [], [.sl [.i .i64], .sl [.i .i64]]⟩
def R_lEqual : List XShp := [(.ret, ⟨[.h], [], [.b]⟩)]

noncomputable def L_lEqual : Loops := (⟨26, lvT [(4, [0, 1, 4, 12, 13])], mdT [(4, .normal, [], [4]), (4, .exit 0, [], [0, 1, 4, 12, 13]), (4, .ret, [], [0, 1, 12, 13])], fun k vs bs => bif Nat.beq k 4 then toldL S_lEqual_l4 X_lEqual_l4 (fun x => lEqual_l4 x.1 x.2.1 x.2.2.1 x.2.2.2) vs bs else .bad⟩ : Loops)

theorem lEqual_e (x : DR A_lEqual.hs) : (evFn (envT Try.prog C9 mtab0) L_lEqual Try.f63 (A_lEqual.enc x).1).to (fun q => decX R_lEqual .ret [q.1] q.2) = lEqual_t x.1 x.2 := by kernel_rfl

theorem lEqual_m (x : DR A_lEqual.hs) : meanF (envT Try.prog C9 mtab0) L_lEqual Try.f63 A_lEqual R_lEqual x = (show Option (SumD (R_lEqual.map (·.2))) from lEqual x.1 x.2) := meanF_of (lEqual_e x)

theorem lEqual_ok : SpecOk Try.prog 63 (evFn (envT Try.prog C9 mtab0) L_lEqual Try.f63) := fnL_ok (envT_ok (C9_ok) (mtab0_ok _)) mixedO Try.func63 (by kernel_rfl) (c := bodyOf Try.f63) (by kernel_rfl) (loopsL (l := [(4, loopC (bodyOf Try.f63) 4)]) (by kernel_rfl) (lk_cons (lEqual_l4_k _ rfl rfl (fun _ _ => rfl)) lk_nil))

theorem lEqual_told : SpecOk Try.prog 63 (toldO A_lEqual R_lEqual (fun x => lEqual x.1 x.2) (C9 63)) := toldO_ok (by kernel_rfl) lEqual_ok (rest_ok (C9_ok) _) lEqual_m

noncomputable def C10 : Tab := tab 63 (toldO A_lEqual R_lEqual (fun x => lEqual x.1 x.2) (C9 63)) C9
theorem C10_ok : TabOk Try.prog C10 := tab_ok (lEqual_told) (C9_ok)

def S_lEqual_n1_l4 : Shp := ⟨[.h, .h, .undef, .h, .h], [], [.sl [.i .i64, .i .i64, .i .i64, .i .i64], .sl [.i .i64, .i .i64, .i .i64, .i .i64], .i .i64, .i .i64]⟩
def X_lEqual_n1_l4 : List XShp := [(.exit 0, ⟨[.undef, .undef, .undef, .undef, .undef], [], []⟩)]

noncomputable def L_lEqual_n1_l4 : Loops := (⟨26, lvT [(4, [0, 1, 4, 12, 13])], mdT [(4, .normal, [], [4]), (4, .exit 0, [], [0, 1, 4, 12, 13]), (4, .ret, [], [0, 1, 12, 13])], fun k vs bs => .bad⟩ : Loops)

theorem lEqual_n1_l4_e (y0 : List (Int × Int × Int × Int)) (y1 : List (Int × Int × Int × Int)) (y2 : Int) (y3 : Int) (s : Unit) : (loopStep (envT Try.prog C10 mtab0) L_lEqual_n1_l4 4 (loopC (bodyOf Try.f64) 4) (S_lEqual_n1_l4.enc (y0, y1, y2, y3)).1 (S_lEqual_n1_l4.enc (y0, y1, y2, y3)).2).to (stepD S_lEqual_n1_l4 X_lEqual_n1_l4) = (lEqual_n1_l4_t y0 y1 y2 y3 ).map (Sum.map (fun s : Unit => (show DR S_lEqual_n1_l4.hs from (y0, y1, y2, y3))) id) := by kernel_rfl

theorem lEqual_n1_l4_r (x : DR S_lEqual_n1_l4.hs) : (lEqual_n1_l4 x.1 x.2.1 x.2.2.1 x.2.2.2 : Option (SumD (X_lEqual_n1_l4.map (·.2)))) = runL (meanS (envT Try.prog C10 mtab0) L_lEqual_n1_l4 4 (loopC (bodyOf Try.f64) 4) S_lEqual_n1_l4 X_lEqual_n1_l4) x := run_of (fun s : Unit => (show DR S_lEqual_n1_l4.hs from (x.1, x.2.1, x.2.2.1, x.2.2.2))) (lEqual_n1_l4_e (x.1) (x.2.1) (x.2.2.1) (x.2.2.2)) ()

theorem lEqual_n1_l4_k (L : Loops) (hn : L_lEqual_n1_l4.n = L.n) (hlv : L_lEqual_n1_l4.lv 4 = L.lv 4) (hL : ∀ vs bs, L.loop 4 vs bs = toldL S_lEqual_n1_l4 X_lEqual_n1_l4 (fun x => lEqual_n1_l4 x.1 x.2.1 x.2.2.1 x.2.2.2) vs bs) : LOk Try.prog (envT Try.prog C10 mtab0) L 4 (loopC (bodyOf Try.f64) 4) := toldL_ok (L1 := L_lEqual_n1_l4) (envT_ok (C10_ok) (mtab0_ok _)) mixedO hn hlv (loopFree_ok (by kernel_rfl)) lEqual_n1_l4_r hL

def A_lEqual_n1 : Shp := ⟨[.h, .h], [], [.sl [.i .i64, .i .i64, .i .i64, .i .i64], .sl [.i .i64, .i .i64, .i .i64, .i .i64]]⟩
def R_lEqual_n1 : List XShp := [(.ret, ⟨[.h], [], [.b]⟩)]

noncomputable def L_lEqual_n1 : Loops := (⟨26, lvT [(4, [0, 1, 4, 12, 13])], mdT [(4, .normal, [], [4]), (4, .exit 0, [], [0, 1, 4, 12, 13]), (4, .ret, [], [0, 1, 12, 13])], fun k vs bs => bif Nat.beq k 4 then toldL S_lEqual_n1_l4 X_lEqual_n1_l4 (fun x => lEqual_n1_l4 x.1 x.2.1 x.2.2.1 x.2.2.2) vs bs else .bad⟩ : Loops)

theorem lEqual_n1_e (x : DR A_lEqual_n1.hs) : (evFn (envT Try.prog C10 mtab0) L_lEqual_n1 Try.f64 (A_lEqual_n1.enc x).1).to (fun q => decX R_lEqual_n1 .ret [q.1] q.2) = lEqual_n1_t x.1 x.2 := by kernel_rfl

theorem lEqual_n1_m (x : DR A_lEqual_n1.hs) : meanF (envT Try.prog C10 mtab0) L_lEqual_n1 Try.f64 A_lEqual_n1 R_lEqual_n1 x = (show Option (SumD (R_lEqual_n1.map (·.2))) from lEqual_n1 x.1 x.2) := meanF_of (lEqual_n1_e x)

theorem lEqual_n1_ok : SpecOk Try.prog 64 (evFn (envT Try.prog C10 mtab0) L_lEqual_n1 Try.f64) := fnL_ok (envT_ok (C10_ok) (mtab0_ok _)) mixedO Try.func64 (by kernel_rfl) (c := bodyOf Try.f64) (by kernel_rfl) (loopsL (l := [(4, loopC (bodyOf Try.f64) 4)]) (by kernel_rfl) (lk_cons (lEqual_n1_l4_k _ rfl rfl (fun _ _ => rfl)) lk_nil))

theorem lEqual_n1_told : SpecOk Try.prog 64 (toldO A_lEqual_n1 R_lEqual_n1 (fun x => lEqual_n1 x.1 x.2) (C10 64)) := toldO_ok (by kernel_rfl) lEqual_n1_ok (rest_ok (C10_ok) _) lEqual_n1_m

noncomputable def C11 : Tab := tab 64 (toldO A_lEqual_n1 R_lEqual_n1 (fun x => lEqual_n1 x.1 x.2) (C10 64)) C10
theorem C11_ok : TabOk Try.prog C11 := tab_ok (lEqual_n1_told) (C10_ok)

def A_iSameRiver : Shp := ⟨[.agg [.h, .h, .h], .agg [.h, .h, .h]], [], [.sl [.i .i64], .sl [.i .i64, .i .i64, .i .i64, .i .i64], .sl [.i .i64], .sl [.i .i64], .sl [.i .i64, .i .i64, .i .i64, .i .i64], .sl [.i .i64]]⟩
def R_iSameRiver : List XShp := [(.ret, ⟨[.h], [], [.b]⟩)]

theorem iSameRiver_e (x : DR A_iSameRiver.hs) : (evFn (envT Try.prog C11 mtab0) noLoops Try.f24 (A_iSameRiver.enc x).1).to (fun q => decX R_iSameRiver .ret [q.1] q.2) = iSameRiver_t x.1 x.2.1 x.2.2.1 x.2.2.2.1 x.2.2.2.2.1 x.2.2.2.2.2 := by kernel_rfl

theorem iSameRiver_m (x : DR A_iSameRiver.hs) : meanF (envT Try.prog C11 mtab0) noLoops Try.f24 A_iSameRiver R_iSameRiver x = (show Option (SumD (R_iSameRiver.map (·.2))) from iSameRiver x.1 x.2.1 x.2.2.1 x.2.2.2.1 x.2.2.2.2.1 x.2.2.2.2.2) := meanF_of (iSameRiver_e x)

theorem iSameRiver_ok : SpecOk Try.prog 24 (evFn (envT Try.prog C11 mtab0) noLoops Try.f24) := fnL_ok (envT_ok (C11_ok) (mtab0_ok _)) mixedO Try.func24 (by kernel_rfl) (c := bodyOf Try.f24) (by kernel_rfl) (loopFree_ok (by kernel_rfl))

theorem iSameRiver_told : SpecOk Try.prog 24 (toldO A_iSameRiver R_iSameRiver (fun x => iSameRiver x.1 x.2.1 x.2.2.1 x.2.2.2.1 x.2.2.2.2.1 x.2.2.2.2.2) (C11 24)) := toldO_ok (by kernel_rfl) iSameRiver_ok (rest_ok (C11_ok) _) iSameRiver_m

noncomputable def C12 : Tab := tab 24 (toldO A_iSameRiver R_iSameRiver (fun x => iSameRiver x.1 x.2.1 x.2.2.1 x.2.2.2.1 x.2.2.2.2.1 x.2.2.2.2.2) (C11 24)) C11
theorem C12_ok : TabOk Try.prog C12 := tab_ok (iSameRiver_told) (C11_ok)

def S_weqInt64S_l4 : Shp := ⟨[.h, .h, .undef, .h], [], [.sl [.i .i64], .sl [.i .i64], .i .i64]⟩
def X_weqInt64S_l4 : List XShp := [(.ret, ⟨[.undef, .undef, .lb false, .undef], [], []⟩), (.exit 0, ⟨[.undef, .undef, .undef, .undef], [], []⟩)]

noncomputable def L_weqInt64S_l4 : Loops := (⟨26, lvT [(4, [0, 1, 4, 5])], mdT [(4, .normal, [], [4]), (4, .exit 0, [], [0, 1, 4, 5]), (4, .ret, [], [0, 1, 5])], fun k vs bs => .bad⟩ : Loops)

theorem weqInt64S_l4_e (y0 : List Int) (y1 : List Int) (s : Int) : (loopStep (envT Try.prog C12 mtab0) L_weqInt64S_l4 4 (loopC (bodyOf Try.f18) 4) (S_weqInt64S_l4.enc (y0, y1, s)).1 (S_weqInt64S_l4.enc (y0, y1, s)).2).to (stepD S_weqInt64S_l4 X_weqInt64S_l4) = (weqInt64S_l4_t y0 y1 s).map (Sum.map (fun s : Int => (show DR S_weqInt64S_l4.hs from (y0, y1, s))) id) := by kernel_rfl

theorem weqInt64S_l4_r (x : DR S_weqInt64S_l4.hs) : (weqInt64S_l4 x.1 x.2.1 x.2.2 : Option (SumD (X_weqInt64S_l4.map (·.2)))) = runL (meanS (envT Try.prog C12 mtab0) L_weqInt64S_l4 4 (loopC (bodyOf Try.f18) 4) S_weqInt64S_l4 X_weqInt64S_l4) x := run_of (fun s : Int => (show DR S_weqInt64S_l4.hs from (x.1, x.2.1, s))) (weqInt64S_l4_e (x.1) (x.2.1)) x.2.2

theorem weqInt64S_l4_k (L : Loops) (hn : L_weqInt64S_l4.n = L.n) (hlv : L_weqInt64S_l4.lv 4 = L.lv 4) (hL : ∀ vs bs, L.loop 4 vs bs = toldL S_weqInt64S_l4 X_weqInt64S_l4 (fun x => weqInt64S_l4 x.1 x.2.1 x.2.2) vs bs) : LOk Try.prog (envT Try.prog C12 mtab0) L 4 (loopC (bodyOf Try.f18) 4) := toldL_ok (L1 := L_weqInt64S_l4) (envT_ok (C12_ok) (mtab0_ok _)) mixedO hn hlv (loopFree_ok (by kernel_rfl)) weqInt64S_l4_r hL

def A_weqInt64S : Shp := ⟨[.h, .h], [], [.sl [.i .i64], .sl [.i .i64]]⟩
def R_weqInt64S : List XShp := [(.ret, ⟨[.h], [], [.b]⟩)]

noncomputable def L_weqInt64S : Loops := (⟨26, lvT [(4, [0, 1, 4, 5])], mdT [(4, .normal, [], [4]), (4, .exit 0, [], [0, 1, 4, 5]), (4, .ret, [], [0, 1, 5])], fun k vs bs => bif Nat.beq k 4 then toldL S_weqInt64S_l4 X_weqInt64S_l4 (fun x => weqInt64S_l4 x.1 x.2.1 x.2.2) vs bs else .bad⟩ : Loops)

theorem weqInt64S_e (x : DR A_weqInt64S.hs) : (evFn (envT Try.prog C12 mtab0) L_weqInt64S Try.f18 (A_weqInt64S.enc x).1).to (fun q => decX R_weqInt64S .ret [q.1] q.2) = weqInt64S_t x.1 x.2 := by kernel_rfl

theorem weqInt64S_m (x : DR A_weqInt64S.hs) : meanF (envT Try.prog C12 mtab0) L_weqInt64S Try.f18 A_weqInt64S R_weqInt64S x = (show Option (SumD (R_weqInt64S.map (·.2))) from weqInt64S x.1 x.2) := meanF_of (weqInt64S_e x)

theorem weqInt64S_ok : SpecOk Try.prog 18 (evFn (envT Try.prog C12 mtab0) L_weqInt64S Try.f18) := fnL_ok (envT_ok (C12_ok) (mtab0_ok _)) mixedO Try.func18 (by kernel_rfl) (c := bodyOf Try.f18) (by kernel_rfl) (loopsL (l := [(4, loopC (bodyOf Try.f18) 4)]) (by kernel_rfl) (lk_cons (weqInt64S_l4_k _ rfl rfl (fun _ _ => rfl)) lk_nil))

theorem weqInt64S_told : SpecOk Try.prog 18 (toldO A_weqInt64S R_weqInt64S (fun x => weqInt64S x.1 x.2) (C12 18)) := toldO_ok (by kernel_rfl) weqInt64S_ok (rest_ok (C12_ok) _) weqInt64S_m

noncomputable def C13 : Tab := tab 18 (toldO A_weqInt64S R_weqInt64S (fun x => weqInt64S x.1 x.2) (C12 18)) C12
theorem C13_ok : TabOk Try.prog C13 := tab_ok (weqInt64S_told) (C12_ok)

def A_weqDam : Shp := ⟨[.agg [.h, .h, .h, .h], .agg [.h, .h, .h, .h]], [], [.i .i64, .i .i64, .i .i64, .i .i64, .i .i64, .i .i64, .i .i64, .i .i64]⟩
def R_weqDam : List XShp := [(.ret, ⟨[.h], [], [.b]⟩)]

theorem weqDam_e (x : DR A_weqDam.hs) : (evFn (envT Try.prog C13 mtab0) noLoops Try.f89 (A_weqDam.enc x).1).to (fun q => decX R_weqDam .ret [q.1] q.2) = weqDam_t x.1 x.2.1 x.2.2.1 x.2.2.2.1 x.2.2.2.2.1 x.2.2.2.2.2.1 x.2.2.2.2.2.2.1 x.2.2.2.2.2.2.2 := by kernel_rfl

theorem weqDam_m (x : DR A_weqDam.hs) : meanF (envT Try.prog C13 mtab0) noLoops Try.f89 A_weqDam R_weqDam x = some (show SumD (R_weqDam.map (·.2)) from weqDam x.1 x.2.1 x.2.2.1 x.2.2.2.1 x.2.2.2.2.1 x.2.2.2.2.2.1 x.2.2.2.2.2.2.1 x.2.2.2.2.2.2.2) := @meanF_tot _ _ _ _ _ _ _ (weqDam_e x) (show Inhabited (Bool) from inferInstance) (by kernel_rfl)

theorem weqDam_ok : SpecOk Try.prog 89 (evFn (envT Try.prog C13 mtab0) noLoops Try.f89) := fnL_ok (envT_ok (C13_ok) (mtab0_ok _)) mixedO Try.func89 (by kernel_rfl) (c := bodyOf Try.f89) (by kernel_rfl) (loopFree_ok (by kernel_rfl))

theorem weqDam_told : SpecOk Try.prog 89 (toldT A_weqDam R_weqDam (fun x => weqDam x.1 x.2.1 x.2.2.1 x.2.2.2.1 x.2.2.2.2.1 x.2.2.2.2.2.1 x.2.2.2.2.2.2.1 x.2.2.2.2.2.2.2) (C13 89)) := toldT_ok (by kernel_rfl) weqDam_ok (rest_ok (C13_ok) _) weqDam_m

noncomputable def C14 : Tab := tab 89 (toldT A_weqDam R_weqDam (fun x => weqDam x.1 x.2.1 x.2.2.1 x.2.2.2.1 x.2.2.2.2.1 x.2.2.2.2.2.1 x.2.2.2.2.2.2.1 x.2.2.2.2.2.2.2) (C13 89)) C13
theorem C14_ok : TabOk Try.prog C14 := tab_ok (weqDam_told) (C13_ok)

def S_weqDamS_l4 : Shp := ⟨[.h, .h, .undef, .h], [], [.sl [.i .i64, .i .i64, .i .i64, .i .i64], .sl [.i .i64, .i .i64, .i .i64, .i .i64], .i .i64]⟩
def X_weqDamS_l4 : List XShp := [(.ret, ⟨[.undef, .undef, .lb false, .undef], [], []⟩), (.exit 0, ⟨[.undef, .undef, .undef, .undef], [], []⟩)]

noncomputable def L_weqDamS_l4 : Loops := (⟨27, lvT [(4, [0, 1, 4, 5])], mdT [(4, .normal, [], [4]), (4, .exit 0, [], [0, 1, 4, 5]), (4, .ret, [], [0, 1, 5])], fun k vs bs => .bad⟩ : Loops)

theorem weqDamS_l4_e (y0 : List (Int × Int × Int × Int)) (y1 : List (Int × Int × Int × Int)) (s : Int) : (loopStep (envT Try.prog C14 mtab0) L_weqDamS_l4 4 (loopC (bodyOf Try.f65) 4) (S_weqDamS_l4.enc (y0, y1, s)).1 (S_weqDamS_l4.enc (y0, y1, s)).2).to (stepD S_weqDamS_l4 X_weqDamS_l4) = (weqDamS_l4_t y0 y1 s).map (Sum.map (fun s : Int => (show DR S_weqDamS_l4.hs from (y0, y1, s))) id) := by kernel_rfl

theorem weqDamS_l4_r (x : DR S_weqDamS_l4.hs) : (weqDamS_l4 x.1 x.2.1 x.2.2 : Option (SumD (X_weqDamS_l4.map (·.2)))) = runL (meanS (envT Try.prog C14 mtab0) L_weqDamS_l4 4 (loopC (bodyOf Try.f65) 4) S_weqDamS_l4 X_weqDamS_l4) x := run_of (fun s : Int => (show DR S_weqDamS_l4.hs from (x.1, x.2.1, s))) (weqDamS_l4_e (x.1) (x.2.1)) x.2.2

theorem weqDamS_l4_k (L : Loops) (hn : L_weqDamS_l4.n = L.n) (hlv : L_weqDamS_l4.lv 4 = L.lv 4) (hL : ∀ vs bs, L.loop 4 vs bs = toldL S_weqDamS_l4 X_weqDamS_l4 (fun x => weqDamS_l4 x.1 x.2.1 x.2.2) vs bs) : LOk Try.prog (envT Try.prog C14 mtab0) L 4 (loopC (bodyOf Try.f65) 4) := toldL_ok (L1 := L_weqDamS_l4) (envT_ok (C14_ok) (mtab0_ok _)) mixedO hn hlv (loopFree_ok (by kernel_rfl)) weqDamS_l4_r hL

def A_weqDamS : Shp := ⟨[.h, .h], [], [.sl [.i .i64, .i .i64, .i .i64, .i .i64], .sl [.i .i64, .i .i64, .i .i64, .i .i64]]⟩
def R_weqDamS : List XShp := [(.ret, ⟨[.h], [], [.b]⟩)]

noncomputable def L_weqDamS : Loops := (⟨27, lvT [(4, [0, 1, 4, 5])], mdT [(4, .normal, [], [4]), (4, .exit 0, [], [0, 1, 4, 5]), (4, .ret, [], [0, 1, 5])], fun k vs bs => bif Nat.beq k 4 then toldL S_weqDamS_l4 X_weqDamS_l4 (fun x => weqDamS_l4 x.1 x.2.1 x.2.2) vs bs else .bad⟩ : Loops)

theorem weqDamS_e (x : DR A_weqDamS.hs) : (evFn (envT Try.prog C14 mtab0) L_weqDamS Try.f65 (A_weqDamS.enc x).1).to (fun q => decX R_weqDamS .ret [q.1] q.2) = weqDamS_t x.1 x.2 := by kernel_rfl

theorem weqDamS_m (x : DR A_weqDamS.hs) : meanF (envT Try.prog C14 mtab0) L_weqDamS Try.f65 A_weqDamS R_weqDamS x = (show Option (SumD (R_weqDamS.map (·.2))) from weqDamS x.1 x.2) := meanF_of (weqDamS_e x)

theorem weqDamS_ok : SpecOk Try.prog 65 (evFn (envT Try.prog C14 mtab0) L_weqDamS Try.f65) := fnL_ok (envT_ok (C14_ok) (mtab0_ok _)) mixedO Try.func65 (by kernel_rfl) (c := bodyOf Try.f65) (by kernel_rfl) (loopsL (l := [(4, loopC (bodyOf Try.f65) 4)]) (by kernel_rfl) (lk_cons (weqDamS_l4_k _ rfl rfl (fun _ _ => rfl)) lk_nil))

theorem weqDamS_told : SpecOk Try.prog 65 (toldO A_weqDamS R_weqDamS (fun x => weqDamS x.1 x.2) (C14 65)) := toldO_ok (by kernel_rfl) weqDamS_ok (rest_ok (C14_ok) _) weqDamS_m

noncomputable def C15 : Tab := tab 65 (toldO A_weqDamS R_weqDamS (fun x => weqDamS x.1 x.2) (C14 65)) C14
theorem C15_ok : TabOk Try.prog C15 := tab_ok (weqDamS_told) (C14_ok)

def A_weqRiver : Shp := ⟨[.agg [.h, .h, .h], .agg [.h, .h, .h]], [], [.sl [.i .i64], .sl [.i .i64, .i .i64, .i .i64, .i .i64], .sl [.i .i64], .sl [.i .i64], .sl [.i .i64, .i .i64, .i .i64, .i .i64], .sl [.i .i64]]⟩
def R_weqRiver : List XShp := [(.ret, ⟨[.h], [], [.b]⟩)]

theorem weqRiver_e (x : DR A_weqRiver.hs) : (evFn (envT Try.prog C15 mtab0) noLoops Try.f25 (A_weqRiver.enc x).1).to (fun q => decX R_weqRiver .ret [q.1] q.2) = weqRiver_t x.1 x.2.1 x.2.2.1 x.2.2.2.1 x.2.2.2.2.1 x.2.2.2.2.2 := by kernel_rfl

theorem weqRiver_m (x : DR A_weqRiver.hs) : meanF (envT Try.prog C15 mtab0) noLoops Try.f25 A_weqRiver R_weqRiver x = (show Option (SumD (R_weqRiver.map (·.2))) from weqRiver x.1 x.2.1 x.2.2.1 x.2.2.2.1 x.2.2.2.2.1 x.2.2.2.2.2) := meanF_of (weqRiver_e x)

theorem weqRiver_ok : SpecOk Try.prog 25 (evFn (envT Try.prog C15 mtab0) noLoops Try.f25) := fnL_ok (envT_ok (C15_ok) (mtab0_ok _)) mixedO Try.func25 (by kernel_rfl) (c := bodyOf Try.f25) (by kernel_rfl) (loopFree_ok (by kernel_rfl))

theorem weqRiver_told : SpecOk Try.prog 25 (toldO A_weqRiver R_weqRiver (fun x => weqRiver x.1 x.2.1 x.2.2.1 x.2.2.2.1 x.2.2.2.2.1 x.2.2.2.2.2) (C15 25)) := toldO_ok (by kernel_rfl) weqRiver_ok (rest_ok (C15_ok) _) weqRiver_m

noncomputable def C16 : Tab := tab 25 (toldO A_weqRiver R_weqRiver (fun x => weqRiver x.1 x.2.1 x.2.2.1 x.2.2.2.1 x.2.2.2.2.1 x.2.2.2.2.2) (C15 25)) C15
theorem C16_ok : TabOk Try.prog C16 := tab_ok (weqRiver_told) (C15_ok)

def A_wFnExactSameRiver : Shp := ⟨[.agg [.h, .h, .h], .agg [.h, .h, .h]], [], [.sl [.i .i64], .sl [.i .i64, .i .i64, .i .i64, .i .i64], .sl [.i .i64], .sl [.i .i64], .sl [.i .i64, .i .i64, .i .i64, .i .i64], .sl [.i .i64]]⟩
def R_wFnExactSameRiver : List XShp := [(.ret, ⟨[.h], [], [.b]⟩)]

theorem wFnExactSameRiver_e (x : DR A_wFnExactSameRiver.hs) : (evFn (envT Try.prog C16 mtab0) noLoops Try.f4 (A_wFnExactSameRiver.enc x).1).to (fun q => decX R_wFnExactSameRiver .ret [q.1] q.2) = wFnExactSameRiver_t x.1 x.2.1 x.2.2.1 x.2.2.2.1 x.2.2.2.2.1 x.2.2.2.2.2 := by kernel_rfl

theorem wFnExactSameRiver_m (x : DR A_wFnExactSameRiver.hs) : meanF (envT Try.prog C16 mtab0) noLoops Try.f4 A_wFnExactSameRiver R_wFnExactSameRiver x = (show Option (SumD (R_wFnExactSameRiver.map (·.2))) from wFnExactSameRiver x.1 x.2.1 x.2.2.1 x.2.2.2.1 x.2.2.2.2.1 x.2.2.2.2.2) := meanF_of (wFnExactSameRiver_e x)

theorem wFnExactSameRiver_ok : SpecOk Try.prog 4 (evFn (envT Try.prog C16 mtab0) noLoops Try.f4) := fnL_ok (envT_ok (C16_ok) (mtab0_ok _)) mixedO Try.func4 (by kernel_rfl) (c := bodyOf Try.f4) (by kernel_rfl) (loopFree_ok (by kernel_rfl))

theorem wFnExactSameRiver_told : SpecOk Try.prog 4 (toldO A_wFnExactSameRiver R_wFnExactSameRiver (fun x => wFnExactSameRiver x.1 x.2.1 x.2.2.1 x.2.2.2.1 x.2.2.2.2.1 x.2.2.2.2.2) (C16 4)) := toldO_ok (by kernel_rfl) wFnExactSameRiver_ok (rest_ok (C16_ok) _) wFnExactSameRiver_m

noncomputable def C17 : Tab := tab 4 (toldO A_wFnExactSameRiver R_wFnExactSameRiver (fun x => wFnExactSameRiver x.1 x.2.1 x.2.2.1 x.2.2.2.1 x.2.2.2.2.1 x.2.2.2.2.2) (C16 4)) C16
theorem C17_ok : TabOk Try.prog C17 := tab_ok (wFnExactSameRiver_told) (C16_ok)

theorem lawFnExactSameRiver_ok : SpecOk Try.prog 4 (evFn (envT Try.prog C16 mtab0) noLoops Try.f4) := wFnExactSameRiver_ok
theorem lawFnExactSameRiver_says (x : DR A_wFnExactSameRiver.hs) (h : (show Option (SumD (R_wFnExactSameRiver.map (·.2))) from wFnExactSameRiver x.1 x.2.1 x.2.2.1 x.2.2.2.1 x.2.2.2.2.1 x.2.2.2.2.2) = some true) : saysTrue (evFn (envT Try.prog C16 mtab0) noLoops Try.f4 (A_wFnExactSameRiver.enc x).1) = true := law_says (x := x) ((wFnExactSameRiver_m x).trans h)

theorem lawFnExactSameRiver_true (x0 : List Int) (x1 : List (Int × Int × Int × Int)) (x2 : List Int) (x3 : List Int) (x4 : List (Int × Int × Int × Int)) (x5 : List Int) (h : wFnExactSameRiver x0 x1 x2 x3 x4 x5 = some true) : saysTrue (evFn (envT Try.prog C16 mtab0) noLoops Try.f4 [.agg [.ds [.i .i64] x0, .ds [.i .i64, .i .i64, .i .i64, .i .i64] x1, .ds [.i .i64] x2], .agg [.ds [.i .i64] x3, .ds [.i .i64, .i .i64, .i .i64, .i .i64] x4, .ds [.i .i64] x5]]) = true := (congrArg (fun l => saysTrue (evFn (envT Try.prog C16 mtab0) noLoops Try.f4 l)) (by kernel_rfl : ([.agg [.ds [.i .i64] x0, .ds [.i .i64, .i .i64, .i .i64, .i .i64] x1, .ds [.i .i64] x2], .agg [.ds [.i .i64] x3, .ds [.i .i64, .i .i64, .i .i64, .i .i64] x4, .ds [.i .i64] x5]] : List V) = (A_wFnExactSameRiver.enc (x0, x1, x2, x3, x4, x5)).1)).trans (lawFnExactSameRiver_says (x0, x1, x2, x3, x4, x5) h)

def A_sl00In : Shp := ⟨[.h, .h, .h], [], [.i .i64, .i .i64, .i .i64]⟩
def R_sl00In : List XShp := [(.ret, ⟨[.h], [], [.b]⟩)]

theorem sl00In_e (x : DR A_sl00In.hs) : (evFn (envT Try.prog C17 mtab0) noLoops Try.f66 (A_sl00In.enc x).1).to (fun q => decX R_sl00In .ret [q.1] q.2) = sl00In_t x.1 x.2.1 x.2.2 := by kernel_rfl

theorem sl00In_m (x : DR A_sl00In.hs) : meanF (envT Try.prog C17 mtab0) noLoops Try.f66 A_sl00In R_sl00In x = some (show SumD (R_sl00In.map (·.2)) from sl00In x.1 x.2.1 x.2.2) := @meanF_tot _ _ _ _ _ _ _ (sl00In_e x) (show Inhabited (Bool) from inferInstance) (by kernel_rfl)

theorem sl00In_ok : SpecOk Try.prog 66 (evFn (envT Try.prog C17 mtab0) noLoops Try.f66) := fnL_ok (envT_ok (C17_ok) (mtab0_ok _)) mixedO Try.func66 (by kernel_rfl) (c := bodyOf Try.f66) (by kernel_rfl) (loopFree_ok (by kernel_rfl))

theorem sl00In_told : SpecOk Try.prog 66 (toldT A_sl00In R_sl00In (fun x => sl00In x.1 x.2.1 x.2.2) (C17 66)) := toldT_ok (by kernel_rfl) sl00In_ok (rest_ok (C17_ok) _) sl00In_m

noncomputable def C18 : Tab := tab 66 (toldT A_sl00In R_sl00In (fun x => sl00In x.1 x.2.1 x.2.2) (C17 66)) C17
theorem C18_ok : TabOk Try.prog C18 := tab_ok (sl00In_told) (C17_ok)

def A_sl06Unit : Shp := ⟨[.h], [], [.i .i64]⟩
def R_sl06Unit : List XShp := [(.ret, ⟨[.h], [], [.b]⟩)]

theorem sl06Unit_e (x : DR A_sl06Unit.hs) : (evFn (envT Try.prog C18 mtab0) noLoops Try.f52 (A_sl06Unit.enc x).1).to (fun q => decX R_sl06Unit .ret [q.1] q.2) = sl06Unit_t x := by kernel_rfl

theorem sl06Unit_m (x : DR A_sl06Unit.hs) : meanF (envT Try.prog C18 mtab0) noLoops Try.f52 A_sl06Unit R_sl06Unit x = some (show SumD (R_sl06Unit.map (·.2)) from sl06Unit x) := @meanF_tot _ _ _ _ _ _ _ (sl06Unit_e x) (show Inhabited (Bool) from inferInstance) (by kernel_rfl)

theorem sl06Unit_ok : SpecOk Try.prog 52 (evFn (envT Try.prog C18 mtab0) noLoops Try.f52) := fnL_ok (envT_ok (C18_ok) (mtab0_ok _)) mixedO Try.func52 (by kernel_rfl) (c := bodyOf Try.f52) (by kernel_rfl) (loopFree_ok (by kernel_rfl))

theorem sl06Unit_told : SpecOk Try.prog 52 (toldT A_sl06Unit R_sl06Unit (fun x => sl06Unit x) (C18 52)) := toldT_ok (by kernel_rfl) sl06Unit_ok (rest_ok (C18_ok) _) sl06Unit_m

noncomputable def C19 : Tab := tab 52 (toldT A_sl06Unit R_sl06Unit (fun x => sl06Unit x) (C18 52)) C18
theorem C19_ok : TabOk Try.prog C19 := tab_ok (sl06Unit_told) (C18_ok)

def A_sl06Dam : Shp := ⟨[.dpt [.h, .h, .h, .h] 0], [], [.i .i64, .i .i64, .i .i64, .i .i64]⟩
def R_sl06Dam : List XShp := [(.ret, ⟨[.h], [], [.b]⟩)]

theorem sl06Dam_e (x : DR A_sl06Dam.hs) : (evFn (envT Try.prog C19 mtab0) noLoops Try.f92 (A_sl06Dam.enc x).1).to (fun q => decX R_sl06Dam .ret [q.1] q.2) = sl06Dam_t x.1 x.2.1 x.2.2.1 x.2.2.2 := by kernel_rfl

theorem sl06Dam_m (x : DR A_sl06Dam.hs) : meanF (envT Try.prog C19 mtab0) noLoops Try.f92 A_sl06Dam R_sl06Dam x = some (show SumD (R_sl06Dam.map (·.2)) from sl06Dam x.1 x.2.1 x.2.2.1 x.2.2.2) := @meanF_tot _ _ _ _ _ _ _ (sl06Dam_e x) (show Inhabited (Bool) from inferInstance) (by kernel_rfl)

theorem sl06Dam_ok : SpecOk Try.prog 92 (evFn (envT Try.prog C19 mtab0) noLoops Try.f92) := fnL_ok (envT_ok (C19_ok) (mtab0_ok _)) mixedO Try.func92 (by kernel_rfl) (c := bodyOf Try.f92) (by kernel_rfl) (loopFree_ok (by kernel_rfl))

theorem sl06Dam_told : SpecOk Try.prog 92 (toldT A_sl06Dam R_sl06Dam (fun x => sl06Dam x.1 x.2.1 x.2.2.1 x.2.2.2) (C19 92)) := toldT_ok (by kernel_rfl) sl06Dam_ok (rest_ok (C19_ok) _) sl06Dam_m

noncomputable def C20 : Tab := tab 92 (toldT A_sl06Dam R_sl06Dam (fun x => sl06Dam x.1 x.2.1 x.2.2.1 x.2.2.2) (C19 92)) C19
theorem C20_ok : TabOk Try.prog C20 := tab_ok (sl06Dam_told) (C19_ok)

def S_sl06Is_l14 : Shp := ⟨[.dpt [.h, .h, .h] 0, .undef, .h, .h, .h, .h], [], [.sl [.i .i64], .sl [.i .i64, .i .i64, .i .i64, .i .i64], .sl [.i .i64], .i .i64, .i .i64, .i .i64, .i .i64]⟩
def X_sl06Is_l14 : List XShp := [(.ret, ⟨[.undef, .lb false, .undef, .undef, .undef, .undef], [], []⟩), (.exit 4, ⟨[.dpt [.h, .h, .h] 0, .undef, .h, .h, .undef, .undef], [], [.sl [.i .i64], .sl [.i .i64, .i .i64, .i .i64, .i .i64], .sl [.i .i64], .i .i64, .i .i64]⟩)]

noncomputable def L_sl06Is_l14 : Loops := (⟨102, lvT [(14, [0, 2, 3, 5, 6, 7]), (10, [0, 2, 3, 5]), (5, [0, 2, 3, 4])], mdT [(14, .normal, [], [2]), (14, .exit 4, [], [2, 6, 7]), (14, .ret, [], [0, 3, 5, 6, 7]), (10, .normal, [], [2]), (10, .exit 2, [], [0, 2, 3, 5]), (10, .ret, [], [0, 3, 5]), (5, .normal, [], [2]), (5, .exit 0, [], [2, 4]), (5, .ret, [], [0, 3, 4])], fun k vs bs => .bad⟩ : Loops)

theorem sl06Is_l14_e (y0 : List Int) (y1 : List (Int × Int × Int × Int)) (y2 : List Int) (y3 : Int) (y4 : Int) (s : Int × Int) : (loopStep (envT Try.prog C20 mtab0) L_sl06Is_l14 14 (loopC (loopC (bodyOf Try.f73) 10) 14) (S_sl06Is_l14.enc (y0, y1, y2, y3, y4, s.1, s.2)).1 (S_sl06Is_l14.enc (y0, y1, y2, y3, y4, s.1, s.2)).2).to (stepD S_sl06Is_l14 X_sl06Is_l14) = (sl06Is_l14_t y0 y1 y2 y3 y4 s.1 s.2).map (Sum.map (fun s : Int × Int => (show DR S_sl06Is_l14.hs from (y0, y1, y2, y3, y4, s.1, s.2))) id) := by kernel_rfl

theorem sl06Is_l14_r (x : DR S_sl06Is_l14.hs) : (sl06Is_l14 x.1 x.2.1 x.2.2.1 x.2.2.2.1 x.2.2.2.2.1 x.2.2.2.2.2.1 x.2.2.2.2.2.2 : Option (SumD (X_sl06Is_l14.map (·.2)))) = runL (meanS (envT Try.prog C20 mtab0) L_sl06Is_l14 14 (loopC (loopC (bodyOf Try.f73) 10) 14) S_sl06Is_l14 X_sl06Is_l14) x := run_of (fun s : Int × Int => (show DR S_sl06Is_l14.hs from (x.1, x.2.1, x.2.2.1, x.2.2.2.1, x.2.2.2.2.1, s.1, s.2))) (sl06Is_l14_e (x.1) (x.2.1) (x.2.2.1) (x.2.2.2.1) (x.2.2.2.2.1)) (x.2.2.2.2.2.1, x.2.2.2.2.2.2)

theorem sl06Is_l14_k (L : Loops) (hn : L_sl06Is_l14.n = L.n) (hlv : L_sl06Is_l14.lv 14 = L.lv 14) (hL : ∀ vs bs, L.loop 14 vs bs = toldL S_sl06Is_l14 X_sl06Is_l14 (fun x => sl06Is_l14 x.1 x.2.1 x.2.2.1 x.2.2.2.1 x.2.2.2.2.1 x.2.2.2.2.2.1 x.2.2.2.2.2.2) vs bs) : LOk Try.prog (envT Try.prog C20 mtab0) L 14 (loopC (loopC (bodyOf Try.f73) 10) 14) := toldL_ok (L1 := L_sl06Is_l14) (envT_ok (C20_ok) (mtab0_ok _)) mixedO hn hlv (loopFree_ok (by kernel_rfl)) sl06Is_l14_r hL

def S_sl06Is_l5 : Shp := ⟨[.dpt [.h, .h, .h] 0, .undef, .h, .h], [], [.sl [.i .i64], .sl [.i .i64, .i .i64, .i .i64, .i .i64], .sl [.i .i64], .i .i64, .i .i64]⟩
def X_sl06Is_l5 : List XShp := [(.ret, ⟨[.undef, .lb false, .undef, .undef], [], []⟩), (.exit 0, ⟨[.dpt [.h, .h, .h] 0, .undef, .h, .undef], [], [.sl [.i .i64], .sl [.i .i64, .i .i64, .i .i64, .i .i64], .sl [.i .i64], .i .i64]⟩)]

noncomputable def L_sl06Is_l5 : Loops := (⟨102, lvT [(14, [0, 2, 3, 5, 6, 7]), (10, [0, 2, 3, 5]), (5, [0, 2, 3, 4])], mdT [(14, .normal, [], [2]), (14, .exit 4, [], [2, 6, 7]), (14, .ret, [], [0, 3, 5, 6, 7]), (10, .normal, [], [2]), (10, .exit 2, [], [0, 2, 3, 5]), (10, .ret, [], [0, 3, 5]), (5, .normal, [], [2]), (5, .exit 0, [], [2, 4]), (5, .ret, [], [0, 3, 4])], fun k vs bs => .bad⟩ : Loops)

theorem sl06Is_l5_e (y0 : List Int) (y1 : List (Int × Int × Int × Int)) (y2 : List Int) (y3 : Int) (s : Int) : (loopStep (envT Try.prog C20 mtab0) L_sl06Is_l5 5 (loopC (bodyOf Try.f73) 5) (S_sl06Is_l5.enc (y0, y1, y2, y3, s)).1 (S_sl06Is_l5.enc (y0, y1, y2, y3, s)).2).to (stepD S_sl06Is_l5 X_sl06Is_l5) = (sl06Is_l5_t y0 y1 y2 y3 s).map (Sum.map (fun s : Int => (show DR S_sl06Is_l5.hs from (y0, y1, y2, y3, s))) id) := by kernel_rfl

theorem sl06Is_l5_r (x : DR S_sl06Is_l5.hs) : (sl06Is_l5 x.1 x.2.1 x.2.2.1 x.2.2.2.1 x.2.2.2.2 : Option (SumD (X_sl06Is_l5.map (·.2)))) = runL (meanS (envT Try.prog C20 mtab0) L_sl06Is_l5 5 (loopC (bodyOf Try.f73) 5) S_sl06Is_l5 X_sl06Is_l5) x := run_of (fun s : Int => (show DR S_sl06Is_l5.hs from (x.1, x.2.1, x.2.2.1, x.2.2.2.1, s))) (sl06Is_l5_e (x.1) (x.2.1) (x.2.2.1) (x.2.2.2.1)) x.2.2.2.2

theorem sl06Is_l5_k (L : Loops) (hn : L_sl06Is_l5.n = L.n) (hlv : L_sl06Is_l5.lv 5 = L.lv 5) (hL : ∀ vs bs, L.loop 5 vs bs = toldL S_sl06Is_l5 X_sl06Is_l5 (fun x => sl06Is_l5 x.1 x.2.1 x.2.2.1 x.2.2.2.1 x.2.2.2.2) vs bs) : LOk Try.prog (envT Try.prog C20 mtab0) L 5 (loopC (bodyOf Try.f73) 5) := toldL_ok (L1 := L_sl06Is_l5) (envT_ok (C20_ok) (mtab0_ok _)) mixedO hn hlv (loopFree_ok (by kernel_rfl)) sl06Is_l5_r hL

def S_sl06Is_l10 : Shp := ⟨[.dpt [.h, .h, .h] 0, .undef, .h, .h], [], [.sl [.i .i64], .sl [.i .i64, .i .i64, .i .i64, .i .i64], .sl [.i .i64], .i .i64, .i .i64]⟩
def X_sl06Is_l10 : List XShp := [(.ret, ⟨[.undef, .lb false, .undef, .undef], [], []⟩), (.exit 2, ⟨[.undef, .undef, .undef, .undef], [], []⟩)]

noncomputable def L_sl06Is_l10 : Loops := (⟨102, lvT [(14, [0, 2, 3, 5, 6, 7]), (10, [0, 2, 3, 5]), (5, [0, 2, 3, 4])], mdT [(14, .normal, [], [2]), (14, .exit 4, [], [2, 6, 7]), (14, .ret, [], [0, 3, 5, 6, 7]), (10, .normal, [], [2]), (10, .exit 2, [], [0, 2, 3, 5]), (10, .ret, [], [0, 3, 5]), (5, .normal, [], [2]), (5, .exit 0, [], [2, 4]), (5, .ret, [], [0, 3, 4])], fun k vs bs => bif Nat.beq k 14 then toldL S_sl06Is_l14 X_sl06Is_l14 (fun x => sl06Is_l14 x.1 x.2.1 x.2.2.1 x.2.2.2.1 x.2.2.2.2.1 x.2.2.2.2.2.1 x.2.2.2.2.2.2) vs bs else .bad⟩ : Loops)

theorem sl06Is_l10_e (s : List Int × (List (Int × Int × Int × Int)) × List Int × Int × Int) : (loopStep (envT Try.prog C20 mtab0) L_sl06Is_l10 10 (loopC (bodyOf Try.f73) 10) (S_sl06Is_l10.enc (s.1, s.2.1, s.2.2.1, s.2.2.2.1, s.2.2.2.2)).1 (S_sl06Is_l10.enc (s.1, s.2.1, s.2.2.1, s.2.2.2.1, s.2.2.2.2)).2).to (stepD S_sl06Is_l10 X_sl06Is_l10) = (sl06Is_l10_t  s.1 s.2.1 s.2.2.1 s.2.2.2.1 s.2.2.2.2).map (Sum.map (fun s : List Int × (List (Int × Int × Int × Int)) × List Int × Int × Int => (show DR S_sl06Is_l10.hs from (s.1, s.2.1, s.2.2.1, s.2.2.2.1, s.2.2.2.2))) id) := by kernel_rfl

theorem sl06Is_l10_r (x : DR S_sl06Is_l10.hs) : (sl06Is_l10 x.1 x.2.1 x.2.2.1 x.2.2.2.1 x.2.2.2.2 : Option (SumD (X_sl06Is_l10.map (·.2)))) = runL (meanS (envT Try.prog C20 mtab0) L_sl06Is_l10 10 (loopC (bodyOf Try.f73) 10) S_sl06Is_l10 X_sl06Is_l10) x := run_of (fun s : List Int × (List (Int × Int × Int × Int)) × List Int × Int × Int => (show DR S_sl06Is_l10.hs from (s.1, s.2.1, s.2.2.1, s.2.2.2.1, s.2.2.2.2))) (sl06Is_l10_e ) (x.1, x.2.1, x.2.2.1, x.2.2.2.1, x.2.2.2.2)

theorem sl06Is_l10_k (L : Loops) (hn : L_sl06Is_l10.n = L.n) (hlv : L_sl06Is_l10.lv 10 = L.lv 10) (hL : ∀ vs bs, L.loop 10 vs bs = toldL S_sl06Is_l10 X_sl06Is_l10 (fun x => sl06Is_l10 x.1 x.2.1 x.2.2.1 x.2.2.2.1 x.2.2.2.2) vs bs) : LOk Try.prog (envT Try.prog C20 mtab0) L 10 (loopC (bodyOf Try.f73) 10) := toldL_ok (L1 := L_sl06Is_l10) (envT_ok (C20_ok) (mtab0_ok _)) mixedO hn hlv (loopsL (l := [(14, loopC (loopC (bodyOf Try.f73) 10) 14)]) (by kernel_rfl) (lk_cons (sl06Is_l14_k _ rfl rfl (fun _ _ => rfl)) lk_nil)) sl06Is_l10_r hL

def A_sl06Is : Shp := ⟨[.dpt [.h, .h, .h] 0], [], [.sl [.i .i64], .sl [.i .i64, .i .i64, .i .i64, .i .i64], .sl [.i .i64]]⟩
def R_sl06Is : List XShp := [(.ret, ⟨[.h], [], [.b]⟩)]

noncomputable def L_sl06Is : Loops := (⟨102, lvT [(14, [0, 2, 3, 5, 6, 7]), (10, [0, 2, 3, 5]), (5, [0, 2, 3, 4])], mdT [(14, .normal, [], [2]), (14, .exit 4, [], [2, 6, 7]), (14, .ret, [], [0, 3, 5, 6, 7]), (10, .normal, [], [2]), (10, .exit 2, [], [0, 2, 3, 5]), (10, .ret, [], [0, 3, 5]), (5, .normal, [], [2]), (5, .exit 0, [], [2, 4]), (5, .ret, [], [0, 3, 4])], fun k vs bs => bif Nat.beq k 10 then toldL S_sl06Is_l10 X_sl06Is_l10 (fun x => sl06Is_l10 x.1 x.2.1 x.2.2.1 x.2.2.2.1 x.2.2.2.2) vs bs else bif Nat.beq k 5 then toldL S_sl06Is_l5 X_sl06Is_l5 (fun x => sl06Is_l5 x.1 x.2.1 x.2.2.1 x.2.2.2.1 x.2.2.2.2) vs bs else .bad⟩ : Loops)

theorem sl06Is_e (x : DR A_sl06Is.hs) : (evFn (envT Try.prog C20 mtab0) L_sl06Is Try.f73 (A_sl06Is.enc x).1).to (fun q => decX R_sl06Is .ret [q.1] q.2) = sl06Is_t x.1 x.2.1 x.2.2 := by kernel_rfl

theorem sl06Is_m (x : DR A_sl06Is.hs) : meanF (envT Try.prog C20 mtab0) L_sl06Is Try.f73 A_sl06Is R_sl06Is x = (show Option (SumD (R_sl06Is.map (·.2))) from sl06Is x.1 x.2.1 x.2.2) := meanF_of (sl06Is_e x)

theorem sl06Is_ok : SpecOk Try.prog 73 (evFn (envT Try.prog C20 mtab0) L_sl06Is Try.f73) := fnL_ok (envT_ok (C20_ok) (mtab0_ok _)) mixedO Try.func73 (by kernel_rfl) (c := bodyOf Try.f73) (by kernel_rfl) (loopsL (l := [(5, loopC (bodyOf Try.f73) 5), (10, loopC (bodyOf Try.f73) 10)]) (by kernel_rfl) (lk_cons (sl06Is_l5_k _ rfl rfl (fun _ _ => rfl)) (lk_cons (sl06Is_l10_k _ rfl rfl (fun _ _ => rfl)) lk_nil)))

theorem sl06Is_told : SpecOk Try.prog 73 (toldO A_sl06Is R_sl06Is (fun x => sl06Is x.1 x.2.1 x.2.2) (C20 73)) := toldO_ok (by kernel_rfl) sl06Is_ok (rest_ok (C20_ok) _) sl06Is_m

noncomputable def C21 : Tab := tab 73 (toldO A_sl06Is R_sl06Is (fun x => sl06Is x.1 x.2.1 x.2.2) (C20 73)) C20
theorem C21_ok : TabOk Try.prog C21 := tab_ok (sl06Is_told) (C20_ok)

def S_sl06Stored_l3 : Shp := ⟨[.dpt [.h, .h, .h] 0, .h, .h], [], [.sl [.i .i64], .sl [.i .i64, .i .i64, .i .i64, .i .i64], .sl [.i .i64], .i .i64, .i .i64]⟩
def X_sl06Stored_l3 : List XShp := [(.exit 0, ⟨[.undef, .h, .undef], [], [.i .i64]⟩)]

noncomputable def L_sl06Stored_l3 : Loops := (⟨25, lvT [(3, [0, 3, 4])], mdT [(3, .exit 0, [], [0, 4])], fun k vs bs => .bad⟩ : Loops)

theorem sl06Stored_l3_e (y0 : List Int) (y1 : List (Int × Int × Int × Int)) (y2 : List Int) (s : Int × Int) : (loopStep (envT Try.prog C21 mtab0) L_sl06Stored_l3 3 (loopC (bodyOf Try.f77) 3) (S_sl06Stored_l3.enc (y0, y1, y2, s.1, s.2)).1 (S_sl06Stored_l3.enc (y0, y1, y2, s.1, s.2)).2).to (stepD S_sl06Stored_l3 X_sl06Stored_l3) = (sl06Stored_l3_t y0 y1 y2 s.1 s.2).map (Sum.map (fun s : Int × Int => (show DR S_sl06Stored_l3.hs from (y0, y1, y2, s.1, s.2))) id) := by kernel_rfl

theorem sl06Stored_l3_r (x : DR S_sl06Stored_l3.hs) : (sl06Stored_l3 x.1 x.2.1 x.2.2.1 x.2.2.2.1 x.2.2.2.2 : Option (SumD (X_sl06Stored_l3.map (·.2)))) = runL (meanS (envT Try.prog C21 mtab0) L_sl06Stored_l3 3 (loopC (bodyOf Try.f77) 3) S_sl06Stored_l3 X_sl06Stored_l3) x := run_of (fun s : Int × Int => (show DR S_sl06Stored_l3.hs from (x.1, x.2.1, x.2.2.1, s.1, s.2))) (sl06Stored_l3_e (x.1) (x.2.1) (x.2.2.1)) (x.2.2.2.1, x.2.2.2.2)

theorem sl06Stored_l3_k (L : Loops) (hn : L_sl06Stored_l3.n = L.n) (hlv : L_sl06Stored_l3.lv 3 = L.lv 3) (hL : ∀ vs bs, L.loop 3 vs bs = toldL S_sl06Stored_l3 X_sl06Stored_l3 (fun x => sl06Stored_l3 x.1 x.2.1 x.2.2.1 x.2.2.2.1 x.2.2.2.2) vs bs) : LOk Try.prog (envT Try.prog C21 mtab0) L 3 (loopC (bodyOf Try.f77) 3) := toldL_ok (L1 := L_sl06Stored_l3) (envT_ok (C21_ok) (mtab0_ok _)) mixedO hn hlv (loopFree_ok (by kernel_rfl)) sl06Stored_l3_r hL

def A_sl06Stored : Shp := ⟨[.dpt [.h, .h, .h] 0], [], [.sl [.i .i64], .sl [.i .i64, .i .i64, .i .i64, .i .i64], .sl [.i .i64]]⟩
def R_sl06Stored : List XShp := [(.ret, ⟨[.h], [], [.i .i64]⟩)]

noncomputable def L_sl06Stored : Loops := (⟨25, lvT [(3, [0, 3, 4])], mdT [(3, .exit 0, [], [0, 4])], fun k vs bs => bif Nat.beq k 3 then toldL S_sl06Stored_l3 X_sl06Stored_l3 (fun x => sl06Stored_l3 x.1 x.2.1 x.2.2.1 x.2.2.2.1 x.2.2.2.2) vs bs else .bad⟩ : Loops)

theorem sl06Stored_e (x : DR A_sl06Stored.hs) : (evFn (envT Try.prog C21 mtab0) L_sl06Stored Try.f77 (A_sl06Stored.enc x).1).to (fun q => decX R_sl06Stored .ret [q.1] q.2) = sl06Stored_t x.1 x.2.1 x.2.2 := by kernel_rfl

theorem sl06Stored_m (x : DR A_sl06Stored.hs) : meanF (envT Try.prog C21 mtab0) L_sl06Stored Try.f77 A_sl06Stored R_sl06Stored x = (show Option (SumD (R_sl06Stored.map (·.2))) from sl06Stored x.1 x.2.1 x.2.2) := meanF_of (sl06Stored_e x)

theorem sl06Stored_ok : SpecOk Try.prog 77 (evFn (envT Try.prog C21 mtab0) L_sl06Stored Try.f77) := fnL_ok (envT_ok (C21_ok) (mtab0_ok _)) mixedO Try.func77 (by kernel_rfl) (c := bodyOf Try.f77) (by kernel_rfl) (loopsL (l := [(3, loopC (bodyOf Try.f77) 3)]) (by kernel_rfl) (lk_cons (sl06Stored_l3_k _ rfl rfl (fun _ _ => rfl)) lk_nil))

theorem sl06Stored_told : SpecOk Try.prog 77 (toldO A_sl06Stored R_sl06Stored (fun x => sl06Stored x.1 x.2.1 x.2.2) (C21 77)) := toldO_ok (by kernel_rfl) sl06Stored_ok (rest_ok (C21_ok) _) sl06Stored_m

noncomputable def C22 : Tab := tab 77 (toldO A_sl06Stored R_sl06Stored (fun x => sl06Stored x.1 x.2.1 x.2.2) (C21 77)) C21
theorem C22_ok : TabOk Try.prog C22 := tab_ok (sl06Stored_told) (C21_ok)

def A_sStoredIn : Shp := ⟨[.agg [.h, .h, .h]], [], [.sl [.i .i64], .sl [.i .i64, .i .i64, .i .i64, .i .i64], .sl [.i .i64]]⟩
def R_sStoredIn : List XShp := [(.ret, ⟨[.tup [.h, .h]], [], [.i .i64, .b]⟩)]

theorem sStoredIn_e (x : DR A_sStoredIn.hs) : (evFn (envT Try.prog C22 mtab0) noLoops Try.f40 (A_sStoredIn.enc x).1).to (fun q => decX R_sStoredIn .ret [q.1] q.2) = sStoredIn_t x.1 x.2.1 x.2.2 := by kernel_rfl

theorem sStoredIn_m (x : DR A_sStoredIn.hs) : meanF (envT Try.prog C22 mtab0) noLoops Try.f40 A_sStoredIn R_sStoredIn x = (show Option (SumD (R_sStoredIn.map (·.2))) from sStoredIn x.1 x.2.1 x.2.2) := meanF_of (sStoredIn_e x)

theorem sStoredIn_ok : SpecOk Try.prog 40 (evFn (envT Try.prog C22 mtab0) noLoops Try.f40) := fnL_ok (envT_ok (C22_ok) (mtab0_ok _)) mixedO Try.func40 (by kernel_rfl) (c := bodyOf Try.f40) (by kernel_rfl) (loopFree_ok (by kernel_rfl))

theorem sStoredIn_told : SpecOk Try.prog 40 (toldO A_sStoredIn R_sStoredIn (fun x => sStoredIn x.1 x.2.1 x.2.2) (C22 40)) := toldO_ok (by kernel_rfl) sStoredIn_ok (rest_ok (C22_ok) _) sStoredIn_m

noncomputable def C23 : Tab := tab 40 (toldO A_sStoredIn R_sStoredIn (fun x => sStoredIn x.1 x.2.1 x.2.2) (C22 40)) C22
theorem C23_ok : TabOk Try.prog C23 := tab_ok (sStoredIn_told) (C22_ok)

def A_iwithin : Shp := ⟨[.h, .h, .h], [], [.i .i64, .i .i64, .i .i64]⟩
def R_iwithin : List XShp := [(.ret, ⟨[.h], [], [.b]⟩)]

theorem iwithin_e (x : DR A_iwithin.hs) : (evFn (envT Try.prog C23 mtab0) noLoops Try.f68 (A_iwithin.enc x).1).to (fun q => decX R_iwithin .ret [q.1] q.2) = iwithin_t x.1 x.2.1 x.2.2 := by kernel_rfl

theorem iwithin_m (x : DR A_iwithin.hs) : meanF (envT Try.prog C23 mtab0) noLoops Try.f68 A_iwithin R_iwithin x = some (show SumD (R_iwithin.map (·.2)) from iwithin x.1 x.2.1 x.2.2) := @meanF_tot _ _ _ _ _ _ _ (iwithin_e x) (show Inhabited (Bool) from inferInstance) (by kernel_rfl)

theorem iwithin_ok : SpecOk Try.prog 68 (evFn (envT Try.prog C23 mtab0) noLoops Try.f68) := fnL_ok (envT_ok (C23_ok) (mtab0_ok _)) mixedO Try.func68 (by kernel_rfl) (c := bodyOf Try.f68) (by kernel_rfl) (loopFree_ok (by kernel_rfl))

theorem iwithin_told : SpecOk Try.prog 68 (toldT A_iwithin R_iwithin (fun x => iwithin x.1 x.2.1 x.2.2) (C23 68)) := toldT_ok (by kernel_rfl) iwithin_ok (rest_ok (C23_ok) _) iwithin_m

noncomputable def C24 : Tab := tab 68 (toldT A_iwithin R_iwithin (fun x => iwithin x.1 x.2.1 x.2.2) (C23 68)) C23
theorem C24_ok : TabOk Try.prog C24 := tab_ok (iwithin_told) (C23_ok)

def A_iareWithin_1 : Shp := ⟨[.h, .dpt [.h] 0, .dpt [.h] 0], [], [.i .i64, .i .i64, .i .i64]⟩
def R_iareWithin_1 : List XShp := [(.ret, ⟨[.h], [], [.b]⟩)]

theorem iareWithin_1_e (x : DR A_iareWithin_1.hs) : (evFn (envT Try.prog C24 mtab0) noLoops Try.f91 (A_iareWithin_1.enc x).1).to (fun q => decX R_iareWithin_1 .ret [q.1] q.2) = iareWithin_1_t x.1 x.2.1 x.2.2 := by kernel_rfl

theorem iareWithin_1_m (x : DR A_iareWithin_1.hs) : meanF (envT Try.prog C24 mtab0) noLoops Try.f91 A_iareWithin_1 R_iareWithin_1 x = some (show SumD (R_iareWithin_1.map (·.2)) from iareWithin_1 x.1 x.2.1 x.2.2) := @meanF_tot _ _ _ _ _ _ _ (iareWithin_1_e x) (show Inhabited (Bool) from inferInstance) (by kernel_rfl)

theorem iareWithin_1_ok : SpecOk Try.prog 91 (evFn (envT Try.prog C24 mtab0) noLoops Try.f91) := fnL_ok (envT_ok (C24_ok) (mtab0_ok _)) mixedO Try.func91 (by kernel_rfl) (c := bodyOf Try.f91) (by kernel_rfl) (loopFree_ok (by kernel_rfl))

theorem iareWithin_1_told : SpecOk Try.prog 91 (toldT A_iareWithin_1 R_iareWithin_1 (fun x => iareWithin_1 x.1 x.2.1 x.2.2) (C24 91)) := toldT_ok (by kernel_rfl) iareWithin_1_ok (rest_ok (C24_ok) _) iareWithin_1_m

noncomputable def C25 : Tab := tab 91 (toldT A_iareWithin_1 R_iareWithin_1 (fun x => iareWithin_1 x.1 x.2.1 x.2.2) (C24 91)) C24
theorem C25_ok : TabOk Try.prog C25 := tab_ok (iareWithin_1_told) (C24_ok)

def S_lIndexFunc_iareWithin_1_l2 : Shp := ⟨[.h, .fn 91 [.dpt [.h] 0, .dpt [.h] 0], .undef, .h, .h], [], [.sl [.i .i64], .i .i64, .i .i64, .i .i64, .i .i64]⟩
def X_lIndexFunc_iareWithin_1_l2 : List XShp := [(.ret, ⟨[.undef, .undef, .h, .undef, .undef], [], [.i .i64]⟩), (.exit 0, ⟨[.undef, .undef, .undef, .undef, .undef], [], []⟩)]

noncomputable def L_lIndexFunc_iareWithin_1_l2 : Loops := (⟨19, lvT [(2, [0, 1, 4, 7, 8])], mdT [(2, .normal, [], [4]), (2, .exit 0, [], [0, 1, 4, 7, 8]), (2, .ret, [], [0, 1, 7, 8])], fun k vs bs => .bad⟩ : Loops)

theorem lIndexFunc_iareWithin_1_l2_e (y0 : List Int) (y1 : Int) (y2 : Int) (y3 : Int) (s : Int) : (loopStep (envT Try.prog C25 mtab0) L_lIndexFunc_iareWithin_1_l2 2 (loopC (bodyOf Try.f95) 2) (S_lIndexFunc_iareWithin_1_l2.enc (y0, y1, y2, y3, s)).1 (S_lIndexFunc_iareWithin_1_l2.enc (y0, y1, y2, y3, s)).2).to (stepD S_lIndexFunc_iareWithin_1_l2 X_lIndexFunc_iareWithin_1_l2) = (lIndexFunc_iareWithin_1_l2_t y0 y1 y2 y3 s).map (Sum.map (fun s : Int => (show DR S_lIndexFunc_iareWithin_1_l2.hs from (y0, y1, y2, y3, s))) id) := by kernel_rfl

theorem lIndexFunc_iareWithin_1_l2_r (x : DR S_lIndexFunc_iareWithin_1_l2.hs) : (lIndexFunc_iareWithin_1_l2 x.1 x.2.1 x.2.2.1 x.2.2.2.1 x.2.2.2.2 : Option (SumD (X_lIndexFunc_iareWithin_1_l2.map (·.2)))) = runL (meanS (envT Try.prog C25 mtab0) L_lIndexFunc_iareWithin_1_l2 2 (loopC (bodyOf Try.f95) 2) S_lIndexFunc_iareWithin_1_l2 X_lIndexFunc_iareWithin_1_l2) x := run_of (fun s : Int => (show DR S_lIndexFunc_iareWithin_1_l2.hs from (x.1, x.2.1, x.2.2.1, x.2.2.2.1, s))) (lIndexFunc_iareWithin_1_l2_e (x.1) (x.2.1) (x.2.2.1) (x.2.2.2.1)) x.2.2.2.2

theorem lIndexFunc_iareWithin_1_l2_k (L : Loops) (hn : L_lIndexFunc_iareWithin_1_l2.n = L.n) (hlv : L_lIndexFunc_iareWithin_1_l2.lv 2 = L.lv 2) (hL : ∀ vs bs, L.loop 2 vs bs = toldL S_lIndexFunc_iareWithin_1_l2 X_lIndexFunc_iareWithin_1_l2 (fun x => lIndexFunc_iareWithin_1_l2 x.1 x.2.1 x.2.2.1 x.2.2.2.1 x.2.2.2.2) vs bs) : LOk Try.prog (envT Try.prog C25 mtab0) L 2 (loopC (bodyOf Try.f95) 2) := toldL_ok (L1 := L_lIndexFunc_iareWithin_1_l2) (envT_ok (C25_ok) (mtab0_ok _)) mixedO hn hlv (loopFree_ok (by kernel_rfl)) lIndexFunc_iareWithin_1_l2_r hL

def A_lIndexFunc_iareWithin_1 : Shp := ⟨[.h, .fn 91 [.dpt [.h] 0, .dpt [.h] 0]], [], [.sl [.i .i64], .i .i64, .i .i64]⟩
def R_lIndexFunc_iareWithin_1 : List XShp := [(.ret, ⟨[.h], [], [.i .i64]⟩)]

noncomputable def L_lIndexFunc_iareWithin_1 : Loops := (⟨19, lvT [(2, [0, 1, 4, 7, 8])], mdT [(2, .normal, [], [4]), (2, .exit 0, [], [0, 1, 4, 7, 8]), (2, .ret, [], [0, 1, 7, 8])], fun k vs bs => bif Nat.beq k 2 then toldL S_lIndexFunc_iareWithin_1_l2 X_lIndexFunc_iareWithin_1_l2 (fun x => lIndexFunc_iareWithin_1_l2 x.1 x.2.1 x.2.2.1 x.2.2.2.1 x.2.2.2.2) vs bs else .bad⟩ : Loops)

theorem lIndexFunc_iareWithin_1_e (x : DR A_lIndexFunc_iareWithin_1.hs) : (evFn (envT Try.prog C25 mtab0) L_lIndexFunc_iareWithin_1 Try.f95 (A_lIndexFunc_iareWithin_1.enc x).1).to (fun q => decX R_lIndexFunc_iareWithin_1 .ret [q.1] q.2) = lIndexFunc_iareWithin_1_t x.1 x.2.1 x.2.2 := by kernel_rfl

theorem lIndexFunc_iareWithin_1_m (x : DR A_lIndexFunc_iareWithin_1.hs) : meanF (envT Try.prog C25 mtab0) L_lIndexFunc_iareWithin_1 Try.f95 A_lIndexFunc_iareWithin_1 R_lIndexFunc_iareWithin_1 x = (show Option (SumD (R_lIndexFunc_iareWithin_1.map (·.2))) from lIndexFunc_iareWithin_1 x.1 x.2.1 x.2.2) := meanF_of (lIndexFunc_iareWithin_1_e x)

theorem lIndexFunc_iareWithin_1_ok : SpecOk Try.prog 95 (evFn (envT Try.prog C25 mtab0) L_lIndexFunc_iareWithin_1 Try.f95) := fnL_ok (envT_ok (C25_ok) (mtab0_ok _)) mixedO Try.func95 (by kernel_rfl) (c := bodyOf Try.f95) (by kernel_rfl) (loopsL (l := [(2, loopC (bodyOf Try.f95) 2)]) (by kernel_rfl) (lk_cons (lIndexFunc_iareWithin_1_l2_k _ rfl rfl (fun _ _ => rfl)) lk_nil))

theorem lIndexFunc_iareWithin_1_told : SpecOk Try.prog 95 (toldO A_lIndexFunc_iareWithin_1 R_lIndexFunc_iareWithin_1 (fun x => lIndexFunc_iareWithin_1 x.1 x.2.1 x.2.2) (C25 95)) := toldO_ok (by kernel_rfl) lIndexFunc_iareWithin_1_ok (rest_ok (C25_ok) _) lIndexFunc_iareWithin_1_m

noncomputable def C26 : Tab := tab 95 (toldO A_lIndexFunc_iareWithin_1 R_lIndexFunc_iareWithin_1 (fun x => lIndexFunc_iareWithin_1 x.1 x.2.1 x.2.2) (C25 95)) C25
theorem C26_ok : TabOk Try.prog C26 := tab_ok (lIndexFunc_iareWithin_1_told) (C25_ok)

def A_lContainsFunc_iareWithin_1 : Shp := ⟨[.h, .fn 91 [.dpt [.h] 0, .dpt [.h] 0]], [], [.sl [.i .i64], .i .i64, .i .i64]⟩
def R_lContainsFunc_iareWithin_1 : List XShp := [(.ret, ⟨[.h], [], [.b]⟩)]

theorem lContainsFunc_iareWithin_1_e (x : DR A_lContainsFunc_iareWithin_1.hs) : (evFn (envT Try.prog C26 mtab0) noLoops Try.f90 (A_lContainsFunc_iareWithin_1.enc x).1).to (fun q => decX R_lContainsFunc_iareWithin_1 .ret [q.1] q.2) = lContainsFunc_iareWithin_1_t x.1 x.2.1 x.2.2 := by kernel_rfl

theorem lContainsFunc_iareWithin_1_m (x : DR A_lContainsFunc_iareWithin_1.hs) : meanF (envT Try.prog C26 mtab0) noLoops Try.f90 A_lContainsFunc_iareWithin_1 R_lContainsFunc_iareWithin_1 x = (show Option (SumD (R_lContainsFunc_iareWithin_1.map (·.2))) from lContainsFunc_iareWithin_1 x.1 x.2.1 x.2.2) := meanF_of (lContainsFunc_iareWithin_1_e x)

theorem lContainsFunc_iareWithin_1_ok : SpecOk Try.prog 90 (evFn (envT Try.prog C26 mtab0) noLoops Try.f90) := fnL_ok (envT_ok (C26_ok) (mtab0_ok _)) mixedO Try.func90 (by kernel_rfl) (c := bodyOf Try.f90) (by kernel_rfl) (loopFree_ok (by kernel_rfl))

theorem lContainsFunc_iareWithin_1_told : SpecOk Try.prog 90 (toldO A_lContainsFunc_iareWithin_1 R_lContainsFunc_iareWithin_1 (fun x => lContainsFunc_iareWithin_1 x.1 x.2.1 x.2.2) (C26 90)) := toldO_ok (by kernel_rfl) lContainsFunc_iareWithin_1_ok (rest_ok (C26_ok) _) lContainsFunc_iareWithin_1_m

noncomputable def C27 : Tab := tab 90 (toldO A_lContainsFunc_iareWithin_1 R_lContainsFunc_iareWithin_1 (fun x => lContainsFunc_iareWithin_1 x.1 x.2.1 x.2.2) (C26 90)) C26
theorem C27_ok : TabOk Try.prog C27 := tab_ok (lContainsFunc_iareWithin_1_told) (C26_ok)

def A_iareWithin : Shp := ⟨[.h, .h, .h], [], [.sl [.i .i64], .i .i64, .i .i64]⟩
def R_iareWithin : List XShp := [(.ret, ⟨[.h], [], [.b]⟩)]

theorem iareWithin_e (x : DR A_iareWithin.hs) : (evFn (envT Try.prog C27 mtab0) noLoops Try.f72 (A_iareWithin.enc x).1).to (fun q => decX R_iareWithin .ret [q.1] q.2) = iareWithin_t x.1 x.2.1 x.2.2 := by kernel_rfl

theorem iareWithin_m (x : DR A_iareWithin.hs) : meanF (envT Try.prog C27 mtab0) noLoops Try.f72 A_iareWithin R_iareWithin x = (show Option (SumD (R_iareWithin.map (·.2))) from iareWithin x.1 x.2.1 x.2.2) := meanF_of (iareWithin_e x)

theorem iareWithin_ok : SpecOk Try.prog 72 (evFn (envT Try.prog C27 mtab0) noLoops Try.f72) := fnL_ok (envT_ok (C27_ok) (mtab0_ok _)) mixedO Try.func72 (by kernel_rfl) (c := bodyOf Try.f72) (by kernel_rfl) (loopFree_ok (by kernel_rfl))

theorem iareWithin_told : SpecOk Try.prog 72 (toldO A_iareWithin R_iareWithin (fun x => iareWithin x.1 x.2.1 x.2.2) (C27 72)) := toldO_ok (by kernel_rfl) iareWithin_ok (rest_ok (C27_ok) _) iareWithin_m

noncomputable def C28 : Tab := tab 72 (toldO A_iareWithin R_iareWithin (fun x => iareWithin x.1 x.2.1 x.2.2) (C27 72)) C27
theorem C28_ok : TabOk Try.prog C28 := tab_ok (iareWithin_told) (C27_ok)

def A_iisDam : Shp := ⟨[.agg [.h, .h, .h, .h]], [], [.i .i64, .i .i64, .i .i64, .i .i64]⟩
def R_iisDam : List XShp := [(.ret, ⟨[.h], [], [.b]⟩)]

theorem iisDam_e (x : DR A_iisDam.hs) : (evFn (envT Try.prog C28 mtab0) noLoops Try.f76 (A_iisDam.enc x).1).to (fun q => decX R_iisDam .ret [q.1] q.2) = iisDam_t x.1 x.2.1 x.2.2.1 x.2.2.2 := by kernel_rfl

theorem iisDam_m (x : DR A_iisDam.hs) : meanF (envT Try.prog C28 mtab0) noLoops Try.f76 A_iisDam R_iisDam x = (show Option (SumD (R_iisDam.map (·.2))) from iisDam x.1 x.2.1 x.2.2.1 x.2.2.2) := meanF_of (iisDam_e x)

theorem iisDam_ok : SpecOk Try.prog 76 (evFn (envT Try.prog C28 mtab0) noLoops Try.f76) := fnL_ok (envT_ok (C28_ok) (mtab0_ok _)) mixedO Try.func76 (by kernel_rfl) (c := bodyOf Try.f76) (by kernel_rfl) (loopFree_ok (by kernel_rfl))

theorem iisDam_told : SpecOk Try.prog 76 (toldO A_iisDam R_iisDam (fun x => iisDam x.1 x.2.1 x.2.2.1 x.2.2.2) (C28 76)) := toldO_ok (by kernel_rfl) iisDam_ok (rest_ok (C28_ok) _) iisDam_m

noncomputable def C29 : Tab := tab 76 (toldO A_iisDam R_iisDam (fun x => iisDam x.1 x.2.1 x.2.2.1 x.2.2.2) (C28 76)) C28
theorem C29_ok : TabOk Try.prog C29 := tab_ok (iisDam_told) (C28_ok)

def A_iValidRiver_1 : Shp := ⟨[.agg [.h, .h, .h, .h]], [], [.i .i64, .i .i64, .i .i64, .i .i64]⟩
def R_iValidRiver_1 : List XShp := [(.ret, ⟨[.h], [], [.b]⟩)]

theorem iValidRiver_1_e (x : DR A_iValidRiver_1.hs) : (evFn (envT Try.prog C29 mtab0) noLoops Try.f75 (A_iValidRiver_1.enc x).1).to (fun q => decX R_iValidRiver_1 .ret [q.1] q.2) = iValidRiver_1_t x.1 x.2.1 x.2.2.1 x.2.2.2 := by kernel_rfl

theorem iValidRiver_1_m (x : DR A_iValidRiver_1.hs) : meanF (envT Try.prog C29 mtab0) noLoops Try.f75 A_iValidRiver_1 R_iValidRiver_1 x = (show Option (SumD (R_iValidRiver_1.map (·.2))) from iValidRiver_1 x.1 x.2.1 x.2.2.1 x.2.2.2) := meanF_of (iValidRiver_1_e x)

theorem iValidRiver_1_ok : SpecOk Try.prog 75 (evFn (envT Try.prog C29 mtab0) noLoops Try.f75) := fnL_ok (envT_ok (C29_ok) (mtab0_ok _)) mixedO Try.func75 (by kernel_rfl) (c := bodyOf Try.f75) (by kernel_rfl) (loopFree_ok (by kernel_rfl))

theorem iValidRiver_1_told : SpecOk Try.prog 75 (toldO A_iValidRiver_1 R_iValidRiver_1 (fun x => iValidRiver_1 x.1 x.2.1 x.2.2.1 x.2.2.2) (C29 75)) := toldO_ok (by kernel_rfl) iValidRiver_1_ok (rest_ok (C29_ok) _) iValidRiver_1_m

noncomputable def C30 : Tab := tab 75 (toldO A_iValidRiver_1 R_iValidRiver_1 (fun x => iValidRiver_1 x.1 x.2.1 x.2.2.1 x.2.2.2) (C29 75)) C29
theorem C30_ok : TabOk Try.prog C30 := tab_ok (iValidRiver_1_told) (C29_ok)

def S_lIndexFunc_iValidRiver_1_l2 : Shp := ⟨[.h, .fn 75 [], .undef, .h, .h], [], [.sl [.i .i64, .i .i64, .i .i64, .i .i64], .i .i64, .i .i64]⟩
def X_lIndexFunc_iValidRiver_1_l2 : List XShp := [(.ret, ⟨[.undef, .undef, .h, .undef, .undef], [], [.i .i64]⟩), (.exit 0, ⟨[.undef, .undef, .undef, .undef, .undef], [], []⟩)]

noncomputable def L_lIndexFunc_iValidRiver_1_l2 : Loops := (⟨19, lvT [(2, [0, 1, 4, 7, 8])], mdT [(2, .normal, [], [4]), (2, .exit 0, [], [0, 1, 4, 7, 8]), (2, .ret, [], [0, 1, 7, 8])], fun k vs bs => .bad⟩ : Loops)

theorem lIndexFunc_iValidRiver_1_l2_e (y0 : List (Int × Int × Int × Int)) (y1 : Int) (s : Int) : (loopStep (envT Try.prog C30 mtab0) L_lIndexFunc_iValidRiver_1_l2 2 (loopC (bodyOf Try.f93) 2) (S_lIndexFunc_iValidRiver_1_l2.enc (y0, y1, s)).1 (S_lIndexFunc_iValidRiver_1_l2.enc (y0, y1, s)).2).to (stepD S_lIndexFunc_iValidRiver_1_l2 X_lIndexFunc_iValidRiver_1_l2) = (lIndexFunc_iValidRiver_1_l2_t y0 y1 s).map (Sum.map (fun s : Int => (show DR S_lIndexFunc_iValidRiver_1_l2.hs from (y0, y1, s))) id) := by kernel_rfl

theorem lIndexFunc_iValidRiver_1_l2_r (x : DR S_lIndexFunc_iValidRiver_1_l2.hs) : (lIndexFunc_iValidRiver_1_l2 x.1 x.2.1 x.2.2 : Option (SumD (X_lIndexFunc_iValidRiver_1_l2.map (·.2)))) = runL (meanS (envT Try.prog C30 mtab0) L_lIndexFunc_iValidRiver_1_l2 2 (loopC (bodyOf Try.f93) 2) S_lIndexFunc_iValidRiver_1_l2 X_lIndexFunc_iValidRiver_1_l2) x := run_of (fun s : Int => (show DR S_lIndexFunc_iValidRiver_1_l2.hs from (x.1, x.2.1, s))) (lIndexFunc_iValidRiver_1_l2_e (x.1) (x.2.1)) x.2.2

theorem lIndexFunc_iValidRiver_1_l2_k (L : Loops) (hn : L_lIndexFunc_iValidRiver_1_l2.n = L.n) (hlv : L_lIndexFunc_iValidRiver_1_l2.lv 2 = L.lv 2) (hL : ∀ vs bs, L.loop 2 vs bs = toldL S_lIndexFunc_iValidRiver_1_l2 X_lIndexFunc_iValidRiver_1_l2 (fun x => lIndexFunc_iValidRiver_1_l2 x.1 x.2.1 x.2.2) vs bs) : LOk Try.prog (envT Try.prog C30 mtab0) L 2 (loopC (bodyOf Try.f93) 2) := toldL_ok (L1 := L_lIndexFunc_iValidRiver_1_l2) (envT_ok (C30_ok) (mtab0_ok _)) mixedO hn hlv (loopFree_ok (by kernel_rfl)) lIndexFunc_iValidRiver_1_l2_r hL

def A_lIndexFunc_iValidRiver_1 : Shp := ⟨[.h, .fn 75 []], [], [.sl [.i .i64, .i .i64, .i .i64, .i .i64]]⟩
def R_lIndexFunc_iValidRiver_1 : List XShp := [(.ret, ⟨[.h], [], [.i .i64]⟩)]

noncomputable def L_lIndexFunc_iValidRiver_1 : Loops := (⟨19, lvT [(2, [0, 1, 4, 7, 8])], mdT [(2, .normal, [], [4]), (2, .exit 0, [], [0, 1, 4, 7, 8]), (2, .ret, [], [0, 1, 7, 8])], fun k vs bs => bif Nat.beq k 2 then toldL S_lIndexFunc_iValidRiver_1_l2 X_lIndexFunc_iValidRiver_1_l2 (fun x => lIndexFunc_iValidRiver_1_l2 x.1 x.2.1 x.2.2) vs bs else .bad⟩ : Loops)

theorem lIndexFunc_iValidRiver_1_e (x : DR A_lIndexFunc_iValidRiver_1.hs) : (evFn (envT Try.prog C30 mtab0) L_lIndexFunc_iValidRiver_1 Try.f93 (A_lIndexFunc_iValidRiver_1.enc x).1).to (fun q => decX R_lIndexFunc_iValidRiver_1 .ret [q.1] q.2) = lIndexFunc_iValidRiver_1_t x := by kernel_rfl

theorem lIndexFunc_iValidRiver_1_m (x : DR A_lIndexFunc_iValidRiver_1.hs) : meanF (envT Try.prog C30 mtab0) L_lIndexFunc_iValidRiver_1 Try.f93 A_lIndexFunc_iValidRiver_1 R_lIndexFunc_iValidRiver_1 x = (show Option (SumD (R_lIndexFunc_iValidRiver_1.map (·.2))) from lIndexFunc_iValidRiver_1 x) := meanF_of (lIndexFunc_iValidRiver_1_e x)

theorem lIndexFunc_iValidRiver_1_ok : SpecOk Try.prog 93 (evFn (envT Try.prog C30 mtab0) L_lIndexFunc_iValidRiver_1 Try.f93) := fnL_ok (envT_ok (C30_ok) (mtab0_ok _)) mixedO Try.func93 (by kernel_rfl) (c := bodyOf Try.f93) (by kernel_rfl) (loopsL (l := [(2, loopC (bodyOf Try.f93) 2)]) (by kernel_rfl) (lk_cons (lIndexFunc_iValidRiver_1_l2_k _ rfl rfl (fun _ _ => rfl)) lk_nil))

theorem lIndexFunc_iValidRiver_1_told : SpecOk Try.prog 93 (toldO A_lIndexFunc_iValidRiver_1 R_lIndexFunc_iValidRiver_1 (fun x => lIndexFunc_iValidRiver_1 x) (C30 93)) := toldO_ok (by kernel_rfl) lIndexFunc_iValidRiver_1_ok (rest_ok (C30_ok) _) lIndexFunc_iValidRiver_1_m

noncomputable def C31 : Tab := tab 93 (toldO A_lIndexFunc_iValidRiver_1 R_lIndexFunc_iValidRiver_1 (fun x => lIndexFunc_iValidRiver_1 x) (C30 93)) C30
theorem C31_ok : TabOk Try.prog C31 := tab_ok (lIndexFunc_iValidRiver_1_told) (C30_ok)

def A_lContainsFunc_iValidRiver_1 : Shp := ⟨[.h, .fn 75 []], [], [.sl [.i .i64, .i .i64, .i .i64, .i .i64]]⟩
def R_lContainsFunc_iValidRiver_1 : List XShp := [(.ret, ⟨[.h], [], [.b]⟩)]

theorem lContainsFunc_iValidRiver_1_e (x : DR A_lContainsFunc_iValidRiver_1.hs) : (evFn (envT Try.prog C31 mtab0) noLoops Try.f74 (A_lContainsFunc_iValidRiver_1.enc x).1).to (fun q => decX R_lContainsFunc_iValidRiver_1 .ret [q.1] q.2) = lContainsFunc_iValidRiver_1_t x := by kernel_rfl

theorem lContainsFunc_iValidRiver_1_m (x : DR A_lContainsFunc_iValidRiver_1.hs) : meanF (envT Try.prog C31 mtab0) noLoops Try.f74 A_lContainsFunc_iValidRiver_1 R_lContainsFunc_iValidRiver_1 x = (show Option (SumD (R_lContainsFunc_iValidRiver_1.map (·.2))) from lContainsFunc_iValidRiver_1 x) := meanF_of (lContainsFunc_iValidRiver_1_e x)

theorem lContainsFunc_iValidRiver_1_ok : SpecOk Try.prog 74 (evFn (envT Try.prog C31 mtab0) noLoops Try.f74) := fnL_ok (envT_ok (C31_ok) (mtab0_ok _)) mixedO Try.func74 (by kernel_rfl) (c := bodyOf Try.f74) (by kernel_rfl) (loopFree_ok (by kernel_rfl))

theorem lContainsFunc_iValidRiver_1_told : SpecOk Try.prog 74 (toldO A_lContainsFunc_iValidRiver_1 R_lContainsFunc_iValidRiver_1 (fun x => lContainsFunc_iValidRiver_1 x) (C31 74)) := toldO_ok (by kernel_rfl) lContainsFunc_iValidRiver_1_ok (rest_ok (C31_ok) _) lContainsFunc_iValidRiver_1_m

noncomputable def C32 : Tab := tab 74 (toldO A_lContainsFunc_iValidRiver_1 R_lContainsFunc_iValidRiver_1 (fun x => lContainsFunc_iValidRiver_1 x) (C31 74)) C31
theorem C32_ok : TabOk Try.prog C32 := tab_ok (lContainsFunc_iValidRiver_1_told) (C31_ok)

def S_iValidRiver_l9 : Shp := ⟨[.ref 0 0, .undef, .h, .h, .h, .h, .h], [.cells [.h, .h, .h] false], [.i .i64, .i .i64, .i .i64, .i .i64, .i .i64, .sl [.i .i64], .sl [.i .i64, .i .i64, .i .i64, .i .i64], .sl [.i .i64]]⟩
def X_iValidRiver_l9 : List XShp := [(.ret, ⟨[.undef, .lb false, .undef, .undef, .undef, .undef, .undef], [], []⟩), (.exit 2, ⟨[.ref 0 0, .undef, .h, .undef, .undef, .h, .h], [.cells [.h, .h, .h] false], [.i .i64, .i .i64, .i .i64, .sl [.i .i64], .sl [.i .i64, .i .i64, .i .i64, .i .i64], .sl [.i .i64]]⟩)]

noncomputable def L_iValidRiver_l9 : Loops := (⟨66, lvT [(9, [1, 2, 3, 5, 6, 48, 49]), (5, [1, 2, 3, 48, 49])], mdT [(9, .normal, [], [2]), (9, .exit 2, [], [2, 5, 6]), (9, .ret, [], [1, 3, 5, 6, 48, 49]), (5, .normal, [], [2]), (5, .exit 0, [], [1, 2, 3, 48, 49]), (5, .ret, [], [1, 3, 48, 49])], fun k vs bs => .bad⟩ : Loops)

theorem iValidRiver_l9_e (y0 : Int) (y3 : Int) (y4 : Int) (y5 : List Int) (y6 : List (Int × Int × Int × Int)) (y7 : List Int) (s : Int × Int) : (loopStep (envT Try.prog C32 mtab0) L_iValidRiver_l9 9 (loopC (loopC (bodyOf Try.f37) 5) 9) (S_iValidRiver_l9.enc (y0, s.1, s.2, y3, y4, y5, y6, y7)).1 (S_iValidRiver_l9.enc (y0, s.1, s.2, y3, y4, y5, y6, y7)).2).to (stepD S_iValidRiver_l9 X_iValidRiver_l9) = (iValidRiver_l9_t y0 y3 y4 y5 y6 y7 s.1 s.2).map (Sum.map (fun s : Int × Int => (show DR S_iValidRiver_l9.hs from (y0, s.1, s.2, y3, y4, y5, y6, y7))) id) := by kernel_rfl

theorem iValidRiver_l9_r (x : DR S_iValidRiver_l9.hs) : (iValidRiver_l9 x.1 x.2.1 x.2.2.1 x.2.2.2.1 x.2.2.2.2.1 x.2.2.2.2.2.1 x.2.2.2.2.2.2.1 x.2.2.2.2.2.2.2 : Option (SumD (X_iValidRiver_l9.map (·.2)))) = runL (meanS (envT Try.prog C32 mtab0) L_iValidRiver_l9 9 (loopC (loopC (bodyOf Try.f37) 5) 9) S_iValidRiver_l9 X_iValidRiver_l9) x := run_of (fun s : Int × Int => (show DR S_iValidRiver_l9.hs from (x.1, s.1, s.2, x.2.2.2.1, x.2.2.2.2.1, x.2.2.2.2.2.1, x.2.2.2.2.2.2.1, x.2.2.2.2.2.2.2))) (iValidRiver_l9_e (x.1) (x.2.2.2.1) (x.2.2.2.2.1) (x.2.2.2.2.2.1) (x.2.2.2.2.2.2.1) (x.2.2.2.2.2.2.2)) (x.2.1, x.2.2.1)

theorem iValidRiver_l9_k (L : Loops) (hn : L_iValidRiver_l9.n = L.n) (hlv : L_iValidRiver_l9.lv 9 = L.lv 9) (hL : ∀ vs bs, L.loop 9 vs bs = toldL S_iValidRiver_l9 X_iValidRiver_l9 (fun x => iValidRiver_l9 x.1 x.2.1 x.2.2.1 x.2.2.2.1 x.2.2.2.2.1 x.2.2.2.2.2.1 x.2.2.2.2.2.2.1 x.2.2.2.2.2.2.2) vs bs) : LOk Try.prog (envT Try.prog C32 mtab0) L 9 (loopC (loopC (bodyOf Try.f37) 5) 9) := toldL_ok (L1 := L_iValidRiver_l9) (envT_ok (C32_ok) (mtab0_ok _)) mixedO hn hlv (loopFree_ok (by kernel_rfl)) iValidRiver_l9_r hL

def S_iValidRiver_l5 : Shp := ⟨[.ref 0 0, .undef, .h, .h, .h], [.cells [.h, .h, .h] false], [.i .i64, .i .i64, .i .i64, .sl [.i .i64], .sl [.i .i64, .i .i64, .i .i64, .i .i64], .sl [.i .i64]]⟩
def X_iValidRiver_l5 : List XShp := [(.ret, ⟨[.undef, .lb false, .undef, .undef, .undef], [], []⟩), (.exit 0, ⟨[.undef, .undef, .undef, .undef, .undef], [], []⟩)]

noncomputable def L_iValidRiver_l5 : Loops := (⟨66, lvT [(9, [1, 2, 3, 5, 6, 48, 49]), (5, [1, 2, 3, 48, 49])], mdT [(9, .normal, [], [2]), (9, .exit 2, [], [2, 5, 6]), (9, .ret, [], [1, 3, 5, 6, 48, 49]), (5, .normal, [], [2]), (5, .exit 0, [], [1, 2, 3, 48, 49]), (5, .ret, [], [1, 3, 48, 49])], fun k vs bs => bif Nat.beq k 9 then toldL S_iValidRiver_l9 X_iValidRiver_l9 (fun x => iValidRiver_l9 x.1 x.2.1 x.2.2.1 x.2.2.2.1 x.2.2.2.2.1 x.2.2.2.2.2.1 x.2.2.2.2.2.2.1 x.2.2.2.2.2.2.2) vs bs else .bad⟩ : Loops)

theorem iValidRiver_l5_e (s : Int × Int × Int × List Int × (List (Int × Int × Int × Int)) × List Int) : (loopStep (envT Try.prog C32 mtab0) L_iValidRiver_l5 5 (loopC (bodyOf Try.f37) 5) (S_iValidRiver_l5.enc (s.1, s.2.1, s.2.2.1, s.2.2.2.1, s.2.2.2.2.1, s.2.2.2.2.2)).1 (S_iValidRiver_l5.enc (s.1, s.2.1, s.2.2.1, s.2.2.2.1, s.2.2.2.2.1, s.2.2.2.2.2)).2).to (stepD S_iValidRiver_l5 X_iValidRiver_l5) = (iValidRiver_l5_t  s.1 s.2.1 s.2.2.1 s.2.2.2.1 s.2.2.2.2.1 s.2.2.2.2.2).map (Sum.map (fun s : Int × Int × Int × List Int × (List (Int × Int × Int × Int)) × List Int => (show DR S_iValidRiver_l5.hs from (s.1, s.2.1, s.2.2.1, s.2.2.2.1, s.2.2.2.2.1, s.2.2.2.2.2))) id) := by kernel_rfl

theorem iValidRiver_l5_r (x : DR S_iValidRiver_l5.hs) : (iValidRiver_l5 x.1 x.2.1 x.2.2.1 x.2.2.2.1 x.2.2.2.2.1 x.2.2.2.2.2 : Option (SumD (X_iValidRiver_l5.map (·.2)))) = runL (meanS (envT Try.prog C32 mtab0) L_iValidRiver_l5 5 (loopC (bodyOf Try.f37) 5) S_iValidRiver_l5 X_iValidRiver_l5) x := run_of (fun s : Int × Int × Int × List Int × (List (Int × Int × Int × Int)) × List Int => (show DR S_iValidRiver_l5.hs from (s.1, s.2.1, s.2.2.1, s.2.2.2.1, s.2.2.2.2.1, s.2.2.2.2.2))) (iValidRiver_l5_e ) (x.1, x.2.1, x.2.2.1, x.2.2.2.1, x.2.2.2.2.1, x.2.2.2.2.2)

theorem iValidRiver_l5_k (L : Loops) (hn : L_iValidRiver_l5.n = L.n) (hlv : L_iValidRiver_l5.lv 5 = L.lv 5) (hL : ∀ vs bs, L.loop 5 vs bs = toldL S_iValidRiver_l5 X_iValidRiver_l5 (fun x => iValidRiver_l5 x.1 x.2.1 x.2.2.1 x.2.2.2.1 x.2.2.2.2.1 x.2.2.2.2.2) vs bs) : LOk Try.prog (envT Try.prog C32 mtab0) L 5 (loopC (bodyOf Try.f37) 5) := toldL_ok (L1 := L_iValidRiver_l5) (envT_ok (C32_ok) (mtab0_ok _)) mixedO hn hlv (loopsL (l := [(9, loopC (loopC (bodyOf Try.f37) 5) 9)]) (by kernel_rfl) (lk_cons (iValidRiver_l9_k _ rfl rfl (fun _ _ => rfl)) lk_nil)) iValidRiver_l5_r hL

def A_iValidRiver : Shp := ⟨[.agg [.h, .h, .h]], [], [.sl [.i .i64], .sl [.i .i64, .i .i64, .i .i64, .i .i64], .sl [.i .i64]]⟩
def R_iValidRiver : List XShp := [(.ret, ⟨[.h], [], [.b]⟩)]

noncomputable def L_iValidRiver : Loops := (⟨66, lvT [(9, [1, 2, 3, 5, 6, 48, 49]), (5, [1, 2, 3, 48, 49])], mdT [(9, .normal, [], [2]), (9, .exit 2, [], [2, 5, 6]), (9, .ret, [], [1, 3, 5, 6, 48, 49]), (5, .normal, [], [2]), (5, .exit 0, [], [1, 2, 3, 48, 49]), (5, .ret, [], [1, 3, 48, 49])], fun k vs bs => bif Nat.beq k 5 then toldL S_iValidRiver_l5 X_iValidRiver_l5 (fun x => iValidRiver_l5 x.1 x.2.1 x.2.2.1 x.2.2.2.1 x.2.2.2.2.1 x.2.2.2.2.2) vs bs else .bad⟩ : Loops)

theorem iValidRiver_e (x : DR A_iValidRiver.hs) : (evFn (envT Try.prog C32 mtab0) L_iValidRiver Try.f37 (A_iValidRiver.enc x).1).to (fun q => decX R_iValidRiver .ret [q.1] q.2) = iValidRiver_t x.1 x.2.1 x.2.2 := by kernel_rfl

theorem iValidRiver_m (x : DR A_iValidRiver.hs) : meanF (envT Try.prog C32 mtab0) L_iValidRiver Try.f37 A_iValidRiver R_iValidRiver x = (show Option (SumD (R_iValidRiver.map (·.2))) from iValidRiver x.1 x.2.1 x.2.2) := meanF_of (iValidRiver_e x)

theorem iValidRiver_ok : SpecOk Try.prog 37 (evFn (envT Try.prog C32 mtab0) L_iValidRiver Try.f37) := fnL_ok (envT_ok (C32_ok) (mtab0_ok _)) mixedO Try.func37 (by kernel_rfl) (c := bodyOf Try.f37) (by kernel_rfl) (loopsL (l := [(5, loopC (bodyOf Try.f37) 5)]) (by kernel_rfl) (lk_cons (iValidRiver_l5_k _ rfl rfl (fun _ _ => rfl)) lk_nil))

theorem iValidRiver_told : SpecOk Try.prog 37 (toldO A_iValidRiver R_iValidRiver (fun x => iValidRiver x.1 x.2.1 x.2.2) (C32 37)) := toldO_ok (by kernel_rfl) iValidRiver_ok (rest_ok (C32_ok) _) iValidRiver_m

noncomputable def C33 : Tab := tab 37 (toldO A_iValidRiver R_iValidRiver (fun x => iValidRiver x.1 x.2.1 x.2.2) (C32 37)) C32
theorem C33_ok : TabOk Try.prog C33 := tab_ok (iValidRiver_told) (C32_ok)

def S_iRiver_stored_l3 : Shp := ⟨[.h, .h, .h, .h], [], [.i .i64, .sl [.i .i64, .i .i64, .i .i64, .i .i64], .i .i64, .i .i64]⟩
def X_iRiver_stored_l3 : List XShp := [(.exit 0, ⟨[.h, .undef, .undef, .undef], [], [.i .i64]⟩)]

noncomputable def L_iRiver_stored_l3 : Loops := (⟨19, lvT [(3, [3, 7, 8, 9])], mdT [(3, .exit 0, [], [7, 8, 9])], fun k vs bs => .bad⟩ : Loops)

theorem iRiver_stored_l3_e (y1 : List (Int × Int × Int × Int)) (y2 : Int) (s : Int × Int) : (loopStep (envT Try.prog C33 mtab0) L_iRiver_stored_l3 3 (loopC (bodyOf Try.f78) 3) (S_iRiver_stored_l3.enc (s.1, y1, y2, s.2)).1 (S_iRiver_stored_l3.enc (s.1, y1, y2, s.2)).2).to (stepD S_iRiver_stored_l3 X_iRiver_stored_l3) = (iRiver_stored_l3_t y1 y2 s.1 s.2).map (Sum.map (fun s : Int × Int => (show DR S_iRiver_stored_l3.hs from (s.1, y1, y2, s.2))) id) := by kernel_rfl

theorem iRiver_stored_l3_r (x : DR S_iRiver_stored_l3.hs) : (iRiver_stored_l3 x.1 x.2.1 x.2.2.1 x.2.2.2 : Option (SumD (X_iRiver_stored_l3.map (·.2)))) = runL (meanS (envT Try.prog C33 mtab0) L_iRiver_stored_l3 3 (loopC (bodyOf Try.f78) 3) S_iRiver_stored_l3 X_iRiver_stored_l3) x := run_of (fun s : Int × Int => (show DR S_iRiver_stored_l3.hs from (s.1, x.2.1, x.2.2.1, s.2))) (iRiver_stored_l3_e (x.2.1) (x.2.2.1)) (x.1, x.2.2.2)

theorem iRiver_stored_l3_k (L : Loops) (hn : L_iRiver_stored_l3.n = L.n) (hlv : L_iRiver_stored_l3.lv 3 = L.lv 3) (hL : ∀ vs bs, L.loop 3 vs bs = toldL S_iRiver_stored_l3 X_iRiver_stored_l3 (fun x => iRiver_stored_l3 x.1 x.2.1 x.2.2.1 x.2.2.2) vs bs) : LOk Try.prog (envT Try.prog C33 mtab0) L 3 (loopC (bodyOf Try.f78) 3) := toldL_ok (L1 := L_iRiver_stored_l3) (envT_ok (C33_ok) (mtab0_ok _)) mixedO hn hlv (loopFree_ok (by kernel_rfl)) iRiver_stored_l3_r hL

def A_iRiver_stored : Shp := ⟨[.agg [.h, .h, .h]], [], [.sl [.i .i64], .sl [.i .i64, .i .i64, .i .i64, .i .i64], .sl [.i .i64]]⟩
def R_iRiver_stored : List XShp := [(.ret, ⟨[.h], [], [.i .i64]⟩)]

noncomputable def L_iRiver_stored : Loops := (⟨19, lvT [(3, [3, 7, 8, 9])], mdT [(3, .exit 0, [], [7, 8, 9])], fun k vs bs => bif Nat.beq k 3 then toldL S_iRiver_stored_l3 X_iRiver_stored_l3 (fun x => iRiver_stored_l3 x.1 x.2.1 x.2.2.1 x.2.2.2) vs bs else .bad⟩ : Loops)

theorem iRiver_stored_e (x : DR A_iRiver_stored.hs) : (evFn (envT Try.prog C33 mtab0) L_iRiver_stored Try.f78 (A_iRiver_stored.enc x).1).to (fun q => decX R_iRiver_stored .ret [q.1] q.2) = iRiver_stored_t x.1 x.2.1 x.2.2 := by kernel_rfl

theorem iRiver_stored_m (x : DR A_iRiver_stored.hs) : meanF (envT Try.prog C33 mtab0) L_iRiver_stored Try.f78 A_iRiver_stored R_iRiver_stored x = (show Option (SumD (R_iRiver_stored.map (·.2))) from iRiver_stored x.1 x.2.1 x.2.2) := meanF_of (iRiver_stored_e x)

theorem iRiver_stored_ok : SpecOk Try.prog 78 (evFn (envT Try.prog C33 mtab0) L_iRiver_stored Try.f78) := fnL_ok (envT_ok (C33_ok) (mtab0_ok _)) mixedO Try.func78 (by kernel_rfl) (c := bodyOf Try.f78) (by kernel_rfl) (loopsL (l := [(3, loopC (bodyOf Try.f78) 3)]) (by kernel_rfl) (lk_cons (iRiver_stored_l3_k _ rfl rfl (fun _ _ => rfl)) lk_nil))

theorem iRiver_stored_told : SpecOk Try.prog 78 (toldO A_iRiver_stored R_iRiver_stored (fun x => iRiver_stored x.1 x.2.1 x.2.2) (C33 78)) := toldO_ok (by kernel_rfl) iRiver_stored_ok (rest_ok (C33_ok) _) iRiver_stored_m

noncomputable def C34 : Tab := tab 78 (toldO A_iRiver_stored R_iRiver_stored (fun x => iRiver_stored x.1 x.2.1 x.2.2) (C33 78)) C33
theorem C34_ok : TabOk Try.prog C34 := tab_ok (iRiver_stored_told) (C33_ok)

def A_iStoredIn : Shp := ⟨[.agg [.h, .h, .h]], [], [.sl [.i .i64], .sl [.i .i64, .i .i64, .i .i64, .i .i64], .sl [.i .i64]]⟩
def R_iStoredIn : List XShp := [(.ret, ⟨[.tup [.h, .h]], [], [.i .i64, .b]⟩)]

theorem iStoredIn_e (x : DR A_iStoredIn.hs) : (evFn (envT Try.prog C34 mtab0) noLoops Try.f41 (A_iStoredIn.enc x).1).to (fun q => decX R_iStoredIn .ret [q.1] q.2) = iStoredIn_t x.1 x.2.1 x.2.2 := by kernel_rfl

theorem iStoredIn_m (x : DR A_iStoredIn.hs) : meanF (envT Try.prog C34 mtab0) noLoops Try.f41 A_iStoredIn R_iStoredIn x = (show Option (SumD (R_iStoredIn.map (·.2))) from iStoredIn x.1 x.2.1 x.2.2) := meanF_of (iStoredIn_e x)

theorem iStoredIn_ok : SpecOk Try.prog 41 (evFn (envT Try.prog C34 mtab0) noLoops Try.f41) := fnL_ok (envT_ok (C34_ok) (mtab0_ok _)) mixedO Try.func41 (by kernel_rfl) (c := bodyOf Try.f41) (by kernel_rfl) (loopFree_ok (by kernel_rfl))

theorem iStoredIn_told : SpecOk Try.prog 41 (toldO A_iStoredIn R_iStoredIn (fun x => iStoredIn x.1 x.2.1 x.2.2) (C34 41)) := toldO_ok (by kernel_rfl) iStoredIn_ok (rest_ok (C34_ok) _) iStoredIn_m

noncomputable def C35 : Tab := tab 41 (toldO A_iStoredIn R_iStoredIn (fun x => iStoredIn x.1 x.2.1 x.2.2) (C34 41)) C34
theorem C35_ok : TabOk Try.prog C35 := tab_ok (iStoredIn_told) (C34_ok)

def A_wFnExactStoredIn : Shp := ⟨[.agg [.h, .h, .h]], [], [.sl [.i .i64], .sl [.i .i64, .i .i64, .i .i64, .i .i64], .sl [.i .i64]]⟩
def R_wFnExactStoredIn : List XShp := [(.ret, ⟨[.h], [], [.b]⟩)]

theorem wFnExactStoredIn_e (x : DR A_wFnExactStoredIn.hs) : (evFn (envT Try.prog C35 mtab0) noLoops Try.f9 (A_wFnExactStoredIn.enc x).1).to (fun q => decX R_wFnExactStoredIn .ret [q.1] q.2) = wFnExactStoredIn_t x.1 x.2.1 x.2.2 := by kernel_rfl

theorem wFnExactStoredIn_m (x : DR A_wFnExactStoredIn.hs) : meanF (envT Try.prog C35 mtab0) noLoops Try.f9 A_wFnExactStoredIn R_wFnExactStoredIn x = (show Option (SumD (R_wFnExactStoredIn.map (·.2))) from wFnExactStoredIn x.1 x.2.1 x.2.2) := meanF_of (wFnExactStoredIn_e x)

theorem wFnExactStoredIn_ok : SpecOk Try.prog 9 (evFn (envT Try.prog C35 mtab0) noLoops Try.f9) := fnL_ok (envT_ok (C35_ok) (mtab0_ok _)) mixedO Try.func9 (by kernel_rfl) (c := bodyOf Try.f9) (by kernel_rfl) (loopFree_ok (by kernel_rfl))

theorem wFnExactStoredIn_told : SpecOk Try.prog 9 (toldO A_wFnExactStoredIn R_wFnExactStoredIn (fun x => wFnExactStoredIn x.1 x.2.1 x.2.2) (C35 9)) := toldO_ok (by kernel_rfl) wFnExactStoredIn_ok (rest_ok (C35_ok) _) wFnExactStoredIn_m

noncomputable def C36 : Tab := tab 9 (toldO A_wFnExactStoredIn R_wFnExactStoredIn (fun x => wFnExactStoredIn x.1 x.2.1 x.2.2) (C35 9)) C35
theorem C36_ok : TabOk Try.prog C36 := tab_ok (wFnExactStoredIn_told) (C35_ok)

theorem lawFnExactStoredIn_ok : SpecOk Try.prog 9 (evFn (envT Try.prog C35 mtab0) noLoops Try.f9) := wFnExactStoredIn_ok
theorem lawFnExactStoredIn_says (x : DR A_wFnExactStoredIn.hs) (h : (show Option (SumD (R_wFnExactStoredIn.map (·.2))) from wFnExactStoredIn x.1 x.2.1 x.2.2) = some true) : saysTrue (evFn (envT Try.prog C35 mtab0) noLoops Try.f9 (A_wFnExactStoredIn.enc x).1) = true := law_says (x := x) ((wFnExactStoredIn_m x).trans h)

theorem lawFnExactStoredIn_true (x0 : List Int) (x1 : List (Int × Int × Int × Int)) (x2 : List Int) (h : wFnExactStoredIn x0 x1 x2 = some true) : saysTrue (evFn (envT Try.prog C35 mtab0) noLoops Try.f9 [.agg [.ds [.i .i64] x0, .ds [.i .i64, .i .i64, .i .i64, .i .i64] x1, .ds [.i .i64] x2]]) = true := (congrArg (fun l => saysTrue (evFn (envT Try.prog C35 mtab0) noLoops Try.f9 l)) (by kernel_rfl : ([.agg [.ds [.i .i64] x0, .ds [.i .i64, .i .i64, .i .i64, .i .i64] x1, .ds [.i .i64] x2]] : List V) = (A_wFnExactStoredIn.enc (x0, x1, x2)).1)).trans (lawFnExactStoredIn_says (x0, x1, x2) h)

def S_sOutletsOf_l5 : Shp := ⟨[.ref 0 0, .slw 1 1, .h], [.cells [.h, .h, .h] false, .arr [.i .i64] false], [.i .i64, .sl [.i .i64], .sl [.i .i64, .i .i64, .i .i64, .i .i64], .sl [.i .i64], .sl [.i .i64]]⟩
def X_sOutletsOf_l5 : List XShp := [(.exit 0, ⟨[.undef, .slw 0 1, .undef], [.arr [.i .i64] false], [.sl [.i .i64]]⟩)]

noncomputable def L_sOutletsOf_l5 : Loops := (⟨27, lvT [(5, [1, 4, 5])], mdT [(5, .exit 0, [], [1, 5])], fun k vs bs => .bad⟩ : Loops)

theorem sOutletsOf_l5_e (y1 : List Int) (y2 : List (Int × Int × Int × Int)) (y3 : List Int) (s : Int × List Int) : (loopStep (envT Try.prog C36 mtab0) L_sOutletsOf_l5 5 (loopC (bodyOf Try.f44) 5) (S_sOutletsOf_l5.enc (s.1, y1, y2, y3, s.2)).1 (S_sOutletsOf_l5.enc (s.1, y1, y2, y3, s.2)).2).to (stepD S_sOutletsOf_l5 X_sOutletsOf_l5) = (sOutletsOf_l5_t y1 y2 y3 s.1 s.2).map (Sum.map (fun s : Int × List Int => (show DR S_sOutletsOf_l5.hs from (s.1, y1, y2, y3, s.2))) id) := by kernel_rfl

theorem sOutletsOf_l5_r (x : DR S_sOutletsOf_l5.hs) : (sOutletsOf_l5 x.1 x.2.1 x.2.2.1 x.2.2.2.1 x.2.2.2.2 : Option (SumD (X_sOutletsOf_l5.map (·.2)))) = runL (meanS (envT Try.prog C36 mtab0) L_sOutletsOf_l5 5 (loopC (bodyOf Try.f44) 5) S_sOutletsOf_l5 X_sOutletsOf_l5) x := run_of (fun s : Int × List Int => (show DR S_sOutletsOf_l5.hs from (s.1, x.2.1, x.2.2.1, x.2.2.2.1, s.2))) (sOutletsOf_l5_e (x.2.1) (x.2.2.1) (x.2.2.2.1)) (x.1, x.2.2.2.2)

theorem sOutletsOf_l5_k (L : Loops) (hn : L_sOutletsOf_l5.n = L.n) (hlv : L_sOutletsOf_l5.lv 5 = L.lv 5) (hL : ∀ vs bs, L.loop 5 vs bs = toldL S_sOutletsOf_l5 X_sOutletsOf_l5 (fun x => sOutletsOf_l5 x.1 x.2.1 x.2.2.1 x.2.2.2.1 x.2.2.2.2) vs bs) : LOk Try.prog (envT Try.prog C36 mtab0) L 5 (loopC (bodyOf Try.f44) 5) := toldL_ok (L1 := L_sOutletsOf_l5) (envT_ok (C36_ok) (mtab0_ok _)) mixedO hn hlv (loopFree_ok (by kernel_rfl)) sOutletsOf_l5_r hL

def A_sOutletsOf : Shp := ⟨[.agg [.h, .h, .h]], [], [.sl [.i .i64], .sl [.i .i64, .i .i64, .i .i64, .i .i64], .sl [.i .i64]]⟩
def R_sOutletsOf : List XShp := [(.ret, ⟨[.tup [.nils, .lb false]], [], []⟩), (.ret, ⟨[.tup [.slw 0 1, .lb true]], [.arr [.i .i64] false], [.sl [.i .i64]]⟩)]

noncomputable def L_sOutletsOf : Loops := (⟨27, lvT [(5, [1, 4, 5])], mdT [(5, .exit 0, [], [1, 5])], fun k vs bs => bif Nat.beq k 5 then toldL S_sOutletsOf_l5 X_sOutletsOf_l5 (fun x => sOutletsOf_l5 x.1 x.2.1 x.2.2.1 x.2.2.2.1 x.2.2.2.2) vs bs else .bad⟩ : Loops)

theorem sOutletsOf_e (x : DR A_sOutletsOf.hs) : (evFn (envT Try.prog C36 mtab0) L_sOutletsOf Try.f44 (A_sOutletsOf.enc x).1).to (fun q => decX R_sOutletsOf .ret [q.1] q.2) = sOutletsOf_t x.1 x.2.1 x.2.2 := by kernel_rfl

theorem sOutletsOf_m (x : DR A_sOutletsOf.hs) : meanF (envT Try.prog C36 mtab0) L_sOutletsOf Try.f44 A_sOutletsOf R_sOutletsOf x = (show Option (SumD (R_sOutletsOf.map (·.2))) from sOutletsOf x.1 x.2.1 x.2.2) := meanF_of (sOutletsOf_e x)

theorem sOutletsOf_ok : SpecOk Try.prog 44 (evFn (envT Try.prog C36 mtab0) L_sOutletsOf Try.f44) := fnL_ok (envT_ok (C36_ok) (mtab0_ok _)) mixedO Try.func44 (by kernel_rfl) (c := bodyOf Try.f44) (by kernel_rfl) (loopsL (l := [(5, loopC (bodyOf Try.f44) 5)]) (by kernel_rfl) (lk_cons (sOutletsOf_l5_k _ rfl rfl (fun _ _ => rfl)) lk_nil))

theorem sOutletsOf_told : SpecOk Try.prog 44 (toldO A_sOutletsOf R_sOutletsOf (fun x => sOutletsOf x.1 x.2.1 x.2.2) (C36 44)) := toldO_ok (by kernel_rfl) sOutletsOf_ok (rest_ok (C36_ok) _) sOutletsOf_m

noncomputable def C37 : Tab := tab 44 (toldO A_sOutletsOf R_sOutletsOf (fun x => sOutletsOf x.1 x.2.1 x.2.2) (C36 44)) C36
theorem C37_ok : TabOk Try.prog C37 := tab_ok (sOutletsOf_told) (C36_ok)

def S_iOutletsOf_l5 : Shp := ⟨[.slw 0 1, .h, .h, .h], [.arr [.i .i64] false], [.sl [.i .i64], .i .i64, .i .i64, .sl [.i .i64]]⟩
def X_iOutletsOf_l5 : List XShp := [(.exit 0, ⟨[.slw 0 1, .undef, .undef, .undef], [.arr [.i .i64] false], [.sl [.i .i64]]⟩)]

noncomputable def L_iOutletsOf_l5 : Loops := (⟨27, lvT [(5, [4, 12, 13, 14])], mdT [(5, .exit 0, [], [12, 13, 14])], fun k vs bs => .bad⟩ : Loops)

theorem iOutletsOf_l5_e (y0 : List Int) (y1 : Int) (s : Int × List Int) : (loopStep (envT Try.prog C37 mtab0) L_iOutletsOf_l5 5 (loopC (bodyOf Try.f45) 5) (S_iOutletsOf_l5.enc (y0, y1, s.1, s.2)).1 (S_iOutletsOf_l5.enc (y0, y1, s.1, s.2)).2).to (stepD S_iOutletsOf_l5 X_iOutletsOf_l5) = (iOutletsOf_l5_t y0 y1 s.1 s.2).map (Sum.map (fun s : Int × List Int => (show DR S_iOutletsOf_l5.hs from (y0, y1, s.1, s.2))) id) := by kernel_rfl

theorem iOutletsOf_l5_r (x : DR S_iOutletsOf_l5.hs) : (iOutletsOf_l5 x.1 x.2.1 x.2.2.1 x.2.2.2 : Option (SumD (X_iOutletsOf_l5.map (·.2)))) = runL (meanS (envT Try.prog C37 mtab0) L_iOutletsOf_l5 5 (loopC (bodyOf Try.f45) 5) S_iOutletsOf_l5 X_iOutletsOf_l5) x := run_of (fun s : Int × List Int => (show DR S_iOutletsOf_l5.hs from (x.1, x.2.1, s.1, s.2))) (iOutletsOf_l5_e (x.1) (x.2.1)) (x.2.2.1, x.2.2.2)

theorem iOutletsOf_l5_k (L : Loops) (hn : L_iOutletsOf_l5.n = L.n) (hlv : L_iOutletsOf_l5.lv 5 = L.lv 5) (hL : ∀ vs bs, L.loop 5 vs bs = toldL S_iOutletsOf_l5 X_iOutletsOf_l5 (fun x => iOutletsOf_l5 x.1 x.2.1 x.2.2.1 x.2.2.2) vs bs) : LOk Try.prog (envT Try.prog C37 mtab0) L 5 (loopC (bodyOf Try.f45) 5) := toldL_ok (L1 := L_iOutletsOf_l5) (envT_ok (C37_ok) (mtab0_ok _)) mixedO hn hlv (loopFree_ok (by kernel_rfl)) iOutletsOf_l5_r hL

def A_iOutletsOf : Shp := ⟨[.agg [.h, .h, .h]], [], [.sl [.i .i64], .sl [.i .i64, .i .i64, .i .i64, .i .i64], .sl [.i .i64]]⟩
def R_iOutletsOf : List XShp := [(.ret, ⟨[.tup [.nils, .lb false]], [], []⟩), (.ret, ⟨[.tup [.slw 0 1, .lb true]], [.arr [.i .i64] false], [.sl [.i .i64]]⟩)]

noncomputable def L_iOutletsOf : Loops := (⟨27, lvT [(5, [4, 12, 13, 14])], mdT [(5, .exit 0, [], [12, 13, 14])], fun k vs bs => bif Nat.beq k 5 then toldL S_iOutletsOf_l5 X_iOutletsOf_l5 (fun x => iOutletsOf_l5 x.1 x.2.1 x.2.2.1 x.2.2.2) vs bs else .bad⟩ : Loops)

theorem iOutletsOf_e (x : DR A_iOutletsOf.hs) : (evFn (envT Try.prog C37 mtab0) L_iOutletsOf Try.f45 (A_iOutletsOf.enc x).1).to (fun q => decX R_iOutletsOf .ret [q.1] q.2) = iOutletsOf_t x.1 x.2.1 x.2.2 := by kernel_rfl

theorem iOutletsOf_m (x : DR A_iOutletsOf.hs) : meanF (envT Try.prog C37 mtab0) L_iOutletsOf Try.f45 A_iOutletsOf R_iOutletsOf x = (show Option (SumD (R_iOutletsOf.map (·.2))) from iOutletsOf x.1 x.2.1 x.2.2) := meanF_of (iOutletsOf_e x)

theorem iOutletsOf_ok : SpecOk Try.prog 45 (evFn (envT Try.prog C37 mtab0) L_iOutletsOf Try.f45) := fnL_ok (envT_ok (C37_ok) (mtab0_ok _)) mixedO Try.func45 (by kernel_rfl) (c := bodyOf Try.f45) (by kernel_rfl) (loopsL (l := [(5, loopC (bodyOf Try.f45) 5)]) (by kernel_rfl) (lk_cons (iOutletsOf_l5_k _ rfl rfl (fun _ _ => rfl)) lk_nil))

theorem iOutletsOf_told : SpecOk Try.prog 45 (toldO A_iOutletsOf R_iOutletsOf (fun x => iOutletsOf x.1 x.2.1 x.2.2) (C37 45)) := toldO_ok (by kernel_rfl) iOutletsOf_ok (rest_ok (C37_ok) _) iOutletsOf_m

noncomputable def C38 : Tab := tab 45 (toldO A_iOutletsOf R_iOutletsOf (fun x => iOutletsOf x.1 x.2.1 x.2.2) (C37 45)) C37
theorem C38_ok : TabOk Try.prog C38 := tab_ok (iOutletsOf_told) (C37_ok)

def S_wmarkInt64S_l2 : Shp := ⟨[.slw 0 1, .h, .h], [.arr [.i .i64] false], [.i .i64, .i .i64, .sl [.i .i64]]⟩
def X_wmarkInt64S_l2 : List XShp := [(.exit 0, ⟨[.undef, .h, .undef], [.arr [.i .i64] false], [.i .i64, .sl [.i .i64]]⟩)]

noncomputable def L_wmarkInt64S_l2 : Loops := (⟨19, lvT [(2, [0, 1, 5])], mdT [(2, .exit 0, [], [0, 5])], fun k vs bs => .bad⟩ : Loops)

theorem wmarkInt64S_l2_e (s : Int × Int × List Int) : (loopStep (envW Try.prog C38 mtab0 1) L_wmarkInt64S_l2 2 (loopC (bodyOf Try.f19) 2) (S_wmarkInt64S_l2.enc (s.1, s.2.1, s.2.2)).1 (S_wmarkInt64S_l2.enc (s.1, s.2.1, s.2.2)).2).to (stepD S_wmarkInt64S_l2 X_wmarkInt64S_l2) = (wmarkInt64S_l2_t  s.1 s.2.1 s.2.2).map (Sum.map (fun s : Int × Int × List Int => (show DR S_wmarkInt64S_l2.hs from (s.1, s.2.1, s.2.2))) id) := by kernel_rfl

theorem wmarkInt64S_l2_r (x : DR S_wmarkInt64S_l2.hs) : (wmarkInt64S_l2 x.1 x.2.1 x.2.2 : Option (SumD (X_wmarkInt64S_l2.map (·.2)))) = runL (meanS (envW Try.prog C38 mtab0 1) L_wmarkInt64S_l2 2 (loopC (bodyOf Try.f19) 2) S_wmarkInt64S_l2 X_wmarkInt64S_l2) x := run_of (fun s : Int × Int × List Int => (show DR S_wmarkInt64S_l2.hs from (s.1, s.2.1, s.2.2))) (wmarkInt64S_l2_e ) (x.1, x.2.1, x.2.2)

theorem wmarkInt64S_l2_k (L : Loops) (hn : L_wmarkInt64S_l2.n = L.n) (hlv : L_wmarkInt64S_l2.lv 2 = L.lv 2) (hL : ∀ vs bs, L.loop 2 vs bs = toldL S_wmarkInt64S_l2 X_wmarkInt64S_l2 (fun x => wmarkInt64S_l2 x.1 x.2.1 x.2.2) vs bs) : LOk Try.prog (envW Try.prog C38 mtab0 1) L 2 (loopC (bodyOf Try.f19) 2) := toldL_ok (L1 := L_wmarkInt64S_l2) (envW_ok (C38_ok) (mtab0_ok _)) mixedO hn hlv (loopFree_ok (by kernel_rfl)) wmarkInt64S_l2_r hL

def A_wmarkInt64S : Shp := ⟨[.slw 0 1, .h], [.arr [.i .i64] false], [.i .i64, .sl [.i .i64]]⟩
def R_wmarkInt64S : List XShp := [(.ret, ⟨[.h], [.arr [.i .i64] false], [.i .i64, .sl [.i .i64]]⟩)]

noncomputable def L_wmarkInt64S : Loops := (⟨19, lvT [(2, [0, 1, 5])], mdT [(2, .exit 0, [], [0, 5])], fun k vs bs => bif Nat.beq k 2 then toldL S_wmarkInt64S_l2 X_wmarkInt64S_l2 (fun x => wmarkInt64S_l2 x.1 x.2.1 x.2.2) vs bs else .bad⟩ : Loops)

theorem wmarkInt64S_e (x : DR A_wmarkInt64S.hs) : (evFnM (envW Try.prog C38 mtab0 1) L_wmarkInt64S Try.f19 (A_wmarkInt64S.enc x).1 ((A_wmarkInt64S.enc x).2.map (·.blk))).to (decM R_wmarkInt64S) = wmarkInt64S_t x.1 x.2 := by kernel_rfl

theorem wmarkInt64S_m (x : DR A_wmarkInt64S.hs) : meanM (envW Try.prog C38 mtab0 1) L_wmarkInt64S Try.f19 A_wmarkInt64S R_wmarkInt64S x = (show Option (SumD (R_wmarkInt64S.map (·.2))) from wmarkInt64S x.1 x.2) := meanM_of (wmarkInt64S_e x)

theorem wmarkInt64S_ok : MSpecOk Try.prog 19 (evFnM (envW Try.prog C38 mtab0 1) L_wmarkInt64S Try.f19) := fnM_ok (envW_ok (C38_ok) (mtab0_ok _)) rfl mixedO Try.func19 (by kernel_rfl) (c := bodyOf Try.f19) (by kernel_rfl) (loopsL (l := [(2, loopC (bodyOf Try.f19) 2)]) (by kernel_rfl) (lk_cons (wmarkInt64S_l2_k _ rfl rfl (fun _ _ => rfl)) lk_nil))

theorem wmarkInt64S_told : MSpecOk Try.prog 19 (toldMO A_wmarkInt64S R_wmarkInt64S (fun x => wmarkInt64S x.1 x.2) (mrest mtab0 19)) := toldMO_ok (by kernel_rfl) wmarkInt64S_ok (mrest_ok (mtab0_ok _) _) wmarkInt64S_m

noncomputable def M39 : MTab := mtab 19 (toldMO A_wmarkInt64S R_wmarkInt64S (fun x => wmarkInt64S x.1 x.2) (mrest mtab0 19)) mtab0
theorem M39_ok : MTabOk Try.prog M39 := mtab_ok (wmarkInt64S_told) (mtab0_ok _)

def S_wmarkDamS_l2 : Shp := ⟨[.slw 0 4, .h, .h], [.arr [.i .i64, .i .i64, .i .i64, .i .i64] false], [.i .i64, .i .i64, .sl [.i .i64, .i .i64, .i .i64, .i .i64]]⟩
def X_wmarkDamS_l2 : List XShp := [(.exit 0, ⟨[.undef, .h, .undef], [.arr [.i .i64, .i .i64, .i .i64, .i .i64] false], [.i .i64, .sl [.i .i64, .i .i64, .i .i64, .i .i64]]⟩)]

noncomputable def L_wmarkDamS_l2 : Loops := (⟨41, lvT [(2, [0, 1, 5])], mdT [(2, .exit 0, [], [0, 5])], fun k vs bs => .bad⟩ : Loops)

theorem wmarkDamS_l2_e (s : Int × Int × (List (Int × Int × Int × Int))) : (loopStep (envW Try.prog C38 M39 1) L_wmarkDamS_l2 2 (loopC (bodyOf Try.f69) 2) (S_wmarkDamS_l2.enc (s.1, s.2.1, s.2.2)).1 (S_wmarkDamS_l2.enc (s.1, s.2.1, s.2.2)).2).to (stepD S_wmarkDamS_l2 X_wmarkDamS_l2) = (wmarkDamS_l2_t  s.1 s.2.1 s.2.2).map (Sum.map (fun s : Int × Int × (List (Int × Int × Int × Int)) => (show DR S_wmarkDamS_l2.hs from (s.1, s.2.1, s.2.2))) id) := by kernel_rfl

theorem wmarkDamS_l2_r (x : DR S_wmarkDamS_l2.hs) : (wmarkDamS_l2 x.1 x.2.1 x.2.2 : Option (SumD (X_wmarkDamS_l2.map (·.2)))) = runL (meanS (envW Try.prog C38 M39 1) L_wmarkDamS_l2 2 (loopC (bodyOf Try.f69) 2) S_wmarkDamS_l2 X_wmarkDamS_l2) x := run_of (fun s : Int × Int × (List (Int × Int × Int × Int)) => (show DR S_wmarkDamS_l2.hs from (s.1, s.2.1, s.2.2))) (wmarkDamS_l2_e ) (x.1, x.2.1, x.2.2)

theorem wmarkDamS_l2_k (L : Loops) (hn : L_wmarkDamS_l2.n = L.n) (hlv : L_wmarkDamS_l2.lv 2 = L.lv 2) (hL : ∀ vs bs, L.loop 2 vs bs = toldL S_wmarkDamS_l2 X_wmarkDamS_l2 (fun x => wmarkDamS_l2 x.1 x.2.1 x.2.2) vs bs) : LOk Try.prog (envW Try.prog C38 M39 1) L 2 (loopC (bodyOf Try.f69) 2) := toldL_ok (L1 := L_wmarkDamS_l2) (envW_ok (C38_ok) (M39_ok)) mixedO hn hlv (loopFree_ok (by kernel_rfl)) wmarkDamS_l2_r hL

def A_wmarkDamS : Shp := ⟨[.slw 0 4, .h], [.arr [.i .i64, .i .i64, .i .i64, .i .i64] false], [.i .i64, .sl [.i .i64, .i .i64, .i .i64, .i .i64]]⟩
def R_wmarkDamS : List XShp := [(.ret, ⟨[.h], [.arr [.i .i64, .i .i64, .i .i64, .i .i64] false], [.i .i64, .sl [.i .i64, .i .i64, .i .i64, .i .i64]]⟩)]

noncomputable def L_wmarkDamS : Loops := (⟨41, lvT [(2, [0, 1, 5])], mdT [(2, .exit 0, [], [0, 5])], fun k vs bs => bif Nat.beq k 2 then toldL S_wmarkDamS_l2 X_wmarkDamS_l2 (fun x => wmarkDamS_l2 x.1 x.2.1 x.2.2) vs bs else .bad⟩ : Loops)

theorem wmarkDamS_e (x : DR A_wmarkDamS.hs) : (evFnM (envW Try.prog C38 M39 1) L_wmarkDamS Try.f69 (A_wmarkDamS.enc x).1 ((A_wmarkDamS.enc x).2.map (·.blk))).to (decM R_wmarkDamS) = wmarkDamS_t x.1 x.2 := by kernel_rfl

theorem wmarkDamS_m (x : DR A_wmarkDamS.hs) : meanM (envW Try.prog C38 M39 1) L_wmarkDamS Try.f69 A_wmarkDamS R_wmarkDamS x = (show Option (SumD (R_wmarkDamS.map (·.2))) from wmarkDamS x.1 x.2) := meanM_of (wmarkDamS_e x)

theorem wmarkDamS_ok : MSpecOk Try.prog 69 (evFnM (envW Try.prog C38 M39 1) L_wmarkDamS Try.f69) := fnM_ok (envW_ok (C38_ok) (M39_ok)) rfl mixedO Try.func69 (by kernel_rfl) (c := bodyOf Try.f69) (by kernel_rfl) (loopsL (l := [(2, loopC (bodyOf Try.f69) 2)]) (by kernel_rfl) (lk_cons (wmarkDamS_l2_k _ rfl rfl (fun _ _ => rfl)) lk_nil))

theorem wmarkDamS_told : MSpecOk Try.prog 69 (toldMO A_wmarkDamS R_wmarkDamS (fun x => wmarkDamS x.1 x.2) (mrest M39 69)) := toldMO_ok (by kernel_rfl) wmarkDamS_ok (mrest_ok (M39_ok) _) wmarkDamS_m

noncomputable def M40 : MTab := mtab 69 (toldMO A_wmarkDamS R_wmarkDamS (fun x => wmarkDamS x.1 x.2) (mrest M39 69)) M39
theorem M40_ok : MTabOk Try.prog M40 := mtab_ok (wmarkDamS_told) (M39_ok)

def A_wmarkRiver : Shp := ⟨[.agg [.slw 0 1, .slw 1 4, .slw 2 1], .h], [.arr [.i .i64] false, .arr [.i .i64, .i .i64, .i .i64, .i .i64] false, .arr [.i .i64] false], [.i .i64, .sl [.i .i64], .sl [.i .i64, .i .i64, .i .i64, .i .i64], .sl [.i .i64]]⟩
def R_wmarkRiver : List XShp := [(.ret, ⟨[.h], [.arr [.i .i64] false, .arr [.i .i64, .i .i64, .i .i64, .i .i64] false, .arr [.i .i64] false], [.i .i64, .sl [.i .i64], .sl [.i .i64, .i .i64, .i .i64, .i .i64], .sl [.i .i64]]⟩)]

theorem wmarkRiver_e (x : DR A_wmarkRiver.hs) : (evFnM (envW Try.prog C38 M40 3) noLoops Try.f28 (A_wmarkRiver.enc x).1 ((A_wmarkRiver.enc x).2.map (·.blk))).to (decM R_wmarkRiver) = wmarkRiver_t x.1 x.2.1 x.2.2.1 x.2.2.2 := by kernel_rfl

theorem wmarkRiver_m (x : DR A_wmarkRiver.hs) : meanM (envW Try.prog C38 M40 3) noLoops Try.f28 A_wmarkRiver R_wmarkRiver x = (show Option (SumD (R_wmarkRiver.map (·.2))) from wmarkRiver x.1 x.2.1 x.2.2.1 x.2.2.2) := meanM_of (wmarkRiver_e x)

theorem wmarkRiver_ok : MSpecOk Try.prog 28 (evFnM (envW Try.prog C38 M40 3) noLoops Try.f28) := fnM_ok (envW_ok (C38_ok) (M40_ok)) rfl mixedO Try.func28 (by kernel_rfl) (c := bodyOf Try.f28) (by kernel_rfl) (loopFree_ok (by kernel_rfl))

theorem wmarkRiver_told : MSpecOk Try.prog 28 (toldMO A_wmarkRiver R_wmarkRiver (fun x => wmarkRiver x.1 x.2.1 x.2.2.1 x.2.2.2) (mrest M40 28)) := toldMO_ok (by kernel_rfl) wmarkRiver_ok (mrest_ok (M40_ok) _) wmarkRiver_m

noncomputable def M41 : MTab := mtab 28 (toldMO A_wmarkRiver R_wmarkRiver (fun x => wmarkRiver x.1 x.2.1 x.2.2.1 x.2.2.2) (mrest M40 28)) M40
theorem M41_ok : MTabOk Try.prog M41 := mtab_ok (wmarkRiver_told) (M40_ok)

def S_wheldInt64S_l2 : Shp := ⟨[.h, .h, .undef, .h], [], [.sl [.i .i64], .i .i64, .i .i64]⟩
def X_wheldInt64S_l2 : List XShp := [(.ret, ⟨[.undef, .undef, .h, .undef], [], [.i .i64]⟩), (.exit 0, ⟨[.undef, .h, .undef, .undef], [], [.i .i64]⟩)]

noncomputable def L_wheldInt64S_l2 : Loops := (⟨21, lvT [(2, [0, 1, 4, 5])], mdT [(2, .normal, [], [4]), (2, .exit 0, [], [0, 4, 5]), (2, .ret, [], [0, 1, 5])], fun k vs bs => .bad⟩ : Loops)

theorem wheldInt64S_l2_e (y0 : List Int) (s : Int × Int) : (loopStep (envT Try.prog C38 M41) L_wheldInt64S_l2 2 (loopC (bodyOf Try.f20) 2) (S_wheldInt64S_l2.enc (y0, s.1, s.2)).1 (S_wheldInt64S_l2.enc (y0, s.1, s.2)).2).to (stepD S_wheldInt64S_l2 X_wheldInt64S_l2) = (wheldInt64S_l2_t y0 s.1 s.2).map (Sum.map (fun s : Int × Int => (show DR S_wheldInt64S_l2.hs from (y0, s.1, s.2))) id) := by kernel_rfl

theorem wheldInt64S_l2_r (x : DR S_wheldInt64S_l2.hs) : (wheldInt64S_l2 x.1 x.2.1 x.2.2 : Option (SumD (X_wheldInt64S_l2.map (·.2)))) = runL (meanS (envT Try.prog C38 M41) L_wheldInt64S_l2 2 (loopC (bodyOf Try.f20) 2) S_wheldInt64S_l2 X_wheldInt64S_l2) x := run_of (fun s : Int × Int => (show DR S_wheldInt64S_l2.hs from (x.1, s.1, s.2))) (wheldInt64S_l2_e (x.1)) (x.2.1, x.2.2)

theorem wheldInt64S_l2_k (L : Loops) (hn : L_wheldInt64S_l2.n = L.n) (hlv : L_wheldInt64S_l2.lv 2 = L.lv 2) (hL : ∀ vs bs, L.loop 2 vs bs = toldL S_wheldInt64S_l2 X_wheldInt64S_l2 (fun x => wheldInt64S_l2 x.1 x.2.1 x.2.2) vs bs) : LOk Try.prog (envT Try.prog C38 M41) L 2 (loopC (bodyOf Try.f20) 2) := toldL_ok (L1 := L_wheldInt64S_l2) (envT_ok (C38_ok) (M41_ok)) mixedO hn hlv (loopFree_ok (by kernel_rfl)) wheldInt64S_l2_r hL

def A_wheldInt64S : Shp := ⟨[.h, .h], [], [.sl [.i .i64], .i .i64]⟩
def R_wheldInt64S : List XShp := [(.ret, ⟨[.h], [], [.i .i64]⟩)]

noncomputable def L_wheldInt64S : Loops := (⟨21, lvT [(2, [0, 1, 4, 5])], mdT [(2, .normal, [], [4]), (2, .exit 0, [], [0, 4, 5]), (2, .ret, [], [0, 1, 5])], fun k vs bs => bif Nat.beq k 2 then toldL S_wheldInt64S_l2 X_wheldInt64S_l2 (fun x => wheldInt64S_l2 x.1 x.2.1 x.2.2) vs bs else .bad⟩ : Loops)

theorem wheldInt64S_e (x : DR A_wheldInt64S.hs) : (evFn (envT Try.prog C38 M41) L_wheldInt64S Try.f20 (A_wheldInt64S.enc x).1).to (fun q => decX R_wheldInt64S .ret [q.1] q.2) = wheldInt64S_t x.1 x.2 := by kernel_rfl

theorem wheldInt64S_m (x : DR A_wheldInt64S.hs) : meanF (envT Try.prog C38 M41) L_wheldInt64S Try.f20 A_wheldInt64S R_wheldInt64S x = (show Option (SumD (R_wheldInt64S.map (·.2))) from wheldInt64S x.1 x.2) := meanF_of (wheldInt64S_e x)

theorem wheldInt64S_ok : SpecOk Try.prog 20 (evFn (envT Try.prog C38 M41) L_wheldInt64S Try.f20) := fnL_ok (envT_ok (C38_ok) (M41_ok)) mixedO Try.func20 (by kernel_rfl) (c := bodyOf Try.f20) (by kernel_rfl) (loopsL (l := [(2, loopC (bodyOf Try.f20) 2)]) (by kernel_rfl) (lk_cons (wheldInt64S_l2_k _ rfl rfl (fun _ _ => rfl)) lk_nil))

theorem wheldInt64S_told : SpecOk Try.prog 20 (toldO A_wheldInt64S R_wheldInt64S (fun x => wheldInt64S x.1 x.2) (C38 20)) := toldO_ok (by kernel_rfl) wheldInt64S_ok (rest_ok (C38_ok) _) wheldInt64S_m

noncomputable def C42 : Tab := tab 20 (toldO A_wheldInt64S R_wheldInt64S (fun x => wheldInt64S x.1 x.2) (C38 20)) C38
theorem C42_ok : TabOk Try.prog C42 := tab_ok (wheldInt64S_told) (C38_ok)

def S_wmarkInt64S_nil_l2 : Shp := ⟨[.nils, .h, .h], [], [.i .i64, .i .i64]⟩
def X_wmarkInt64S_nil_l2 : List XShp := [(.exit 0, ⟨[.undef, .h, .undef], [], [.i .i64]⟩)]

noncomputable def L_wmarkInt64S_nil_l2 : Loops := (⟨19, lvT [(2, [0, 1, 5])], mdT [(2, .exit 0, [], [0, 5])], fun k vs bs => .bad⟩ : Loops)

theorem wmarkInt64S_nil_l2_e (y0 : Int) (y1 : Int) (s : Unit) : (loopStep (envW Try.prog C42 M41 0) L_wmarkInt64S_nil_l2 2 (loopC (bodyOf Try.f19) 2) (S_wmarkInt64S_nil_l2.enc (y0, y1)).1 (S_wmarkInt64S_nil_l2.enc (y0, y1)).2).to (stepD S_wmarkInt64S_nil_l2 X_wmarkInt64S_nil_l2) = (wmarkInt64S_nil_l2_t y0 y1 ).map (Sum.map (fun s : Unit => (show DR S_wmarkInt64S_nil_l2.hs from (y0, y1))) id) := by kernel_rfl

theorem wmarkInt64S_nil_l2_r (x : DR S_wmarkInt64S_nil_l2.hs) : (wmarkInt64S_nil_l2 x.1 x.2 : Option (SumD (X_wmarkInt64S_nil_l2.map (·.2)))) = runL (meanS (envW Try.prog C42 M41 0) L_wmarkInt64S_nil_l2 2 (loopC (bodyOf Try.f19) 2) S_wmarkInt64S_nil_l2 X_wmarkInt64S_nil_l2) x := run_of (fun s : Unit => (show DR S_wmarkInt64S_nil_l2.hs from (x.1, x.2))) (wmarkInt64S_nil_l2_e (x.1) (x.2)) ()

theorem wmarkInt64S_nil_l2_k (L : Loops) (hn : L_wmarkInt64S_nil_l2.n = L.n) (hlv : L_wmarkInt64S_nil_l2.lv 2 = L.lv 2) (hL : ∀ vs bs, L.loop 2 vs bs = toldL S_wmarkInt64S_nil_l2 X_wmarkInt64S_nil_l2 (fun x => wmarkInt64S_nil_l2 x.1 x.2) vs bs) : LOk Try.prog (envW Try.prog C42 M41 0) L 2 (loopC (bodyOf Try.f19) 2) := toldL_ok (L1 := L_wmarkInt64S_nil_l2) (envW_ok (C42_ok) (M41_ok)) mixedO hn hlv (loopFree_ok (by kernel_rfl)) wmarkInt64S_nil_l2_r hL

def A_wmarkInt64S_nil : Shp := ⟨[.nils, .h], [], [.i .i64]⟩
def R_wmarkInt64S_nil : List XShp := [(.ret, ⟨[.h], [], [.i .i64]⟩)]

noncomputable def L_wmarkInt64S_nil : Loops := (⟨19, lvT [(2, [0, 1, 5])], mdT [(2, .exit 0, [], [0, 5])], fun k vs bs => bif Nat.beq k 2 then toldL S_wmarkInt64S_nil_l2 X_wmarkInt64S_nil_l2 (fun x => wmarkInt64S_nil_l2 x.1 x.2) vs bs else .bad⟩ : Loops)

theorem wmarkInt64S_nil_e (x : DR A_wmarkInt64S_nil.hs) : (evFnM (envW Try.prog C42 M41 0) L_wmarkInt64S_nil Try.f19 (A_wmarkInt64S_nil.enc x).1 ((A_wmarkInt64S_nil.enc x).2.map (·.blk))).to (decM R_wmarkInt64S_nil) = wmarkInt64S_nil_t x := by kernel_rfl

theorem wmarkInt64S_nil_m (x : DR A_wmarkInt64S_nil.hs) : meanM (envW Try.prog C42 M41 0) L_wmarkInt64S_nil Try.f19 A_wmarkInt64S_nil R_wmarkInt64S_nil x = (show Option (SumD (R_wmarkInt64S_nil.map (·.2))) from wmarkInt64S_nil x) := meanM_of (wmarkInt64S_nil_e x)

theorem wmarkInt64S_nil_ok : MSpecOk Try.prog 19 (evFnM (envW Try.prog C42 M41 0) L_wmarkInt64S_nil Try.f19) := fnM_ok (envW_ok (C42_ok) (M41_ok)) rfl mixedO Try.func19 (by kernel_rfl) (c := bodyOf Try.f19) (by kernel_rfl) (loopsL (l := [(2, loopC (bodyOf Try.f19) 2)]) (by kernel_rfl) (lk_cons (wmarkInt64S_nil_l2_k _ rfl rfl (fun _ _ => rfl)) lk_nil))

theorem wmarkInt64S_nil_told : MSpecOk Try.prog 19 (toldMO A_wmarkInt64S_nil R_wmarkInt64S_nil (fun x => wmarkInt64S_nil x) (mrest M41 19)) := toldMO_ok (by kernel_rfl) wmarkInt64S_nil_ok (mrest_ok (M41_ok) _) wmarkInt64S_nil_m

noncomputable def M43 : MTab := mtab 19 (toldMO A_wmarkInt64S_nil R_wmarkInt64S_nil (fun x => wmarkInt64S_nil x) (mrest M41 19)) M41
theorem M43_ok : MTabOk Try.prog M43 := mtab_ok (wmarkInt64S_nil_told) (M41_ok)

def A_wFnExactOutletsOf : Shp := ⟨[.agg [.h, .h, .h]], [], [.sl [.i .i64], .sl [.i .i64, .i .i64, .i .i64, .i .i64], .sl [.i .i64]]⟩
def R_wFnExactOutletsOf : List XShp := [(.ret, ⟨[.h], [], [.b]⟩)]

theorem wFnExactOutletsOf_e (x : DR A_wFnExactOutletsOf.hs) : (evFn (envT Try.prog C42 M43) noLoops Try.f11 (A_wFnExactOutletsOf.enc x).1).to (fun q => decX R_wFnExactOutletsOf .ret [q.1] q.2) = wFnExactOutletsOf_t x.1 x.2.1 x.2.2 := by kernel_rfl

theorem wFnExactOutletsOf_m (x : DR A_wFnExactOutletsOf.hs) : meanF (envT Try.prog C42 M43) noLoops Try.f11 A_wFnExactOutletsOf R_wFnExactOutletsOf x = (show Option (SumD (R_wFnExactOutletsOf.map (·.2))) from wFnExactOutletsOf x.1 x.2.1 x.2.2) := meanF_of (wFnExactOutletsOf_e x)

theorem wFnExactOutletsOf_ok : SpecOk Try.prog 11 (evFn (envT Try.prog C42 M43) noLoops Try.f11) := fnL_ok (envT_ok (C42_ok) (M43_ok)) mixedO Try.func11 (by kernel_rfl) (c := bodyOf Try.f11) (by kernel_rfl) (loopFree_ok (by kernel_rfl))

theorem wFnExactOutletsOf_told : SpecOk Try.prog 11 (toldO A_wFnExactOutletsOf R_wFnExactOutletsOf (fun x => wFnExactOutletsOf x.1 x.2.1 x.2.2) (C42 11)) := toldO_ok (by kernel_rfl) wFnExactOutletsOf_ok (rest_ok (C42_ok) _) wFnExactOutletsOf_m

noncomputable def C44 : Tab := tab 11 (toldO A_wFnExactOutletsOf R_wFnExactOutletsOf (fun x => wFnExactOutletsOf x.1 x.2.1 x.2.2) (C42 11)) C42
theorem C44_ok : TabOk Try.prog C44 := tab_ok (wFnExactOutletsOf_told) (C42_ok)

theorem lawFnExactOutletsOf_ok : SpecOk Try.prog 11 (evFn (envT Try.prog C42 M43) noLoops Try.f11) := wFnExactOutletsOf_ok
theorem lawFnExactOutletsOf_says (x : DR A_wFnExactOutletsOf.hs) (h : (show Option (SumD (R_wFnExactOutletsOf.map (·.2))) from wFnExactOutletsOf x.1 x.2.1 x.2.2) = some true) : saysTrue (evFn (envT Try.prog C42 M43) noLoops Try.f11 (A_wFnExactOutletsOf.enc x).1) = true := law_says (x := x) ((wFnExactOutletsOf_m x).trans h)

theorem lawFnExactOutletsOf_true (x0 : List Int) (x1 : List (Int × Int × Int × Int)) (x2 : List Int) (h : wFnExactOutletsOf x0 x1 x2 = some true) : saysTrue (evFn (envT Try.prog C42 M43) noLoops Try.f11 [.agg [.ds [.i .i64] x0, .ds [.i .i64, .i .i64, .i .i64, .i .i64] x1, .ds [.i .i64] x2]]) = true := (congrArg (fun l => saysTrue (evFn (envT Try.prog C42 M43) noLoops Try.f11 l)) (by kernel_rfl : ([.agg [.ds [.i .i64] x0, .ds [.i .i64, .i .i64, .i .i64, .i .i64] x1, .ds [.i .i64] x2]] : List V) = (A_wFnExactOutletsOf.enc (x0, x1, x2)).1)).trans (lawFnExactOutletsOf_says (x0, x1, x2) h)
end Go.Proofs.Ytjohnpldkanjmaa
