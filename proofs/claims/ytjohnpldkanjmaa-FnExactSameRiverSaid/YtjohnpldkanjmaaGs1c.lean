/- Functions, as plain functions. What the program comes to. -/
import Derived.Test.YtjohnpldkanjmaaGs1d
import Derived.Test.YtjohnpldkanjmaaDb
import Derived.Test.YtjohnpldkanjmaaNv
import Derived.KernelRfl
set_option linter.unusedVariables false
set_option linter.unusedSimpArgs false
set_option linter.constructorNameAsVariable false
namespace Go.Proofs.Ytjohnpldkanjmaa
open Go.RowKit
set_option maxRecDepth 100000
theorem mixedO : (Try.prog).follows .mixedOrders = true := by kernel_rfl
def A_wszInt64S : Shp := ⟨[.h, .h], [], [.sl [.i .i64], .i .i64]⟩
def R_wszInt64S : List XShp := [(.ret, ⟨[.h], [], [.i .i64]⟩)]

theorem wszInt64S_e (x : DR A_wszInt64S.hs) : (evFn (envT Try.prog tab0 mtab0) noLoops Try.f59 (A_wszInt64S.enc x).1).to (fun q => decX R_wszInt64S .ret [q.1] q.2) = wszInt64S_t x.1 x.2 := by kernel_rfl

theorem wszInt64S_m (x : DR A_wszInt64S.hs) : meanF (envT Try.prog tab0 mtab0) noLoops Try.f59 A_wszInt64S R_wszInt64S x = some (show SumD (R_wszInt64S.map (·.2)) from wszInt64S x.1 x.2) := @meanF_tot _ _ _ _ _ _ _ (wszInt64S_e x) (show Inhabited (Int) from inferInstance) (by kernel_rfl)

theorem wszInt64S_ok : SpecOk Try.prog 59 (evFn (envT Try.prog tab0 mtab0) noLoops Try.f59) := fnL_ok (envT_ok (tab0_ok _) (mtab0_ok _)) mixedO Try.func59 (by kernel_rfl) (c := bodyOf Try.f59) (by kernel_rfl) (loopFree_ok (by kernel_rfl))

theorem wszInt64S_told : SpecOk Try.prog 59 (toldT A_wszInt64S R_wszInt64S (fun x => wszInt64S x.1 x.2) (tab0 59)) := toldT_ok (by kernel_rfl) wszInt64S_ok (rest_ok (tab0_ok _) _) wszInt64S_m

noncomputable def C0 : Tab := tab 59 (toldT A_wszInt64S R_wszInt64S (fun x => wszInt64S x.1 x.2) (tab0 59)) tab0
theorem C0_ok : TabOk Try.prog C0 := tab_ok (wszInt64S_told) (tab0_ok _)

def A_wszDamS : Shp := ⟨[.h, .h], [], [.sl [.i .i64, .i .i64, .i .i64, .i .i64], .i .i64]⟩
def R_wszDamS : List XShp := [(.ret, ⟨[.h], [], [.i .i64]⟩)]

theorem wszDamS_e (x : DR A_wszDamS.hs) : (evFn (envT Try.prog C0 mtab0) noLoops Try.f60 (A_wszDamS.enc x).1).to (fun q => decX R_wszDamS .ret [q.1] q.2) = wszDamS_t x.1 x.2 := by kernel_rfl

theorem wszDamS_m (x : DR A_wszDamS.hs) : meanF (envT Try.prog C0 mtab0) noLoops Try.f60 A_wszDamS R_wszDamS x = some (show SumD (R_wszDamS.map (·.2)) from wszDamS x.1 x.2) := @meanF_tot _ _ _ _ _ _ _ (wszDamS_e x) (show Inhabited (Int) from inferInstance) (by kernel_rfl)

theorem wszDamS_ok : SpecOk Try.prog 60 (evFn (envT Try.prog C0 mtab0) noLoops Try.f60) := fnL_ok (envT_ok (C0_ok) (mtab0_ok _)) mixedO Try.func60 (by kernel_rfl) (c := bodyOf Try.f60) (by kernel_rfl) (loopFree_ok (by kernel_rfl))

theorem wszDamS_told : SpecOk Try.prog 60 (toldT A_wszDamS R_wszDamS (fun x => wszDamS x.1 x.2) (C0 60)) := toldT_ok (by kernel_rfl) wszDamS_ok (rest_ok (C0_ok) _) wszDamS_m

noncomputable def C1 : Tab := tab 60 (toldT A_wszDamS R_wszDamS (fun x => wszDamS x.1 x.2) (C0 60)) C0
theorem C1_ok : TabOk Try.prog C1 := tab_ok (wszDamS_told) (C0_ok)

def A_wszRiver : Shp := ⟨[.agg [.h, .h, .h], .h], [], [.sl [.i .i64], .sl [.i .i64, .i .i64, .i .i64, .i .i64], .sl [.i .i64], .i .i64]⟩
def R_wszRiver : List XShp := [(.ret, ⟨[.h], [], [.i .i64]⟩)]

theorem wszRiver_e (x : DR A_wszRiver.hs) : (evFn (envT Try.prog C1 mtab0) noLoops Try.f21 (A_wszRiver.enc x).1).to (fun q => decX R_wszRiver .ret [q.1] q.2) = wszRiver_t x.1 x.2.1 x.2.2.1 x.2.2.2 := by kernel_rfl

theorem wszRiver_m (x : DR A_wszRiver.hs) : meanF (envT Try.prog C1 mtab0) noLoops Try.f21 A_wszRiver R_wszRiver x = some (show SumD (R_wszRiver.map (·.2)) from wszRiver x.1 x.2.1 x.2.2.1 x.2.2.2) := @meanF_tot _ _ _ _ _ _ _ (wszRiver_e x) (show Inhabited (Int) from inferInstance) (by kernel_rfl)

theorem wszRiver_ok : SpecOk Try.prog 21 (evFn (envT Try.prog C1 mtab0) noLoops Try.f21) := fnL_ok (envT_ok (C1_ok) (mtab0_ok _)) mixedO Try.func21 (by kernel_rfl) (c := bodyOf Try.f21) (by kernel_rfl) (loopFree_ok (by kernel_rfl))

theorem wszRiver_told : SpecOk Try.prog 21 (toldT A_wszRiver R_wszRiver (fun x => wszRiver x.1 x.2.1 x.2.2.1 x.2.2.2) (C1 21)) := toldT_ok (by kernel_rfl) wszRiver_ok (rest_ok (C1_ok) _) wszRiver_m

noncomputable def C2 : Tab := tab 21 (toldT A_wszRiver R_wszRiver (fun x => wszRiver x.1 x.2.1 x.2.2.1 x.2.2.2) (C1 21)) C1
theorem C2_ok : TabOk Try.prog C2 := tab_ok (wszRiver_told) (C1_ok)

def S_wtoInt64S_l3 : Shp := ⟨[.h, .slw 0 1, .h], [.arr [.i .i64] false], [.sl [.i .i64], .i .i64, .sl [.i .i64]]⟩
def X_wtoInt64S_l3 : List XShp := [(.exit 0, ⟨[.undef, .slw 0 1, .undef], [.arr [.i .i64] false], [.sl [.i .i64]]⟩)]

noncomputable def L_wtoInt64S_l3 : Loops := (⟨22, lvT [(3, [0, 3, 4])], mdT [(3, .exit 0, [], [0, 4])], fun k vs bs => .bad⟩ : Loops)

theorem wtoInt64S_l3_e (y0 : List Int) (s : Int × List Int) : (loopStep (envT Try.prog C2 mtab0) L_wtoInt64S_l3 3 (loopC (bodyOf Try.f16) 3) (S_wtoInt64S_l3.enc (y0, s.1, s.2)).1 (S_wtoInt64S_l3.enc (y0, s.1, s.2)).2).to (stepD S_wtoInt64S_l3 X_wtoInt64S_l3) = (wtoInt64S_l3_t y0 s.1 s.2).map (Sum.map (fun s : Int × List Int => (show DR S_wtoInt64S_l3.hs from (y0, s.1, s.2))) id) := by kernel_rfl

theorem wtoInt64S_l3_r (x : DR S_wtoInt64S_l3.hs) : (wtoInt64S_l3 x.1 x.2.1 x.2.2 : Option (SumD (X_wtoInt64S_l3.map (·.2)))) = runL (meanS (envT Try.prog C2 mtab0) L_wtoInt64S_l3 3 (loopC (bodyOf Try.f16) 3) S_wtoInt64S_l3 X_wtoInt64S_l3) x := run_of (fun s : Int × List Int => (show DR S_wtoInt64S_l3.hs from (x.1, s.1, s.2))) (wtoInt64S_l3_e (x.1)) (x.2.1, x.2.2)

theorem wtoInt64S_l3_k (L : Loops) (hn : L_wtoInt64S_l3.n = L.n) (hlv : L_wtoInt64S_l3.lv 3 = L.lv 3) (hL : ∀ vs bs, L.loop 3 vs bs = toldL S_wtoInt64S_l3 X_wtoInt64S_l3 (fun x => wtoInt64S_l3 x.1 x.2.1 x.2.2) vs bs) : LOk Try.prog (envT Try.prog C2 mtab0) L 3 (loopC (bodyOf Try.f16) 3) := toldL_ok (L1 := L_wtoInt64S_l3) (envT_ok (C2_ok) (mtab0_ok _)) mixedO hn hlv (loopFree_ok (by kernel_rfl)) wtoInt64S_l3_r hL

def A_wtoInt64S : Shp := ⟨[.h], [], [.sl [.i .i64]]⟩
def R_wtoInt64S : List XShp := [(.ret, ⟨[.slw 0 1], [.arr [.i .i64] false], [.sl [.i .i64]]⟩)]

noncomputable def L_wtoInt64S : Loops := (⟨22, lvT [(3, [0, 3, 4])], mdT [(3, .exit 0, [], [0, 4])], fun k vs bs => bif Nat.beq k 3 then toldL S_wtoInt64S_l3 X_wtoInt64S_l3 (fun x => wtoInt64S_l3 x.1 x.2.1 x.2.2) vs bs else .bad⟩ : Loops)

theorem wtoInt64S_e (x : DR A_wtoInt64S.hs) : (evFn (envT Try.prog C2 mtab0) L_wtoInt64S Try.f16 (A_wtoInt64S.enc x).1).to (fun q => decX R_wtoInt64S .ret [q.1] q.2) = wtoInt64S_t x := by kernel_rfl

theorem wtoInt64S_m (x : DR A_wtoInt64S.hs) : meanF (envT Try.prog C2 mtab0) L_wtoInt64S Try.f16 A_wtoInt64S R_wtoInt64S x = (show Option (SumD (R_wtoInt64S.map (·.2))) from wtoInt64S x) := meanF_of (wtoInt64S_e x)

theorem wtoInt64S_ok : SpecOk Try.prog 16 (evFn (envT Try.prog C2 mtab0) L_wtoInt64S Try.f16) := fnL_ok (envT_ok (C2_ok) (mtab0_ok _)) mixedO Try.func16 (by kernel_rfl) (c := bodyOf Try.f16) (by kernel_rfl) (loopsL (l := [(3, loopC (bodyOf Try.f16) 3)]) (by kernel_rfl) (lk_cons (wtoInt64S_l3_k _ rfl rfl (fun _ _ => rfl)) lk_nil))

theorem wtoInt64S_told : SpecOk Try.prog 16 (toldO A_wtoInt64S R_wtoInt64S (fun x => wtoInt64S x) (C2 16)) := toldO_ok (by kernel_rfl) wtoInt64S_ok (rest_ok (C2_ok) _) wtoInt64S_m

noncomputable def C3 : Tab := tab 16 (toldO A_wtoInt64S R_wtoInt64S (fun x => wtoInt64S x) (C2 16)) C2
theorem C3_ok : TabOk Try.prog C3 := tab_ok (wtoInt64S_told) (C2_ok)

def A_wtoDam : Shp := ⟨[.agg [.h, .h, .h, .h]], [], [.i .i64, .i .i64, .i .i64, .i .i64]⟩
def R_wtoDam : List XShp := [(.ret, ⟨[.agg [.h, .h, .h, .h]], [], [.i .i64, .i .i64, .i .i64, .i .i64]⟩)]

theorem wtoDam_e (x : DR A_wtoDam.hs) : (evFn (envT Try.prog C3 mtab0) noLoops Try.f88 (A_wtoDam.enc x).1).to (fun q => decX R_wtoDam .ret [q.1] q.2) = wtoDam_t x.1 x.2.1 x.2.2.1 x.2.2.2 := by kernel_rfl

theorem wtoDam_m (x : DR A_wtoDam.hs) : meanF (envT Try.prog C3 mtab0) noLoops Try.f88 A_wtoDam R_wtoDam x = some (show SumD (R_wtoDam.map (·.2)) from wtoDam x.1 x.2.1 x.2.2.1 x.2.2.2) := @meanF_tot _ _ _ _ _ _ _ (wtoDam_e x) (show Inhabited (Int × Int × Int × Int) from inferInstance) (by kernel_rfl)

theorem wtoDam_ok : SpecOk Try.prog 88 (evFn (envT Try.prog C3 mtab0) noLoops Try.f88) := fnL_ok (envT_ok (C3_ok) (mtab0_ok _)) mixedO Try.func88 (by kernel_rfl) (c := bodyOf Try.f88) (by kernel_rfl) (loopFree_ok (by kernel_rfl))

theorem wtoDam_told : SpecOk Try.prog 88 (toldT A_wtoDam R_wtoDam (fun x => wtoDam x.1 x.2.1 x.2.2.1 x.2.2.2) (C3 88)) := toldT_ok (by kernel_rfl) wtoDam_ok (rest_ok (C3_ok) _) wtoDam_m

noncomputable def C4 : Tab := tab 88 (toldT A_wtoDam R_wtoDam (fun x => wtoDam x.1 x.2.1 x.2.2.1 x.2.2.2) (C3 88)) C3
theorem C4_ok : TabOk Try.prog C4 := tab_ok (wtoDam_told) (C3_ok)

def S_wtoDamS_l3 : Shp := ⟨[.h, .slw 0 4, .h], [.arr [.i .i64, .i .i64, .i .i64, .i .i64] false], [.sl [.i .i64, .i .i64, .i .i64, .i .i64], .i .i64, .sl [.i .i64, .i .i64, .i .i64, .i .i64]]⟩
def X_wtoDamS_l3 : List XShp := [(.exit 0, ⟨[.undef, .slw 0 4, .undef], [.arr [.i .i64, .i .i64, .i .i64, .i .i64] false], [.sl [.i .i64, .i .i64, .i .i64, .i .i64]]⟩)]

noncomputable def L_wtoDamS_l3 : Loops := (⟨23, lvT [(3, [0, 3, 4])], mdT [(3, .exit 0, [], [0, 4])], fun k vs bs => .bad⟩ : Loops)

theorem wtoDamS_l3_e (y0 : List (Int × Int × Int × Int)) (s : Int × (List (Int × Int × Int × Int))) : (loopStep (envT Try.prog C4 mtab0) L_wtoDamS_l3 3 (loopC (bodyOf Try.f62) 3) (S_wtoDamS_l3.enc (y0, s.1, s.2)).1 (S_wtoDamS_l3.enc (y0, s.1, s.2)).2).to (stepD S_wtoDamS_l3 X_wtoDamS_l3) = (wtoDamS_l3_t y0 s.1 s.2).map (Sum.map (fun s : Int × (List (Int × Int × Int × Int)) => (show DR S_wtoDamS_l3.hs from (y0, s.1, s.2))) id) := by kernel_rfl

theorem wtoDamS_l3_r (x : DR S_wtoDamS_l3.hs) : (wtoDamS_l3 x.1 x.2.1 x.2.2 : Option (SumD (X_wtoDamS_l3.map (·.2)))) = runL (meanS (envT Try.prog C4 mtab0) L_wtoDamS_l3 3 (loopC (bodyOf Try.f62) 3) S_wtoDamS_l3 X_wtoDamS_l3) x := run_of (fun s : Int × (List (Int × Int × Int × Int)) => (show DR S_wtoDamS_l3.hs from (x.1, s.1, s.2))) (wtoDamS_l3_e (x.1)) (x.2.1, x.2.2)

theorem wtoDamS_l3_k (L : Loops) (hn : L_wtoDamS_l3.n = L.n) (hlv : L_wtoDamS_l3.lv 3 = L.lv 3) (hL : ∀ vs bs, L.loop 3 vs bs = toldL S_wtoDamS_l3 X_wtoDamS_l3 (fun x => wtoDamS_l3 x.1 x.2.1 x.2.2) vs bs) : LOk Try.prog (envT Try.prog C4 mtab0) L 3 (loopC (bodyOf Try.f62) 3) := toldL_ok (L1 := L_wtoDamS_l3) (envT_ok (C4_ok) (mtab0_ok _)) mixedO hn hlv (loopFree_ok (by kernel_rfl)) wtoDamS_l3_r hL

def A_wtoDamS : Shp := ⟨[.h], [], [.sl [.i .i64, .i .i64, .i .i64, .i .i64]]⟩
def R_wtoDamS : List XShp := [(.ret, ⟨[.slw 0 4], [.arr [.i .i64, .i .i64, .i .i64, .i .i64] false], [.sl [.i .i64, .i .i64, .i .i64, .i .i64]]⟩)]

noncomputable def L_wtoDamS : Loops := (⟨23, lvT [(3, [0, 3, 4])], mdT [(3, .exit 0, [], [0, 4])], fun k vs bs => bif Nat.beq k 3 then toldL S_wtoDamS_l3 X_wtoDamS_l3 (fun x => wtoDamS_l3 x.1 x.2.1 x.2.2) vs bs else .bad⟩ : Loops)

theorem wtoDamS_e (x : DR A_wtoDamS.hs) : (evFn (envT Try.prog C4 mtab0) L_wtoDamS Try.f62 (A_wtoDamS.enc x).1).to (fun q => decX R_wtoDamS .ret [q.1] q.2) = wtoDamS_t x := by kernel_rfl

theorem wtoDamS_m (x : DR A_wtoDamS.hs) : meanF (envT Try.prog C4 mtab0) L_wtoDamS Try.f62 A_wtoDamS R_wtoDamS x = (show Option (SumD (R_wtoDamS.map (·.2))) from wtoDamS x) := meanF_of (wtoDamS_e x)

theorem wtoDamS_ok : SpecOk Try.prog 62 (evFn (envT Try.prog C4 mtab0) L_wtoDamS Try.f62) := fnL_ok (envT_ok (C4_ok) (mtab0_ok _)) mixedO Try.func62 (by kernel_rfl) (c := bodyOf Try.f62) (by kernel_rfl) (loopsL (l := [(3, loopC (bodyOf Try.f62) 3)]) (by kernel_rfl) (lk_cons (wtoDamS_l3_k _ rfl rfl (fun _ _ => rfl)) lk_nil))

theorem wtoDamS_told : SpecOk Try.prog 62 (toldO A_wtoDamS R_wtoDamS (fun x => wtoDamS x) (C4 62)) := toldO_ok (by kernel_rfl) wtoDamS_ok (rest_ok (C4_ok) _) wtoDamS_m

noncomputable def C5 : Tab := tab 62 (toldO A_wtoDamS R_wtoDamS (fun x => wtoDamS x) (C4 62)) C4
theorem C5_ok : TabOk Try.prog C5 := tab_ok (wtoDamS_told) (C4_ok)

def A_wtoRiver : Shp := ⟨[.agg [.h, .h, .h]], [], [.sl [.i .i64], .sl [.i .i64, .i .i64, .i .i64, .i .i64], .sl [.i .i64]]⟩
def R_wtoRiver : List XShp := [(.ret, ⟨[.agg [.slw 0 1, .slw 1 4, .slw 2 1]], [.arr [.i .i64] false, .arr [.i .i64, .i .i64, .i .i64, .i .i64] false, .arr [.i .i64] false], [.sl [.i .i64], .sl [.i .i64, .i .i64, .i .i64, .i .i64], .sl [.i .i64]]⟩)]

theorem wtoRiver_e (x : DR A_wtoRiver.hs) : (evFn (envT Try.prog C5 mtab0) noLoops Try.f23 (A_wtoRiver.enc x).1).to (fun q => decX R_wtoRiver .ret [q.1] q.2) = wtoRiver_t x.1 x.2.1 x.2.2 := by kernel_rfl

theorem wtoRiver_m (x : DR A_wtoRiver.hs) : meanF (envT Try.prog C5 mtab0) noLoops Try.f23 A_wtoRiver R_wtoRiver x = (show Option (SumD (R_wtoRiver.map (·.2))) from wtoRiver x.1 x.2.1 x.2.2) := meanF_of (wtoRiver_e x)

theorem wtoRiver_ok : SpecOk Try.prog 23 (evFn (envT Try.prog C5 mtab0) noLoops Try.f23) := fnL_ok (envT_ok (C5_ok) (mtab0_ok _)) mixedO Try.func23 (by kernel_rfl) (c := bodyOf Try.f23) (by kernel_rfl) (loopFree_ok (by kernel_rfl))

theorem wtoRiver_told : SpecOk Try.prog 23 (toldO A_wtoRiver R_wtoRiver (fun x => wtoRiver x.1 x.2.1 x.2.2) (C5 23)) := toldO_ok (by kernel_rfl) wtoRiver_ok (rest_ok (C5_ok) _) wtoRiver_m

noncomputable def C6 : Tab := tab 23 (toldO A_wtoRiver R_wtoRiver (fun x => wtoRiver x.1 x.2.1 x.2.2) (C5 23)) C5
theorem C6_ok : TabOk Try.prog C6 := tab_ok (wtoRiver_told) (C5_ok)

def S_sl06SameList_l4 : Shp := ⟨[.h, .h, .undef, .h], [], [.sl [.i .i64], .sl [.i .i64], .i .i64]⟩
def X_sl06SameList_l4 : List XShp := [(.ret, ⟨[.undef, .undef, .lb false, .undef], [], []⟩), (.exit 0, ⟨[.undef, .undef, .undef, .undef], [], []⟩)]

noncomputable def L_sl06SameList_l4 : Loops := (⟨26, lvT [(4, [0, 1, 4, 5])], mdT [(4, .normal, [], [4]), (4, .exit 0, [], [0, 1, 4, 5]), (4, .ret, [], [0, 1, 5])], fun k vs bs => .bad⟩ : Loops)

theorem sl06SameList_l4_e (y0 : List Int) (y1 : List Int) (s : Int) : (loopStep (envT Try.prog C6 mtab0) L_sl06SameList_l4 4 (loopC (bodyOf Try.f87) 4) (S_sl06SameList_l4.enc (y0, y1, s)).1 (S_sl06SameList_l4.enc (y0, y1, s)).2).to (stepD S_sl06SameList_l4 X_sl06SameList_l4) = (sl06SameList_l4_t y0 y1 s).map (Sum.map (fun s : Int => (show DR S_sl06SameList_l4.hs from (y0, y1, s))) id) := by kernel_rfl

theorem sl06SameList_l4_r (x : DR S_sl06SameList_l4.hs) : (sl06SameList_l4 x.1 x.2.1 x.2.2 : Option (SumD (X_sl06SameList_l4.map (·.2)))) = runL (meanS (envT Try.prog C6 mtab0) L_sl06SameList_l4 4 (loopC (bodyOf Try.f87) 4) S_sl06SameList_l4 X_sl06SameList_l4) x := run_of (fun s : Int => (show DR S_sl06SameList_l4.hs from (x.1, x.2.1, s))) (sl06SameList_l4_e (x.1) (x.2.1)) x.2.2

theorem sl06SameList_l4_k (L : Loops) (hn : L_sl06SameList_l4.n = L.n) (hlv : L_sl06SameList_l4.lv 4 = L.lv 4) (hL : ∀ vs bs, L.loop 4 vs bs = toldL S_sl06SameList_l4 X_sl06SameList_l4 (fun x => sl06SameList_l4 x.1 x.2.1 x.2.2) vs bs) : LOk Try.prog (envT Try.prog C6 mtab0) L 4 (loopC (bodyOf Try.f87) 4) := toldL_ok (L1 := L_sl06SameList_l4) (envT_ok (C6_ok) (mtab0_ok _)) mixedO hn hlv (loopFree_ok (by kernel_rfl)) sl06SameList_l4_r hL

def A_sl06SameList : Shp := ⟨[.h, .h], [], [.sl [.i .i64], .sl [.i .i64]]⟩
def R_sl06SameList : List XShp := [(.ret, ⟨[.h], [], [.b]⟩)]

noncomputable def L_sl06SameList : Loops := (⟨26, lvT [(4, [0, 1, 4, 5])], mdT [(4, .normal, [], [4]), (4, .exit 0, [], [0, 1, 4, 5]), (4, .ret, [], [0, 1, 5])], fun k vs bs => bif Nat.beq k 4 then toldL S_sl06SameList_l4 X_sl06SameList_l4 (fun x => sl06SameList_l4 x.1 x.2.1 x.2.2) vs bs else .bad⟩ : Loops)

theorem sl06SameList_e (x : DR A_sl06SameList.hs) : (evFn (envT Try.prog C6 mtab0) L_sl06SameList Try.f87 (A_sl06SameList.enc x).1).to (fun q => decX R_sl06SameList .ret [q.1] q.2) = sl06SameList_t x.1 x.2 := by kernel_rfl

theorem sl06SameList_m (x : DR A_sl06SameList.hs) : meanF (envT Try.prog C6 mtab0) L_sl06SameList Try.f87 A_sl06SameList R_sl06SameList x = (show Option (SumD (R_sl06SameList.map (·.2))) from sl06SameList x.1 x.2) := meanF_of (sl06SameList_e x)

theorem sl06SameList_ok : SpecOk Try.prog 87 (evFn (envT Try.prog C6 mtab0) L_sl06SameList Try.f87) := fnL_ok (envT_ok (C6_ok) (mtab0_ok _)) mixedO Try.func87 (by kernel_rfl) (c := bodyOf Try.f87) (by kernel_rfl) (loopsL (l := [(4, loopC (bodyOf Try.f87) 4)]) (by kernel_rfl) (lk_cons (sl06SameList_l4_k _ rfl rfl (fun _ _ => rfl)) lk_nil))

theorem sl06SameList_told : SpecOk Try.prog 87 (toldO A_sl06SameList R_sl06SameList (fun x => sl06SameList x.1 x.2) (C6 87)) := toldO_ok (by kernel_rfl) sl06SameList_ok (rest_ok (C6_ok) _) sl06SameList_m

noncomputable def C7 : Tab := tab 87 (toldO A_sl06SameList R_sl06SameList (fun x => sl06SameList x.1 x.2) (C6 87)) C6
theorem C7_ok : TabOk Try.prog C7 := tab_ok (sl06SameList_told) (C6_ok)

def S_sl06Same_l4 : Shp := ⟨[.dpt [.h, .h, .h] 0, .dpt [.h, .h, .h] 0, .undef, .h], [], [.sl [.i .i64], .sl [.i .i64, .i .i64, .i .i64, .i .i64], .sl [.i .i64], .sl [.i .i64], .sl [.i .i64, .i .i64, .i .i64, .i .i64], .sl [.i .i64], .i .i64]⟩
def X_sl06Same_l4 : List XShp := [(.ret, ⟨[.undef, .undef, .lb false, .undef], [], []⟩), (.exit 0, ⟨[.undef, .undef, .undef, .undef], [], []⟩)]

noncomputable def L_sl06Same_l4 : Loops := (⟨65, lvT [(4, [0, 1, 4, 5])], mdT [(4, .normal, [], [4]), (4, .exit 0, [], [0, 1, 4, 5]), (4, .ret, [], [0, 1, 5])], fun k vs bs => .bad⟩ : Loops)

theorem sl06Same_l4_e (y0 : List Int) (y1 : List (Int × Int × Int × Int)) (y2 : List Int) (y3 : List Int) (y4 : List (Int × Int × Int × Int)) (y5 : List Int) (s : Int) : (loopStep (envT Try.prog C7 mtab0) L_sl06Same_l4 4 (loopC (bodyOf Try.f61) 4) (S_sl06Same_l4.enc (y0, y1, y2, y3, y4, y5, s)).1 (S_sl06Same_l4.enc (y0, y1, y2, y3, y4, y5, s)).2).to (stepD S_sl06Same_l4 X_sl06Same_l4) = (sl06Same_l4_t y0 y1 y2 y3 y4 y5 s).map (Sum.map (fun s : Int => (show DR S_sl06Same_l4.hs from (y0, y1, y2, y3, y4, y5, s))) id) := by kernel_rfl

theorem sl06Same_l4_r (x : DR S_sl06Same_l4.hs) : (sl06Same_l4 x.1 x.2.1 x.2.2.1 x.2.2.2.1 x.2.2.2.2.1 x.2.2.2.2.2.1 x.2.2.2.2.2.2 : Option (SumD (X_sl06Same_l4.map (·.2)))) = runL (meanS (envT Try.prog C7 mtab0) L_sl06Same_l4 4 (loopC (bodyOf Try.f61) 4) S_sl06Same_l4 X_sl06Same_l4) x := run_of (fun s : Int => (show DR S_sl06Same_l4.hs from (x.1, x.2.1, x.2.2.1, x.2.2.2.1, x.2.2.2.2.1, x.2.2.2.2.2.1, s))) (sl06Same_l4_e (x.1) (x.2.1) (x.2.2.1) (x.2.2.2.1) (x.2.2.2.2.1) (x.2.2.2.2.2.1)) x.2.2.2.2.2.2

theorem sl06Same_l4_k (L : Loops) (hn : L_sl06Same_l4.n = L.n) (hlv : L_sl06Same_l4.lv 4 = L.lv 4) (hL : ∀ vs bs, L.loop 4 vs bs = toldL S_sl06Same_l4 X_sl06Same_l4 (fun x => sl06Same_l4 x.1 x.2.1 x.2.2.1 x.2.2.2.1 x.2.2.2.2.1 x.2.2.2.2.2.1 x.2.2.2.2.2.2) vs bs) : LOk Try.prog (envT Try.prog C7 mtab0) L 4 (loopC (bodyOf Try.f61) 4) := toldL_ok (L1 := L_sl06Same_l4) (envT_ok (C7_ok) (mtab0_ok _)) mixedO hn hlv (loopFree_ok (by kernel_rfl)) sl06Same_l4_r hL

def A_sl06Same : Shp := ⟨[.dpt [.h, .h, .h] 0, .dpt [.h, .h, .h] 0], [], [.sl [.i .i64], .sl [.i .i64, .i .i64, .i .i64, .i .i64], .sl [.i .i64], .sl [.i .i64], .sl [.i .i64, .i .i64, .i .i64, .i .i64], .sl [.i .i64]]⟩
def R_sl06Same : List XShp := [(.ret, ⟨[.h], [], [.b]⟩)]

noncomputable def L_sl06Same : Loops := (⟨65, lvT [(4, [0, 1, 4, 5])], mdT [(4, .normal, [], [4]), (4, .exit 0, [], [0, 1, 4, 5]), (4, .ret, [], [0, 1, 5])], fun k vs bs => bif Nat.beq k 4 then toldL S_sl06Same_l4 X_sl06Same_l4 (fun x => sl06Same_l4 x.1 x.2.1 x.2.2.1 x.2.2.2.1 x.2.2.2.2.1 x.2.2.2.2.2.1 x.2.2.2.2.2.2) vs bs else .bad⟩ : Loops)

theorem sl06Same_e (x : DR A_sl06Same.hs) : (evFn (envT Try.prog C7 mtab0) L_sl06Same Try.f61 (A_sl06Same.enc x).1).to (fun q => decX R_sl06Same .ret [q.1] q.2) = sl06Same_t x.1 x.2.1 x.2.2.1 x.2.2.2.1 x.2.2.2.2.1 x.2.2.2.2.2 := by kernel_rfl

theorem sl06Same_m (x : DR A_sl06Same.hs) : meanF (envT Try.prog C7 mtab0) L_sl06Same Try.f61 A_sl06Same R_sl06Same x = (show Option (SumD (R_sl06Same.map (·.2))) from sl06Same x.1 x.2.1 x.2.2.1 x.2.2.2.1 x.2.2.2.2.1 x.2.2.2.2.2) := meanF_of (sl06Same_e x)

theorem sl06Same_ok : SpecOk Try.prog 61 (evFn (envT Try.prog C7 mtab0) L_sl06Same Try.f61) := fnL_ok (envT_ok (C7_ok) (mtab0_ok _)) mixedO Try.func61 (by kernel_rfl) (c := bodyOf Try.f61) (by kernel_rfl) (loopsL (l := [(4, loopC (bodyOf Try.f61) 4)]) (by kernel_rfl) (lk_cons (sl06Same_l4_k _ rfl rfl (fun _ _ => rfl)) lk_nil))

theorem sl06Same_told : SpecOk Try.prog 61 (toldO A_sl06Same R_sl06Same (fun x => sl06Same x.1 x.2.1 x.2.2.1 x.2.2.2.1 x.2.2.2.2.1 x.2.2.2.2.2) (C7 61)) := toldO_ok (by kernel_rfl) sl06Same_ok (rest_ok (C7_ok) _) sl06Same_m

noncomputable def C8 : Tab := tab 61 (toldO A_sl06Same R_sl06Same (fun x => sl06Same x.1 x.2.1 x.2.2.1 x.2.2.2.1 x.2.2.2.2.1 x.2.2.2.2.2) (C7 61)) C7
theorem C8_ok : TabOk Try.prog C8 := tab_ok (sl06Same_told) (C7_ok)

def A_sSameRiver : Shp := ⟨[.agg [.h, .h, .h], .agg [.h, .h, .h]], [], [.sl [.i .i64], .sl [.i .i64, .i .i64, .i .i64, .i .i64], .sl [.i .i64], .sl [.i .i64], .sl [.i .i64, .i .i64, .i .i64, .i .i64], .sl [.i .i64]]⟩
def R_sSameRiver : List XShp := [(.ret, ⟨[.h], [], [.b]⟩)]

theorem sSameRiver_e (x : DR A_sSameRiver.hs) : (evFn (envT Try.prog C8 mtab0) noLoops Try.f22 (A_sSameRiver.enc x).1).to (fun q => decX R_sSameRiver .ret [q.1] q.2) = sSameRiver_t x.1 x.2.1 x.2.2.1 x.2.2.2.1 x.2.2.2.2.1 x.2.2.2.2.2 := by kernel_rfl

theorem sSameRiver_m (x : DR A_sSameRiver.hs) : meanF (envT Try.prog C8 mtab0) noLoops Try.f22 A_sSameRiver R_sSameRiver x = (show Option (SumD (R_sSameRiver.map (·.2))) from sSameRiver x.1 x.2.1 x.2.2.1 x.2.2.2.1 x.2.2.2.2.1 x.2.2.2.2.2) := meanF_of (sSameRiver_e x)

theorem sSameRiver_ok : SpecOk Try.prog 22 (evFn (envT Try.prog C8 mtab0) noLoops Try.f22) := fnL_ok (envT_ok (C8_ok) (mtab0_ok _)) mixedO Try.func22 (by kernel_rfl) (c := bodyOf Try.f22) (by kernel_rfl) (loopFree_ok (by kernel_rfl))

theorem sSameRiver_told : SpecOk Try.prog 22 (toldO A_sSameRiver R_sSameRiver (fun x => sSameRiver x.1 x.2.1 x.2.2.1 x.2.2.2.1 x.2.2.2.2.1 x.2.2.2.2.2) (C8 22)) := toldO_ok (by kernel_rfl) sSameRiver_ok (rest_ok (C8_ok) _) sSameRiver_m

noncomputable def C9 : Tab := tab 22 (toldO A_sSameRiver R_sSameRiver (fun x => sSameRiver x.1 x.2.1 x.2.2.1 x.2.2.2.1 x.2.2.2.2.1 x.2.2.2.2.2) (C8 22)) C8
theorem C9_ok : TabOk Try.prog C9 := tab_ok (sSameRiver_told) (C8_ok)

def S_lEqual_l4 : Shp := ⟨[.h, .h, .undef, .h, .h], [], [.sl [.i .i64], .sl [.i .i64], .i .i64, .i .i64]⟩
def X_lEqual_l4 : List XShp := [(.ret, ⟨[.undef, .undef, .lb false, .undef, .undef], [], []⟩), (.exit 0, ⟨[.undef, .undef, .undef, .undef, .undef], [], []⟩)]

noncomputable def L_lEqual_l4 : Loops := (⟨26, lvT [(4, [0, 1, 4, 12, 13])], mdT [(4, .normal, [], [4]), (4, .exit 0, [], [0, 1, 4, 12, 13]), (4, .ret, [], [0, 1, 12, 13])], fun k vs bs => .bad⟩ : Loops)

theorem lEqual_l4_e (y0 : List Int) (y1 : List Int) (y2 : Int) (s : Int) : (loopStep (envT Try.prog C9 mtab0) L_lEqual_l4 4 (loopC (bodyOf Try.f63) 4) (S_lEqual_l4.enc (y0, y1, y2, s)).1 (S_lEqual_l4.enc (y0, y1, y2, s)).2).to (stepD S_lEqual_l4 X_lEqual_l4) = (lEqual_l4_t y0 y1 y2 s).map (Sum.map (fun s : Int => (show DR S_lEqual_l4.hs from (y0, y1, y2, s))) id) := by kernel_rfl

theorem lEqual_l4_r (x : DR S_lEqual_l4.hs) : (lEqual_l4 x.1 x.2.1 x.2.2.1 x.2.2.2 : Option (SumD (X_lEqual_l4.map (·.2)))) = runL (meanS (envT Try.prog C9 mtab0) L_lEqual_l4 4 (loopC (bodyOf Try.f63) 4) S_lEqual_l4 X_lEqual_l4) x := run_of (fun s : Int => (show DR S_lEqual_l4.hs from (x.1, x.2.1, x.2.2.1, s))) (lEqual_l4_e (x.1) (x.2.1) (x.2.2.1)) x.2.2.2

theorem lEqual_l4_k (L : Loops) (hn : L_lEqual_l4.n = L.n) (hlv : L_lEqual_l4.lv 4 = L.lv 4) (hL : ∀ vs bs, L.loop 4 vs bs = toldL S_lEqual_l4 X_lEqual_l4 (fun x => lEqual_l4 x.1 x.2.1 x.2.2.1 x.2.2.2) vs bs) : LOk Try.prog (envT Try.prog C9 mtab0) L 4 (loopC (bodyOf Try.f63) 4) := toldL_ok (L1 := L_lEqual_l4) (envT_ok (C9_ok) (mtab0_ok _)) mixedO hn hlv (loopFree_ok (by kernel_rfl)) lEqual_l4_r hL

def A_lEqual : Shp := ⟨[.h, .h], [], [.sl [.i .i64], .sl [.i .i64]]⟩
def R_lEqual : List XShp := [(.ret, ⟨[.h], [], [.b]⟩)]

noncomputable def L_lEqual : Loops := (⟨26, lvT [(4, [0, 1, 4, 12, 13])], mdT [(4, .normal, [], [4]), (4, .exit 0, [], [0, 1, 4, 12, 13]), (4, .ret, [], [0, 1, 12, 13])], fun k vs bs => bif Nat.beq k 4 then toldL S_lEqual_l4 X_lEqual_l4 (fun x => lEqual_l4 x.1 x.2.1 x.2.2.1 x.2.2.2) vs bs else .bad⟩ : Loops)

theorem lEqual_e (x : DR A_lEqual.hs) : (evFn (envT Try.prog C9 mtab0) L_lEqual Try.f63 (A_lEqual.enc x).1).to (fun q => decX R_lEqual .ret [q.1] q.2) = lEqual_t x.1 x.2 := by kernel_rfl

theorem lEqual_m (x : DR A_lEqual.hs) : meanF (envT Try.prog C9 mtab0) L_lEqual Try.f63 A_lEqual R_lEqual x = (show Option (SumD (R_lEqual.map (·.2))) from lEqual x.1 x.2) := meanF_of (lEqual_e x)

theorem lEqual_ok : SpecOk Try.prog 63 (evFn (envT Try.prog C9 mtab0) L_lEqual Try.f63) := fnL_ok (envT_ok (C9_ok) (mtab0_ok _)) mixedO Try.func63 (by kernel_rfl) (c := bodyOf Try.f63) (by kernel_rfl) (loopsL (l := [(4, loopC (bodyOf Try.f63) 4)]) (by kernel_rfl) (lk_cons (lEqual_l4_k _ rfl rfl (fun _ _ => rfl)) lk_nil))

theorem lEqual_told : SpecOk Try.prog 63 (toldO A_lEqual R_lEqual (fun x => lEqual x.1 x.2) (C9 63)) := toldO_ok (by kernel_rfl) lEqual_ok (rest_ok (C9_ok) _) lEqual_m

noncomputable def C10 : Tab := tab 63 (toldO A_lEqual R_lEqual (fun x => lEqual x.1 x.2) (C9 63)) C9
theorem C10_ok : TabOk Try.prog C10 := tab_ok (lEqual_told) (C9_ok)

def S_lEqual_n1_l4 : Shp := ⟨[.h, .h, .undef, .h, .h], [], [.sl [.i .i64, .i .i64, .i .i64, .i .i64], .sl [.i .i64, .i .i64, .i .i64, .i .i64], .i .i64, .i .i64]⟩
def X_lEqual_n1_l4 : List XShp := [(.ret, ⟨[.undef, .undef, .lb false, .undef, .undef], [], []⟩), (.exit 0, ⟨[.undef, .undef, .undef, .undef, .undef], [], []⟩)]

noncomputable def L_lEqual_n1_l4 : Loops := (⟨26, lvT [(4, [0, 1, 4, 12, 13])], mdT [(4, .normal, [], [4]), (4, .exit 0, [], [0, 1, 4, 12, 13]), (4, .ret, [], [0, 1, 12, 13])], fun k vs bs => .bad⟩ : Loops)

theorem lEqual_n1_l4_e (y0 : List (Int × Int × Int × Int)) (y1 : List (Int × Int × Int × Int)) (y2 : Int) (s : Int) : (loopStep (envT Try.prog C10 mtab0) L_lEqual_n1_l4 4 (loopC (bodyOf Try.f64) 4) (S_lEqual_n1_l4.enc (y0, y1, y2, s)).1 (S_lEqual_n1_l4.enc (y0, y1, y2, s)).2).to (stepD S_lEqual_n1_l4 X_lEqual_n1_l4) = (lEqual_n1_l4_t y0 y1 y2 s).map (Sum.map (fun s : Int => (show DR S_lEqual_n1_l4.hs from (y0, y1, y2, s))) id) := by kernel_rfl

theorem lEqual_n1_l4_r (x : DR S_lEqual_n1_l4.hs) : (lEqual_n1_l4 x.1 x.2.1 x.2.2.1 x.2.2.2 : Option (SumD (X_lEqual_n1_l4.map (·.2)))) = runL (meanS (envT Try.prog C10 mtab0) L_lEqual_n1_l4 4 (loopC (bodyOf Try.f64) 4) S_lEqual_n1_l4 X_lEqual_n1_l4) x := run_of (fun s : Int => (show DR S_lEqual_n1_l4.hs from (x.1, x.2.1, x.2.2.1, s))) (lEqual_n1_l4_e (x.1) (x.2.1) (x.2.2.1)) x.2.2.2

theorem lEqual_n1_l4_k (L : Loops) (hn : L_lEqual_n1_l4.n = L.n) (hlv : L_lEqual_n1_l4.lv 4 = L.lv 4) (hL : ∀ vs bs, L.loop 4 vs bs = toldL S_lEqual_n1_l4 X_lEqual_n1_l4 (fun x => lEqual_n1_l4 x.1 x.2.1 x.2.2.1 x.2.2.2) vs bs) : LOk Try.prog (envT Try.prog C10 mtab0) L 4 (loopC (bodyOf Try.f64) 4) := toldL_ok (L1 := L_lEqual_n1_l4) (envT_ok (C10_ok) (mtab0_ok _)) mixedO hn hlv (loopFree_ok (by kernel_rfl)) lEqual_n1_l4_r hL

def A_lEqual_n1 : Shp := ⟨[.h, .h], [], [.sl [.i .i64, .i .i64, .i .i64, .i .i64], .sl [.i .i64, .i .i64, .i .i64, .i .i64]]⟩
def R_lEqual_n1 : List XShp := [(.ret, ⟨[.h], [], [.b]⟩)]

noncomputable def L_lEqual_n1 : Loops := (⟨26, lvT [(4, [0, 1, 4, 12, 13])], mdT [(4, .normal, [], [4]), (4, .exit 0, [], [0, 1, 4, 12, 13]), (4, .ret, [], [0, 1, 12, 13])], fun k vs bs => bif Nat.beq k 4 then toldL S_lEqual_n1_l4 X_lEqual_n1_l4 (fun x => lEqual_n1_l4 x.1 x.2.1 x.2.2.1 x.2.2.2) vs bs else .bad⟩ : Loops)

theorem lEqual_n1_e (x : DR A_lEqual_n1.hs) : (evFn (envT Try.prog C10 mtab0) L_lEqual_n1 Try.f64 (A_lEqual_n1.enc x).1).to (fun q => decX R_lEqual_n1 .ret [q.1] q.2) = lEqual_n1_t x.1 x.2 := by kernel_rfl

theorem lEqual_n1_m (x : DR A_lEqual_n1.hs) : meanF (envT Try.prog C10 mtab0) L_lEqual_n1 Try.f64 A_lEqual_n1 R_lEqual_n1 x = (show Option (SumD (R_lEqual_n1.map (·.2))) from lEqual_n1 x.1 x.2) := meanF_of (lEqual_n1_e x)

theorem lEqual_n1_ok : SpecOk Try.prog 64 (evFn (envT Try.prog C10 mtab0) L_lEqual_n1 Try.f64) := fnL_ok (envT_ok (C10_ok) (mtab0_ok _)) mixedO Try.func64 (by kernel_rfl) (c := bodyOf Try.f64) (by kernel_rfl) (loopsL (l := [(4, loopC (bodyOf Try.f64) 4)]) (by kernel_rfl) (lk_cons (lEqual_n1_l4_k _ rfl rfl (fun _ _ => rfl)) lk_nil))

theorem lEqual_n1_told : SpecOk Try.prog 64 (toldO A_lEqual_n1 R_lEqual_n1 (fun x => lEqual_n1 x.1 x.2) (C10 64)) := toldO_ok (by kernel_rfl) lEqual_n1_ok (rest_ok (C10_ok) _) lEqual_n1_m

noncomputable def C11 : Tab := tab 64 (toldO A_lEqual_n1 R_lEqual_n1 (fun x => lEqual_n1 x.1 x.2) (C10 64)) C10
theorem C11_ok : TabOk Try.prog C11 := tab_ok (lEqual_n1_told) (C10_ok)

def A_iSameRiver : Shp := ⟨[.agg [.h, .h, .h], .agg [.h, .h, .h]], [], [.sl [.i .i64], .sl [.i .i64, .i .i64, .i .i64, .i .i64], .sl [.i .i64], .sl [.i .i64], .sl [.i .i64, .i .i64, .i .i64, .i .i64], .sl [.i .i64]]⟩
def R_iSameRiver : List XShp := [(.ret, ⟨[.h], [], [.b]⟩)]

theorem iSameRiver_e (x : DR A_iSameRiver.hs) : (evFn (envT Try.prog C11 mtab0) noLoops Try.f24 (A_iSameRiver.enc x).1).to (fun q => decX R_iSameRiver .ret [q.1] q.2) = iSameRiver_t x.1 x.2.1 x.2.2.1 x.2.2.2.1 x.2.2.2.2.1 x.2.2.2.2.2 := by kernel_rfl

theorem iSameRiver_m (x : DR A_iSameRiver.hs) : meanF (envT Try.prog C11 mtab0) noLoops Try.f24 A_iSameRiver R_iSameRiver x = (show Option (SumD (R_iSameRiver.map (·.2))) from iSameRiver x.1 x.2.1 x.2.2.1 x.2.2.2.1 x.2.2.2.2.1 x.2.2.2.2.2) := meanF_of (iSameRiver_e x)

theorem iSameRiver_ok : SpecOk Try.prog 24 (evFn (envT Try.prog C11 mtab0) noLoops Try.f24) := fnL_ok (envT_ok (C11_ok) (mtab0_ok _)) mixedO Try.func24 (by kernel_rfl) (c := bodyOf Try.f24) (by kernel_rfl) (loopFree_ok (by kernel_rfl))

theorem iSameRiver_told : SpecOk Try.prog 24 (toldO A_iSameRiver R_iSameRiver (fun x => iSameRiver x.1 x.2.1 x.2.2.1 x.2.2.2.1 x.2.2.2.2.1 x.2.2.2.2.2) (C11 24)) := toldO_ok (by kernel_rfl) iSameRiver_ok (rest_ok (C11_ok) _) iSameRiver_m

noncomputable def C12 : Tab := tab 24 (toldO A_iSameRiver R_iSameRiver (fun x => iSameRiver x.1 x.2.1 x.2.2.1 x.2.2.2.1 x.2.2.2.2.1 x.2.2.2.2.2) (C11 24)) C11
theorem C12_ok : TabOk Try.prog C12 := tab_ok (iSameRiver_told) (C11_ok)

def S_weqInt64S_l4 : Shp := ⟨[.h, .h, .undef, .h], [], [.sl [.i .i64], .sl [.i .i64], .i .i64]⟩
def X_weqInt64S_l4 : List XShp := [(.ret, ⟨[.undef, .undef, .lb false, .undef], [], []⟩), (.exit 0, ⟨[.undef, .undef, .undef, .undef], [], []⟩)]

noncomputable def L_weqInt64S_l4 : Loops := (⟨26, lvT [(4, [0, 1, 4, 5])], mdT [(4, .normal, [], [4]), (4, .exit 0, [], [0, 1, 4, 5]), (4, .ret, [], [0, 1, 5])], fun k vs bs => .bad⟩ : Loops)

theorem weqInt64S_l4_e (y0 : List Int) (y1 : List Int) (s : Int) : (loopStep (envT Try.prog C12 mtab0) L_weqInt64S_l4 4 (loopC (bodyOf Try.f18) 4) (S_weqInt64S_l4.enc (y0, y1, s)).1 (S_weqInt64S_l4.enc (y0, y1, s)).2).to (stepD S_weqInt64S_l4 X_weqInt64S_l4) = (weqInt64S_l4_t y0 y1 s).map (Sum.map (fun s : Int => (show DR S_weqInt64S_l4.hs from (y0, y1, s))) id) := by kernel_rfl

theorem weqInt64S_l4_r (x : DR S_weqInt64S_l4.hs) : (weqInt64S_l4 x.1 x.2.1 x.2.2 : Option (SumD (X_weqInt64S_l4.map (·.2)))) = runL (meanS (envT Try.prog C12 mtab0) L_weqInt64S_l4 4 (loopC (bodyOf Try.f18) 4) S_weqInt64S_l4 X_weqInt64S_l4) x := run_of (fun s : Int => (show DR S_weqInt64S_l4.hs from (x.1, x.2.1, s))) (weqInt64S_l4_e (x.1) (x.2.1)) x.2.2

theorem weqInt64S_l4_k (L : Loops) (hn : L_weqInt64S_l4.n = L.n) (hlv : L_weqInt64S_l4.lv 4 = L.lv 4) (hL : ∀ vs bs, L.loop 4 vs bs = toldL S_weqInt64S_l4 X_weqInt64S_l4 (fun x => weqInt64S_l4 x.1 x.2.1 x.2.2) vs bs) : LOk Try.prog (envT Try.prog C12 mtab0) L 4 (loopC (bodyOf Try.f18) 4) := toldL_ok (L1 := L_weqInt64S_l4) (envT_ok (C12_ok) (mtab0_ok _)) mixedO hn hlv (loopFree_ok (by kernel_rfl)) weqInt64S_l4_r hL

def A_weqInt64S : Shp := ⟨[.h, .h], [], [.sl [.i .i64], .sl [.i .i64]]⟩
def R_weqInt64S : List XShp := [(.ret, ⟨[.h], [], [.b]⟩)]

noncomputable def L_weqInt64S : Loops := (⟨26, lvT [(4, [0, 1, 4, 5])], mdT [(4, .normal, [], [4]), (4, .exit 0, [], [0, 1, 4, 5]), (4, .ret, [], [0, 1, 5])], fun k vs bs => bif Nat.beq k 4 then toldL S_weqInt64S_l4 X_weqInt64S_l4 (fun x => weqInt64S_l4 x.1 x.2.1 x.2.2) vs bs else .bad⟩ : Loops)

theorem weqInt64S_e (x : DR A_weqInt64S.hs) : (evFn (envT Try.prog C12 mtab0) L_weqInt64S Try.f18 (A_weqInt64S.enc x).1).to (fun q => decX R_weqInt64S .ret [q.1] q.2) = weqInt64S_t x.1 x.2 := by kernel_rfl

theorem weqInt64S_m (x : DR A_weqInt64S.hs) : meanF (envT Try.prog C12 mtab0) L_weqInt64S Try.f18 A_weqInt64S R_weqInt64S x = (show Option (SumD (R_weqInt64S.map (·.2))) from weqInt64S x.1 x.2) := meanF_of (weqInt64S_e x)

theorem weqInt64S_ok : SpecOk Try.prog 18 (evFn (envT Try.prog C12 mtab0) L_weqInt64S Try.f18) := fnL_ok (envT_ok (C12_ok) (mtab0_ok _)) mixedO Try.func18 (by kernel_rfl) (c := bodyOf Try.f18) (by kernel_rfl) (loopsL (l := [(4, loopC (bodyOf Try.f18) 4)]) (by kernel_rfl) (lk_cons (weqInt64S_l4_k _ rfl rfl (fun _ _ => rfl)) lk_nil))

theorem weqInt64S_told : SpecOk Try.prog 18 (toldO A_weqInt64S R_weqInt64S (fun x => weqInt64S x.1 x.2) (C12 18)) := toldO_ok (by kernel_rfl) weqInt64S_ok (rest_ok (C12_ok) _) weqInt64S_m

noncomputable def C13 : Tab := tab 18 (toldO A_weqInt64S R_weqInt64S (fun x => weqInt64S x.1 x.2) (C12 18)) C12
theorem C13_ok : TabOk Try.prog C13 := tab_ok (weqInt64S_told) (C12_ok)

def A_weqDam : Shp := ⟨[.agg [.h, .h, .h, .h], .agg [.h, .h, .h, .h]], [], [.i .i64, .i .i64, .i .i64, .i .i64, .i .i64, .i .i64, .i .i64, .i .i64]⟩
def R_weqDam : List XShp := [(.ret, ⟨[.h], [], [.b]⟩)]

theorem weqDam_e (x : DR A_weqDam.hs) : (evFn (envT Try.prog C13 mtab0) noLoops Try.f89 (A_weqDam.enc x).1).to (fun q => decX R_weqDam .ret [q.1] q.2) = weqDam_t x.1 x.2.1 x.2.2.1 x.2.2.2.1 x.2.2.2.2.1 x.2.2.2.2.2.1 x.2.2.2.2.2.2.1 x.2.2.2.2.2.2.2 := by kernel_rfl

theorem weqDam_m (x : DR A_weqDam.hs) : meanF (envT Try.prog C13 mtab0) noLoops Try.f89 A_weqDam R_weqDam x = some (show SumD (R_weqDam.map (·.2)) from weqDam x.1 x.2.1 x.2.2.1 x.2.2.2.1 x.2.2.2.2.1 x.2.2.2.2.2.1 x.2.2.2.2.2.2.1 x.2.2.2.2.2.2.2) := @meanF_tot _ _ _ _ _ _ _ (weqDam_e x) (show Inhabited (Bool) from inferInstance) (by kernel_rfl)

theorem weqDam_ok : SpecOk Try.prog 89 (evFn (envT Try.prog C13 mtab0) noLoops Try.f89) := fnL_ok (envT_ok (C13_ok) (mtab0_ok _)) mixedO Try.func89 (by kernel_rfl) (c := bodyOf Try.f89) (by kernel_rfl) (loopFree_ok (by kernel_rfl))

theorem weqDam_told : SpecOk Try.prog 89 (toldT A_weqDam R_weqDam (fun x => weqDam x.1 x.2.1 x.2.2.1 x.2.2.2.1 x.2.2.2.2.1 x.2.2.2.2.2.1 x.2.2.2.2.2.2.1 x.2.2.2.2.2.2.2) (C13 89)) := toldT_ok (by kernel_rfl) weqDam_ok (rest_ok (C13_ok) _) weqDam_m

noncomputable def C14 : Tab := tab 89 (toldT A_weqDam R_weqDam (fun x => weqDam x.1 x.2.1 x.2.2.1 x.2.2.2.1 x.2.2.2.2.1 x.2.2.2.2.2.1 x.2.2.2.2.2.2.1 x.2.2.2.2.2.2.2) (C13 89)) C13
theorem C14_ok : TabOk Try.prog C14 := tab_ok (weqDam_told) (C13_ok)

def S_weqDamS_l4 : Shp := ⟨[.h, .h, .undef, .h], [], [.sl [.i .i64, .i .i64, .i .i64, .i .i64], .sl [.i .i64, .i .i64, .i .i64, .i .i64], .i .i64]⟩
def X_weqDamS_l4 : List XShp := [(.ret, ⟨[.undef, .undef, .lb false, .undef], [], []⟩), (.exit 0, ⟨[.undef, .undef, .undef, .undef], [], []⟩)]

noncomputable def L_weqDamS_l4 : Loops := (⟨27, lvT [(4, [0, 1, 4, 5])], mdT [(4, .normal, [], [4]), (4, .exit 0, [], [0, 1, 4, 5]), (4, .ret, [], [0, 1, 5])], fun k vs bs => .bad⟩ : Loops)

theorem weqDamS_l4_e (y0 : List (Int × Int × Int × Int)) (y1 : List (Int × Int × Int × Int)) (s : Int) : (loopStep (envT Try.prog C14 mtab0) L_weqDamS_l4 4 (loopC (bodyOf Try.f65) 4) (S_weqDamS_l4.enc (y0, y1, s)).1 (S_weqDamS_l4.enc (y0, y1, s)).2).to (stepD S_weqDamS_l4 X_weqDamS_l4) = (weqDamS_l4_t y0 y1 s).map (Sum.map (fun s : Int => (show DR S_weqDamS_l4.hs from (y0, y1, s))) id) := by kernel_rfl

theorem weqDamS_l4_r (x : DR S_weqDamS_l4.hs) : (weqDamS_l4 x.1 x.2.1 x.2.2 : Option (SumD (X_weqDamS_l4.map (·.2)))) = runL (meanS (envT Try.prog C14 mtab0) L_weqDamS_l4 4 (loopC (bodyOf Try.f65) 4) S_weqDamS_l4 X_weqDamS_l4) x := run_of (fun s : Int => (show DR S_weqDamS_l4.hs from (x.1, x.2.1, s))) (weqDamS_l4_e (x.1) (x.2.1)) x.2.2

theorem weqDamS_l4_k (L : Loops) (hn : L_weqDamS_l4.n = L.n) (hlv : L_weqDamS_l4.lv 4 = L.lv 4) (hL : ∀ vs bs, L.loop 4 vs bs = toldL S_weqDamS_l4 X_weqDamS_l4 (fun x => weqDamS_l4 x.1 x.2.1 x.2.2) vs bs) : LOk Try.prog (envT Try.prog C14 mtab0) L 4 (loopC (bodyOf Try.f65) 4) := toldL_ok (L1 := L_weqDamS_l4) (envT_ok (C14_ok) (mtab0_ok _)) mixedO hn hlv (loopFree_ok (by kernel_rfl)) weqDamS_l4_r hL

def A_weqDamS : Shp := ⟨[.h, .h], [], [.sl [.i .i64, .i .i64, .i .i64, .i .i64], .sl [.i .i64, .i .i64, .i .i64, .i .i64]]⟩
def R_weqDamS : List XShp := [(.ret, ⟨[.h], [], [.b]⟩)]

noncomputable def L_weqDamS : Loops := (⟨27, lvT [(4, [0, 1, 4, 5])], mdT [(4, .normal, [], [4]), (4, .exit 0, [], [0, 1, 4, 5]), (4, .ret, [], [0, 1, 5])], fun k vs bs => bif Nat.beq k 4 then toldL S_weqDamS_l4 X_weqDamS_l4 (fun x => weqDamS_l4 x.1 x.2.1 x.2.2) vs bs else .bad⟩ : Loops)

theorem weqDamS_e (x : DR A_weqDamS.hs) : (evFn (envT Try.prog C14 mtab0) L_weqDamS Try.f65 (A_weqDamS.enc x).1).to (fun q => decX R_weqDamS .ret [q.1] q.2) = weqDamS_t x.1 x.2 := by kernel_rfl

theorem weqDamS_m (x : DR A_weqDamS.hs) : meanF (envT Try.prog C14 mtab0) L_weqDamS Try.f65 A_weqDamS R_weqDamS x = (show Option (SumD (R_weqDamS.map (·.2))) from weqDamS x.1 x.2) := meanF_of (weqDamS_e x)

theorem weqDamS_ok : SpecOk Try.prog 65 (evFn (envT Try.prog C14 mtab0) L_weqDamS Try.f65) := fnL_ok (envT_ok (C14_ok) (mtab0_ok _)) mixedO Try.func65 (by kernel_rfl) (c := bodyOf Try.f65) (by kernel_rfl) (loopsL (l := [(4, loopC (bodyOf Try.f65) 4)]) (by kernel_rfl) (lk_cons (weqDamS_l4_k _ rfl rfl (fun _ _ => rfl)) lk_nil))

theorem weqDamS_told : SpecOk Try.prog 65 (toldO A_weqDamS R_weqDamS (fun x => weqDamS x.1 x.2) (C14 65)) := toldO_ok (by kernel_rfl) weqDamS_ok (rest_ok (C14_ok) _) weqDamS_m

noncomputable def C15 : Tab := tab 65 (toldO A_weqDamS R_weqDamS (fun x => weqDamS x.1 x.2) (C14 65)) C14
theorem C15_ok : TabOk Try.prog C15 := tab_ok (weqDamS_told) (C14_ok)

def A_weqRiver : Shp := ⟨[.agg [.h, .h, .h], .agg [.h, .h, .h]], [], [.sl [.i .i64], .sl [.i .i64, .i .i64, .i .i64, .i .i64], .sl [.i .i64], .sl [.i .i64], .sl [.i .i64, .i .i64, .i .i64, .i .i64], .sl [.i .i64]]⟩
def R_weqRiver : List XShp := [(.ret, ⟨[.h], [], [.b]⟩)]

theorem weqRiver_e (x : DR A_weqRiver.hs) : (evFn (envT Try.prog C15 mtab0) noLoops Try.f25 (A_weqRiver.enc x).1).to (fun q => decX R_weqRiver .ret [q.1] q.2) = weqRiver_t x.1 x.2.1 x.2.2.1 x.2.2.2.1 x.2.2.2.2.1 x.2.2.2.2.2 := by kernel_rfl

theorem weqRiver_m (x : DR A_weqRiver.hs) : meanF (envT Try.prog C15 mtab0) noLoops Try.f25 A_weqRiver R_weqRiver x = (show Option (SumD (R_weqRiver.map (·.2))) from weqRiver x.1 x.2.1 x.2.2.1 x.2.2.2.1 x.2.2.2.2.1 x.2.2.2.2.2) := meanF_of (weqRiver_e x)

theorem weqRiver_ok : SpecOk Try.prog 25 (evFn (envT Try.prog C15 mtab0) noLoops Try.f25) := fnL_ok (envT_ok (C15_ok) (mtab0_ok _)) mixedO Try.func25 (by kernel_rfl) (c := bodyOf Try.f25) (by kernel_rfl) (loopFree_ok (by kernel_rfl))

theorem weqRiver_told : SpecOk Try.prog 25 (toldO A_weqRiver R_weqRiver (fun x => weqRiver x.1 x.2.1 x.2.2.1 x.2.2.2.1 x.2.2.2.2.1 x.2.2.2.2.2) (C15 25)) := toldO_ok (by kernel_rfl) weqRiver_ok (rest_ok (C15_ok) _) weqRiver_m

noncomputable def C16 : Tab := tab 25 (toldO A_weqRiver R_weqRiver (fun x => weqRiver x.1 x.2.1 x.2.2.1 x.2.2.2.1 x.2.2.2.2.1 x.2.2.2.2.2) (C15 25)) C15
theorem C16_ok : TabOk Try.prog C16 := tab_ok (weqRiver_told) (C15_ok)

def A_wFnExactSameRiver : Shp := ⟨[.agg [.h, .h, .h], .agg [.h, .h, .h]], [], [.sl [.i .i64], .sl [.i .i64, .i .i64, .i .i64, .i .i64], .sl [.i .i64], .sl [.i .i64], .sl [.i .i64, .i .i64, .i .i64, .i .i64], .sl [.i .i64]]⟩
def R_wFnExactSameRiver : List XShp := [(.ret, ⟨[.h], [], [.b]⟩)]

theorem wFnExactSameRiver_e (x : DR A_wFnExactSameRiver.hs) : (evFn (envT Try.prog C16 mtab0) noLoops Try.f4 (A_wFnExactSameRiver.enc x).1).to (fun q => decX R_wFnExactSameRiver .ret [q.1] q.2) = wFnExactSameRiver_t x.1 x.2.1 x.2.2.1 x.2.2.2.1 x.2.2.2.2.1 x.2.2.2.2.2 := by kernel_rfl

theorem wFnExactSameRiver_m (x : DR A_wFnExactSameRiver.hs) : meanF (envT Try.prog C16 mtab0) noLoops Try.f4 A_wFnExactSameRiver R_wFnExactSameRiver x = (show Option (SumD (R_wFnExactSameRiver.map (·.2))) from wFnExactSameRiver x.1 x.2.1 x.2.2.1 x.2.2.2.1 x.2.2.2.2.1 x.2.2.2.2.2) := meanF_of (wFnExactSameRiver_e x)

theorem wFnExactSameRiver_ok : SpecOk Try.prog 4 (evFn (envT Try.prog C16 mtab0) noLoops Try.f4) := fnL_ok (envT_ok (C16_ok) (mtab0_ok _)) mixedO Try.func4 (by kernel_rfl) (c := bodyOf Try.f4) (by kernel_rfl) (loopFree_ok (by kernel_rfl))

theorem wFnExactSameRiver_told : SpecOk Try.prog 4 (toldO A_wFnExactSameRiver R_wFnExactSameRiver (fun x => wFnExactSameRiver x.1 x.2.1 x.2.2.1 x.2.2.2.1 x.2.2.2.2.1 x.2.2.2.2.2) (C16 4)) := toldO_ok (by kernel_rfl) wFnExactSameRiver_ok (rest_ok (C16_ok) _) wFnExactSameRiver_m

noncomputable def C17 : Tab := tab 4 (toldO A_wFnExactSameRiver R_wFnExactSameRiver (fun x => wFnExactSameRiver x.1 x.2.1 x.2.2.1 x.2.2.2.1 x.2.2.2.2.1 x.2.2.2.2.2) (C16 4)) C16
theorem C17_ok : TabOk Try.prog C17 := tab_ok (wFnExactSameRiver_told) (C16_ok)

theorem lawFnExactSameRiver_ok : SpecOk Try.prog 4 (evFn (envT Try.prog C16 mtab0) noLoops Try.f4) := wFnExactSameRiver_ok
theorem lawFnExactSameRiver_says (x : DR A_wFnExactSameRiver.hs) (h : (show Option (SumD (R_wFnExactSameRiver.map (·.2))) from wFnExactSameRiver x.1 x.2.1 x.2.2.1 x.2.2.2.1 x.2.2.2.2.1 x.2.2.2.2.2) = some true) : saysTrue (evFn (envT Try.prog C16 mtab0) noLoops Try.f4 (A_wFnExactSameRiver.enc x).1) = true := law_says (x := x) ((wFnExactSameRiver_m x).trans h)

theorem lawFnExactSameRiver_true (x0 : List Int) (x1 : List (Int × Int × Int × Int)) (x2 : List Int) (x3 : List Int) (x4 : List (Int × Int × Int × Int)) (x5 : List Int) (h : wFnExactSameRiver x0 x1 x2 x3 x4 x5 = some true) : saysTrue (evFn (envT Try.prog C16 mtab0) noLoops Try.f4 [.agg [.ds [.i .i64] x0, .ds [.i .i64, .i .i64, .i .i64, .i .i64] x1, .ds [.i .i64] x2], .agg [.ds [.i .i64] x3, .ds [.i .i64, .i .i64, .i .i64, .i .i64] x4, .ds [.i .i64] x5]]) = true := (congrArg (fun l => saysTrue (evFn (envT Try.prog C16 mtab0) noLoops Try.f4 l)) (by kernel_rfl : ([.agg [.ds [.i .i64] x0, .ds [.i .i64, .i .i64, .i .i64, .i .i64] x1, .ds [.i .i64] x2], .agg [.ds [.i .i64] x3, .ds [.i .i64, .i .i64, .i .i64, .i .i64] x4, .ds [.i .i64] x5]] : List V) = (A_wFnExactSameRiver.enc (x0, x1, x2, x3, x4, x5)).1)).trans (lawFnExactSameRiver_says (x0, x1, x2, x3, x4, x5) h)
end Go.Proofs.Ytjohnpldkanjmaa
