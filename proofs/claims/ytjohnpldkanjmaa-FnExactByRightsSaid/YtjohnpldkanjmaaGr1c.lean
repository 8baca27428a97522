/- Functions, as plain functions. What the program comes to. -/
import Derived.Test.YtjohnpldkanjmaaGr1d
import Derived.Test.YtjohnpldkanjmaaDc
import Derived.Test.YtjohnpldkanjmaaNv
import Derived.KernelRfl
set_option linter.unusedVariables false
set_option linter.unusedSimpArgs false
set_option linter.constructorNameAsVariable false
namespace Go.Proofs.Ytjohnpldkanjmaa
open Go.RowKit
set_option maxRecDepth 100000
theorem mixedO : (Try.prog).follows .mixedOrders = true := by kernel_rfl
def S_wtoInt64S_l3 : Shp := ⟨[.h, .slw 0 1, .h], [.arr [.i .i64] false], [.sl [.i .i64], .i .i64, .sl [.i .i64]]⟩
def X_wtoInt64S_l3 : List XShp := [(.exit 0, ⟨[.undef, .slw 0 1, .undef], [.arr [.i .i64] false], [.sl [.i .i64]]⟩)]

noncomputable def L_wtoInt64S_l3 : Loops := (⟨22, lvT [(3, [0, 3, 4])], mdT [(3, .exit 0, [], [0, 4])], fun k vs bs => .bad⟩ : Loops)

theorem wtoInt64S_l3_e (y0 : List Int) (s : Int × List Int) : (loopStep (envT Try.prog tab0 mtab0) L_wtoInt64S_l3 3 (loopC (bodyOf Try.f16) 3) (S_wtoInt64S_l3.enc (y0, s.1, s.2)).1 (S_wtoInt64S_l3.enc (y0, s.1, s.2)).2).to (stepD S_wtoInt64S_l3 X_wtoInt64S_l3) = (wtoInt64S_l3_t y0 s.1 s.2).map (Sum.map (fun s : Int × List Int => (show DR S_wtoInt64S_l3.hs from (y0, s.1, s.2))) id) := by kernel_rfl

theorem wtoInt64S_l3_r (x : DR S_wtoInt64S_l3.hs) : (wtoInt64S_l3 x.1 x.2.1 x.2.2 : Option (SumD (X_wtoInt64S_l3.map (·.2)))) = runL (meanS (envT Try.prog tab0 mtab0) L_wtoInt64S_l3 3 (loopC (bodyOf Try.f16) 3) S_wtoInt64S_l3 X_wtoInt64S_l3) x := run_of (fun s : Int × List Int => (show DR S_wtoInt64S_l3.hs from (x.1, s.1, s.2))) (wtoInt64S_l3_e (x.1)) (x.2.1, x.2.2)

theorem wtoInt64S_l3_k (L : Loops) (hn : L_wtoInt64S_l3.n = L.n) (hlv : L_wtoInt64S_l3.lv 3 = L.lv 3) (hL : ∀ vs bs, L.loop 3 vs bs = toldL S_wtoInt64S_l3 X_wtoInt64S_l3 (fun x => wtoInt64S_l3 x.1 x.2.1 x.2.2) vs bs) : LOk Try.prog (envT Try.prog tab0 mtab0) L 3 (loopC (bodyOf Try.f16) 3) := toldL_ok (L1 := L_wtoInt64S_l3) (envT_ok (tab0_ok _) (mtab0_ok _)) mixedO hn hlv (loopFree_ok (by kernel_rfl)) wtoInt64S_l3_r hL

def A_wtoInt64S : Shp := ⟨[.h], [], [.sl [.i .i64]]⟩
def R_wtoInt64S : List XShp := [(.ret, ⟨[.slw 0 1], [.arr [.i .i64] false], [.sl [.i .i64]]⟩)]

noncomputable def L_wtoInt64S : Loops := (⟨22, lvT [(3, [0, 3, 4])], mdT [(3, .exit 0, [], [0, 4])], fun k vs bs => bif Nat.beq k 3 then toldL S_wtoInt64S_l3 X_wtoInt64S_l3 (fun x => wtoInt64S_l3 x.1 x.2.1 x.2.2) vs bs else .bad⟩ : Loops)

theorem wtoInt64S_e (x : DR A_wtoInt64S.hs) : (evFn (envT Try.prog tab0 mtab0) L_wtoInt64S Try.f16 (A_wtoInt64S.enc x).1).to (fun q => decX R_wtoInt64S .ret [q.1] q.2) = wtoInt64S_t x := by kernel_rfl

theorem wtoInt64S_m (x : DR A_wtoInt64S.hs) : meanF (envT Try.prog tab0 mtab0) L_wtoInt64S Try.f16 A_wtoInt64S R_wtoInt64S x = (show Option (SumD (R_wtoInt64S.map (·.2))) from wtoInt64S x) := meanF_of (wtoInt64S_e x)

theorem wtoInt64S_ok : SpecOk Try.prog 16 (evFn (envT Try.prog tab0 mtab0) L_wtoInt64S Try.f16) := fnL_ok (envT_ok (tab0_ok _) (mtab0_ok _)) mixedO Try.func16 (by kernel_rfl) (c := bodyOf Try.f16) (by kernel_rfl) (loopsL (l := [(3, loopC (bodyOf Try.f16) 3)]) (by kernel_rfl) (lk_cons (wtoInt64S_l3_k _ rfl rfl (fun _ _ => rfl)) lk_nil))

theorem wtoInt64S_told : SpecOk Try.prog 16 (toldO A_wtoInt64S R_wtoInt64S (fun x => wtoInt64S x) (tab0 16)) := toldO_ok (by kernel_rfl) wtoInt64S_ok (rest_ok (tab0_ok _) _) wtoInt64S_m

noncomputable def C0 : Tab := tab 16 (toldO A_wtoInt64S R_wtoInt64S (fun x => wtoInt64S x) (tab0 16)) tab0
theorem C0_ok : TabOk Try.prog C0 := tab_ok (wtoInt64S_told) (tab0_ok _)

def A_sl00In : Shp := ⟨[.h, .h, .h], [], [.i .i64, .i .i64, .i .i64]⟩
def R_sl00In : List XShp := [(.ret, ⟨[.h], [], [.b]⟩)]

theorem sl00In_e (x : DR A_sl00In.hs) : (evFn (envT Try.prog C0 mtab0) noLoops Try.f66 (A_sl00In.enc x).1).to (fun q => decX R_sl00In .ret [q.1] q.2) = sl00In_t x.1 x.2.1 x.2.2 := by kernel_rfl

theorem sl00In_m (x : DR A_sl00In.hs) : meanF (envT Try.prog C0 mtab0) noLoops Try.f66 A_sl00In R_sl00In x = some (show SumD (R_sl00In.map (·.2)) from sl00In x.1 x.2.1 x.2.2) := @meanF_tot _ _ _ _ _ _ _ (sl00In_e x) (show Inhabited (Bool) from inferInstance) (by kernel_rfl)

theorem sl00In_ok : SpecOk Try.prog 66 (evFn (envT Try.prog C0 mtab0) noLoops Try.f66) := fnL_ok (envT_ok (C0_ok) (mtab0_ok _)) mixedO Try.func66 (by kernel_rfl) (c := bodyOf Try.f66) (by kernel_rfl) (loopFree_ok (by kernel_rfl))

theorem sl00In_told : SpecOk Try.prog 66 (toldT A_sl00In R_sl00In (fun x => sl00In x.1 x.2.1 x.2.2) (C0 66)) := toldT_ok (by kernel_rfl) sl00In_ok (rest_ok (C0_ok) _) sl00In_m

noncomputable def C1 : Tab := tab 66 (toldT A_sl00In R_sl00In (fun x => sl00In x.1 x.2.1 x.2.2) (C0 66)) C0
theorem C1_ok : TabOk Try.prog C1 := tab_ok (sl00In_told) (C0_ok)

def A_sl06Unit : Shp := ⟨[.h], [], [.i .i64]⟩
def R_sl06Unit : List XShp := [(.ret, ⟨[.h], [], [.b]⟩)]

theorem sl06Unit_e (x : DR A_sl06Unit.hs) : (evFn (envT Try.prog C1 mtab0) noLoops Try.f52 (A_sl06Unit.enc x).1).to (fun q => decX R_sl06Unit .ret [q.1] q.2) = sl06Unit_t x := by kernel_rfl

theorem sl06Unit_m (x : DR A_sl06Unit.hs) : meanF (envT Try.prog C1 mtab0) noLoops Try.f52 A_sl06Unit R_sl06Unit x = some (show SumD (R_sl06Unit.map (·.2)) from sl06Unit x) := @meanF_tot _ _ _ _ _ _ _ (sl06Unit_e x) (show Inhabited (Bool) from inferInstance) (by kernel_rfl)

theorem sl06Unit_ok : SpecOk Try.prog 52 (evFn (envT Try.prog C1 mtab0) noLoops Try.f52) := fnL_ok (envT_ok (C1_ok) (mtab0_ok _)) mixedO Try.func52 (by kernel_rfl) (c := bodyOf Try.f52) (by kernel_rfl) (loopFree_ok (by kernel_rfl))

theorem sl06Unit_told : SpecOk Try.prog 52 (toldT A_sl06Unit R_sl06Unit (fun x => sl06Unit x) (C1 52)) := toldT_ok (by kernel_rfl) sl06Unit_ok (rest_ok (C1_ok) _) sl06Unit_m

noncomputable def C2 : Tab := tab 52 (toldT A_sl06Unit R_sl06Unit (fun x => sl06Unit x) (C1 52)) C1
theorem C2_ok : TabOk Try.prog C2 := tab_ok (sl06Unit_told) (C1_ok)

def S_sl06Inflows_l2 : Shp := ⟨[.h, .h, .undef, .h], [], [.sl [.i .i64], .i .i64, .i .i64]⟩
def X_sl06Inflows_l2 : List XShp := [(.ret, ⟨[.undef, .undef, .lb false, .undef], [], []⟩), (.exit 0, ⟨[.h, .h, .undef, .undef], [], [.sl [.i .i64], .i .i64]⟩)]

noncomputable def L_sl06Inflows_l2 : Loops := (⟨28, lvT [(2, [0, 1, 4, 5])], mdT [(2, .normal, [], [4]), (2, .exit 0, [], [4, 5]), (2, .ret, [], [0, 1, 5])], fun k vs bs => .bad⟩ : Loops)

theorem sl06Inflows_l2_e (y0 : List Int) (y1 : Int) (s : Int) : (loopStep (envT Try.prog C2 mtab0) L_sl06Inflows_l2 2 (loopC (bodyOf Try.f86) 2) (S_sl06Inflows_l2.enc (y0, y1, s)).1 (S_sl06Inflows_l2.enc (y0, y1, s)).2).to (stepD S_sl06Inflows_l2 X_sl06Inflows_l2) = (sl06Inflows_l2_t y0 y1 s).map (Sum.map (fun s : Int => (show DR S_sl06Inflows_l2.hs from (y0, y1, s))) id) := by kernel_rfl

theorem sl06Inflows_l2_r (x : DR S_sl06Inflows_l2.hs) : (sl06Inflows_l2 x.1 x.2.1 x.2.2 : Option (SumD (X_sl06Inflows_l2.map (·.2)))) = runL (meanS (envT Try.prog C2 mtab0) L_sl06Inflows_l2 2 (loopC (bodyOf Try.f86) 2) S_sl06Inflows_l2 X_sl06Inflows_l2) x := run_of (fun s : Int => (show DR S_sl06Inflows_l2.hs from (x.1, x.2.1, s))) (sl06Inflows_l2_e (x.1) (x.2.1)) x.2.2

theorem sl06Inflows_l2_k (L : Loops) (hn : L_sl06Inflows_l2.n = L.n) (hlv : L_sl06Inflows_l2.lv 2 = L.lv 2) (hL : ∀ vs bs, L.loop 2 vs bs = toldL S_sl06Inflows_l2 X_sl06Inflows_l2 (fun x => sl06Inflows_l2 x.1 x.2.1 x.2.2) vs bs) : LOk Try.prog (envT Try.prog C2 mtab0) L 2 (loopC (bodyOf Try.f86) 2) := toldL_ok (L1 := L_sl06Inflows_l2) (envT_ok (C2_ok) (mtab0_ok _)) mixedO hn hlv (loopFree_ok (by kernel_rfl)) sl06Inflows_l2_r hL

def A_sl06Inflows : Shp := ⟨[.h, .h], [], [.sl [.i .i64], .i .i64]⟩
def R_sl06Inflows : List XShp := [(.ret, ⟨[.h], [], [.b]⟩)]

noncomputable def L_sl06Inflows : Loops := (⟨28, lvT [(2, [0, 1, 4, 5])], mdT [(2, .normal, [], [4]), (2, .exit 0, [], [4, 5]), (2, .ret, [], [0, 1, 5])], fun k vs bs => bif Nat.beq k 2 then toldL S_sl06Inflows_l2 X_sl06Inflows_l2 (fun x => sl06Inflows_l2 x.1 x.2.1 x.2.2) vs bs else .bad⟩ : Loops)

theorem sl06Inflows_e (x : DR A_sl06Inflows.hs) : (evFn (envT Try.prog C2 mtab0) L_sl06Inflows Try.f86 (A_sl06Inflows.enc x).1).to (fun q => decX R_sl06Inflows .ret [q.1] q.2) = sl06Inflows_t x.1 x.2 := by kernel_rfl

theorem sl06Inflows_m (x : DR A_sl06Inflows.hs) : meanF (envT Try.prog C2 mtab0) L_sl06Inflows Try.f86 A_sl06Inflows R_sl06Inflows x = (show Option (SumD (R_sl06Inflows.map (·.2))) from sl06Inflows x.1 x.2) := meanF_of (sl06Inflows_e x)

theorem sl06Inflows_ok : SpecOk Try.prog 86 (evFn (envT Try.prog C2 mtab0) L_sl06Inflows Try.f86) := fnL_ok (envT_ok (C2_ok) (mtab0_ok _)) mixedO Try.func86 (by kernel_rfl) (c := bodyOf Try.f86) (by kernel_rfl) (loopsL (l := [(2, loopC (bodyOf Try.f86) 2)]) (by kernel_rfl) (lk_cons (sl06Inflows_l2_k _ rfl rfl (fun _ _ => rfl)) lk_nil))

theorem sl06Inflows_told : SpecOk Try.prog 86 (toldO A_sl06Inflows R_sl06Inflows (fun x => sl06Inflows x.1 x.2) (C2 86)) := toldO_ok (by kernel_rfl) sl06Inflows_ok (rest_ok (C2_ok) _) sl06Inflows_m

noncomputable def C3 : Tab := tab 86 (toldO A_sl06Inflows R_sl06Inflows (fun x => sl06Inflows x.1 x.2) (C2 86)) C2
theorem C3_ok : TabOk Try.prog C3 := tab_ok (sl06Inflows_told) (C2_ok)

def A_sl06List : Shp := ⟨[.h], [], [.sl [.i .i64]]⟩
def R_sl06List : List XShp := [(.ret, ⟨[.h], [], [.b]⟩)]

theorem sl06List_e (x : DR A_sl06List.hs) : (evFn (envT Try.prog C3 mtab0) noLoops Try.f53 (A_sl06List.enc x).1).to (fun q => decX R_sl06List .ret [q.1] q.2) = sl06List_t x := by kernel_rfl

theorem sl06List_m (x : DR A_sl06List.hs) : meanF (envT Try.prog C3 mtab0) noLoops Try.f53 A_sl06List R_sl06List x = (show Option (SumD (R_sl06List.map (·.2))) from sl06List x) := meanF_of (sl06List_e x)

theorem sl06List_ok : SpecOk Try.prog 53 (evFn (envT Try.prog C3 mtab0) noLoops Try.f53) := fnL_ok (envT_ok (C3_ok) (mtab0_ok _)) mixedO Try.func53 (by kernel_rfl) (c := bodyOf Try.f53) (by kernel_rfl) (loopFree_ok (by kernel_rfl))

theorem sl06List_told : SpecOk Try.prog 53 (toldO A_sl06List R_sl06List (fun x => sl06List x) (C3 53)) := toldO_ok (by kernel_rfl) sl06List_ok (rest_ok (C3_ok) _) sl06List_m

noncomputable def C4 : Tab := tab 53 (toldO A_sl06List R_sl06List (fun x => sl06List x) (C3 53)) C3
theorem C4_ok : TabOk Try.prog C4 := tab_ok (sl06List_told) (C3_ok)

def S_sl06Sum_l3 : Shp := ⟨[.h, .h, .h], [], [.sl [.i .i64], .i .i64, .i .i64]⟩
def X_sl06Sum_l3 : List XShp := [(.exit 0, ⟨[.undef, .h, .undef], [], [.i .i64]⟩)]

noncomputable def L_sl06Sum_l3 : Loops := (⟨18, lvT [(3, [0, 3, 4])], mdT [(3, .exit 0, [], [0, 4])], fun k vs bs => .bad⟩ : Loops)

theorem sl06Sum_l3_e (y0 : List Int) (s : Int × Int) : (loopStep (envT Try.prog C4 mtab0) L_sl06Sum_l3 3 (loopC (bodyOf Try.f54) 3) (S_sl06Sum_l3.enc (y0, s.1, s.2)).1 (S_sl06Sum_l3.enc (y0, s.1, s.2)).2).to (stepD S_sl06Sum_l3 X_sl06Sum_l3) = (sl06Sum_l3_t y0 s.1 s.2).map (Sum.map (fun s : Int × Int => (show DR S_sl06Sum_l3.hs from (y0, s.1, s.2))) id) := by kernel_rfl

theorem sl06Sum_l3_r (x : DR S_sl06Sum_l3.hs) : (sl06Sum_l3 x.1 x.2.1 x.2.2 : Option (SumD (X_sl06Sum_l3.map (·.2)))) = runL (meanS (envT Try.prog C4 mtab0) L_sl06Sum_l3 3 (loopC (bodyOf Try.f54) 3) S_sl06Sum_l3 X_sl06Sum_l3) x := run_of (fun s : Int × Int => (show DR S_sl06Sum_l3.hs from (x.1, s.1, s.2))) (sl06Sum_l3_e (x.1)) (x.2.1, x.2.2)

theorem sl06Sum_l3_k (L : Loops) (hn : L_sl06Sum_l3.n = L.n) (hlv : L_sl06Sum_l3.lv 3 = L.lv 3) (hL : ∀ vs bs, L.loop 3 vs bs = toldL S_sl06Sum_l3 X_sl06Sum_l3 (fun x => sl06Sum_l3 x.1 x.2.1 x.2.2) vs bs) : LOk Try.prog (envT Try.prog C4 mtab0) L 3 (loopC (bodyOf Try.f54) 3) := toldL_ok (L1 := L_sl06Sum_l3) (envT_ok (C4_ok) (mtab0_ok _)) mixedO hn hlv (loopFree_ok (by kernel_rfl)) sl06Sum_l3_r hL

def A_sl06Sum : Shp := ⟨[.h], [], [.sl [.i .i64]]⟩
def R_sl06Sum : List XShp := [(.ret, ⟨[.h], [], [.i .i64]⟩)]

noncomputable def L_sl06Sum : Loops := (⟨18, lvT [(3, [0, 3, 4])], mdT [(3, .exit 0, [], [0, 4])], fun k vs bs => bif Nat.beq k 3 then toldL S_sl06Sum_l3 X_sl06Sum_l3 (fun x => sl06Sum_l3 x.1 x.2.1 x.2.2) vs bs else .bad⟩ : Loops)

theorem sl06Sum_e (x : DR A_sl06Sum.hs) : (evFn (envT Try.prog C4 mtab0) L_sl06Sum Try.f54 (A_sl06Sum.enc x).1).to (fun q => decX R_sl06Sum .ret [q.1] q.2) = sl06Sum_t x := by kernel_rfl

theorem sl06Sum_m (x : DR A_sl06Sum.hs) : meanF (envT Try.prog C4 mtab0) L_sl06Sum Try.f54 A_sl06Sum R_sl06Sum x = (show Option (SumD (R_sl06Sum.map (·.2))) from sl06Sum x) := meanF_of (sl06Sum_e x)

theorem sl06Sum_ok : SpecOk Try.prog 54 (evFn (envT Try.prog C4 mtab0) L_sl06Sum Try.f54) := fnL_ok (envT_ok (C4_ok) (mtab0_ok _)) mixedO Try.func54 (by kernel_rfl) (c := bodyOf Try.f54) (by kernel_rfl) (loopsL (l := [(3, loopC (bodyOf Try.f54) 3)]) (by kernel_rfl) (lk_cons (sl06Sum_l3_k _ rfl rfl (fun _ _ => rfl)) lk_nil))

theorem sl06Sum_told : SpecOk Try.prog 54 (toldO A_sl06Sum R_sl06Sum (fun x => sl06Sum x) (C4 54)) := toldO_ok (by kernel_rfl) sl06Sum_ok (rest_ok (C4_ok) _) sl06Sum_m

noncomputable def C5 : Tab := tab 54 (toldO A_sl06Sum R_sl06Sum (fun x => sl06Sum x) (C4 54)) C4
theorem C5_ok : TabOk Try.prog C5 := tab_ok (sl06Sum_told) (C4_ok)

def S_sl06Split_l16 : Shp := ⟨[.slw 0 1, .slw 1 1, .h, .h, .h], [.arr [.i .i64] false, .arr [.i .i64] false], [.i .i64, .i .i64, .i .i64, .sl [.i .i64], .sl [.i .i64]]⟩
def X_sl06Split_l16 : List XShp := [(.exit 4, ⟨[.slw 0 1, .slw 1 1, .h, .h, .undef], [.arr [.i .i64] false, .arr [.i .i64] false], [.i .i64, .i .i64, .sl [.i .i64], .sl [.i .i64]]⟩)]

noncomputable def L_sl06Split_l16 : Loops := (⟨80, lvT [(16, [6, 7, 8, 11, 12]), (12, [6, 7, 8]), (6, [0, 1, 5, 6, 7, 8, 9])], mdT [(16, .exit 4, [], [12]), (12, .exit 2, [], [7, 8]), (6, .exit 0, [], [0, 1, 5, 9])], fun k vs bs => .bad⟩ : Loops)

theorem sl06Split_l16_e (y0 : Int) (y3 : List Int) (y4 : List Int) (s : Int × Int) : (loopStep (envT Try.prog C5 mtab0) L_sl06Split_l16 16 (loopC (loopC (bodyOf Try.f55) 12) 16) (S_sl06Split_l16.enc (y0, s.1, s.2, y3, y4)).1 (S_sl06Split_l16.enc (y0, s.1, s.2, y3, y4)).2).to (stepD S_sl06Split_l16 X_sl06Split_l16) = (sl06Split_l16_t y0 y3 y4 s.1 s.2).map (Sum.map (fun s : Int × Int => (show DR S_sl06Split_l16.hs from (y0, s.1, s.2, y3, y4))) id) := by kernel_rfl

theorem sl06Split_l16_r (x : DR S_sl06Split_l16.hs) : (sl06Split_l16 x.1 x.2.1 x.2.2.1 x.2.2.2.1 x.2.2.2.2 : Option (SumD (X_sl06Split_l16.map (·.2)))) = runL (meanS (envT Try.prog C5 mtab0) L_sl06Split_l16 16 (loopC (loopC (bodyOf Try.f55) 12) 16) S_sl06Split_l16 X_sl06Split_l16) x := run_of (fun s : Int × Int => (show DR S_sl06Split_l16.hs from (x.1, s.1, s.2, x.2.2.2.1, x.2.2.2.2))) (sl06Split_l16_e (x.1) (x.2.2.2.1) (x.2.2.2.2)) (x.2.1, x.2.2.1)

theorem sl06Split_l16_k (L : Loops) (hn : L_sl06Split_l16.n = L.n) (hlv : L_sl06Split_l16.lv 16 = L.lv 16) (hL : ∀ vs bs, L.loop 16 vs bs = toldL S_sl06Split_l16 X_sl06Split_l16 (fun x => sl06Split_l16 x.1 x.2.1 x.2.2.1 x.2.2.2.1 x.2.2.2.2) vs bs) : LOk Try.prog (envT Try.prog C5 mtab0) L 16 (loopC (loopC (bodyOf Try.f55) 12) 16) := toldL_ok (L1 := L_sl06Split_l16) (envT_ok (C5_ok) (mtab0_ok _)) mixedO hn hlv (loopFree_ok (by kernel_rfl)) sl06Split_l16_r hL

def S_sl06Split_l6 : Shp := ⟨[.h, .h, .h, .slw 0 1, .slw 1 1, .h, .h], [.arr [.i .i64] false, .arr [.i .i64] false], [.i .i64, .sl [.i .i64], .i .i64, .i .i64, .i .i64, .sl [.i .i64], .sl [.i .i64]]⟩
def X_sl06Split_l6 : List XShp := [(.exit 0, ⟨[.undef, .undef, .undef, .slw 0 1, .slw 1 1, .h, .undef], [.arr [.i .i64] false, .arr [.i .i64] false], [.i .i64, .sl [.i .i64], .sl [.i .i64]]⟩)]

noncomputable def L_sl06Split_l6 : Loops := (⟨80, lvT [(16, [6, 7, 8, 11, 12]), (12, [6, 7, 8]), (6, [0, 1, 5, 6, 7, 8, 9])], mdT [(16, .exit 4, [], [12]), (12, .exit 2, [], [7, 8]), (6, .exit 0, [], [0, 1, 5, 9])], fun k vs bs => .bad⟩ : Loops)

theorem sl06Split_l6_e (y0 : Int) (y1 : List Int) (y2 : Int) (s : Int × Int × List Int × List Int) : (loopStep (envT Try.prog C5 mtab0) L_sl06Split_l6 6 (loopC (bodyOf Try.f55) 6) (S_sl06Split_l6.enc (y0, y1, y2, s.1, s.2.1, s.2.2.1, s.2.2.2)).1 (S_sl06Split_l6.enc (y0, y1, y2, s.1, s.2.1, s.2.2.1, s.2.2.2)).2).to (stepD S_sl06Split_l6 X_sl06Split_l6) = (sl06Split_l6_t y0 y1 y2 s.1 s.2.1 s.2.2.1 s.2.2.2).map (Sum.map (fun s : Int × Int × List Int × List Int => (show DR S_sl06Split_l6.hs from (y0, y1, y2, s.1, s.2.1, s.2.2.1, s.2.2.2))) id) := by kernel_rfl

theorem sl06Split_l6_r (x : DR S_sl06Split_l6.hs) : (sl06Split_l6 x.1 x.2.1 x.2.2.1 x.2.2.2.1 x.2.2.2.2.1 x.2.2.2.2.2.1 x.2.2.2.2.2.2 : Option (SumD (X_sl06Split_l6.map (·.2)))) = runL (meanS (envT Try.prog C5 mtab0) L_sl06Split_l6 6 (loopC (bodyOf Try.f55) 6) S_sl06Split_l6 X_sl06Split_l6) x := run_of (fun s : Int × Int × List Int × List Int => (show DR S_sl06Split_l6.hs from (x.1, x.2.1, x.2.2.1, s.1, s.2.1, s.2.2.1, s.2.2.2))) (sl06Split_l6_e (x.1) (x.2.1) (x.2.2.1)) (x.2.2.2.1, x.2.2.2.2.1, x.2.2.2.2.2.1, x.2.2.2.2.2.2)

theorem sl06Split_l6_k (L : Loops) (hn : L_sl06Split_l6.n = L.n) (hlv : L_sl06Split_l6.lv 6 = L.lv 6) (hL : ∀ vs bs, L.loop 6 vs bs = toldL S_sl06Split_l6 X_sl06Split_l6 (fun x => sl06Split_l6 x.1 x.2.1 x.2.2.1 x.2.2.2.1 x.2.2.2.2.1 x.2.2.2.2.2.1 x.2.2.2.2.2.2) vs bs) : LOk Try.prog (envT Try.prog C5 mtab0) L 6 (loopC (bodyOf Try.f55) 6) := toldL_ok (L1 := L_sl06Split_l6) (envT_ok (C5_ok) (mtab0_ok _)) mixedO hn hlv (loopFree_ok (by kernel_rfl)) sl06Split_l6_r hL

def S_sl06Split_l12 : Shp := ⟨[.slw 0 1, .slw 1 1, .h], [.arr [.i .i64] false, .arr [.i .i64] false], [.i .i64, .sl [.i .i64], .sl [.i .i64]]⟩
def X_sl06Split_l12 : List XShp := [(.exit 2, ⟨[.slw 0 1, .undef, .undef], [.arr [.i .i64] false], [.sl [.i .i64]]⟩)]

noncomputable def L_sl06Split_l12 : Loops := (⟨80, lvT [(16, [6, 7, 8, 11, 12]), (12, [6, 7, 8]), (6, [0, 1, 5, 6, 7, 8, 9])], mdT [(16, .exit 4, [], [12]), (12, .exit 2, [], [7, 8]), (6, .exit 0, [], [0, 1, 5, 9])], fun k vs bs => bif Nat.beq k 16 then toldL S_sl06Split_l16 X_sl06Split_l16 (fun x => sl06Split_l16 x.1 x.2.1 x.2.2.1 x.2.2.2.1 x.2.2.2.2) vs bs else .bad⟩ : Loops)

theorem sl06Split_l12_e (s : Int × List Int × List Int) : (loopStep (envT Try.prog C5 mtab0) L_sl06Split_l12 12 (loopC (bodyOf Try.f55) 12) (S_sl06Split_l12.enc (s.1, s.2.1, s.2.2)).1 (S_sl06Split_l12.enc (s.1, s.2.1, s.2.2)).2).to (stepD S_sl06Split_l12 X_sl06Split_l12) = (sl06Split_l12_t  s.1 s.2.1 s.2.2).map (Sum.map (fun s : Int × List Int × List Int => (show DR S_sl06Split_l12.hs from (s.1, s.2.1, s.2.2))) id) := by kernel_rfl

theorem sl06Split_l12_r (x : DR S_sl06Split_l12.hs) : (sl06Split_l12 x.1 x.2.1 x.2.2 : Option (SumD (X_sl06Split_l12.map (·.2)))) = runL (meanS (envT Try.prog C5 mtab0) L_sl06Split_l12 12 (loopC (bodyOf Try.f55) 12) S_sl06Split_l12 X_sl06Split_l12) x := run_of (fun s : Int × List Int × List Int => (show DR S_sl06Split_l12.hs from (s.1, s.2.1, s.2.2))) (sl06Split_l12_e ) (x.1, x.2.1, x.2.2)

theorem sl06Split_l12_k (L : Loops) (hn : L_sl06Split_l12.n = L.n) (hlv : L_sl06Split_l12.lv 12 = L.lv 12) (hL : ∀ vs bs, L.loop 12 vs bs = toldL S_sl06Split_l12 X_sl06Split_l12 (fun x => sl06Split_l12 x.1 x.2.1 x.2.2) vs bs) : LOk Try.prog (envT Try.prog C5 mtab0) L 12 (loopC (bodyOf Try.f55) 12) := toldL_ok (L1 := L_sl06Split_l12) (envT_ok (C5_ok) (mtab0_ok _)) mixedO hn hlv (loopsL (l := [(16, loopC (loopC (bodyOf Try.f55) 12) 16)]) (by kernel_rfl) (lk_cons (sl06Split_l16_k _ rfl rfl (fun _ _ => rfl)) lk_nil)) sl06Split_l12_r hL

def A_sl06Split : Shp := ⟨[.h, .h], [], [.i .i64, .sl [.i .i64]]⟩
def R_sl06Split : List XShp := [(.ret, ⟨[.slw 0 1], [.arr [.i .i64] false], [.sl [.i .i64]]⟩)]

noncomputable def L_sl06Split : Loops := (⟨80, lvT [(16, [6, 7, 8, 11, 12]), (12, [6, 7, 8]), (6, [0, 1, 5, 6, 7, 8, 9])], mdT [(16, .exit 4, [], [12]), (12, .exit 2, [], [7, 8]), (6, .exit 0, [], [0, 1, 5, 9])], fun k vs bs => bif Nat.beq k 12 then toldL S_sl06Split_l12 X_sl06Split_l12 (fun x => sl06Split_l12 x.1 x.2.1 x.2.2) vs bs else bif Nat.beq k 6 then toldL S_sl06Split_l6 X_sl06Split_l6 (fun x => sl06Split_l6 x.1 x.2.1 x.2.2.1 x.2.2.2.1 x.2.2.2.2.1 x.2.2.2.2.2.1 x.2.2.2.2.2.2) vs bs else .bad⟩ : Loops)

theorem sl06Split_e (x : DR A_sl06Split.hs) : (evFn (envT Try.prog C5 mtab0) L_sl06Split Try.f55 (A_sl06Split.enc x).1).to (fun q => decX R_sl06Split .ret [q.1] q.2) = sl06Split_t x.1 x.2 := by kernel_rfl

theorem sl06Split_m (x : DR A_sl06Split.hs) : meanF (envT Try.prog C5 mtab0) L_sl06Split Try.f55 A_sl06Split R_sl06Split x = (show Option (SumD (R_sl06Split.map (·.2))) from sl06Split x.1 x.2) := meanF_of (sl06Split_e x)

theorem sl06Split_ok : SpecOk Try.prog 55 (evFn (envT Try.prog C5 mtab0) L_sl06Split Try.f55) := fnL_ok (envT_ok (C5_ok) (mtab0_ok _)) mixedO Try.func55 (by kernel_rfl) (c := bodyOf Try.f55) (by kernel_rfl) (loopsL (l := [(6, loopC (bodyOf Try.f55) 6), (12, loopC (bodyOf Try.f55) 12)]) (by kernel_rfl) (lk_cons (sl06Split_l6_k _ rfl rfl (fun _ _ => rfl)) (lk_cons (sl06Split_l12_k _ rfl rfl (fun _ _ => rfl)) lk_nil)))

theorem sl06Split_told : SpecOk Try.prog 55 (toldO A_sl06Split R_sl06Split (fun x => sl06Split x.1 x.2) (C5 55)) := toldO_ok (by kernel_rfl) sl06Split_ok (rest_ok (C5_ok) _) sl06Split_m

noncomputable def C6 : Tab := tab 55 (toldO A_sl06Split R_sl06Split (fun x => sl06Split x.1 x.2) (C5 55)) C5
theorem C6_ok : TabOk Try.prog C6 := tab_ok (sl06Split_told) (C5_ok)

def S_sByRights_l14 : Shp := ⟨[.h, .h, .h, .slw 0 1, .h, .slw 1 1, .h], [.arr [.i .i64] false, .arr [.i .i64] false], [.i .i64, .sl [.i .i64], .sl [.i .i64], .i .i64, .i .i64, .sl [.i .i64], .sl [.i .i64]]⟩
def X_sByRights_l14 : List XShp := [(.exit 4, ⟨[.h, .h, .h, .slw 0 1, .h, .slw 1 1, .undef], [.arr [.i .i64] false, .arr [.i .i64] false], [.i .i64, .sl [.i .i64], .sl [.i .i64], .i .i64, .sl [.i .i64], .sl [.i .i64]]⟩)]

noncomputable def L_sByRights_l14 : Loops := (⟨108, lvT [(25, [0, 1, 2, 9, 10, 14, 15, 16]), (14, [0, 1, 2, 9, 10, 11, 12]), (10, [0, 1, 2, 9, 10]), (4, [0, 1, 2, 6, 7, 8])], mdT [(25, .exit 6, [], [15, 16]), (14, .exit 4, [], [12]), (10, .exit 2, [], [0, 1, 2, 10]), (4, .normal, [], [6, 7]), (4, .exit 0, [], [6, 7, 8]), (4, .ret, [], [0, 1, 2, 8])], fun k vs bs => .bad⟩ : Loops)

theorem sByRights_l14_e (y0 : Int) (y1 : List Int) (y2 : List Int) (y3 : Int) (y5 : List Int) (s : Int × List Int) : (loopStep (envT Try.prog C6 mtab0) L_sByRights_l14 14 (loopC (loopC (bodyOf Try.f38) 10) 14) (S_sByRights_l14.enc (y0, y1, y2, y3, s.1, y5, s.2)).1 (S_sByRights_l14.enc (y0, y1, y2, y3, s.1, y5, s.2)).2).to (stepD S_sByRights_l14 X_sByRights_l14) = (sByRights_l14_t y0 y1 y2 y3 y5 s.1 s.2).map (Sum.map (fun s : Int × List Int => (show DR S_sByRights_l14.hs from (y0, y1, y2, y3, s.1, y5, s.2))) id) := by kernel_rfl

theorem sByRights_l14_r (x : DR S_sByRights_l14.hs) : (sByRights_l14 x.1 x.2.1 x.2.2.1 x.2.2.2.1 x.2.2.2.2.1 x.2.2.2.2.2.1 x.2.2.2.2.2.2 : Option (SumD (X_sByRights_l14.map (·.2)))) = runL (meanS (envT Try.prog C6 mtab0) L_sByRights_l14 14 (loopC (loopC (bodyOf Try.f38) 10) 14) S_sByRights_l14 X_sByRights_l14) x := run_of (fun s : Int × List Int => (show DR S_sByRights_l14.hs from (x.1, x.2.1, x.2.2.1, x.2.2.2.1, s.1, x.2.2.2.2.2.1, s.2))) (sByRights_l14_e (x.1) (x.2.1) (x.2.2.1) (x.2.2.2.1) (x.2.2.2.2.2.1)) (x.2.2.2.2.1, x.2.2.2.2.2.2)

theorem sByRights_l14_k (L : Loops) (hn : L_sByRights_l14.n = L.n) (hlv : L_sByRights_l14.lv 14 = L.lv 14) (hL : ∀ vs bs, L.loop 14 vs bs = toldL S_sByRights_l14 X_sByRights_l14 (fun x => sByRights_l14 x.1 x.2.1 x.2.2.1 x.2.2.2.1 x.2.2.2.2.1 x.2.2.2.2.2.1 x.2.2.2.2.2.2) vs bs) : LOk Try.prog (envT Try.prog C6 mtab0) L 14 (loopC (loopC (bodyOf Try.f38) 10) 14) := toldL_ok (L1 := L_sByRights_l14) (envT_ok (C6_ok) (mtab0_ok _)) mixedO hn hlv (loopFree_ok (by kernel_rfl)) sByRights_l14_r hL

def S_sByRights_l25 : Shp := ⟨[.h, .h, .h, .slw 0 1, .h, .slw 1 1, .h, .h], [.arr [.i .i64] false, .arr [.i .i64] false], [.i .i64, .sl [.i .i64], .sl [.i .i64], .i .i64, .i .i64, .i .i64, .sl [.i .i64], .sl [.i .i64]]⟩
def X_sByRights_l25 : List XShp := [(.exit 6, ⟨[.h, .h, .h, .slw 0 1, .h, .slw 1 1, .undef, .undef], [.arr [.i .i64] false, .arr [.i .i64] false], [.i .i64, .sl [.i .i64], .sl [.i .i64], .i .i64, .sl [.i .i64], .sl [.i .i64]]⟩)]

noncomputable def L_sByRights_l25 : Loops := (⟨108, lvT [(25, [0, 1, 2, 9, 10, 14, 15, 16]), (14, [0, 1, 2, 9, 10, 11, 12]), (10, [0, 1, 2, 9, 10]), (4, [0, 1, 2, 6, 7, 8])], mdT [(25, .exit 6, [], [15, 16]), (14, .exit 4, [], [12]), (10, .exit 2, [], [0, 1, 2, 10]), (4, .normal, [], [6, 7]), (4, .exit 0, [], [6, 7, 8]), (4, .ret, [], [0, 1, 2, 8])], fun k vs bs => .bad⟩ : Loops)

theorem sByRights_l25_e (y0 : Int) (y1 : List Int) (y2 : List Int) (y3 : Int) (y7 : List Int) (s : Int × Int × List Int) : (loopStep (envT Try.prog C6 mtab0) L_sByRights_l25 25 (loopC (loopC (bodyOf Try.f38) 10) 25) (S_sByRights_l25.enc (y0, y1, y2, y3, s.1, s.2.1, s.2.2, y7)).1 (S_sByRights_l25.enc (y0, y1, y2, y3, s.1, s.2.1, s.2.2, y7)).2).to (stepD S_sByRights_l25 X_sByRights_l25) = (sByRights_l25_t y0 y1 y2 y3 y7 s.1 s.2.1 s.2.2).map (Sum.map (fun s : Int × Int × List Int => (show DR S_sByRights_l25.hs from (y0, y1, y2, y3, s.1, s.2.1, s.2.2, y7))) id) := by kernel_rfl

theorem sByRights_l25_r (x : DR S_sByRights_l25.hs) : (sByRights_l25 x.1 x.2.1 x.2.2.1 x.2.2.2.1 x.2.2.2.2.1 x.2.2.2.2.2.1 x.2.2.2.2.2.2.1 x.2.2.2.2.2.2.2 : Option (SumD (X_sByRights_l25.map (·.2)))) = runL (meanS (envT Try.prog C6 mtab0) L_sByRights_l25 25 (loopC (loopC (bodyOf Try.f38) 10) 25) S_sByRights_l25 X_sByRights_l25) x := run_of (fun s : Int × Int × List Int => (show DR S_sByRights_l25.hs from (x.1, x.2.1, x.2.2.1, x.2.2.2.1, s.1, s.2.1, s.2.2, x.2.2.2.2.2.2.2))) (sByRights_l25_e (x.1) (x.2.1) (x.2.2.1) (x.2.2.2.1) (x.2.2.2.2.2.2.2)) (x.2.2.2.2.1, x.2.2.2.2.2.1, x.2.2.2.2.2.2.1)

theorem sByRights_l25_k (L : Loops) (hn : L_sByRights_l25.n = L.n) (hlv : L_sByRights_l25.lv 25 = L.lv 25) (hL : ∀ vs bs, L.loop 25 vs bs = toldL S_sByRights_l25 X_sByRights_l25 (fun x => sByRights_l25 x.1 x.2.1 x.2.2.1 x.2.2.2.1 x.2.2.2.2.1 x.2.2.2.2.2.1 x.2.2.2.2.2.2.1 x.2.2.2.2.2.2.2) vs bs) : LOk Try.prog (envT Try.prog C6 mtab0) L 25 (loopC (loopC (bodyOf Try.f38) 10) 25) := toldL_ok (L1 := L_sByRights_l25) (envT_ok (C6_ok) (mtab0_ok _)) mixedO hn hlv (loopFree_ok (by kernel_rfl)) sByRights_l25_r hL

def S_sByRights_l4 : Shp := ⟨[.h, .h, .h, .undef, .undef, .h], [], [.i .i64, .sl [.i .i64], .sl [.i .i64], .i .i64]⟩
def X_sByRights_l4 : List XShp := [(.ret, ⟨[.undef, .undef, .undef, .nils, .lb false, .undef], [], []⟩), (.exit 0, ⟨[.h, .h, .h, .undef, .undef, .undef], [], [.i .i64, .sl [.i .i64], .sl [.i .i64]]⟩)]

noncomputable def L_sByRights_l4 : Loops := (⟨108, lvT [(25, [0, 1, 2, 9, 10, 14, 15, 16]), (14, [0, 1, 2, 9, 10, 11, 12]), (10, [0, 1, 2, 9, 10]), (4, [0, 1, 2, 6, 7, 8])], mdT [(25, .exit 6, [], [15, 16]), (14, .exit 4, [], [12]), (10, .exit 2, [], [0, 1, 2, 10]), (4, .normal, [], [6, 7]), (4, .exit 0, [], [6, 7, 8]), (4, .ret, [], [0, 1, 2, 8])], fun k vs bs => .bad⟩ : Loops)

theorem sByRights_l4_e (y0 : Int) (y1 : List Int) (y2 : List Int) (s : Int) : (loopStep (envT Try.prog C6 mtab0) L_sByRights_l4 4 (loopC (bodyOf Try.f38) 4) (S_sByRights_l4.enc (y0, y1, y2, s)).1 (S_sByRights_l4.enc (y0, y1, y2, s)).2).to (stepD S_sByRights_l4 X_sByRights_l4) = (sByRights_l4_t y0 y1 y2 s).map (Sum.map (fun s : Int => (show DR S_sByRights_l4.hs from (y0, y1, y2, s))) id) := by kernel_rfl

theorem sByRights_l4_r (x : DR S_sByRights_l4.hs) : (sByRights_l4 x.1 x.2.1 x.2.2.1 x.2.2.2 : Option (SumD (X_sByRights_l4.map (·.2)))) = runL (meanS (envT Try.prog C6 mtab0) L_sByRights_l4 4 (loopC (bodyOf Try.f38) 4) S_sByRights_l4 X_sByRights_l4) x := run_of (fun s : Int => (show DR S_sByRights_l4.hs from (x.1, x.2.1, x.2.2.1, s))) (sByRights_l4_e (x.1) (x.2.1) (x.2.2.1)) x.2.2.2

theorem sByRights_l4_k (L : Loops) (hn : L_sByRights_l4.n = L.n) (hlv : L_sByRights_l4.lv 4 = L.lv 4) (hL : ∀ vs bs, L.loop 4 vs bs = toldL S_sByRights_l4 X_sByRights_l4 (fun x => sByRights_l4 x.1 x.2.1 x.2.2.1 x.2.2.2) vs bs) : LOk Try.prog (envT Try.prog C6 mtab0) L 4 (loopC (bodyOf Try.f38) 4) := toldL_ok (L1 := L_sByRights_l4) (envT_ok (C6_ok) (mtab0_ok _)) mixedO hn hlv (loopFree_ok (by kernel_rfl)) sByRights_l4_r hL

def S_sByRights_l10 : Shp := ⟨[.h, .h, .h, .slw 0 1, .h], [.arr [.i .i64] false], [.i .i64, .sl [.i .i64], .sl [.i .i64], .i .i64, .sl [.i .i64]]⟩
def X_sByRights_l10 : List XShp := [(.exit 2, ⟨[.undef, .undef, .undef, .slw 0 1, .undef], [.arr [.i .i64] false], [.sl [.i .i64]]⟩)]

noncomputable def L_sByRights_l10 : Loops := (⟨108, lvT [(25, [0, 1, 2, 9, 10, 14, 15, 16]), (14, [0, 1, 2, 9, 10, 11, 12]), (10, [0, 1, 2, 9, 10]), (4, [0, 1, 2, 6, 7, 8])], mdT [(25, .exit 6, [], [15, 16]), (14, .exit 4, [], [12]), (10, .exit 2, [], [0, 1, 2, 10]), (4, .normal, [], [6, 7]), (4, .exit 0, [], [6, 7, 8]), (4, .ret, [], [0, 1, 2, 8])], fun k vs bs => bif Nat.beq k 25 then toldL S_sByRights_l25 X_sByRights_l25 (fun x => sByRights_l25 x.1 x.2.1 x.2.2.1 x.2.2.2.1 x.2.2.2.2.1 x.2.2.2.2.2.1 x.2.2.2.2.2.2.1 x.2.2.2.2.2.2.2) vs bs else bif Nat.beq k 14 then toldL S_sByRights_l14 X_sByRights_l14 (fun x => sByRights_l14 x.1 x.2.1 x.2.2.1 x.2.2.2.1 x.2.2.2.2.1 x.2.2.2.2.2.1 x.2.2.2.2.2.2) vs bs else .bad⟩ : Loops)

theorem sByRights_l10_e (s : Int × List Int × List Int × Int × List Int) : (loopStep (envT Try.prog C6 mtab0) L_sByRights_l10 10 (loopC (bodyOf Try.f38) 10) (S_sByRights_l10.enc (s.1, s.2.1, s.2.2.1, s.2.2.2.1, s.2.2.2.2)).1 (S_sByRights_l10.enc (s.1, s.2.1, s.2.2.1, s.2.2.2.1, s.2.2.2.2)).2).to (stepD S_sByRights_l10 X_sByRights_l10) = (sByRights_l10_t  s.1 s.2.1 s.2.2.1 s.2.2.2.1 s.2.2.2.2).map (Sum.map (fun s : Int × List Int × List Int × Int × List Int => (show DR S_sByRights_l10.hs from (s.1, s.2.1, s.2.2.1, s.2.2.2.1, s.2.2.2.2))) id) := by kernel_rfl

theorem sByRights_l10_r (x : DR S_sByRights_l10.hs) : (sByRights_l10 x.1 x.2.1 x.2.2.1 x.2.2.2.1 x.2.2.2.2 : Option (SumD (X_sByRights_l10.map (·.2)))) = runL (meanS (envT Try.prog C6 mtab0) L_sByRights_l10 10 (loopC (bodyOf Try.f38) 10) S_sByRights_l10 X_sByRights_l10) x := run_of (fun s : Int × List Int × List Int × Int × List Int => (show DR S_sByRights_l10.hs from (s.1, s.2.1, s.2.2.1, s.2.2.2.1, s.2.2.2.2))) (sByRights_l10_e ) (x.1, x.2.1, x.2.2.1, x.2.2.2.1, x.2.2.2.2)

theorem sByRights_l10_k (L : Loops) (hn : L_sByRights_l10.n = L.n) (hlv : L_sByRights_l10.lv 10 = L.lv 10) (hL : ∀ vs bs, L.loop 10 vs bs = toldL S_sByRights_l10 X_sByRights_l10 (fun x => sByRights_l10 x.1 x.2.1 x.2.2.1 x.2.2.2.1 x.2.2.2.2) vs bs) : LOk Try.prog (envT Try.prog C6 mtab0) L 10 (loopC (bodyOf Try.f38) 10) := toldL_ok (L1 := L_sByRights_l10) (envT_ok (C6_ok) (mtab0_ok _)) mixedO hn hlv (loopsL (l := [(14, loopC (loopC (bodyOf Try.f38) 10) 14), (25, loopC (loopC (bodyOf Try.f38) 10) 25)]) (by kernel_rfl) (lk_cons (sByRights_l14_k _ rfl rfl (fun _ _ => rfl)) (lk_cons (sByRights_l25_k _ rfl rfl (fun _ _ => rfl)) lk_nil))) sByRights_l10_r hL

def A_sByRights : Shp := ⟨[.h, .h, .h], [], [.i .i64, .sl [.i .i64], .sl [.i .i64]]⟩
def R_sByRights : List XShp := [(.ret, ⟨[.tup [.nils, .lb false]], [], []⟩), (.ret, ⟨[.tup [.slw 0 1, .lb true]], [.arr [.i .i64] false], [.sl [.i .i64]]⟩)]

noncomputable def L_sByRights : Loops := (⟨108, lvT [(25, [0, 1, 2, 9, 10, 14, 15, 16]), (14, [0, 1, 2, 9, 10, 11, 12]), (10, [0, 1, 2, 9, 10]), (4, [0, 1, 2, 6, 7, 8])], mdT [(25, .exit 6, [], [15, 16]), (14, .exit 4, [], [12]), (10, .exit 2, [], [0, 1, 2, 10]), (4, .normal, [], [6, 7]), (4, .exit 0, [], [6, 7, 8]), (4, .ret, [], [0, 1, 2, 8])], fun k vs bs => bif Nat.beq k 10 then toldL S_sByRights_l10 X_sByRights_l10 (fun x => sByRights_l10 x.1 x.2.1 x.2.2.1 x.2.2.2.1 x.2.2.2.2) vs bs else bif Nat.beq k 4 then toldL S_sByRights_l4 X_sByRights_l4 (fun x => sByRights_l4 x.1 x.2.1 x.2.2.1 x.2.2.2) vs bs else .bad⟩ : Loops)

theorem sByRights_e (x : DR A_sByRights.hs) : (evFn (envT Try.prog C6 mtab0) L_sByRights Try.f38 (A_sByRights.enc x).1).to (fun q => decX R_sByRights .ret [q.1] q.2) = sByRights_t x.1 x.2.1 x.2.2 := by kernel_rfl

theorem sByRights_m (x : DR A_sByRights.hs) : meanF (envT Try.prog C6 mtab0) L_sByRights Try.f38 A_sByRights R_sByRights x = (show Option (SumD (R_sByRights.map (·.2))) from sByRights x.1 x.2.1 x.2.2) := meanF_of (sByRights_e x)

theorem sByRights_ok : SpecOk Try.prog 38 (evFn (envT Try.prog C6 mtab0) L_sByRights Try.f38) := fnL_ok (envT_ok (C6_ok) (mtab0_ok _)) mixedO Try.func38 (by kernel_rfl) (c := bodyOf Try.f38) (by kernel_rfl) (loopsL (l := [(4, loopC (bodyOf Try.f38) 4), (10, loopC (bodyOf Try.f38) 10)]) (by kernel_rfl) (lk_cons (sByRights_l4_k _ rfl rfl (fun _ _ => rfl)) (lk_cons (sByRights_l10_k _ rfl rfl (fun _ _ => rfl)) lk_nil)))

theorem sByRights_told : SpecOk Try.prog 38 (toldO A_sByRights R_sByRights (fun x => sByRights x.1 x.2.1 x.2.2) (C6 38)) := toldO_ok (by kernel_rfl) sByRights_ok (rest_ok (C6_ok) _) sByRights_m

noncomputable def C7 : Tab := tab 38 (toldO A_sByRights R_sByRights (fun x => sByRights x.1 x.2.1 x.2.2) (C6 38)) C6
theorem C7_ok : TabOk Try.prog C7 := tab_ok (sByRights_told) (C6_ok)

def A_iwithin : Shp := ⟨[.h, .h, .h], [], [.i .i64, .i .i64, .i .i64]⟩
def R_iwithin : List XShp := [(.ret, ⟨[.h], [], [.b]⟩)]

theorem iwithin_e (x : DR A_iwithin.hs) : (evFn (envT Try.prog C7 mtab0) noLoops Try.f68 (A_iwithin.enc x).1).to (fun q => decX R_iwithin .ret [q.1] q.2) = iwithin_t x.1 x.2.1 x.2.2 := by kernel_rfl

theorem iwithin_m (x : DR A_iwithin.hs) : meanF (envT Try.prog C7 mtab0) noLoops Try.f68 A_iwithin R_iwithin x = some (show SumD (R_iwithin.map (·.2)) from iwithin x.1 x.2.1 x.2.2) := @meanF_tot _ _ _ _ _ _ _ (iwithin_e x) (show Inhabited (Bool) from inferInstance) (by kernel_rfl)

theorem iwithin_ok : SpecOk Try.prog 68 (evFn (envT Try.prog C7 mtab0) noLoops Try.f68) := fnL_ok (envT_ok (C7_ok) (mtab0_ok _)) mixedO Try.func68 (by kernel_rfl) (c := bodyOf Try.f68) (by kernel_rfl) (loopFree_ok (by kernel_rfl))

theorem iwithin_told : SpecOk Try.prog 68 (toldT A_iwithin R_iwithin (fun x => iwithin x.1 x.2.1 x.2.2) (C7 68)) := toldT_ok (by kernel_rfl) iwithin_ok (rest_ok (C7_ok) _) iwithin_m

noncomputable def C8 : Tab := tab 68 (toldT A_iwithin R_iwithin (fun x => iwithin x.1 x.2.1 x.2.2) (C7 68)) C7
theorem C8_ok : TabOk Try.prog C8 := tab_ok (iwithin_told) (C7_ok)

def A_iareWithin_1 : Shp := ⟨[.h, .dpt [.h] 0, .dpt [.h] 0], [], [.i .i64, .i .i64, .i .i64]⟩
def R_iareWithin_1 : List XShp := [(.ret, ⟨[.h], [], [.b]⟩)]

theorem iareWithin_1_e (x : DR A_iareWithin_1.hs) : (evFn (envT Try.prog C8 mtab0) noLoops Try.f91 (A_iareWithin_1.enc x).1).to (fun q => decX R_iareWithin_1 .ret [q.1] q.2) = iareWithin_1_t x.1 x.2.1 x.2.2 := by kernel_rfl

theorem iareWithin_1_m (x : DR A_iareWithin_1.hs) : meanF (envT Try.prog C8 mtab0) noLoops Try.f91 A_iareWithin_1 R_iareWithin_1 x = some (show SumD (R_iareWithin_1.map (·.2)) from iareWithin_1 x.1 x.2.1 x.2.2) := @meanF_tot _ _ _ _ _ _ _ (iareWithin_1_e x) (show Inhabited (Bool) from inferInstance) (by kernel_rfl)

theorem iareWithin_1_ok : SpecOk Try.prog 91 (evFn (envT Try.prog C8 mtab0) noLoops Try.f91) := fnL_ok (envT_ok (C8_ok) (mtab0_ok _)) mixedO Try.func91 (by kernel_rfl) (c := bodyOf Try.f91) (by kernel_rfl) (loopFree_ok (by kernel_rfl))

theorem iareWithin_1_told : SpecOk Try.prog 91 (toldT A_iareWithin_1 R_iareWithin_1 (fun x => iareWithin_1 x.1 x.2.1 x.2.2) (C8 91)) := toldT_ok (by kernel_rfl) iareWithin_1_ok (rest_ok (C8_ok) _) iareWithin_1_m

noncomputable def C9 : Tab := tab 91 (toldT A_iareWithin_1 R_iareWithin_1 (fun x => iareWithin_1 x.1 x.2.1 x.2.2) (C8 91)) C8
theorem C9_ok : TabOk Try.prog C9 := tab_ok (iareWithin_1_told) (C8_ok)

def S_lIndexFunc_iareWithin_1_l2 : Shp := ⟨[.h, .fn 91 [.dpt [.h] 0, .dpt [.h] 0], .undef, .h, .h], [], [.sl [.i .i64], .i .i64, .i .i64, .i .i64, .i .i64]⟩
def X_lIndexFunc_iareWithin_1_l2 : List XShp := [(.ret, ⟨[.undef, .undef, .h, .undef, .undef], [], [.i .i64]⟩), (.exit 0, ⟨[.undef, .undef, .undef, .undef, .undef], [], []⟩)]

noncomputable def L_lIndexFunc_iareWithin_1_l2 : Loops := (⟨19, lvT [(2, [0, 1, 4, 7, 8])], mdT [(2, .normal, [], [4]), (2, .exit 0, [], [0, 1, 4, 7, 8]), (2, .ret, [], [0, 1, 7, 8])], fun k vs bs => .bad⟩ : Loops)

theorem lIndexFunc_iareWithin_1_l2_e (y0 : List Int) (y1 : Int) (y2 : Int) (y3 : Int) (s : Int) : (loopStep (envT Try.prog C9 mtab0) L_lIndexFunc_iareWithin_1_l2 2 (loopC (bodyOf Try.f95) 2) (S_lIndexFunc_iareWithin_1_l2.enc (y0, y1, y2, y3, s)).1 (S_lIndexFunc_iareWithin_1_l2.enc (y0, y1, y2, y3, s)).2).to (stepD S_lIndexFunc_iareWithin_1_l2 X_lIndexFunc_iareWithin_1_l2) = (lIndexFunc_iareWithin_1_l2_t y0 y1 y2 y3 s).map (Sum.map (fun s : Int => (show DR S_lIndexFunc_iareWithin_1_l2.hs from (y0, y1, y2, y3, s))) id) := by kernel_rfl

theorem lIndexFunc_iareWithin_1_l2_r (x : DR S_lIndexFunc_iareWithin_1_l2.hs) : (lIndexFunc_iareWithin_1_l2 x.1 x.2.1 x.2.2.1 x.2.2.2.1 x.2.2.2.2 : Option (SumD (X_lIndexFunc_iareWithin_1_l2.map (·.2)))) = runL (meanS (envT Try.prog C9 mtab0) L_lIndexFunc_iareWithin_1_l2 2 (loopC (bodyOf Try.f95) 2) S_lIndexFunc_iareWithin_1_l2 X_lIndexFunc_iareWithin_1_l2) x := run_of (fun s : Int => (show DR S_lIndexFunc_iareWithin_1_l2.hs from (x.1, x.2.1, x.2.2.1, x.2.2.2.1, s))) (lIndexFunc_iareWithin_1_l2_e (x.1) (x.2.1) (x.2.2.1) (x.2.2.2.1)) x.2.2.2.2

theorem lIndexFunc_iareWithin_1_l2_k (L : Loops) (hn : L_lIndexFunc_iareWithin_1_l2.n = L.n) (hlv : L_lIndexFunc_iareWithin_1_l2.lv 2 = L.lv 2) (hL : ∀ vs bs, L.loop 2 vs bs = toldL S_lIndexFunc_iareWithin_1_l2 X_lIndexFunc_iareWithin_1_l2 (fun x => lIndexFunc_iareWithin_1_l2 x.1 x.2.1 x.2.2.1 x.2.2.2.1 x.2.2.2.2) vs bs) : LOk Try.prog (envT Try.prog C9 mtab0) L 2 (loopC (bodyOf Try.f95) 2) := toldL_ok (L1 := L_lIndexFunc_iareWithin_1_l2) (envT_ok (C9_ok) (mtab0_ok _)) mixedO hn hlv (loopFree_ok (by kernel_rfl)) lIndexFunc_iareWithin_1_l2_r hL

def A_lIndexFunc_iareWithin_1 : Shp := ⟨[.h, .fn 91 [.dpt [.h] 0, .dpt [.h] 0]], [], [.sl [.i .i64], .i .i64, .i .i64]⟩
def R_lIndexFunc_iareWithin_1 : List XShp := [(.ret, ⟨[.h], [], [.i .i64]⟩)]

noncomputable def L_lIndexFunc_iareWithin_1 : Loops := (⟨19, lvT [(2, [0, 1, 4, 7, 8])], mdT [(2, .normal, [], [4]), (2, .exit 0, [], [0, 1, 4, 7, 8]), (2, .ret, [], [0, 1, 7, 8])], fun k vs bs => bif Nat.beq k 2 then toldL S_lIndexFunc_iareWithin_1_l2 X_lIndexFunc_iareWithin_1_l2 (fun x => lIndexFunc_iareWithin_1_l2 x.1 x.2.1 x.2.2.1 x.2.2.2.1 x.2.2.2.2) vs bs else .bad⟩ : Loops)

theorem lIndexFunc_iareWithin_1_e (x : DR A_lIndexFunc_iareWithin_1.hs) : (evFn (envT Try.prog C9 mtab0) L_lIndexFunc_iareWithin_1 Try.f95 (A_lIndexFunc_iareWithin_1.enc x).1).to (fun q => decX R_lIndexFunc_iareWithin_1 .ret [q.1] q.2) = lIndexFunc_iareWithin_1_t x.1 x.2.1 x.2.2 := by kernel_rfl

theorem lIndexFunc_iareWithin_1_m (x : DR A_lIndexFunc_iareWithin_1.hs) : meanF (envT Try.prog C9 mtab0) L_lIndexFunc_iareWithin_1 Try.f95 A_lIndexFunc_iareWithin_1 R_lIndexFunc_iareWithin_1 x = (show Option (SumD (R_lIndexFunc_iareWithin_1.map (·.2))) from lIndexFunc_iareWithin_1 x.1 x.2.1 x.2.2) := meanF_of (lIndexFunc_iareWithin_1_e x)

theorem lIndexFunc_iareWithin_1_ok : SpecOk Try.prog 95 (evFn (envT Try.prog C9 mtab0) L_lIndexFunc_iareWithin_1 Try.f95) := fnL_ok (envT_ok (C9_ok) (mtab0_ok _)) mixedO Try.func95 (by kernel_rfl) (c := bodyOf Try.f95) (by kernel_rfl) (loopsL (l := [(2, loopC (bodyOf Try.f95) 2)]) (by kernel_rfl) (lk_cons (lIndexFunc_iareWithin_1_l2_k _ rfl rfl (fun _ _ => rfl)) lk_nil))

theorem lIndexFunc_iareWithin_1_told : SpecOk Try.prog 95 (toldO A_lIndexFunc_iareWithin_1 R_lIndexFunc_iareWithin_1 (fun x => lIndexFunc_iareWithin_1 x.1 x.2.1 x.2.2) (C9 95)) := toldO_ok (by kernel_rfl) lIndexFunc_iareWithin_1_ok (rest_ok (C9_ok) _) lIndexFunc_iareWithin_1_m

noncomputable def C10 : Tab := tab 95 (toldO A_lIndexFunc_iareWithin_1 R_lIndexFunc_iareWithin_1 (fun x => lIndexFunc_iareWithin_1 x.1 x.2.1 x.2.2) (C9 95)) C9
theorem C10_ok : TabOk Try.prog C10 := tab_ok (lIndexFunc_iareWithin_1_told) (C9_ok)

def A_lContainsFunc_iareWithin_1 : Shp := ⟨[.h, .fn 91 [.dpt [.h] 0, .dpt [.h] 0]], [], [.sl [.i .i64], .i .i64, .i .i64]⟩
def R_lContainsFunc_iareWithin_1 : List XShp := [(.ret, ⟨[.h], [], [.b]⟩)]

theorem lContainsFunc_iareWithin_1_e (x : DR A_lContainsFunc_iareWithin_1.hs) : (evFn (envT Try.prog C10 mtab0) noLoops Try.f90 (A_lContainsFunc_iareWithin_1.enc x).1).to (fun q => decX R_lContainsFunc_iareWithin_1 .ret [q.1] q.2) = lContainsFunc_iareWithin_1_t x.1 x.2.1 x.2.2 := by kernel_rfl

theorem lContainsFunc_iareWithin_1_m (x : DR A_lContainsFunc_iareWithin_1.hs) : meanF (envT Try.prog C10 mtab0) noLoops Try.f90 A_lContainsFunc_iareWithin_1 R_lContainsFunc_iareWithin_1 x = (show Option (SumD (R_lContainsFunc_iareWithin_1.map (·.2))) from lContainsFunc_iareWithin_1 x.1 x.2.1 x.2.2) := meanF_of (lContainsFunc_iareWithin_1_e x)

theorem lContainsFunc_iareWithin_1_ok : SpecOk Try.prog 90 (evFn (envT Try.prog C10 mtab0) noLoops Try.f90) := fnL_ok (envT_ok (C10_ok) (mtab0_ok _)) mixedO Try.func90 (by kernel_rfl) (c := bodyOf Try.f90) (by kernel_rfl) (loopFree_ok (by kernel_rfl))

theorem lContainsFunc_iareWithin_1_told : SpecOk Try.prog 90 (toldO A_lContainsFunc_iareWithin_1 R_lContainsFunc_iareWithin_1 (fun x => lContainsFunc_iareWithin_1 x.1 x.2.1 x.2.2) (C10 90)) := toldO_ok (by kernel_rfl) lContainsFunc_iareWithin_1_ok (rest_ok (C10_ok) _) lContainsFunc_iareWithin_1_m

noncomputable def C11 : Tab := tab 90 (toldO A_lContainsFunc_iareWithin_1 R_lContainsFunc_iareWithin_1 (fun x => lContainsFunc_iareWithin_1 x.1 x.2.1 x.2.2) (C10 90)) C10
theorem C11_ok : TabOk Try.prog C11 := tab_ok (lContainsFunc_iareWithin_1_told) (C10_ok)

def A_iareWithin : Shp := ⟨[.h, .h, .h], [], [.sl [.i .i64], .i .i64, .i .i64]⟩
def R_iareWithin : List XShp := [(.ret, ⟨[.h], [], [.b]⟩)]

theorem iareWithin_e (x : DR A_iareWithin.hs) : (evFn (envT Try.prog C11 mtab0) noLoops Try.f72 (A_iareWithin.enc x).1).to (fun q => decX R_iareWithin .ret [q.1] q.2) = iareWithin_t x.1 x.2.1 x.2.2 := by kernel_rfl

theorem iareWithin_m (x : DR A_iareWithin.hs) : meanF (envT Try.prog C11 mtab0) noLoops Try.f72 A_iareWithin R_iareWithin x = (show Option (SumD (R_iareWithin.map (·.2))) from iareWithin x.1 x.2.1 x.2.2) := meanF_of (iareWithin_e x)

theorem iareWithin_ok : SpecOk Try.prog 72 (evFn (envT Try.prog C11 mtab0) noLoops Try.f72) := fnL_ok (envT_ok (C11_ok) (mtab0_ok _)) mixedO Try.func72 (by kernel_rfl) (c := bodyOf Try.f72) (by kernel_rfl) (loopFree_ok (by kernel_rfl))

theorem iareWithin_told : SpecOk Try.prog 72 (toldO A_iareWithin R_iareWithin (fun x => iareWithin x.1 x.2.1 x.2.2) (C11 72)) := toldO_ok (by kernel_rfl) iareWithin_ok (rest_ok (C11_ok) _) iareWithin_m

noncomputable def C12 : Tab := tab 72 (toldO A_iareWithin R_iareWithin (fun x => iareWithin x.1 x.2.1 x.2.2) (C11 72)) C11
theorem C12_ok : TabOk Try.prog C12 := tab_ok (iareWithin_told) (C11_ok)

def A_iareUnits : Shp := ⟨[.h, .h], [], [.i .i64, .sl [.i .i64]]⟩
def R_iareUnits : List XShp := [(.ret, ⟨[.h], [], [.b]⟩)]

theorem iareUnits_e (x : DR A_iareUnits.hs) : (evFn (envT Try.prog C12 mtab0) noLoops Try.f56 (A_iareUnits.enc x).1).to (fun q => decX R_iareUnits .ret [q.1] q.2) = iareUnits_t x.1 x.2 := by kernel_rfl

theorem iareUnits_m (x : DR A_iareUnits.hs) : meanF (envT Try.prog C12 mtab0) noLoops Try.f56 A_iareUnits R_iareUnits x = (show Option (SumD (R_iareUnits.map (·.2))) from iareUnits x.1 x.2) := meanF_of (iareUnits_e x)

theorem iareUnits_ok : SpecOk Try.prog 56 (evFn (envT Try.prog C12 mtab0) noLoops Try.f56) := fnL_ok (envT_ok (C12_ok) (mtab0_ok _)) mixedO Try.func56 (by kernel_rfl) (c := bodyOf Try.f56) (by kernel_rfl) (loopFree_ok (by kernel_rfl))

theorem iareUnits_told : SpecOk Try.prog 56 (toldO A_iareUnits R_iareUnits (fun x => iareUnits x.1 x.2) (C12 56)) := toldO_ok (by kernel_rfl) iareUnits_ok (rest_ok (C12_ok) _) iareUnits_m

noncomputable def C13 : Tab := tab 56 (toldO A_iareUnits R_iareUnits (fun x => iareUnits x.1 x.2) (C12 56)) C12
theorem C13_ok : TabOk Try.prog C13 := tab_ok (iareUnits_told) (C12_ok)

def S_itotal_l6 : Shp := ⟨[.h, .h, .h, .h, .h, .h, .h], [], [.i .i64, .sl [.sl [.i .i64]], .i .i64, .i .i64, .sl [.i .i64], .i .i64, .i .i64]⟩
def X_itotal_l6 : List XShp := [(.exit 2, ⟨[.h, .h, .h, .h, .undef, .undef, .undef], [], [.i .i64, .sl [.sl [.i .i64]], .i .i64, .i .i64]⟩)]

noncomputable def L_itotal_l6 : Loops := (⟨26, lvT [(6, [3, 8, 9, 10, 14, 15, 16]), (3, [3, 8, 9, 10])], mdT [(6, .exit 2, [], [14, 15, 16]), (3, .exit 0, [], [8, 9, 10])], fun k vs bs => .bad⟩ : Loops)

theorem itotal_l6_e (y1 : List (List Int)) (y2 : Int) (y3 : Int) (y4 : List Int) (y5 : Int) (s : Int × Int) : (loopStep (envT Try.prog C13 mtab0) L_itotal_l6 6 (loopC (loopC (bodyOf Try.f57) 3) 6) (S_itotal_l6.enc (s.1, y1, y2, y3, y4, y5, s.2)).1 (S_itotal_l6.enc (s.1, y1, y2, y3, y4, y5, s.2)).2).to (stepD S_itotal_l6 X_itotal_l6) = (itotal_l6_t y1 y2 y3 y4 y5 s.1 s.2).map (Sum.map (fun s : Int × Int => (show DR S_itotal_l6.hs from (s.1, y1, y2, y3, y4, y5, s.2))) id) := by kernel_rfl

theorem itotal_l6_r (x : DR S_itotal_l6.hs) : (itotal_l6 x.1 x.2.1 x.2.2.1 x.2.2.2.1 x.2.2.2.2.1 x.2.2.2.2.2.1 x.2.2.2.2.2.2 : Option (SumD (X_itotal_l6.map (·.2)))) = runL (meanS (envT Try.prog C13 mtab0) L_itotal_l6 6 (loopC (loopC (bodyOf Try.f57) 3) 6) S_itotal_l6 X_itotal_l6) x := run_of (fun s : Int × Int => (show DR S_itotal_l6.hs from (s.1, x.2.1, x.2.2.1, x.2.2.2.1, x.2.2.2.2.1, x.2.2.2.2.2.1, s.2))) (itotal_l6_e (x.2.1) (x.2.2.1) (x.2.2.2.1) (x.2.2.2.2.1) (x.2.2.2.2.2.1)) (x.1, x.2.2.2.2.2.2)

theorem itotal_l6_k (L : Loops) (hn : L_itotal_l6.n = L.n) (hlv : L_itotal_l6.lv 6 = L.lv 6) (hL : ∀ vs bs, L.loop 6 vs bs = toldL S_itotal_l6 X_itotal_l6 (fun x => itotal_l6 x.1 x.2.1 x.2.2.1 x.2.2.2.1 x.2.2.2.2.1 x.2.2.2.2.2.1 x.2.2.2.2.2.2) vs bs) : LOk Try.prog (envT Try.prog C13 mtab0) L 6 (loopC (loopC (bodyOf Try.f57) 3) 6) := toldL_ok (L1 := L_itotal_l6) (envT_ok (C13_ok) (mtab0_ok _)) mixedO hn hlv (loopFree_ok (by kernel_rfl)) itotal_l6_r hL

def S_itotal_l3 : Shp := ⟨[.h, .h, .h, .h], [], [.i .i64, .sl [.sl [.i .i64]], .i .i64, .i .i64]⟩
def X_itotal_l3 : List XShp := [(.exit 0, ⟨[.h, .undef, .undef, .undef], [], [.i .i64]⟩)]

noncomputable def L_itotal_l3 : Loops := (⟨26, lvT [(6, [3, 8, 9, 10, 14, 15, 16]), (3, [3, 8, 9, 10])], mdT [(6, .exit 2, [], [14, 15, 16]), (3, .exit 0, [], [8, 9, 10])], fun k vs bs => bif Nat.beq k 6 then toldL S_itotal_l6 X_itotal_l6 (fun x => itotal_l6 x.1 x.2.1 x.2.2.1 x.2.2.2.1 x.2.2.2.2.1 x.2.2.2.2.2.1 x.2.2.2.2.2.2) vs bs else .bad⟩ : Loops)

theorem itotal_l3_e (s : Int × List (List Int) × Int × Int) : (loopStep (envT Try.prog C13 mtab0) L_itotal_l3 3 (loopC (bodyOf Try.f57) 3) (S_itotal_l3.enc (s.1, s.2.1, s.2.2.1, s.2.2.2)).1 (S_itotal_l3.enc (s.1, s.2.1, s.2.2.1, s.2.2.2)).2).to (stepD S_itotal_l3 X_itotal_l3) = (itotal_l3_t  s.1 s.2.1 s.2.2.1 s.2.2.2).map (Sum.map (fun s : Int × List (List Int) × Int × Int => (show DR S_itotal_l3.hs from (s.1, s.2.1, s.2.2.1, s.2.2.2))) id) := by kernel_rfl

theorem itotal_l3_r (x : DR S_itotal_l3.hs) : (itotal_l3 x.1 x.2.1 x.2.2.1 x.2.2.2 : Option (SumD (X_itotal_l3.map (·.2)))) = runL (meanS (envT Try.prog C13 mtab0) L_itotal_l3 3 (loopC (bodyOf Try.f57) 3) S_itotal_l3 X_itotal_l3) x := run_of (fun s : Int × List (List Int) × Int × Int => (show DR S_itotal_l3.hs from (s.1, s.2.1, s.2.2.1, s.2.2.2))) (itotal_l3_e ) (x.1, x.2.1, x.2.2.1, x.2.2.2)

theorem itotal_l3_k (L : Loops) (hn : L_itotal_l3.n = L.n) (hlv : L_itotal_l3.lv 3 = L.lv 3) (hL : ∀ vs bs, L.loop 3 vs bs = toldL S_itotal_l3 X_itotal_l3 (fun x => itotal_l3 x.1 x.2.1 x.2.2.1 x.2.2.2) vs bs) : LOk Try.prog (envT Try.prog C13 mtab0) L 3 (loopC (bodyOf Try.f57) 3) := toldL_ok (L1 := L_itotal_l3) (envT_ok (C13_ok) (mtab0_ok _)) mixedO hn hlv (loopsL (l := [(6, loopC (loopC (bodyOf Try.f57) 3) 6)]) (by kernel_rfl) (lk_cons (itotal_l6_k _ rfl rfl (fun _ _ => rfl)) lk_nil)) itotal_l3_r hL

def A_itotal : Shp := ⟨[.h], [], [.sl [.sl [.i .i64]]]⟩
def R_itotal : List XShp := [(.ret, ⟨[.h], [], [.i .i64]⟩)]

noncomputable def L_itotal : Loops := (⟨26, lvT [(6, [3, 8, 9, 10, 14, 15, 16]), (3, [3, 8, 9, 10])], mdT [(6, .exit 2, [], [14, 15, 16]), (3, .exit 0, [], [8, 9, 10])], fun k vs bs => bif Nat.beq k 3 then toldL S_itotal_l3 X_itotal_l3 (fun x => itotal_l3 x.1 x.2.1 x.2.2.1 x.2.2.2) vs bs else .bad⟩ : Loops)

theorem itotal_e (x : DR A_itotal.hs) : (evFn (envT Try.prog C13 mtab0) L_itotal Try.f57 (A_itotal.enc x).1).to (fun q => decX R_itotal .ret [q.1] q.2) = itotal_t x := by kernel_rfl

theorem itotal_m (x : DR A_itotal.hs) : meanF (envT Try.prog C13 mtab0) L_itotal Try.f57 A_itotal R_itotal x = (show Option (SumD (R_itotal.map (·.2))) from itotal x) := meanF_of (itotal_e x)

theorem itotal_ok : SpecOk Try.prog 57 (evFn (envT Try.prog C13 mtab0) L_itotal Try.f57) := fnL_ok (envT_ok (C13_ok) (mtab0_ok _)) mixedO Try.func57 (by kernel_rfl) (c := bodyOf Try.f57) (by kernel_rfl) (loopsL (l := [(3, loopC (bodyOf Try.f57) 3)]) (by kernel_rfl) (lk_cons (itotal_l3_k _ rfl rfl (fun _ _ => rfl)) lk_nil))

theorem itotal_told : SpecOk Try.prog 57 (toldO A_itotal R_itotal (fun x => itotal x) (C13 57)) := toldO_ok (by kernel_rfl) itotal_ok (rest_ok (C13_ok) _) itotal_m

noncomputable def C14 : Tab := tab 57 (toldO A_itotal R_itotal (fun x => itotal x) (C13 57)) C13
theorem C14_ok : TabOk Try.prog C14 := tab_ok (itotal_told) (C13_ok)

def S_isplit_l13 : Shp := ⟨[.h, .slw 0 1, .slw 1 1, .h, .slw 1 1, .h, .h], [.arr [.i .i64] false, .arr [.i .i64] false], [.i .i64, .i .i64, .i .i64, .i .i64, .sl [.i .i64], .sl [.i .i64]]⟩
def X_isplit_l13 : List XShp := [(.exit 4, ⟨[.h, .slw 0 1, .slw 1 1, .h, .undef, .undef, .undef], [.arr [.i .i64] false, .arr [.i .i64] false], [.i .i64, .i .i64, .sl [.i .i64], .sl [.i .i64]]⟩)]

noncomputable def L_isplit_l13 : Loops := (⟨79, lvT [(13, [6, 7, 8, 11, 54, 55, 56]), (9, [6, 7, 8]), (4, [0, 5, 6, 7, 8, 20, 21, 22])], mdT [(13, .exit 4, [], [54, 55, 56]), (9, .exit 2, [], [6, 8]), (4, .exit 0, [], [0, 5, 20, 21, 22])], fun k vs bs => .bad⟩ : Loops)

theorem isplit_l13_e (y0 : Int) (y2 : Int) (y4 : List Int) (y5 : List Int) (s : Int × Int) : (loopStep (envT Try.prog C14 mtab0) L_isplit_l13 13 (loopC (loopC (bodyOf Try.f58) 9) 13) (S_isplit_l13.enc (y0, s.1, y2, s.2, y4, y5)).1 (S_isplit_l13.enc (y0, s.1, y2, s.2, y4, y5)).2).to (stepD S_isplit_l13 X_isplit_l13) = (isplit_l13_t y0 y2 y4 y5 s.1 s.2).map (Sum.map (fun s : Int × Int => (show DR S_isplit_l13.hs from (y0, s.1, y2, s.2, y4, y5))) id) := by kernel_rfl

theorem isplit_l13_r (x : DR S_isplit_l13.hs) : (isplit_l13 x.1 x.2.1 x.2.2.1 x.2.2.2.1 x.2.2.2.2.1 x.2.2.2.2.2 : Option (SumD (X_isplit_l13.map (·.2)))) = runL (meanS (envT Try.prog C14 mtab0) L_isplit_l13 13 (loopC (loopC (bodyOf Try.f58) 9) 13) S_isplit_l13 X_isplit_l13) x := run_of (fun s : Int × Int => (show DR S_isplit_l13.hs from (x.1, s.1, x.2.2.1, s.2, x.2.2.2.2.1, x.2.2.2.2.2))) (isplit_l13_e (x.1) (x.2.2.1) (x.2.2.2.2.1) (x.2.2.2.2.2)) (x.2.1, x.2.2.2.1)

theorem isplit_l13_k (L : Loops) (hn : L_isplit_l13.n = L.n) (hlv : L_isplit_l13.lv 13 = L.lv 13) (hL : ∀ vs bs, L.loop 13 vs bs = toldL S_isplit_l13 X_isplit_l13 (fun x => isplit_l13 x.1 x.2.1 x.2.2.1 x.2.2.2.1 x.2.2.2.2.1 x.2.2.2.2.2) vs bs) : LOk Try.prog (envT Try.prog C14 mtab0) L 13 (loopC (loopC (bodyOf Try.f58) 9) 13) := toldL_ok (L1 := L_isplit_l13) (envT_ok (C14_ok) (mtab0_ok _)) mixedO hn hlv (loopFree_ok (by kernel_rfl)) isplit_l13_r hL

def S_isplit_l4 : Shp := ⟨[.h, .h, .h, .slw 0 1, .slw 1 1, .h, .h, .h], [.arr [.i .i64] false, .arr [.i .i64] false], [.i .i64, .i .i64, .i .i64, .sl [.i .i64], .i .i64, .i .i64, .sl [.i .i64], .sl [.i .i64]]⟩
def X_isplit_l4 : List XShp := [(.exit 0, ⟨[.undef, .undef, .h, .slw 0 1, .slw 1 1, .undef, .undef, .undef], [.arr [.i .i64] false, .arr [.i .i64] false], [.i .i64, .sl [.i .i64], .sl [.i .i64]]⟩)]

noncomputable def L_isplit_l4 : Loops := (⟨79, lvT [(13, [6, 7, 8, 11, 54, 55, 56]), (9, [6, 7, 8]), (4, [0, 5, 6, 7, 8, 20, 21, 22])], mdT [(13, .exit 4, [], [54, 55, 56]), (9, .exit 2, [], [6, 8]), (4, .exit 0, [], [0, 5, 20, 21, 22])], fun k vs bs => .bad⟩ : Loops)

theorem isplit_l4_e (y0 : Int) (y1 : Int) (y3 : List Int) (y4 : Int) (s : Int × Int × List Int × List Int) : (loopStep (envT Try.prog C14 mtab0) L_isplit_l4 4 (loopC (bodyOf Try.f58) 4) (S_isplit_l4.enc (y0, y1, s.1, y3, y4, s.2.1, s.2.2.1, s.2.2.2)).1 (S_isplit_l4.enc (y0, y1, s.1, y3, y4, s.2.1, s.2.2.1, s.2.2.2)).2).to (stepD S_isplit_l4 X_isplit_l4) = (isplit_l4_t y0 y1 y3 y4 s.1 s.2.1 s.2.2.1 s.2.2.2).map (Sum.map (fun s : Int × Int × List Int × List Int => (show DR S_isplit_l4.hs from (y0, y1, s.1, y3, y4, s.2.1, s.2.2.1, s.2.2.2))) id) := by kernel_rfl

theorem isplit_l4_r (x : DR S_isplit_l4.hs) : (isplit_l4 x.1 x.2.1 x.2.2.1 x.2.2.2.1 x.2.2.2.2.1 x.2.2.2.2.2.1 x.2.2.2.2.2.2.1 x.2.2.2.2.2.2.2 : Option (SumD (X_isplit_l4.map (·.2)))) = runL (meanS (envT Try.prog C14 mtab0) L_isplit_l4 4 (loopC (bodyOf Try.f58) 4) S_isplit_l4 X_isplit_l4) x := run_of (fun s : Int × Int × List Int × List Int => (show DR S_isplit_l4.hs from (x.1, x.2.1, s.1, x.2.2.2.1, x.2.2.2.2.1, s.2.1, s.2.2.1, s.2.2.2))) (isplit_l4_e (x.1) (x.2.1) (x.2.2.2.1) (x.2.2.2.2.1)) (x.2.2.1, x.2.2.2.2.2.1, x.2.2.2.2.2.2.1, x.2.2.2.2.2.2.2)

theorem isplit_l4_k (L : Loops) (hn : L_isplit_l4.n = L.n) (hlv : L_isplit_l4.lv 4 = L.lv 4) (hL : ∀ vs bs, L.loop 4 vs bs = toldL S_isplit_l4 X_isplit_l4 (fun x => isplit_l4 x.1 x.2.1 x.2.2.1 x.2.2.2.1 x.2.2.2.2.1 x.2.2.2.2.2.1 x.2.2.2.2.2.2.1 x.2.2.2.2.2.2.2) vs bs) : LOk Try.prog (envT Try.prog C14 mtab0) L 4 (loopC (bodyOf Try.f58) 4) := toldL_ok (L1 := L_isplit_l4) (envT_ok (C14_ok) (mtab0_ok _)) mixedO hn hlv (loopFree_ok (by kernel_rfl)) isplit_l4_r hL

def S_isplit_l9 : Shp := ⟨[.h, .slw 0 1, .slw 1 1], [.arr [.i .i64] false, .arr [.i .i64] false], [.i .i64, .sl [.i .i64], .sl [.i .i64]]⟩
def X_isplit_l9 : List XShp := [(.exit 2, ⟨[.undef, .slw 0 1, .undef], [.arr [.i .i64] false], [.sl [.i .i64]]⟩)]

noncomputable def L_isplit_l9 : Loops := (⟨79, lvT [(13, [6, 7, 8, 11, 54, 55, 56]), (9, [6, 7, 8]), (4, [0, 5, 6, 7, 8, 20, 21, 22])], mdT [(13, .exit 4, [], [54, 55, 56]), (9, .exit 2, [], [6, 8]), (4, .exit 0, [], [0, 5, 20, 21, 22])], fun k vs bs => bif Nat.beq k 13 then toldL S_isplit_l13 X_isplit_l13 (fun x => isplit_l13 x.1 x.2.1 x.2.2.1 x.2.2.2.1 x.2.2.2.2.1 x.2.2.2.2.2) vs bs else .bad⟩ : Loops)

theorem isplit_l9_e (s : Int × List Int × List Int) : (loopStep (envT Try.prog C14 mtab0) L_isplit_l9 9 (loopC (bodyOf Try.f58) 9) (S_isplit_l9.enc (s.1, s.2.1, s.2.2)).1 (S_isplit_l9.enc (s.1, s.2.1, s.2.2)).2).to (stepD S_isplit_l9 X_isplit_l9) = (isplit_l9_t  s.1 s.2.1 s.2.2).map (Sum.map (fun s : Int × List Int × List Int => (show DR S_isplit_l9.hs from (s.1, s.2.1, s.2.2))) id) := by kernel_rfl

theorem isplit_l9_r (x : DR S_isplit_l9.hs) : (isplit_l9 x.1 x.2.1 x.2.2 : Option (SumD (X_isplit_l9.map (·.2)))) = runL (meanS (envT Try.prog C14 mtab0) L_isplit_l9 9 (loopC (bodyOf Try.f58) 9) S_isplit_l9 X_isplit_l9) x := run_of (fun s : Int × List Int × List Int => (show DR S_isplit_l9.hs from (s.1, s.2.1, s.2.2))) (isplit_l9_e ) (x.1, x.2.1, x.2.2)

theorem isplit_l9_k (L : Loops) (hn : L_isplit_l9.n = L.n) (hlv : L_isplit_l9.lv 9 = L.lv 9) (hL : ∀ vs bs, L.loop 9 vs bs = toldL S_isplit_l9 X_isplit_l9 (fun x => isplit_l9 x.1 x.2.1 x.2.2) vs bs) : LOk Try.prog (envT Try.prog C14 mtab0) L 9 (loopC (bodyOf Try.f58) 9) := toldL_ok (L1 := L_isplit_l9) (envT_ok (C14_ok) (mtab0_ok _)) mixedO hn hlv (loopsL (l := [(13, loopC (loopC (bodyOf Try.f58) 9) 13)]) (by kernel_rfl) (lk_cons (isplit_l13_k _ rfl rfl (fun _ _ => rfl)) lk_nil)) isplit_l9_r hL

def A_isplit : Shp := ⟨[.h, .h], [], [.i .i64, .sl [.i .i64]]⟩
def R_isplit : List XShp := [(.ret, ⟨[.slw 0 1], [.arr [.i .i64] false], [.sl [.i .i64]]⟩)]

noncomputable def L_isplit : Loops := (⟨79, lvT [(13, [6, 7, 8, 11, 54, 55, 56]), (9, [6, 7, 8]), (4, [0, 5, 6, 7, 8, 20, 21, 22])], mdT [(13, .exit 4, [], [54, 55, 56]), (9, .exit 2, [], [6, 8]), (4, .exit 0, [], [0, 5, 20, 21, 22])], fun k vs bs => bif Nat.beq k 9 then toldL S_isplit_l9 X_isplit_l9 (fun x => isplit_l9 x.1 x.2.1 x.2.2) vs bs else bif Nat.beq k 4 then toldL S_isplit_l4 X_isplit_l4 (fun x => isplit_l4 x.1 x.2.1 x.2.2.1 x.2.2.2.1 x.2.2.2.2.1 x.2.2.2.2.2.1 x.2.2.2.2.2.2.1 x.2.2.2.2.2.2.2) vs bs else .bad⟩ : Loops)

theorem isplit_e (x : DR A_isplit.hs) : (evFn (envT Try.prog C14 mtab0) L_isplit Try.f58 (A_isplit.enc x).1).to (fun q => decX R_isplit .ret [q.1] q.2) = isplit_t x.1 x.2 := by kernel_rfl

theorem isplit_m (x : DR A_isplit.hs) : meanF (envT Try.prog C14 mtab0) L_isplit Try.f58 A_isplit R_isplit x = (show Option (SumD (R_isplit.map (·.2))) from isplit x.1 x.2) := meanF_of (isplit_e x)

theorem isplit_ok : SpecOk Try.prog 58 (evFn (envT Try.prog C14 mtab0) L_isplit Try.f58) := fnL_ok (envT_ok (C14_ok) (mtab0_ok _)) mixedO Try.func58 (by kernel_rfl) (c := bodyOf Try.f58) (by kernel_rfl) (loopsL (l := [(4, loopC (bodyOf Try.f58) 4), (9, loopC (bodyOf Try.f58) 9)]) (by kernel_rfl) (lk_cons (isplit_l4_k _ rfl rfl (fun _ _ => rfl)) (lk_cons (isplit_l9_k _ rfl rfl (fun _ _ => rfl)) lk_nil)))

theorem isplit_told : SpecOk Try.prog 58 (toldO A_isplit R_isplit (fun x => isplit x.1 x.2) (C14 58)) := toldO_ok (by kernel_rfl) isplit_ok (rest_ok (C14_ok) _) isplit_m

noncomputable def C15 : Tab := tab 58 (toldO A_isplit R_isplit (fun x => isplit x.1 x.2) (C14 58)) C14
theorem C15_ok : TabOk Try.prog C15 := tab_ok (isplit_told) (C14_ok)

def S_iByRights_l9 : Shp := ⟨[.h, .h, .h, .slw 0 1, .h, .slw 1 1, .slw 2 1, .h, .h, .h], [.arr [.i .i64] false, .arr [.i .i64] false, .arr [.i .i64] false], [.i .i64, .sl [.i .i64], .sl [.i .i64], .i .i64, .sl [.i .i64], .i .i64, .i .i64, .sl [.i .i64], .sl [.i .i64], .sl [.i .i64]]⟩
def X_iByRights_l9 : List XShp := [(.exit 2, ⟨[.h, .h, .h, .slw 0 1, .h, .slw 1 1, .slw 2 1, .undef, .undef, .undef], [.arr [.i .i64] false, .arr [.i .i64] false, .arr [.i .i64] false], [.i .i64, .sl [.i .i64], .sl [.i .i64], .i .i64, .sl [.i .i64], .sl [.i .i64], .sl [.i .i64]]⟩)]

noncomputable def L_iByRights_l9 : Loops := (⟨92, lvT [(17, [0, 1, 2, 8, 9, 10, 71, 72, 73]), (9, [0, 1, 2, 8, 9, 10, 11, 41, 42, 43]), (5, [0, 1, 2, 8, 9])], mdT [(17, .exit 4, [], [71, 72, 73]), (9, .exit 2, [], [41, 42, 43]), (5, .exit 0, [], [0, 1, 2, 9])], fun k vs bs => .bad⟩ : Loops)

theorem iByRights_l9_e (y0 : Int) (y1 : List Int) (y2 : List Int) (y3 : Int) (y4 : List Int) (y5 : Int) (y7 : List Int) (s : Int × List Int × List Int) : (loopStep (envT Try.prog C15 mtab0) L_iByRights_l9 9 (loopC (loopC (bodyOf Try.f39) 5) 9) (S_iByRights_l9.enc (y0, y1, y2, y3, y4, y5, s.1, y7, s.2.1, s.2.2)).1 (S_iByRights_l9.enc (y0, y1, y2, y3, y4, y5, s.1, y7, s.2.1, s.2.2)).2).to (stepD S_iByRights_l9 X_iByRights_l9) = (iByRights_l9_t y0 y1 y2 y3 y4 y5 y7 s.1 s.2.1 s.2.2).map (Sum.map (fun s : Int × List Int × List Int => (show DR S_iByRights_l9.hs from (y0, y1, y2, y3, y4, y5, s.1, y7, s.2.1, s.2.2))) id) := by kernel_rfl

theorem iByRights_l9_r (x : DR S_iByRights_l9.hs) : (iByRights_l9 x.1 x.2.1 x.2.2.1 x.2.2.2.1 x.2.2.2.2.1 x.2.2.2.2.2.1 x.2.2.2.2.2.2.1 x.2.2.2.2.2.2.2.1 x.2.2.2.2.2.2.2.2.1 x.2.2.2.2.2.2.2.2.2 : Option (SumD (X_iByRights_l9.map (·.2)))) = runL (meanS (envT Try.prog C15 mtab0) L_iByRights_l9 9 (loopC (loopC (bodyOf Try.f39) 5) 9) S_iByRights_l9 X_iByRights_l9) x := run_of (fun s : Int × List Int × List Int => (show DR S_iByRights_l9.hs from (x.1, x.2.1, x.2.2.1, x.2.2.2.1, x.2.2.2.2.1, x.2.2.2.2.2.1, s.1, x.2.2.2.2.2.2.2.1, s.2.1, s.2.2))) (iByRights_l9_e (x.1) (x.2.1) (x.2.2.1) (x.2.2.2.1) (x.2.2.2.2.1) (x.2.2.2.2.2.1) (x.2.2.2.2.2.2.2.1)) (x.2.2.2.2.2.2.1, x.2.2.2.2.2.2.2.2.1, x.2.2.2.2.2.2.2.2.2)

theorem iByRights_l9_k (L : Loops) (hn : L_iByRights_l9.n = L.n) (hlv : L_iByRights_l9.lv 9 = L.lv 9) (hL : ∀ vs bs, L.loop 9 vs bs = toldL S_iByRights_l9 X_iByRights_l9 (fun x => iByRights_l9 x.1 x.2.1 x.2.2.1 x.2.2.2.1 x.2.2.2.2.1 x.2.2.2.2.2.1 x.2.2.2.2.2.2.1 x.2.2.2.2.2.2.2.1 x.2.2.2.2.2.2.2.2.1 x.2.2.2.2.2.2.2.2.2) vs bs) : LOk Try.prog (envT Try.prog C15 mtab0) L 9 (loopC (loopC (bodyOf Try.f39) 5) 9) := toldL_ok (L1 := L_iByRights_l9) (envT_ok (C15_ok) (mtab0_ok _)) mixedO hn hlv (loopFree_ok (by kernel_rfl)) iByRights_l9_r hL

def H_iByRights_l17 : List XShp := [(.normal, ⟨[.h, .h, .h, .slw 0 1, .h, .slw 1 1, .slw 2 1, .h, .h], [.arr [.i .i64] false, .arr [.i .i64] false, .arr [.i .i64] false], [.i .i64, .sl [.i .i64], .sl [.i .i64], .i .i64, .i .i64, .i .i64, .sl [.i .i64], .sl [.i .i64], .sl [.i .i64]]⟩), (.normal, ⟨[.h, .h, .h, .slw 0 1, .h, .slw 1 1, .slw 2 1, .h, .h], [.arr [.i .i64] false, .arr [.i .i64] true, .arr [.i .i64] false], [.i .i64, .sl [.i .i64], .sl [.i .i64], .i .i64, .i .i64, .i .i64, .sl [.i .i64], .sl [.i .i64], .sl [.i .i64]]⟩)]
def X_iByRights_l17 : List XShp := [(.exit 4, ⟨[.h, .h, .h, .slw 0 1, .h, .slw 1 1, .undef, .undef, .undef], [.arr [.i .i64] false, .arr [.i .i64] false], [.i .i64, .sl [.i .i64], .sl [.i .i64], .i .i64, .sl [.i .i64], .sl [.i .i64]]⟩), (.exit 4, ⟨[.h, .h, .h, .slw 0 1, .h, .slw 1 1, .undef, .undef, .undef], [.arr [.i .i64] false, .arr [.i .i64] true], [.i .i64, .sl [.i .i64], .sl [.i .i64], .i .i64, .sl [.i .i64], .sl [.i .i64]]⟩)]

noncomputable def L_iByRights_l17 : Loops := (⟨92, lvT [(17, [0, 1, 2, 8, 9, 10, 71, 72, 73]), (9, [0, 1, 2, 8, 9, 10, 11, 41, 42, 43]), (5, [0, 1, 2, 8, 9])], mdT [(17, .exit 4, [], [71, 72, 73]), (9, .exit 2, [], [41, 42, 43]), (5, .exit 0, [], [0, 1, 2, 9])], fun k vs bs => .bad⟩ : Loops)

theorem iByRights_l17_e0 (y : DR (⟨[.h, .h, .h, .slw 0 1, .h, .slw 1 1, .slw 2 1, .h, .h], [.arr [.i .i64] false, .arr [.i .i64] false, .arr [.i .i64] false], [.i .i64, .sl [.i .i64], .sl [.i .i64], .i .i64, .i .i64, .i .i64, .sl [.i .i64], .sl [.i .i64], .sl [.i .i64]]⟩ : Shp).hs) : (loopStep (envT Try.prog C15 mtab0) L_iByRights_l17 17 (loopC (loopC (bodyOf Try.f39) 5) 17) ((⟨[.h, .h, .h, .slw 0 1, .h, .slw 1 1, .slw 2 1, .h, .h], [.arr [.i .i64] false, .arr [.i .i64] false, .arr [.i .i64] false], [.i .i64, .sl [.i .i64], .sl [.i .i64], .i .i64, .i .i64, .i .i64, .sl [.i .i64], .sl [.i .i64], .sl [.i .i64]]⟩ : Shp).enc y).1 ((⟨[.h, .h, .h, .slw 0 1, .h, .slw 1 1, .slw 2 1, .h, .h], [.arr [.i .i64] false, .arr [.i .i64] false, .arr [.i .i64] false], [.i .i64, .sl [.i .i64], .sl [.i .i64], .i .i64, .i .i64, .i .i64, .sl [.i .i64], .sl [.i .i64], .sl [.i .i64]]⟩ : Shp).enc y).2).to (stepH H_iByRights_l17 X_iByRights_l17) = iByRights_l17_t0 y.1 y.2.1 y.2.2.1 y.2.2.2.1 y.2.2.2.2.1 y.2.2.2.2.2.1 y.2.2.2.2.2.2.1 y.2.2.2.2.2.2.2.1 y.2.2.2.2.2.2.2.2 := by kernel_rfl

theorem iByRights_l17_e1 (y : DR (⟨[.h, .h, .h, .slw 0 1, .h, .slw 1 1, .slw 2 1, .h, .h], [.arr [.i .i64] false, .arr [.i .i64] true, .arr [.i .i64] false], [.i .i64, .sl [.i .i64], .sl [.i .i64], .i .i64, .i .i64, .i .i64, .sl [.i .i64], .sl [.i .i64], .sl [.i .i64]]⟩ : Shp).hs) : (loopStep (envT Try.prog C15 mtab0) L_iByRights_l17 17 (loopC (loopC (bodyOf Try.f39) 5) 17) ((⟨[.h, .h, .h, .slw 0 1, .h, .slw 1 1, .slw 2 1, .h, .h], [.arr [.i .i64] false, .arr [.i .i64] true, .arr [.i .i64] false], [.i .i64, .sl [.i .i64], .sl [.i .i64], .i .i64, .i .i64, .i .i64, .sl [.i .i64], .sl [.i .i64], .sl [.i .i64]]⟩ : Shp).enc y).1 ((⟨[.h, .h, .h, .slw 0 1, .h, .slw 1 1, .slw 2 1, .h, .h], [.arr [.i .i64] false, .arr [.i .i64] true, .arr [.i .i64] false], [.i .i64, .sl [.i .i64], .sl [.i .i64], .i .i64, .i .i64, .i .i64, .sl [.i .i64], .sl [.i .i64], .sl [.i .i64]]⟩ : Shp).enc y).2).to (stepH H_iByRights_l17 X_iByRights_l17) = iByRights_l17_t1 y.1 y.2.1 y.2.2.1 y.2.2.2.1 y.2.2.2.2.1 y.2.2.2.2.2.1 y.2.2.2.2.2.2.1 y.2.2.2.2.2.2.2.1 y.2.2.2.2.2.2.2.2 := by kernel_rfl

theorem iByRights_l17_o : ∀ x : (Int × List Int × List Int × Int × Int × Int × List Int × List Int × List Int) ⊕ (Int × List Int × List Int × Int × Int × Int × List Int × List Int × List Int), meanH (envT Try.prog C15 mtab0) L_iByRights_l17 17 (loopC (loopC (bodyOf Try.f39) 5) 17) H_iByRights_l17 X_iByRights_l17 x = iByRights_l17_s x
  | (.inl y) => meanH_of (iByRights_l17_e0 y)
  | (.inr y) => meanH_of (iByRights_l17_e1 y)

theorem iByRights_l17_r (x : SumD (H_iByRights_l17.map (fun p : XShp => p.2))) : (show Option (SumD (X_iByRights_l17.map (fun p : XShp => p.2))) from iByRights_l17 x) = runL (meanH (envT Try.prog C15 mtab0) L_iByRights_l17 17 (loopC (loopC (bodyOf Try.f39) 5) 17) H_iByRights_l17 X_iByRights_l17) x := runH_of (H := H_iByRights_l17) (X := X_iByRights_l17) (g := iByRights_l17_s) iByRights_l17_o x

theorem iByRights_l17_k (L : Loops) (hn : L_iByRights_l17.n = L.n) (hlv : L_iByRights_l17.lv 17 = L.lv 17) (hL : ∀ vs bs, L.loop 17 vs bs = toldH H_iByRights_l17 X_iByRights_l17 (fun x => iByRights_l17 x) vs bs) : LOk Try.prog (envT Try.prog C15 mtab0) L 17 (loopC (loopC (bodyOf Try.f39) 5) 17) := toldH_ok (L1 := L_iByRights_l17) (envT_ok (C15_ok) (mtab0_ok _)) mixedO hn hlv (loopFree_ok (by kernel_rfl)) iByRights_l17_r hL

def S_iByRights_l5 : Shp := ⟨[.h, .h, .h, .slw 0 1, .h], [.arr [.i .i64] false], [.i .i64, .sl [.i .i64], .sl [.i .i64], .i .i64, .sl [.i .i64]]⟩
def X_iByRights_l5 : List XShp := [(.exit 0, ⟨[.undef, .undef, .undef, .slw 0 1, .undef], [.arr [.i .i64] false], [.sl [.i .i64]]⟩)]

noncomputable def L_iByRights_l5 : Loops := (⟨92, lvT [(17, [0, 1, 2, 8, 9, 10, 71, 72, 73]), (9, [0, 1, 2, 8, 9, 10, 11, 41, 42, 43]), (5, [0, 1, 2, 8, 9])], mdT [(17, .exit 4, [], [71, 72, 73]), (9, .exit 2, [], [41, 42, 43]), (5, .exit 0, [], [0, 1, 2, 9])], fun k vs bs => bif Nat.beq k 17 then toldH H_iByRights_l17 X_iByRights_l17 (fun x => iByRights_l17 x) vs bs else bif Nat.beq k 9 then toldL S_iByRights_l9 X_iByRights_l9 (fun x => iByRights_l9 x.1 x.2.1 x.2.2.1 x.2.2.2.1 x.2.2.2.2.1 x.2.2.2.2.2.1 x.2.2.2.2.2.2.1 x.2.2.2.2.2.2.2.1 x.2.2.2.2.2.2.2.2.1 x.2.2.2.2.2.2.2.2.2) vs bs else .bad⟩ : Loops)

theorem iByRights_l5_e (s : Int × List Int × List Int × Int × List Int) : (loopStep (envT Try.prog C15 mtab0) L_iByRights_l5 5 (loopC (bodyOf Try.f39) 5) (S_iByRights_l5.enc (s.1, s.2.1, s.2.2.1, s.2.2.2.1, s.2.2.2.2)).1 (S_iByRights_l5.enc (s.1, s.2.1, s.2.2.1, s.2.2.2.1, s.2.2.2.2)).2).to (stepD S_iByRights_l5 X_iByRights_l5) = (iByRights_l5_t  s.1 s.2.1 s.2.2.1 s.2.2.2.1 s.2.2.2.2).map (Sum.map (fun s : Int × List Int × List Int × Int × List Int => (show DR S_iByRights_l5.hs from (s.1, s.2.1, s.2.2.1, s.2.2.2.1, s.2.2.2.2))) id) := by kernel_rfl

theorem iByRights_l5_r (x : DR S_iByRights_l5.hs) : (iByRights_l5 x.1 x.2.1 x.2.2.1 x.2.2.2.1 x.2.2.2.2 : Option (SumD (X_iByRights_l5.map (·.2)))) = runL (meanS (envT Try.prog C15 mtab0) L_iByRights_l5 5 (loopC (bodyOf Try.f39) 5) S_iByRights_l5 X_iByRights_l5) x := run_of (fun s : Int × List Int × List Int × Int × List Int => (show DR S_iByRights_l5.hs from (s.1, s.2.1, s.2.2.1, s.2.2.2.1, s.2.2.2.2))) (iByRights_l5_e ) (x.1, x.2.1, x.2.2.1, x.2.2.2.1, x.2.2.2.2)

theorem iByRights_l5_k (L : Loops) (hn : L_iByRights_l5.n = L.n) (hlv : L_iByRights_l5.lv 5 = L.lv 5) (hL : ∀ vs bs, L.loop 5 vs bs = toldL S_iByRights_l5 X_iByRights_l5 (fun x => iByRights_l5 x.1 x.2.1 x.2.2.1 x.2.2.2.1 x.2.2.2.2) vs bs) : LOk Try.prog (envT Try.prog C15 mtab0) L 5 (loopC (bodyOf Try.f39) 5) := toldL_ok (L1 := L_iByRights_l5) (envT_ok (C15_ok) (mtab0_ok _)) mixedO hn hlv (loopsL (l := [(9, loopC (loopC (bodyOf Try.f39) 5) 9), (17, loopC (loopC (bodyOf Try.f39) 5) 17)]) (by kernel_rfl) (lk_cons (iByRights_l9_k _ rfl rfl (fun _ _ => rfl)) (lk_cons (iByRights_l17_k _ rfl rfl (fun _ _ => rfl)) lk_nil))) iByRights_l5_r hL

def A_iByRights : Shp := ⟨[.h, .h, .h], [], [.i .i64, .sl [.i .i64], .sl [.i .i64]]⟩
def R_iByRights : List XShp := [(.ret, ⟨[.tup [.nils, .lb false]], [], []⟩), (.ret, ⟨[.tup [.slw 0 1, .lb true]], [.arr [.i .i64] false], [.sl [.i .i64]]⟩)]

noncomputable def L_iByRights : Loops := (⟨92, lvT [(17, [0, 1, 2, 8, 9, 10, 71, 72, 73]), (9, [0, 1, 2, 8, 9, 10, 11, 41, 42, 43]), (5, [0, 1, 2, 8, 9])], mdT [(17, .exit 4, [], [71, 72, 73]), (9, .exit 2, [], [41, 42, 43]), (5, .exit 0, [], [0, 1, 2, 9])], fun k vs bs => bif Nat.beq k 5 then toldL S_iByRights_l5 X_iByRights_l5 (fun x => iByRights_l5 x.1 x.2.1 x.2.2.1 x.2.2.2.1 x.2.2.2.2) vs bs else .bad⟩ : Loops)

theorem iByRights_e (x : DR A_iByRights.hs) : (evFn (envT Try.prog C15 mtab0) L_iByRights Try.f39 (A_iByRights.enc x).1).to (fun q => decX R_iByRights .ret [q.1] q.2) = iByRights_t x.1 x.2.1 x.2.2 := by kernel_rfl

theorem iByRights_m (x : DR A_iByRights.hs) : meanF (envT Try.prog C15 mtab0) L_iByRights Try.f39 A_iByRights R_iByRights x = (show Option (SumD (R_iByRights.map (·.2))) from iByRights x.1 x.2.1 x.2.2) := meanF_of (iByRights_e x)

theorem iByRights_ok : SpecOk Try.prog 39 (evFn (envT Try.prog C15 mtab0) L_iByRights Try.f39) := fnL_ok (envT_ok (C15_ok) (mtab0_ok _)) mixedO Try.func39 (by kernel_rfl) (c := bodyOf Try.f39) (by kernel_rfl) (loopsL (l := [(5, loopC (bodyOf Try.f39) 5)]) (by kernel_rfl) (lk_cons (iByRights_l5_k _ rfl rfl (fun _ _ => rfl)) lk_nil))

theorem iByRights_told : SpecOk Try.prog 39 (toldO A_iByRights R_iByRights (fun x => iByRights x.1 x.2.1 x.2.2) (C15 39)) := toldO_ok (by kernel_rfl) iByRights_ok (rest_ok (C15_ok) _) iByRights_m

noncomputable def C16 : Tab := tab 39 (toldO A_iByRights R_iByRights (fun x => iByRights x.1 x.2.1 x.2.2) (C15 39)) C15
theorem C16_ok : TabOk Try.prog C16 := tab_ok (iByRights_told) (C15_ok)

def S_weqInt64S_l4 : Shp := ⟨[.h, .h, .undef, .h], [], [.sl [.i .i64], .sl [.i .i64], .i .i64]⟩
def X_weqInt64S_l4 : List XShp := [(.ret, ⟨[.undef, .undef, .lb false, .undef], [], []⟩), (.exit 0, ⟨[.undef, .undef, .undef, .undef], [], []⟩)]

noncomputable def L_weqInt64S_l4 : Loops := (⟨26, lvT [(4, [0, 1, 4, 5])], mdT [(4, .normal, [], [4]), (4, .exit 0, [], [0, 1, 4, 5]), (4, .ret, [], [0, 1, 5])], fun k vs bs => .bad⟩ : Loops)

theorem weqInt64S_l4_e (y0 : List Int) (y1 : List Int) (s : Int) : (loopStep (envT Try.prog C16 mtab0) L_weqInt64S_l4 4 (loopC (bodyOf Try.f18) 4) (S_weqInt64S_l4.enc (y0, y1, s)).1 (S_weqInt64S_l4.enc (y0, y1, s)).2).to (stepD S_weqInt64S_l4 X_weqInt64S_l4) = (weqInt64S_l4_t y0 y1 s).map (Sum.map (fun s : Int => (show DR S_weqInt64S_l4.hs from (y0, y1, s))) id) := by kernel_rfl

theorem weqInt64S_l4_r (x : DR S_weqInt64S_l4.hs) : (weqInt64S_l4 x.1 x.2.1 x.2.2 : Option (SumD (X_weqInt64S_l4.map (·.2)))) = runL (meanS (envT Try.prog C16 mtab0) L_weqInt64S_l4 4 (loopC (bodyOf Try.f18) 4) S_weqInt64S_l4 X_weqInt64S_l4) x := run_of (fun s : Int => (show DR S_weqInt64S_l4.hs from (x.1, x.2.1, s))) (weqInt64S_l4_e (x.1) (x.2.1)) x.2.2

theorem weqInt64S_l4_k (L : Loops) (hn : L_weqInt64S_l4.n = L.n) (hlv : L_weqInt64S_l4.lv 4 = L.lv 4) (hL : ∀ vs bs, L.loop 4 vs bs = toldL S_weqInt64S_l4 X_weqInt64S_l4 (fun x => weqInt64S_l4 x.1 x.2.1 x.2.2) vs bs) : LOk Try.prog (envT Try.prog C16 mtab0) L 4 (loopC (bodyOf Try.f18) 4) := toldL_ok (L1 := L_weqInt64S_l4) (envT_ok (C16_ok) (mtab0_ok _)) mixedO hn hlv (loopFree_ok (by kernel_rfl)) weqInt64S_l4_r hL

def A_weqInt64S : Shp := ⟨[.h, .h], [], [.sl [.i .i64], .sl [.i .i64]]⟩
def R_weqInt64S : List XShp := [(.ret, ⟨[.h], [], [.b]⟩)]

noncomputable def L_weqInt64S : Loops := (⟨26, lvT [(4, [0, 1, 4, 5])], mdT [(4, .normal, [], [4]), (4, .exit 0, [], [0, 1, 4, 5]), (4, .ret, [], [0, 1, 5])], fun k vs bs => bif Nat.beq k 4 then toldL S_weqInt64S_l4 X_weqInt64S_l4 (fun x => weqInt64S_l4 x.1 x.2.1 x.2.2) vs bs else .bad⟩ : Loops)

theorem weqInt64S_e (x : DR A_weqInt64S.hs) : (evFn (envT Try.prog C16 mtab0) L_weqInt64S Try.f18 (A_weqInt64S.enc x).1).to (fun q => decX R_weqInt64S .ret [q.1] q.2) = weqInt64S_t x.1 x.2 := by kernel_rfl

theorem weqInt64S_m (x : DR A_weqInt64S.hs) : meanF (envT Try.prog C16 mtab0) L_weqInt64S Try.f18 A_weqInt64S R_weqInt64S x = (show Option (SumD (R_weqInt64S.map (·.2))) from weqInt64S x.1 x.2) := meanF_of (weqInt64S_e x)

theorem weqInt64S_ok : SpecOk Try.prog 18 (evFn (envT Try.prog C16 mtab0) L_weqInt64S Try.f18) := fnL_ok (envT_ok (C16_ok) (mtab0_ok _)) mixedO Try.func18 (by kernel_rfl) (c := bodyOf Try.f18) (by kernel_rfl) (loopsL (l := [(4, loopC (bodyOf Try.f18) 4)]) (by kernel_rfl) (lk_cons (weqInt64S_l4_k _ rfl rfl (fun _ _ => rfl)) lk_nil))

theorem weqInt64S_told : SpecOk Try.prog 18 (toldO A_weqInt64S R_weqInt64S (fun x => weqInt64S x.1 x.2) (C16 18)) := toldO_ok (by kernel_rfl) weqInt64S_ok (rest_ok (C16_ok) _) weqInt64S_m

noncomputable def C17 : Tab := tab 18 (toldO A_weqInt64S R_weqInt64S (fun x => weqInt64S x.1 x.2) (C16 18)) C16
theorem C17_ok : TabOk Try.prog C17 := tab_ok (weqInt64S_told) (C16_ok)

def S_wmarkInt64S_l2 : Shp := ⟨[.slw 0 1, .h, .h], [.arr [.i .i64] false], [.i .i64, .i .i64, .sl [.i .i64]]⟩
def X_wmarkInt64S_l2 : List XShp := [(.exit 0, ⟨[.undef, .h, .undef], [.arr [.i .i64] false], [.i .i64, .sl [.i .i64]]⟩)]

noncomputable def L_wmarkInt64S_l2 : Loops := (⟨19, lvT [(2, [0, 1, 5])], mdT [(2, .exit 0, [], [0, 5])], fun k vs bs => .bad⟩ : Loops)

theorem wmarkInt64S_l2_e (s : Int × Int × List Int) : (loopStep (envW Try.prog C17 mtab0 1) L_wmarkInt64S_l2 2 (loopC (bodyOf Try.f19) 2) (S_wmarkInt64S_l2.enc (s.1, s.2.1, s.2.2)).1 (S_wmarkInt64S_l2.enc (s.1, s.2.1, s.2.2)).2).to (stepD S_wmarkInt64S_l2 X_wmarkInt64S_l2) = (wmarkInt64S_l2_t  s.1 s.2.1 s.2.2).map (Sum.map (fun s : Int × Int × List Int => (show DR S_wmarkInt64S_l2.hs from (s.1, s.2.1, s.2.2))) id) := by kernel_rfl

theorem wmarkInt64S_l2_r (x : DR S_wmarkInt64S_l2.hs) : (wmarkInt64S_l2 x.1 x.2.1 x.2.2 : Option (SumD (X_wmarkInt64S_l2.map (·.2)))) = runL (meanS (envW Try.prog C17 mtab0 1) L_wmarkInt64S_l2 2 (loopC (bodyOf Try.f19) 2) S_wmarkInt64S_l2 X_wmarkInt64S_l2) x := run_of (fun s : Int × Int × List Int => (show DR S_wmarkInt64S_l2.hs from (s.1, s.2.1, s.2.2))) (wmarkInt64S_l2_e ) (x.1, x.2.1, x.2.2)

theorem wmarkInt64S_l2_k (L : Loops) (hn : L_wmarkInt64S_l2.n = L.n) (hlv : L_wmarkInt64S_l2.lv 2 = L.lv 2) (hL : ∀ vs bs, L.loop 2 vs bs = toldL S_wmarkInt64S_l2 X_wmarkInt64S_l2 (fun x => wmarkInt64S_l2 x.1 x.2.1 x.2.2) vs bs) : LOk Try.prog (envW Try.prog C17 mtab0 1) L 2 (loopC (bodyOf Try.f19) 2) := toldL_ok (L1 := L_wmarkInt64S_l2) (envW_ok (C17_ok) (mtab0_ok _)) mixedO hn hlv (loopFree_ok (by kernel_rfl)) wmarkInt64S_l2_r hL

def A_wmarkInt64S : Shp := ⟨[.slw 0 1, .h], [.arr [.i .i64] false], [.i .i64, .sl [.i .i64]]⟩
def R_wmarkInt64S : List XShp := [(.ret, ⟨[.h], [.arr [.i .i64] false], [.i .i64, .sl [.i .i64]]⟩)]

noncomputable def L_wmarkInt64S : Loops := (⟨19, lvT [(2, [0, 1, 5])], mdT [(2, .exit 0, [], [0, 5])], fun k vs bs => bif Nat.beq k 2 then toldL S_wmarkInt64S_l2 X_wmarkInt64S_l2 (fun x => wmarkInt64S_l2 x.1 x.2.1 x.2.2) vs bs else .bad⟩ : Loops)

theorem wmarkInt64S_e (x : DR A_wmarkInt64S.hs) : (evFnM (envW Try.prog C17 mtab0 1) L_wmarkInt64S Try.f19 (A_wmarkInt64S.enc x).1 ((A_wmarkInt64S.enc x).2.map (·.blk))).to (decM R_wmarkInt64S) = wmarkInt64S_t x.1 x.2 := by kernel_rfl

theorem wmarkInt64S_m (x : DR A_wmarkInt64S.hs) : meanM (envW Try.prog C17 mtab0 1) L_wmarkInt64S Try.f19 A_wmarkInt64S R_wmarkInt64S x = (show Option (SumD (R_wmarkInt64S.map (·.2))) from wmarkInt64S x.1 x.2) := meanM_of (wmarkInt64S_e x)

theorem wmarkInt64S_ok : MSpecOk Try.prog 19 (evFnM (envW Try.prog C17 mtab0 1) L_wmarkInt64S Try.f19) := fnM_ok (envW_ok (C17_ok) (mtab0_ok _)) rfl mixedO Try.func19 (by kernel_rfl) (c := bodyOf Try.f19) (by kernel_rfl) (loopsL (l := [(2, loopC (bodyOf Try.f19) 2)]) (by kernel_rfl) (lk_cons (wmarkInt64S_l2_k _ rfl rfl (fun _ _ => rfl)) lk_nil))

theorem wmarkInt64S_told : MSpecOk Try.prog 19 (toldMO A_wmarkInt64S R_wmarkInt64S (fun x => wmarkInt64S x.1 x.2) (mrest mtab0 19)) := toldMO_ok (by kernel_rfl) wmarkInt64S_ok (mrest_ok (mtab0_ok _) _) wmarkInt64S_m

noncomputable def M18 : MTab := mtab 19 (toldMO A_wmarkInt64S R_wmarkInt64S (fun x => wmarkInt64S x.1 x.2) (mrest mtab0 19)) mtab0
theorem M18_ok : MTabOk Try.prog M18 := mtab_ok (wmarkInt64S_told) (mtab0_ok _)

def S_wheldInt64S_l2 : Shp := ⟨[.h, .h, .undef, .h], [], [.sl [.i .i64], .i .i64, .i .i64]⟩
def X_wheldInt64S_l2 : List XShp := [(.ret, ⟨[.undef, .undef, .h, .undef], [], [.i .i64]⟩), (.exit 0, ⟨[.undef, .h, .undef, .undef], [], [.i .i64]⟩)]

noncomputable def L_wheldInt64S_l2 : Loops := (⟨21, lvT [(2, [0, 1, 4, 5])], mdT [(2, .normal, [], [4]), (2, .exit 0, [], [0, 4, 5]), (2, .ret, [], [0, 1, 5])], fun k vs bs => .bad⟩ : Loops)

theorem wheldInt64S_l2_e (y0 : List Int) (s : Int × Int) : (loopStep (envT Try.prog C17 M18) L_wheldInt64S_l2 2 (loopC (bodyOf Try.f20) 2) (S_wheldInt64S_l2.enc (y0, s.1, s.2)).1 (S_wheldInt64S_l2.enc (y0, s.1, s.2)).2).to (stepD S_wheldInt64S_l2 X_wheldInt64S_l2) = (wheldInt64S_l2_t y0 s.1 s.2).map (Sum.map (fun s : Int × Int => (show DR S_wheldInt64S_l2.hs from (y0, s.1, s.2))) id) := by kernel_rfl

theorem wheldInt64S_l2_r (x : DR S_wheldInt64S_l2.hs) : (wheldInt64S_l2 x.1 x.2.1 x.2.2 : Option (SumD (X_wheldInt64S_l2.map (·.2)))) = runL (meanS (envT Try.prog C17 M18) L_wheldInt64S_l2 2 (loopC (bodyOf Try.f20) 2) S_wheldInt64S_l2 X_wheldInt64S_l2) x := run_of (fun s : Int × Int => (show DR S_wheldInt64S_l2.hs from (x.1, s.1, s.2))) (wheldInt64S_l2_e (x.1)) (x.2.1, x.2.2)

theorem wheldInt64S_l2_k (L : Loops) (hn : L_wheldInt64S_l2.n = L.n) (hlv : L_wheldInt64S_l2.lv 2 = L.lv 2) (hL : ∀ vs bs, L.loop 2 vs bs = toldL S_wheldInt64S_l2 X_wheldInt64S_l2 (fun x => wheldInt64S_l2 x.1 x.2.1 x.2.2) vs bs) : LOk Try.prog (envT Try.prog C17 M18) L 2 (loopC (bodyOf Try.f20) 2) := toldL_ok (L1 := L_wheldInt64S_l2) (envT_ok (C17_ok) (M18_ok)) mixedO hn hlv (loopFree_ok (by kernel_rfl)) wheldInt64S_l2_r hL

def A_wheldInt64S : Shp := ⟨[.h, .h], [], [.sl [.i .i64], .i .i64]⟩
def R_wheldInt64S : List XShp := [(.ret, ⟨[.h], [], [.i .i64]⟩)]

noncomputable def L_wheldInt64S : Loops := (⟨21, lvT [(2, [0, 1, 4, 5])], mdT [(2, .normal, [], [4]), (2, .exit 0, [], [0, 4, 5]), (2, .ret, [], [0, 1, 5])], fun k vs bs => bif Nat.beq k 2 then toldL S_wheldInt64S_l2 X_wheldInt64S_l2 (fun x => wheldInt64S_l2 x.1 x.2.1 x.2.2) vs bs else .bad⟩ : Loops)

theorem wheldInt64S_e (x : DR A_wheldInt64S.hs) : (evFn (envT Try.prog C17 M18) L_wheldInt64S Try.f20 (A_wheldInt64S.enc x).1).to (fun q => decX R_wheldInt64S .ret [q.1] q.2) = wheldInt64S_t x.1 x.2 := by kernel_rfl

theorem wheldInt64S_m (x : DR A_wheldInt64S.hs) : meanF (envT Try.prog C17 M18) L_wheldInt64S Try.f20 A_wheldInt64S R_wheldInt64S x = (show Option (SumD (R_wheldInt64S.map (·.2))) from wheldInt64S x.1 x.2) := meanF_of (wheldInt64S_e x)

theorem wheldInt64S_ok : SpecOk Try.prog 20 (evFn (envT Try.prog C17 M18) L_wheldInt64S Try.f20) := fnL_ok (envT_ok (C17_ok) (M18_ok)) mixedO Try.func20 (by kernel_rfl) (c := bodyOf Try.f20) (by kernel_rfl) (loopsL (l := [(2, loopC (bodyOf Try.f20) 2)]) (by kernel_rfl) (lk_cons (wheldInt64S_l2_k _ rfl rfl (fun _ _ => rfl)) lk_nil))

theorem wheldInt64S_told : SpecOk Try.prog 20 (toldO A_wheldInt64S R_wheldInt64S (fun x => wheldInt64S x.1 x.2) (C17 20)) := toldO_ok (by kernel_rfl) wheldInt64S_ok (rest_ok (C17_ok) _) wheldInt64S_m

noncomputable def C19 : Tab := tab 20 (toldO A_wheldInt64S R_wheldInt64S (fun x => wheldInt64S x.1 x.2) (C17 20)) C17
theorem C19_ok : TabOk Try.prog C19 := tab_ok (wheldInt64S_told) (C17_ok)

def S_wmarkInt64S_nil_l2 : Shp := ⟨[.nils, .h, .h], [], [.i .i64, .i .i64]⟩
def X_wmarkInt64S_nil_l2 : List XShp := [(.exit 0, ⟨[.undef, .h, .undef], [], [.i .i64]⟩)]

noncomputable def L_wmarkInt64S_nil_l2 : Loops := (⟨19, lvT [(2, [0, 1, 5])], mdT [(2, .exit 0, [], [0, 5])], fun k vs bs => .bad⟩ : Loops)

theorem wmarkInt64S_nil_l2_e (y0 : Int) (y1 : Int) (s : Unit) : (loopStep (envW Try.prog C19 M18 0) L_wmarkInt64S_nil_l2 2 (loopC (bodyOf Try.f19) 2) (S_wmarkInt64S_nil_l2.enc (y0, y1)).1 (S_wmarkInt64S_nil_l2.enc (y0, y1)).2).to (stepD S_wmarkInt64S_nil_l2 X_wmarkInt64S_nil_l2) = (wmarkInt64S_nil_l2_t y0 y1 ).map (Sum.map (fun s : Unit => (show DR S_wmarkInt64S_nil_l2.hs from (y0, y1))) id) := by kernel_rfl

theorem wmarkInt64S_nil_l2_r (x : DR S_wmarkInt64S_nil_l2.hs) : (wmarkInt64S_nil_l2 x.1 x.2 : Option (SumD (X_wmarkInt64S_nil_l2.map (·.2)))) = runL (meanS (envW Try.prog C19 M18 0) L_wmarkInt64S_nil_l2 2 (loopC (bodyOf Try.f19) 2) S_wmarkInt64S_nil_l2 X_wmarkInt64S_nil_l2) x := run_of (fun s : Unit => (show DR S_wmarkInt64S_nil_l2.hs from (x.1, x.2))) (wmarkInt64S_nil_l2_e (x.1) (x.2)) ()

theorem wmarkInt64S_nil_l2_k (L : Loops) (hn : L_wmarkInt64S_nil_l2.n = L.n) (hlv : L_wmarkInt64S_nil_l2.lv 2 = L.lv 2) (hL : ∀ vs bs, L.loop 2 vs bs = toldL S_wmarkInt64S_nil_l2 X_wmarkInt64S_nil_l2 (fun x => wmarkInt64S_nil_l2 x.1 x.2) vs bs) : LOk Try.prog (envW Try.prog C19 M18 0) L 2 (loopC (bodyOf Try.f19) 2) := toldL_ok (L1 := L_wmarkInt64S_nil_l2) (envW_ok (C19_ok) (M18_ok)) mixedO hn hlv (loopFree_ok (by kernel_rfl)) wmarkInt64S_nil_l2_r hL

def A_wmarkInt64S_nil : Shp := ⟨[.nils, .h], [], [.i .i64]⟩
def R_wmarkInt64S_nil : List XShp := [(.ret, ⟨[.h], [], [.i .i64]⟩)]

noncomputable def L_wmarkInt64S_nil : Loops := (⟨19, lvT [(2, [0, 1, 5])], mdT [(2, .exit 0, [], [0, 5])], fun k vs bs => bif Nat.beq k 2 then toldL S_wmarkInt64S_nil_l2 X_wmarkInt64S_nil_l2 (fun x => wmarkInt64S_nil_l2 x.1 x.2) vs bs else .bad⟩ : Loops)

theorem wmarkInt64S_nil_e (x : DR A_wmarkInt64S_nil.hs) : (evFnM (envW Try.prog C19 M18 0) L_wmarkInt64S_nil Try.f19 (A_wmarkInt64S_nil.enc x).1 ((A_wmarkInt64S_nil.enc x).2.map (·.blk))).to (decM R_wmarkInt64S_nil) = wmarkInt64S_nil_t x := by kernel_rfl

theorem wmarkInt64S_nil_m (x : DR A_wmarkInt64S_nil.hs) : meanM (envW Try.prog C19 M18 0) L_wmarkInt64S_nil Try.f19 A_wmarkInt64S_nil R_wmarkInt64S_nil x = (show Option (SumD (R_wmarkInt64S_nil.map (·.2))) from wmarkInt64S_nil x) := meanM_of (wmarkInt64S_nil_e x)

theorem wmarkInt64S_nil_ok : MSpecOk Try.prog 19 (evFnM (envW Try.prog C19 M18 0) L_wmarkInt64S_nil Try.f19) := fnM_ok (envW_ok (C19_ok) (M18_ok)) rfl mixedO Try.func19 (by kernel_rfl) (c := bodyOf Try.f19) (by kernel_rfl) (loopsL (l := [(2, loopC (bodyOf Try.f19) 2)]) (by kernel_rfl) (lk_cons (wmarkInt64S_nil_l2_k _ rfl rfl (fun _ _ => rfl)) lk_nil))

theorem wmarkInt64S_nil_told : MSpecOk Try.prog 19 (toldMO A_wmarkInt64S_nil R_wmarkInt64S_nil (fun x => wmarkInt64S_nil x) (mrest M18 19)) := toldMO_ok (by kernel_rfl) wmarkInt64S_nil_ok (mrest_ok (M18_ok) _) wmarkInt64S_nil_m

noncomputable def M20 : MTab := mtab 19 (toldMO A_wmarkInt64S_nil R_wmarkInt64S_nil (fun x => wmarkInt64S_nil x) (mrest M18 19)) M18
theorem M20_ok : MTabOk Try.prog M20 := mtab_ok (wmarkInt64S_nil_told) (M18_ok)

def A_wFnExactByRights : Shp := ⟨[.h, .h, .h], [], [.i .i64, .sl [.i .i64], .sl [.i .i64]]⟩
def R_wFnExactByRights : List XShp := [(.ret, ⟨[.h], [], [.b]⟩)]

theorem wFnExactByRights_e (x : DR A_wFnExactByRights.hs) : (evFn (envT Try.prog C19 M20) noLoops Try.f8 (A_wFnExactByRights.enc x).1).to (fun q => decX R_wFnExactByRights .ret [q.1] q.2) = wFnExactByRights_t x.1 x.2.1 x.2.2 := by kernel_rfl

theorem wFnExactByRights_m (x : DR A_wFnExactByRights.hs) : meanF (envT Try.prog C19 M20) noLoops Try.f8 A_wFnExactByRights R_wFnExactByRights x = (show Option (SumD (R_wFnExactByRights.map (·.2))) from wFnExactByRights x.1 x.2.1 x.2.2) := meanF_of (wFnExactByRights_e x)

theorem wFnExactByRights_ok : SpecOk Try.prog 8 (evFn (envT Try.prog C19 M20) noLoops Try.f8) := fnL_ok (envT_ok (C19_ok) (M20_ok)) mixedO Try.func8 (by kernel_rfl) (c := bodyOf Try.f8) (by kernel_rfl) (loopFree_ok (by kernel_rfl))

theorem wFnExactByRights_told : SpecOk Try.prog 8 (toldO A_wFnExactByRights R_wFnExactByRights (fun x => wFnExactByRights x.1 x.2.1 x.2.2) (C19 8)) := toldO_ok (by kernel_rfl) wFnExactByRights_ok (rest_ok (C19_ok) _) wFnExactByRights_m

noncomputable def C21 : Tab := tab 8 (toldO A_wFnExactByRights R_wFnExactByRights (fun x => wFnExactByRights x.1 x.2.1 x.2.2) (C19 8)) C19
theorem C21_ok : TabOk Try.prog C21 := tab_ok (wFnExactByRights_told) (C19_ok)

theorem lawFnExactByRights_ok : SpecOk Try.prog 8 (evFn (envT Try.prog C19 M20) noLoops Try.f8) := wFnExactByRights_ok
theorem lawFnExactByRights_says (x : DR A_wFnExactByRights.hs) (h : (show Option (SumD (R_wFnExactByRights.map (·.2))) from wFnExactByRights x.1 x.2.1 x.2.2) = some true) : saysTrue (evFn (envT Try.prog C19 M20) noLoops Try.f8 (A_wFnExactByRights.enc x).1) = true := law_says (x := x) ((wFnExactByRights_m x).trans h)

theorem lawFnExactByRights_true (x0 : Int) (x1 : List Int) (x2 : List Int) (h : wFnExactByRights x0 x1 x2 = some true) : saysTrue (evFn (envT Try.prog C19 M20) noLoops Try.f8 [.i .i64 x0, .ds [.i .i64] x1, .ds [.i .i64] x2]) = true := (congrArg (fun l => saysTrue (evFn (envT Try.prog C19 M20) noLoops Try.f8 l)) (by kernel_rfl : ([.i .i64 x0, .ds [.i .i64] x1, .ds [.i .i64] x2] : List V) = (A_wFnExactByRights.enc (x0, x1, x2)).1)).trans (lawFnExactByRights_says (x0, x1, x2) h)
end Go.Proofs.Ytjohnpldkanjmaa
