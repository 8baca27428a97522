/- Functions, as plain functions. What the program comes to. -/
import Derived.Test.YtjohnpldkanjmaaGl1d
import Derived.Test.YtjohnpldkanjmaaDc
import Derived.Test.YtjohnpldkanjmaaNv
import Derived.KernelRfl
set_option linter.unusedVariables false
set_option linter.unusedSimpArgs false
set_option linter.constructorNameAsVariable false
namespace Go.Proofs.Ytjohnpldkanjmaa
open Go.RowKit
set_option maxRecDepth 100000
theorem mixedO : (Try.prog).follows .mixedOrders = true := by kernel_rfl
def A_sl00In : Shp := ⟨[.h, .h, .h], [], [.i .i64, .i .i64, .i .i64]⟩
def R_sl00In : List XShp := [(.ret, ⟨[.h], [], [.b]⟩)]

theorem sl00In_e (x : DR A_sl00In.hs) : (evFn (envT Try.prog tab0 mtab0) noLoops Try.f66 (A_sl00In.enc x).1).to (fun q => decX R_sl00In .ret [q.1] q.2) = sl00In_t x.1 x.2.1 x.2.2 := by kernel_rfl

theorem sl00In_m (x : DR A_sl00In.hs) : meanF (envT Try.prog tab0 mtab0) noLoops Try.f66 A_sl00In R_sl00In x = some (show SumD (R_sl00In.map (·.2)) from sl00In x.1 x.2.1 x.2.2) := @meanF_tot _ _ _ _ _ _ _ (sl00In_e x) (show Inhabited (Bool) from inferInstance) (by kernel_rfl)

theorem sl00In_ok : SpecOk Try.prog 66 (evFn (envT Try.prog tab0 mtab0) noLoops Try.f66) := fnL_ok (envT_ok (tab0_ok _) (mtab0_ok _)) mixedO Try.func66 (by kernel_rfl) (c := bodyOf Try.f66) (by kernel_rfl) (loopFree_ok (by kernel_rfl))

theorem sl00In_told : SpecOk Try.prog 66 (toldT A_sl00In R_sl00In (fun x => sl00In x.1 x.2.1 x.2.2) (tab0 66)) := toldT_ok (by kernel_rfl) sl00In_ok (rest_ok (tab0_ok _) _) sl00In_m

noncomputable def C0 : Tab := tab 66 (toldT A_sl00In R_sl00In (fun x => sl00In x.1 x.2.1 x.2.2) (tab0 66)) tab0
theorem C0_ok : TabOk Try.prog C0 := tab_ok (sl00In_told) (tab0_ok _)

def S_sl06Line_l3 : Shp := ⟨[.h, .ref 0 0, .ref 1 0, .h], [.cells [.nils, .nils, .nils] false, .cells [.slw 2 1, .slw 3 4, .slw 4 1] false, .arr [.i .i64] false, .arr [.i .i64, .i .i64, .i .i64, .i .i64] false, .arr [.i .i64] false], [.i .i64, .i .i64, .sl [.i .i64], .sl [.i .i64, .i .i64, .i .i64, .i .i64], .sl [.i .i64]]⟩
def X_sl06Line_l3 : List XShp := [(.exit 0, ⟨[.undef, .ref 0 0, .ref 1 0, .undef], [.cells [.nils, .nils, .nils] false, .cells [.slw 2 1, .slw 3 4, .slw 4 1] false, .arr [.i .i64] false, .arr [.i .i64, .i .i64, .i .i64, .i .i64] false, .arr [.i .i64] false], [.sl [.i .i64], .sl [.i .i64, .i .i64, .i .i64, .i .i64], .sl [.i .i64]]⟩)]

noncomputable def L_sl06Line_l3 : Loops := (⟨28, lvT [(3, [0, 2, 3, 4])], mdT [(3, .exit 0, [], [0, 4])], fun k vs bs => .bad⟩ : Loops)

theorem sl06Line_l3_e (y0 : Int) (y3 : List (Int × Int × Int × Int)) (y4 : List Int) (s : Int × List Int) : (loopStep (envT Try.prog C0 mtab0) L_sl06Line_l3 3 (loopC (bodyOf Try.f67) 3) (S_sl06Line_l3.enc (y0, s.1, s.2, y3, y4)).1 (S_sl06Line_l3.enc (y0, s.1, s.2, y3, y4)).2).to (stepD S_sl06Line_l3 X_sl06Line_l3) = (sl06Line_l3_t y0 y3 y4 s.1 s.2).map (Sum.map (fun s : Int × List Int => (show DR S_sl06Line_l3.hs from (y0, s.1, s.2, y3, y4))) id) := by kernel_rfl

theorem sl06Line_l3_r (x : DR S_sl06Line_l3.hs) : (sl06Line_l3 x.1 x.2.1 x.2.2.1 x.2.2.2.1 x.2.2.2.2 : Option (SumD (X_sl06Line_l3.map (·.2)))) = runL (meanS (envT Try.prog C0 mtab0) L_sl06Line_l3 3 (loopC (bodyOf Try.f67) 3) S_sl06Line_l3 X_sl06Line_l3) x := run_of (fun s : Int × List Int => (show DR S_sl06Line_l3.hs from (x.1, s.1, s.2, x.2.2.2.1, x.2.2.2.2))) (sl06Line_l3_e (x.1) (x.2.2.2.1) (x.2.2.2.2)) (x.2.1, x.2.2.1)

theorem sl06Line_l3_k (L : Loops) (hn : L_sl06Line_l3.n = L.n) (hlv : L_sl06Line_l3.lv 3 = L.lv 3) (hL : ∀ vs bs, L.loop 3 vs bs = toldL S_sl06Line_l3 X_sl06Line_l3 (fun x => sl06Line_l3 x.1 x.2.1 x.2.2.1 x.2.2.2.1 x.2.2.2.2) vs bs) : LOk Try.prog (envT Try.prog C0 mtab0) L 3 (loopC (bodyOf Try.f67) 3) := toldL_ok (L1 := L_sl06Line_l3) (envT_ok (C0_ok) (mtab0_ok _)) mixedO hn hlv (loopFree_ok (by kernel_rfl)) sl06Line_l3_r hL

def A_sl06Line : Shp := ⟨[.h], [], [.i .i64]⟩
def R_sl06Line : List XShp := [(.ret, ⟨[.agg [.slw 0 1, .slw 1 4, .slw 2 1]], [.arr [.i .i64] false, .arr [.i .i64, .i .i64, .i .i64, .i .i64] false, .arr [.i .i64] false], [.sl [.i .i64], .sl [.i .i64, .i .i64, .i .i64, .i .i64], .sl [.i .i64]]⟩)]

noncomputable def L_sl06Line : Loops := (⟨28, lvT [(3, [0, 2, 3, 4])], mdT [(3, .exit 0, [], [0, 4])], fun k vs bs => bif Nat.beq k 3 then toldL S_sl06Line_l3 X_sl06Line_l3 (fun x => sl06Line_l3 x.1 x.2.1 x.2.2.1 x.2.2.2.1 x.2.2.2.2) vs bs else .bad⟩ : Loops)

theorem sl06Line_e (x : DR A_sl06Line.hs) : (evFn (envT Try.prog C0 mtab0) L_sl06Line Try.f67 (A_sl06Line.enc x).1).to (fun q => decX R_sl06Line .ret [q.1] q.2) = sl06Line_t x := by kernel_rfl

theorem sl06Line_m (x : DR A_sl06Line.hs) : meanF (envT Try.prog C0 mtab0) L_sl06Line Try.f67 A_sl06Line R_sl06Line x = (show Option (SumD (R_sl06Line.map (·.2))) from sl06Line x) := meanF_of (sl06Line_e x)

theorem sl06Line_ok : SpecOk Try.prog 67 (evFn (envT Try.prog C0 mtab0) L_sl06Line Try.f67) := fnL_ok (envT_ok (C0_ok) (mtab0_ok _)) mixedO Try.func67 (by kernel_rfl) (c := bodyOf Try.f67) (by kernel_rfl) (loopsL (l := [(3, loopC (bodyOf Try.f67) 3)]) (by kernel_rfl) (lk_cons (sl06Line_l3_k _ rfl rfl (fun _ _ => rfl)) lk_nil))

theorem sl06Line_told : SpecOk Try.prog 67 (toldO A_sl06Line R_sl06Line (fun x => sl06Line x) (C0 67)) := toldO_ok (by kernel_rfl) sl06Line_ok (rest_ok (C0_ok) _) sl06Line_m

noncomputable def C1 : Tab := tab 67 (toldO A_sl06Line R_sl06Line (fun x => sl06Line x) (C0 67)) C0
theorem C1_ok : TabOk Try.prog C1 := tab_ok (sl06Line_told) (C0_ok)

def A_sLineRiver : Shp := ⟨[.h], [], [.i .i64]⟩
def R_sLineRiver : List XShp := [(.ret, ⟨[.tup [.agg [.nils, .nils, .nils], .lb false]], [], []⟩), (.ret, ⟨[.tup [.agg [.slw 0 1, .slw 1 4, .slw 2 1], .lb true]], [.arr [.i .i64] false, .arr [.i .i64, .i .i64, .i .i64, .i .i64] false, .arr [.i .i64] false], [.sl [.i .i64], .sl [.i .i64, .i .i64, .i .i64, .i .i64], .sl [.i .i64]]⟩)]

theorem sLineRiver_e (x : DR A_sLineRiver.hs) : (evFn (envT Try.prog C1 mtab0) noLoops Try.f26 (A_sLineRiver.enc x).1).to (fun q => decX R_sLineRiver .ret [q.1] q.2) = sLineRiver_t x := by kernel_rfl

theorem sLineRiver_m (x : DR A_sLineRiver.hs) : meanF (envT Try.prog C1 mtab0) noLoops Try.f26 A_sLineRiver R_sLineRiver x = (show Option (SumD (R_sLineRiver.map (·.2))) from sLineRiver x) := meanF_of (sLineRiver_e x)

theorem sLineRiver_ok : SpecOk Try.prog 26 (evFn (envT Try.prog C1 mtab0) noLoops Try.f26) := fnL_ok (envT_ok (C1_ok) (mtab0_ok _)) mixedO Try.func26 (by kernel_rfl) (c := bodyOf Try.f26) (by kernel_rfl) (loopFree_ok (by kernel_rfl))

theorem sLineRiver_told : SpecOk Try.prog 26 (toldO A_sLineRiver R_sLineRiver (fun x => sLineRiver x) (C1 26)) := toldO_ok (by kernel_rfl) sLineRiver_ok (rest_ok (C1_ok) _) sLineRiver_m

noncomputable def C2 : Tab := tab 26 (toldO A_sLineRiver R_sLineRiver (fun x => sLineRiver x) (C1 26)) C1
theorem C2_ok : TabOk Try.prog C2 := tab_ok (sLineRiver_told) (C1_ok)

def A_iwithin : Shp := ⟨[.h, .h, .h], [], [.i .i64, .i .i64, .i .i64]⟩
def R_iwithin : List XShp := [(.ret, ⟨[.h], [], [.b]⟩)]

theorem iwithin_e (x : DR A_iwithin.hs) : (evFn (envT Try.prog C2 mtab0) noLoops Try.f68 (A_iwithin.enc x).1).to (fun q => decX R_iwithin .ret [q.1] q.2) = iwithin_t x.1 x.2.1 x.2.2 := by kernel_rfl

theorem iwithin_m (x : DR A_iwithin.hs) : meanF (envT Try.prog C2 mtab0) noLoops Try.f68 A_iwithin R_iwithin x = some (show SumD (R_iwithin.map (·.2)) from iwithin x.1 x.2.1 x.2.2) := @meanF_tot _ _ _ _ _ _ _ (iwithin_e x) (show Inhabited (Bool) from inferInstance) (by kernel_rfl)

theorem iwithin_ok : SpecOk Try.prog 68 (evFn (envT Try.prog C2 mtab0) noLoops Try.f68) := fnL_ok (envT_ok (C2_ok) (mtab0_ok _)) mixedO Try.func68 (by kernel_rfl) (c := bodyOf Try.f68) (by kernel_rfl) (loopFree_ok (by kernel_rfl))

theorem iwithin_told : SpecOk Try.prog 68 (toldT A_iwithin R_iwithin (fun x => iwithin x.1 x.2.1 x.2.2) (C2 68)) := toldT_ok (by kernel_rfl) iwithin_ok (rest_ok (C2_ok) _) iwithin_m

noncomputable def C3 : Tab := tab 68 (toldT A_iwithin R_iwithin (fun x => iwithin x.1 x.2.1 x.2.2) (C2 68)) C2
theorem C3_ok : TabOk Try.prog C3 := tab_ok (iwithin_told) (C2_ok)

def H_iLineRiver_l5 : List XShp := [(.normal, ⟨[.h, .ref 0 0, .ref 1 0, .h, .h], [.cells [.nils, .nils, .nils] false, .cells [.nils, .slw 2 4, .slw 3 1] false, .arr [.i .i64, .i .i64, .i .i64, .i .i64] false, .arr [.i .i64] false], [.i .i64, .i .i64, .i .i64, .sl [.i .i64, .i .i64, .i .i64, .i .i64], .sl [.i .i64]]⟩), (.normal, ⟨[.h, .ref 0 0, .ref 1 0, .h, .h], [.cells [.nils, .nils, .nils] false, .cells [.slw 2 1, .slw 3 4, .slw 4 1] false, .arr [.i .i64] false, .arr [.i .i64, .i .i64, .i .i64, .i .i64] false, .arr [.i .i64] false], [.i .i64, .i .i64, .i .i64, .sl [.i .i64], .sl [.i .i64, .i .i64, .i .i64, .i .i64], .sl [.i .i64]]⟩)]
def X_iLineRiver_l5 : List XShp := [(.exit 0, ⟨[.h, .ref 0 0, .ref 1 0, .undef, .undef], [.cells [.nils, .nils, .nils] false, .cells [.nils, .slw 2 4, .slw 3 1] false, .arr [.i .i64, .i .i64, .i .i64, .i .i64] false, .arr [.i .i64] false], [.i .i64, .sl [.i .i64, .i .i64, .i .i64, .i .i64], .sl [.i .i64]]⟩), (.exit 0, ⟨[.h, .ref 0 0, .ref 1 0, .undef, .undef], [.cells [.nils, .nils, .nils] false, .cells [.slw 2 1, .slw 3 4, .slw 4 1] false, .arr [.i .i64] false, .arr [.i .i64, .i .i64, .i .i64, .i .i64] false, .arr [.i .i64] false], [.i .i64, .sl [.i .i64], .sl [.i .i64, .i .i64, .i .i64, .i .i64], .sl [.i .i64]]⟩)]

noncomputable def L_iLineRiver_l5 : Loops := (⟨33, lvT [(5, [0, 2, 4, 15, 16])], mdT [(5, .exit 0, [], [15, 16])], fun k vs bs => .bad⟩ : Loops)

theorem iLineRiver_l5_e0 (y : DR (⟨[.h, .ref 0 0, .ref 1 0, .h, .h], [.cells [.nils, .nils, .nils] false, .cells [.nils, .slw 2 4, .slw 3 1] false, .arr [.i .i64, .i .i64, .i .i64, .i .i64] false, .arr [.i .i64] false], [.i .i64, .i .i64, .i .i64, .sl [.i .i64, .i .i64, .i .i64, .i .i64], .sl [.i .i64]]⟩ : Shp).hs) : (loopStep (envT Try.prog C3 mtab0) L_iLineRiver_l5 5 (loopC (bodyOf Try.f27) 5) ((⟨[.h, .ref 0 0, .ref 1 0, .h, .h], [.cells [.nils, .nils, .nils] false, .cells [.nils, .slw 2 4, .slw 3 1] false, .arr [.i .i64, .i .i64, .i .i64, .i .i64] false, .arr [.i .i64] false], [.i .i64, .i .i64, .i .i64, .sl [.i .i64, .i .i64, .i .i64, .i .i64], .sl [.i .i64]]⟩ : Shp).enc y).1 ((⟨[.h, .ref 0 0, .ref 1 0, .h, .h], [.cells [.nils, .nils, .nils] false, .cells [.nils, .slw 2 4, .slw 3 1] false, .arr [.i .i64, .i .i64, .i .i64, .i .i64] false, .arr [.i .i64] false], [.i .i64, .i .i64, .i .i64, .sl [.i .i64, .i .i64, .i .i64, .i .i64], .sl [.i .i64]]⟩ : Shp).enc y).2).to (stepH H_iLineRiver_l5 X_iLineRiver_l5) = iLineRiver_l5_t0 y.1 y.2.1 y.2.2.1 y.2.2.2.1 y.2.2.2.2 := by kernel_rfl

theorem iLineRiver_l5_e1 (y : DR (⟨[.h, .ref 0 0, .ref 1 0, .h, .h], [.cells [.nils, .nils, .nils] false, .cells [.slw 2 1, .slw 3 4, .slw 4 1] false, .arr [.i .i64] false, .arr [.i .i64, .i .i64, .i .i64, .i .i64] false, .arr [.i .i64] false], [.i .i64, .i .i64, .i .i64, .sl [.i .i64], .sl [.i .i64, .i .i64, .i .i64, .i .i64], .sl [.i .i64]]⟩ : Shp).hs) : (loopStep (envT Try.prog C3 mtab0) L_iLineRiver_l5 5 (loopC (bodyOf Try.f27) 5) ((⟨[.h, .ref 0 0, .ref 1 0, .h, .h], [.cells [.nils, .nils, .nils] false, .cells [.slw 2 1, .slw 3 4, .slw 4 1] false, .arr [.i .i64] false, .arr [.i .i64, .i .i64, .i .i64, .i .i64] false, .arr [.i .i64] false], [.i .i64, .i .i64, .i .i64, .sl [.i .i64], .sl [.i .i64, .i .i64, .i .i64, .i .i64], .sl [.i .i64]]⟩ : Shp).enc y).1 ((⟨[.h, .ref 0 0, .ref 1 0, .h, .h], [.cells [.nils, .nils, .nils] false, .cells [.slw 2 1, .slw 3 4, .slw 4 1] false, .arr [.i .i64] false, .arr [.i .i64, .i .i64, .i .i64, .i .i64] false, .arr [.i .i64] false], [.i .i64, .i .i64, .i .i64, .sl [.i .i64], .sl [.i .i64, .i .i64, .i .i64, .i .i64], .sl [.i .i64]]⟩ : Shp).enc y).2).to (stepH H_iLineRiver_l5 X_iLineRiver_l5) = iLineRiver_l5_t1 y.1 y.2.1 y.2.2.1 y.2.2.2.1 y.2.2.2.2.1 y.2.2.2.2.2 := by kernel_rfl

theorem iLineRiver_l5_o : ∀ x : (Int × Int × Int × (List (Int × Int × Int × Int)) × List Int) ⊕ (Int × Int × Int × List Int × (List (Int × Int × Int × Int)) × List Int), meanH (envT Try.prog C3 mtab0) L_iLineRiver_l5 5 (loopC (bodyOf Try.f27) 5) H_iLineRiver_l5 X_iLineRiver_l5 x = iLineRiver_l5_s x
  | (.inl y) => meanH_of (iLineRiver_l5_e0 y)
  | (.inr y) => meanH_of (iLineRiver_l5_e1 y)

theorem iLineRiver_l5_r (x : SumD (H_iLineRiver_l5.map (fun p : XShp => p.2))) : (show Option (SumD (X_iLineRiver_l5.map (fun p : XShp => p.2))) from iLineRiver_l5 x) = runL (meanH (envT Try.prog C3 mtab0) L_iLineRiver_l5 5 (loopC (bodyOf Try.f27) 5) H_iLineRiver_l5 X_iLineRiver_l5) x := runH_of (H := H_iLineRiver_l5) (X := X_iLineRiver_l5) (g := iLineRiver_l5_s) iLineRiver_l5_o x

theorem iLineRiver_l5_k (L : Loops) (hn : L_iLineRiver_l5.n = L.n) (hlv : L_iLineRiver_l5.lv 5 = L.lv 5) (hL : ∀ vs bs, L.loop 5 vs bs = toldH H_iLineRiver_l5 X_iLineRiver_l5 (fun x => iLineRiver_l5 x) vs bs) : LOk Try.prog (envT Try.prog C3 mtab0) L 5 (loopC (bodyOf Try.f27) 5) := toldH_ok (L1 := L_iLineRiver_l5) (envT_ok (C3_ok) (mtab0_ok _)) mixedO hn hlv (loopFree_ok (by kernel_rfl)) iLineRiver_l5_r hL

def A_iLineRiver : Shp := ⟨[.h], [], [.i .i64]⟩
def R_iLineRiver : List XShp := [(.ret, ⟨[.tup [.agg [.nils, .nils, .nils], .lb false]], [], []⟩), (.ret, ⟨[.tup [.agg [.slw 0 1, .slw 1 4, .slw 2 1], .lb true]], [.arr [.i .i64] false, .arr [.i .i64, .i .i64, .i .i64, .i .i64] false, .arr [.i .i64] false], [.sl [.i .i64], .sl [.i .i64, .i .i64, .i .i64, .i .i64], .sl [.i .i64]]⟩)]

noncomputable def L_iLineRiver : Loops := (⟨33, lvT [(5, [0, 2, 4, 15, 16])], mdT [(5, .exit 0, [], [15, 16])], fun k vs bs => bif Nat.beq k 5 then toldH H_iLineRiver_l5 X_iLineRiver_l5 (fun x => iLineRiver_l5 x) vs bs else .bad⟩ : Loops)

theorem iLineRiver_e (x : DR A_iLineRiver.hs) : (evFn (envT Try.prog C3 mtab0) L_iLineRiver Try.f27 (A_iLineRiver.enc x).1).to (fun q => decX R_iLineRiver .ret [q.1] q.2) = iLineRiver_t x := by kernel_rfl

theorem iLineRiver_m (x : DR A_iLineRiver.hs) : meanF (envT Try.prog C3 mtab0) L_iLineRiver Try.f27 A_iLineRiver R_iLineRiver x = (show Option (SumD (R_iLineRiver.map (·.2))) from iLineRiver x) := meanF_of (iLineRiver_e x)

theorem iLineRiver_ok : SpecOk Try.prog 27 (evFn (envT Try.prog C3 mtab0) L_iLineRiver Try.f27) := fnL_ok (envT_ok (C3_ok) (mtab0_ok _)) mixedO Try.func27 (by kernel_rfl) (c := bodyOf Try.f27) (by kernel_rfl) (loopsL (l := [(5, loopC (bodyOf Try.f27) 5)]) (by kernel_rfl) (lk_cons (iLineRiver_l5_k _ rfl rfl (fun _ _ => rfl)) lk_nil))

theorem iLineRiver_told : SpecOk Try.prog 27 (toldO A_iLineRiver R_iLineRiver (fun x => iLineRiver x) (C3 27)) := toldO_ok (by kernel_rfl) iLineRiver_ok (rest_ok (C3_ok) _) iLineRiver_m

noncomputable def C4 : Tab := tab 27 (toldO A_iLineRiver R_iLineRiver (fun x => iLineRiver x) (C3 27)) C3
theorem C4_ok : TabOk Try.prog C4 := tab_ok (iLineRiver_told) (C3_ok)

def S_weqInt64S_l4 : Shp := ⟨[.h, .h, .undef, .h], [], [.sl [.i .i64], .sl [.i .i64], .i .i64]⟩
def X_weqInt64S_l4 : List XShp := [(.ret, ⟨[.undef, .undef, .lb false, .undef], [], []⟩), (.exit 0, ⟨[.undef, .undef, .undef, .undef], [], []⟩)]

noncomputable def L_weqInt64S_l4 : Loops := (⟨26, lvT [(4, [0, 1, 4, 5])], mdT [(4, .normal, [], [4]), (4, .exit 0, [], [0, 1, 4, 5]), (4, .ret, [], [0, 1, 5])], fun k vs bs => .bad⟩ : Loops)

theorem weqInt64S_l4_e (y0 : List Int) (y1 : List Int) (s : Int) : (loopStep (envT Try.prog C4 mtab0) L_weqInt64S_l4 4 (loopC (bodyOf Try.f18) 4) (S_weqInt64S_l4.enc (y0, y1, s)).1 (S_weqInt64S_l4.enc (y0, y1, s)).2).to (stepD S_weqInt64S_l4 X_weqInt64S_l4) = (weqInt64S_l4_t y0 y1 s).map (Sum.map (fun s : Int => (show DR S_weqInt64S_l4.hs from (y0, y1, s))) id) := by kernel_rfl

theorem weqInt64S_l4_r (x : DR S_weqInt64S_l4.hs) : (weqInt64S_l4 x.1 x.2.1 x.2.2 : Option (SumD (X_weqInt64S_l4.map (·.2)))) = runL (meanS (envT Try.prog C4 mtab0) L_weqInt64S_l4 4 (loopC (bodyOf Try.f18) 4) S_weqInt64S_l4 X_weqInt64S_l4) x := run_of (fun s : Int => (show DR S_weqInt64S_l4.hs from (x.1, x.2.1, s))) (weqInt64S_l4_e (x.1) (x.2.1)) x.2.2

theorem weqInt64S_l4_k (L : Loops) (hn : L_weqInt64S_l4.n = L.n) (hlv : L_weqInt64S_l4.lv 4 = L.lv 4) (hL : ∀ vs bs, L.loop 4 vs bs = toldL S_weqInt64S_l4 X_weqInt64S_l4 (fun x => weqInt64S_l4 x.1 x.2.1 x.2.2) vs bs) : LOk Try.prog (envT Try.prog C4 mtab0) L 4 (loopC (bodyOf Try.f18) 4) := toldL_ok (L1 := L_weqInt64S_l4) (envT_ok (C4_ok) (mtab0_ok _)) mixedO hn hlv (loopFree_ok (by kernel_rfl)) weqInt64S_l4_r hL

def A_weqInt64S : Shp := ⟨[.h, .h], [], [.sl [.i .i64], .sl [.i .i64]]⟩
def R_weqInt64S : List XShp := [(.ret, ⟨[.h], [], [.b]⟩)]

noncomputable def L_weqInt64S : Loops := (⟨26, lvT [(4, [0, 1, 4, 5])], mdT [(4, .normal, [], [4]), (4, .exit 0, [], [0, 1, 4, 5]), (4, .ret, [], [0, 1, 5])], fun k vs bs => bif Nat.beq k 4 then toldL S_weqInt64S_l4 X_weqInt64S_l4 (fun x => weqInt64S_l4 x.1 x.2.1 x.2.2) vs bs else .bad⟩ : Loops)

theorem weqInt64S_e (x : DR A_weqInt64S.hs) : (evFn (envT Try.prog C4 mtab0) L_weqInt64S Try.f18 (A_weqInt64S.enc x).1).to (fun q => decX R_weqInt64S .ret [q.1] q.2) = weqInt64S_t x.1 x.2 := by kernel_rfl

theorem weqInt64S_m (x : DR A_weqInt64S.hs) : meanF (envT Try.prog C4 mtab0) L_weqInt64S Try.f18 A_weqInt64S R_weqInt64S x = (show Option (SumD (R_weqInt64S.map (·.2))) from weqInt64S x.1 x.2) := meanF_of (weqInt64S_e x)

theorem weqInt64S_ok : SpecOk Try.prog 18 (evFn (envT Try.prog C4 mtab0) L_weqInt64S Try.f18) := fnL_ok (envT_ok (C4_ok) (mtab0_ok _)) mixedO Try.func18 (by kernel_rfl) (c := bodyOf Try.f18) (by kernel_rfl) (loopsL (l := [(4, loopC (bodyOf Try.f18) 4)]) (by kernel_rfl) (lk_cons (weqInt64S_l4_k _ rfl rfl (fun _ _ => rfl)) lk_nil))

theorem weqInt64S_told : SpecOk Try.prog 18 (toldO A_weqInt64S R_weqInt64S (fun x => weqInt64S x.1 x.2) (C4 18)) := toldO_ok (by kernel_rfl) weqInt64S_ok (rest_ok (C4_ok) _) weqInt64S_m

noncomputable def C5 : Tab := tab 18 (toldO A_weqInt64S R_weqInt64S (fun x => weqInt64S x.1 x.2) (C4 18)) C4
theorem C5_ok : TabOk Try.prog C5 := tab_ok (weqInt64S_told) (C4_ok)

def A_weqDam : Shp := ⟨[.agg [.h, .h, .h, .h], .agg [.h, .h, .h, .h]], [], [.i .i64, .i .i64, .i .i64, .i .i64, .i .i64, .i .i64, .i .i64, .i .i64]⟩
def R_weqDam : List XShp := [(.ret, ⟨[.h], [], [.b]⟩)]

theorem weqDam_e (x : DR A_weqDam.hs) : (evFn (envT Try.prog C5 mtab0) noLoops Try.f89 (A_weqDam.enc x).1).to (fun q => decX R_weqDam .ret [q.1] q.2) = weqDam_t x.1 x.2.1 x.2.2.1 x.2.2.2.1 x.2.2.2.2.1 x.2.2.2.2.2.1 x.2.2.2.2.2.2.1 x.2.2.2.2.2.2.2 := by kernel_rfl

theorem weqDam_m (x : DR A_weqDam.hs) : meanF (envT Try.prog C5 mtab0) noLoops Try.f89 A_weqDam R_weqDam x = some (show SumD (R_weqDam.map (·.2)) from weqDam x.1 x.2.1 x.2.2.1 x.2.2.2.1 x.2.2.2.2.1 x.2.2.2.2.2.1 x.2.2.2.2.2.2.1 x.2.2.2.2.2.2.2) := @meanF_tot _ _ _ _ _ _ _ (weqDam_e x) (show Inhabited (Bool) from inferInstance) (by kernel_rfl)

theorem weqDam_ok : SpecOk Try.prog 89 (evFn (envT Try.prog C5 mtab0) noLoops Try.f89) := fnL_ok (envT_ok (C5_ok) (mtab0_ok _)) mixedO Try.func89 (by kernel_rfl) (c := bodyOf Try.f89) (by kernel_rfl) (loopFree_ok (by kernel_rfl))

theorem weqDam_told : SpecOk Try.prog 89 (toldT A_weqDam R_weqDam (fun x => weqDam x.1 x.2.1 x.2.2.1 x.2.2.2.1 x.2.2.2.2.1 x.2.2.2.2.2.1 x.2.2.2.2.2.2.1 x.2.2.2.2.2.2.2) (C5 89)) := toldT_ok (by kernel_rfl) weqDam_ok (rest_ok (C5_ok) _) weqDam_m

noncomputable def C6 : Tab := tab 89 (toldT A_weqDam R_weqDam (fun x => weqDam x.1 x.2.1 x.2.2.1 x.2.2.2.1 x.2.2.2.2.1 x.2.2.2.2.2.1 x.2.2.2.2.2.2.1 x.2.2.2.2.2.2.2) (C5 89)) C5
theorem C6_ok : TabOk Try.prog C6 := tab_ok (weqDam_told) (C5_ok)

def S_weqDamS_l4 : Shp := ⟨[.h, .h, .undef, .h], [], [.sl [.i .i64, .i .i64, .i .i64, .i .i64], .sl [.i .i64, .i .i64, .i .i64, .i .i64], .i .i64]⟩
def X_weqDamS_l4 : List XShp := [(.ret, ⟨[.undef, .undef, .lb false, .undef], [], []⟩), (.exit 0, ⟨[.undef, .undef, .undef, .undef], [], []⟩)]

noncomputable def L_weqDamS_l4 : Loops := (⟨27, lvT [(4, [0, 1, 4, 5])], mdT [(4, .normal, [], [4]), (4, .exit 0, [], [0, 1, 4, 5]), (4, .ret, [], [0, 1, 5])], fun k vs bs => .bad⟩ : Loops)

theorem weqDamS_l4_e (y0 : List (Int × Int × Int × Int)) (y1 : List (Int × Int × Int × Int)) (s : Int) : (loopStep (envT Try.prog C6 mtab0) L_weqDamS_l4 4 (loopC (bodyOf Try.f65) 4) (S_weqDamS_l4.enc (y0, y1, s)).1 (S_weqDamS_l4.enc (y0, y1, s)).2).to (stepD S_weqDamS_l4 X_weqDamS_l4) = (weqDamS_l4_t y0 y1 s).map (Sum.map (fun s : Int => (show DR S_weqDamS_l4.hs from (y0, y1, s))) id) := by kernel_rfl

theorem weqDamS_l4_r (x : DR S_weqDamS_l4.hs) : (weqDamS_l4 x.1 x.2.1 x.2.2 : Option (SumD (X_weqDamS_l4.map (·.2)))) = runL (meanS (envT Try.prog C6 mtab0) L_weqDamS_l4 4 (loopC (bodyOf Try.f65) 4) S_weqDamS_l4 X_weqDamS_l4) x := run_of (fun s : Int => (show DR S_weqDamS_l4.hs from (x.1, x.2.1, s))) (weqDamS_l4_e (x.1) (x.2.1)) x.2.2

theorem weqDamS_l4_k (L : Loops) (hn : L_weqDamS_l4.n = L.n) (hlv : L_weqDamS_l4.lv 4 = L.lv 4) (hL : ∀ vs bs, L.loop 4 vs bs = toldL S_weqDamS_l4 X_weqDamS_l4 (fun x => weqDamS_l4 x.1 x.2.1 x.2.2) vs bs) : LOk Try.prog (envT Try.prog C6 mtab0) L 4 (loopC (bodyOf Try.f65) 4) := toldL_ok (L1 := L_weqDamS_l4) (envT_ok (C6_ok) (mtab0_ok _)) mixedO hn hlv (loopFree_ok (by kernel_rfl)) weqDamS_l4_r hL

def A_weqDamS : Shp := ⟨[.h, .h], [], [.sl [.i .i64, .i .i64, .i .i64, .i .i64], .sl [.i .i64, .i .i64, .i .i64, .i .i64]]⟩
def R_weqDamS : List XShp := [(.ret, ⟨[.h], [], [.b]⟩)]

noncomputable def L_weqDamS : Loops := (⟨27, lvT [(4, [0, 1, 4, 5])], mdT [(4, .normal, [], [4]), (4, .exit 0, [], [0, 1, 4, 5]), (4, .ret, [], [0, 1, 5])], fun k vs bs => bif Nat.beq k 4 then toldL S_weqDamS_l4 X_weqDamS_l4 (fun x => weqDamS_l4 x.1 x.2.1 x.2.2) vs bs else .bad⟩ : Loops)

theorem weqDamS_e (x : DR A_weqDamS.hs) : (evFn (envT Try.prog C6 mtab0) L_weqDamS Try.f65 (A_weqDamS.enc x).1).to (fun q => decX R_weqDamS .ret [q.1] q.2) = weqDamS_t x.1 x.2 := by kernel_rfl

theorem weqDamS_m (x : DR A_weqDamS.hs) : meanF (envT Try.prog C6 mtab0) L_weqDamS Try.f65 A_weqDamS R_weqDamS x = (show Option (SumD (R_weqDamS.map (·.2))) from weqDamS x.1 x.2) := meanF_of (weqDamS_e x)

theorem weqDamS_ok : SpecOk Try.prog 65 (evFn (envT Try.prog C6 mtab0) L_weqDamS Try.f65) := fnL_ok (envT_ok (C6_ok) (mtab0_ok _)) mixedO Try.func65 (by kernel_rfl) (c := bodyOf Try.f65) (by kernel_rfl) (loopsL (l := [(4, loopC (bodyOf Try.f65) 4)]) (by kernel_rfl) (lk_cons (weqDamS_l4_k _ rfl rfl (fun _ _ => rfl)) lk_nil))

theorem weqDamS_told : SpecOk Try.prog 65 (toldO A_weqDamS R_weqDamS (fun x => weqDamS x.1 x.2) (C6 65)) := toldO_ok (by kernel_rfl) weqDamS_ok (rest_ok (C6_ok) _) weqDamS_m

noncomputable def C7 : Tab := tab 65 (toldO A_weqDamS R_weqDamS (fun x => weqDamS x.1 x.2) (C6 65)) C6
theorem C7_ok : TabOk Try.prog C7 := tab_ok (weqDamS_told) (C6_ok)

def A_weqRiver : Shp := ⟨[.agg [.h, .h, .h], .agg [.h, .h, .h]], [], [.sl [.i .i64], .sl [.i .i64, .i .i64, .i .i64, .i .i64], .sl [.i .i64], .sl [.i .i64], .sl [.i .i64, .i .i64, .i .i64, .i .i64], .sl [.i .i64]]⟩
def R_weqRiver : List XShp := [(.ret, ⟨[.h], [], [.b]⟩)]

theorem weqRiver_e (x : DR A_weqRiver.hs) : (evFn (envT Try.prog C7 mtab0) noLoops Try.f25 (A_weqRiver.enc x).1).to (fun q => decX R_weqRiver .ret [q.1] q.2) = weqRiver_t x.1 x.2.1 x.2.2.1 x.2.2.2.1 x.2.2.2.2.1 x.2.2.2.2.2 := by kernel_rfl

theorem weqRiver_m (x : DR A_weqRiver.hs) : meanF (envT Try.prog C7 mtab0) noLoops Try.f25 A_weqRiver R_weqRiver x = (show Option (SumD (R_weqRiver.map (·.2))) from weqRiver x.1 x.2.1 x.2.2.1 x.2.2.2.1 x.2.2.2.2.1 x.2.2.2.2.2) := meanF_of (weqRiver_e x)

theorem weqRiver_ok : SpecOk Try.prog 25 (evFn (envT Try.prog C7 mtab0) noLoops Try.f25) := fnL_ok (envT_ok (C7_ok) (mtab0_ok _)) mixedO Try.func25 (by kernel_rfl) (c := bodyOf Try.f25) (by kernel_rfl) (loopFree_ok (by kernel_rfl))

theorem weqRiver_told : SpecOk Try.prog 25 (toldO A_weqRiver R_weqRiver (fun x => weqRiver x.1 x.2.1 x.2.2.1 x.2.2.2.1 x.2.2.2.2.1 x.2.2.2.2.2) (C7 25)) := toldO_ok (by kernel_rfl) weqRiver_ok (rest_ok (C7_ok) _) weqRiver_m

noncomputable def C8 : Tab := tab 25 (toldO A_weqRiver R_weqRiver (fun x => weqRiver x.1 x.2.1 x.2.2.1 x.2.2.2.1 x.2.2.2.2.1 x.2.2.2.2.2) (C7 25)) C7
theorem C8_ok : TabOk Try.prog C8 := tab_ok (weqRiver_told) (C7_ok)

def S_wmarkInt64S_nil_l2 : Shp := ⟨[.nils, .h, .h], [], [.i .i64, .i .i64]⟩
def X_wmarkInt64S_nil_l2 : List XShp := [(.exit 0, ⟨[.undef, .h, .undef], [], [.i .i64]⟩)]

noncomputable def L_wmarkInt64S_nil_l2 : Loops := (⟨19, lvT [(2, [0, 1, 5])], mdT [(2, .exit 0, [], [0, 5])], fun k vs bs => .bad⟩ : Loops)

theorem wmarkInt64S_nil_l2_e (y0 : Int) (y1 : Int) (s : Unit) : (loopStep (envW Try.prog C8 mtab0 0) L_wmarkInt64S_nil_l2 2 (loopC (bodyOf Try.f19) 2) (S_wmarkInt64S_nil_l2.enc (y0, y1)).1 (S_wmarkInt64S_nil_l2.enc (y0, y1)).2).to (stepD S_wmarkInt64S_nil_l2 X_wmarkInt64S_nil_l2) = (wmarkInt64S_nil_l2_t y0 y1 ).map (Sum.map (fun s : Unit => (show DR S_wmarkInt64S_nil_l2.hs from (y0, y1))) id) := by kernel_rfl

theorem wmarkInt64S_nil_l2_r (x : DR S_wmarkInt64S_nil_l2.hs) : (wmarkInt64S_nil_l2 x.1 x.2 : Option (SumD (X_wmarkInt64S_nil_l2.map (·.2)))) = runL (meanS (envW Try.prog C8 mtab0 0) L_wmarkInt64S_nil_l2 2 (loopC (bodyOf Try.f19) 2) S_wmarkInt64S_nil_l2 X_wmarkInt64S_nil_l2) x := run_of (fun s : Unit => (show DR S_wmarkInt64S_nil_l2.hs from (x.1, x.2))) (wmarkInt64S_nil_l2_e (x.1) (x.2)) ()

theorem wmarkInt64S_nil_l2_k (L : Loops) (hn : L_wmarkInt64S_nil_l2.n = L.n) (hlv : L_wmarkInt64S_nil_l2.lv 2 = L.lv 2) (hL : ∀ vs bs, L.loop 2 vs bs = toldL S_wmarkInt64S_nil_l2 X_wmarkInt64S_nil_l2 (fun x => wmarkInt64S_nil_l2 x.1 x.2) vs bs) : LOk Try.prog (envW Try.prog C8 mtab0 0) L 2 (loopC (bodyOf Try.f19) 2) := toldL_ok (L1 := L_wmarkInt64S_nil_l2) (envW_ok (C8_ok) (mtab0_ok _)) mixedO hn hlv (loopFree_ok (by kernel_rfl)) wmarkInt64S_nil_l2_r hL

def A_wmarkInt64S_nil : Shp := ⟨[.nils, .h], [], [.i .i64]⟩
def R_wmarkInt64S_nil : List XShp := [(.ret, ⟨[.h], [], [.i .i64]⟩)]

noncomputable def L_wmarkInt64S_nil : Loops := (⟨19, lvT [(2, [0, 1, 5])], mdT [(2, .exit 0, [], [0, 5])], fun k vs bs => bif Nat.beq k 2 then toldL S_wmarkInt64S_nil_l2 X_wmarkInt64S_nil_l2 (fun x => wmarkInt64S_nil_l2 x.1 x.2) vs bs else .bad⟩ : Loops)

theorem wmarkInt64S_nil_e (x : DR A_wmarkInt64S_nil.hs) : (evFnM (envW Try.prog C8 mtab0 0) L_wmarkInt64S_nil Try.f19 (A_wmarkInt64S_nil.enc x).1 ((A_wmarkInt64S_nil.enc x).2.map (·.blk))).to (decM R_wmarkInt64S_nil) = wmarkInt64S_nil_t x := by kernel_rfl

theorem wmarkInt64S_nil_m (x : DR A_wmarkInt64S_nil.hs) : meanM (envW Try.prog C8 mtab0 0) L_wmarkInt64S_nil Try.f19 A_wmarkInt64S_nil R_wmarkInt64S_nil x = (show Option (SumD (R_wmarkInt64S_nil.map (·.2))) from wmarkInt64S_nil x) := meanM_of (wmarkInt64S_nil_e x)

theorem wmarkInt64S_nil_ok : MSpecOk Try.prog 19 (evFnM (envW Try.prog C8 mtab0 0) L_wmarkInt64S_nil Try.f19) := fnM_ok (envW_ok (C8_ok) (mtab0_ok _)) rfl mixedO Try.func19 (by kernel_rfl) (c := bodyOf Try.f19) (by kernel_rfl) (loopsL (l := [(2, loopC (bodyOf Try.f19) 2)]) (by kernel_rfl) (lk_cons (wmarkInt64S_nil_l2_k _ rfl rfl (fun _ _ => rfl)) lk_nil))

theorem wmarkInt64S_nil_told : MSpecOk Try.prog 19 (toldMO A_wmarkInt64S_nil R_wmarkInt64S_nil (fun x => wmarkInt64S_nil x) (mrest mtab0 19)) := toldMO_ok (by kernel_rfl) wmarkInt64S_nil_ok (mrest_ok (mtab0_ok _) _) wmarkInt64S_nil_m

noncomputable def M9 : MTab := mtab 19 (toldMO A_wmarkInt64S_nil R_wmarkInt64S_nil (fun x => wmarkInt64S_nil x) (mrest mtab0 19)) mtab0
theorem M9_ok : MTabOk Try.prog M9 := mtab_ok (wmarkInt64S_nil_told) (mtab0_ok _)

def S_wmarkDamS_nil_l2 : Shp := ⟨[.nils, .h, .h], [], [.i .i64, .i .i64]⟩
def X_wmarkDamS_nil_l2 : List XShp := [(.exit 0, ⟨[.undef, .h, .undef], [], [.i .i64]⟩)]

noncomputable def L_wmarkDamS_nil_l2 : Loops := (⟨41, lvT [(2, [0, 1, 5])], mdT [(2, .exit 0, [], [0, 5])], fun k vs bs => .bad⟩ : Loops)

theorem wmarkDamS_nil_l2_e (y0 : Int) (y1 : Int) (s : Unit) : (loopStep (envW Try.prog C8 M9 0) L_wmarkDamS_nil_l2 2 (loopC (bodyOf Try.f69) 2) (S_wmarkDamS_nil_l2.enc (y0, y1)).1 (S_wmarkDamS_nil_l2.enc (y0, y1)).2).to (stepD S_wmarkDamS_nil_l2 X_wmarkDamS_nil_l2) = (wmarkDamS_nil_l2_t y0 y1 ).map (Sum.map (fun s : Unit => (show DR S_wmarkDamS_nil_l2.hs from (y0, y1))) id) := by kernel_rfl

theorem wmarkDamS_nil_l2_r (x : DR S_wmarkDamS_nil_l2.hs) : (wmarkDamS_nil_l2 x.1 x.2 : Option (SumD (X_wmarkDamS_nil_l2.map (·.2)))) = runL (meanS (envW Try.prog C8 M9 0) L_wmarkDamS_nil_l2 2 (loopC (bodyOf Try.f69) 2) S_wmarkDamS_nil_l2 X_wmarkDamS_nil_l2) x := run_of (fun s : Unit => (show DR S_wmarkDamS_nil_l2.hs from (x.1, x.2))) (wmarkDamS_nil_l2_e (x.1) (x.2)) ()

theorem wmarkDamS_nil_l2_k (L : Loops) (hn : L_wmarkDamS_nil_l2.n = L.n) (hlv : L_wmarkDamS_nil_l2.lv 2 = L.lv 2) (hL : ∀ vs bs, L.loop 2 vs bs = toldL S_wmarkDamS_nil_l2 X_wmarkDamS_nil_l2 (fun x => wmarkDamS_nil_l2 x.1 x.2) vs bs) : LOk Try.prog (envW Try.prog C8 M9 0) L 2 (loopC (bodyOf Try.f69) 2) := toldL_ok (L1 := L_wmarkDamS_nil_l2) (envW_ok (C8_ok) (M9_ok)) mixedO hn hlv (loopFree_ok (by kernel_rfl)) wmarkDamS_nil_l2_r hL

def A_wmarkDamS_nil : Shp := ⟨[.nils, .h], [], [.i .i64]⟩
def R_wmarkDamS_nil : List XShp := [(.ret, ⟨[.h], [], [.i .i64]⟩)]

noncomputable def L_wmarkDamS_nil : Loops := (⟨41, lvT [(2, [0, 1, 5])], mdT [(2, .exit 0, [], [0, 5])], fun k vs bs => bif Nat.beq k 2 then toldL S_wmarkDamS_nil_l2 X_wmarkDamS_nil_l2 (fun x => wmarkDamS_nil_l2 x.1 x.2) vs bs else .bad⟩ : Loops)

theorem wmarkDamS_nil_e (x : DR A_wmarkDamS_nil.hs) : (evFnM (envW Try.prog C8 M9 0) L_wmarkDamS_nil Try.f69 (A_wmarkDamS_nil.enc x).1 ((A_wmarkDamS_nil.enc x).2.map (·.blk))).to (decM R_wmarkDamS_nil) = wmarkDamS_nil_t x := by kernel_rfl

theorem wmarkDamS_nil_m (x : DR A_wmarkDamS_nil.hs) : meanM (envW Try.prog C8 M9 0) L_wmarkDamS_nil Try.f69 A_wmarkDamS_nil R_wmarkDamS_nil x = (show Option (SumD (R_wmarkDamS_nil.map (·.2))) from wmarkDamS_nil x) := meanM_of (wmarkDamS_nil_e x)

theorem wmarkDamS_nil_ok : MSpecOk Try.prog 69 (evFnM (envW Try.prog C8 M9 0) L_wmarkDamS_nil Try.f69) := fnM_ok (envW_ok (C8_ok) (M9_ok)) rfl mixedO Try.func69 (by kernel_rfl) (c := bodyOf Try.f69) (by kernel_rfl) (loopsL (l := [(2, loopC (bodyOf Try.f69) 2)]) (by kernel_rfl) (lk_cons (wmarkDamS_nil_l2_k _ rfl rfl (fun _ _ => rfl)) lk_nil))

theorem wmarkDamS_nil_told : MSpecOk Try.prog 69 (toldMO A_wmarkDamS_nil R_wmarkDamS_nil (fun x => wmarkDamS_nil x) (mrest M9 69)) := toldMO_ok (by kernel_rfl) wmarkDamS_nil_ok (mrest_ok (M9_ok) _) wmarkDamS_nil_m

noncomputable def M10 : MTab := mtab 69 (toldMO A_wmarkDamS_nil R_wmarkDamS_nil (fun x => wmarkDamS_nil x) (mrest M9 69)) M9
theorem M10_ok : MTabOk Try.prog M10 := mtab_ok (wmarkDamS_nil_told) (M9_ok)

def A_wmarkRiver : Shp := ⟨[.agg [.nils, .nils, .nils], .h], [], [.i .i64]⟩
def R_wmarkRiver : List XShp := [(.ret, ⟨[.h], [], [.i .i64]⟩)]

theorem wmarkRiver_e (x : DR A_wmarkRiver.hs) : (evFnM (envW Try.prog C8 M10 0) noLoops Try.f28 (A_wmarkRiver.enc x).1 ((A_wmarkRiver.enc x).2.map (·.blk))).to (decM R_wmarkRiver) = wmarkRiver_t x := by kernel_rfl

theorem wmarkRiver_m (x : DR A_wmarkRiver.hs) : meanM (envW Try.prog C8 M10 0) noLoops Try.f28 A_wmarkRiver R_wmarkRiver x = (show Option (SumD (R_wmarkRiver.map (·.2))) from wmarkRiver x) := meanM_of (wmarkRiver_e x)

theorem wmarkRiver_ok : MSpecOk Try.prog 28 (evFnM (envW Try.prog C8 M10 0) noLoops Try.f28) := fnM_ok (envW_ok (C8_ok) (M10_ok)) rfl mixedO Try.func28 (by kernel_rfl) (c := bodyOf Try.f28) (by kernel_rfl) (loopFree_ok (by kernel_rfl))

theorem wmarkRiver_told : MSpecOk Try.prog 28 (toldMO A_wmarkRiver R_wmarkRiver (fun x => wmarkRiver x) (mrest M10 28)) := toldMO_ok (by kernel_rfl) wmarkRiver_ok (mrest_ok (M10_ok) _) wmarkRiver_m

noncomputable def M11 : MTab := mtab 28 (toldMO A_wmarkRiver R_wmarkRiver (fun x => wmarkRiver x) (mrest M10 28)) M10
theorem M11_ok : MTabOk Try.prog M11 := mtab_ok (wmarkRiver_told) (M10_ok)

def S_wmarkInt64S_l2 : Shp := ⟨[.slw 0 1, .h, .h], [.arr [.i .i64] false], [.i .i64, .i .i64, .sl [.i .i64]]⟩
def X_wmarkInt64S_l2 : List XShp := [(.exit 0, ⟨[.undef, .h, .undef], [.arr [.i .i64] false], [.i .i64, .sl [.i .i64]]⟩)]

noncomputable def L_wmarkInt64S_l2 : Loops := (⟨19, lvT [(2, [0, 1, 5])], mdT [(2, .exit 0, [], [0, 5])], fun k vs bs => .bad⟩ : Loops)

theorem wmarkInt64S_l2_e (s : Int × Int × List Int) : (loopStep (envW Try.prog C8 M11 1) L_wmarkInt64S_l2 2 (loopC (bodyOf Try.f19) 2) (S_wmarkInt64S_l2.enc (s.1, s.2.1, s.2.2)).1 (S_wmarkInt64S_l2.enc (s.1, s.2.1, s.2.2)).2).to (stepD S_wmarkInt64S_l2 X_wmarkInt64S_l2) = (wmarkInt64S_l2_t  s.1 s.2.1 s.2.2).map (Sum.map (fun s : Int × Int × List Int => (show DR S_wmarkInt64S_l2.hs from (s.1, s.2.1, s.2.2))) id) := by kernel_rfl

theorem wmarkInt64S_l2_r (x : DR S_wmarkInt64S_l2.hs) : (wmarkInt64S_l2 x.1 x.2.1 x.2.2 : Option (SumD (X_wmarkInt64S_l2.map (·.2)))) = runL (meanS (envW Try.prog C8 M11 1) L_wmarkInt64S_l2 2 (loopC (bodyOf Try.f19) 2) S_wmarkInt64S_l2 X_wmarkInt64S_l2) x := run_of (fun s : Int × Int × List Int => (show DR S_wmarkInt64S_l2.hs from (s.1, s.2.1, s.2.2))) (wmarkInt64S_l2_e ) (x.1, x.2.1, x.2.2)

theorem wmarkInt64S_l2_k (L : Loops) (hn : L_wmarkInt64S_l2.n = L.n) (hlv : L_wmarkInt64S_l2.lv 2 = L.lv 2) (hL : ∀ vs bs, L.loop 2 vs bs = toldL S_wmarkInt64S_l2 X_wmarkInt64S_l2 (fun x => wmarkInt64S_l2 x.1 x.2.1 x.2.2) vs bs) : LOk Try.prog (envW Try.prog C8 M11 1) L 2 (loopC (bodyOf Try.f19) 2) := toldL_ok (L1 := L_wmarkInt64S_l2) (envW_ok (C8_ok) (M11_ok)) mixedO hn hlv (loopFree_ok (by kernel_rfl)) wmarkInt64S_l2_r hL

def A_wmarkInt64S : Shp := ⟨[.slw 0 1, .h], [.arr [.i .i64] false], [.i .i64, .sl [.i .i64]]⟩
def R_wmarkInt64S : List XShp := [(.ret, ⟨[.h], [.arr [.i .i64] false], [.i .i64, .sl [.i .i64]]⟩)]

noncomputable def L_wmarkInt64S : Loops := (⟨19, lvT [(2, [0, 1, 5])], mdT [(2, .exit 0, [], [0, 5])], fun k vs bs => bif Nat.beq k 2 then toldL S_wmarkInt64S_l2 X_wmarkInt64S_l2 (fun x => wmarkInt64S_l2 x.1 x.2.1 x.2.2) vs bs else .bad⟩ : Loops)

theorem wmarkInt64S_e (x : DR A_wmarkInt64S.hs) : (evFnM (envW Try.prog C8 M11 1) L_wmarkInt64S Try.f19 (A_wmarkInt64S.enc x).1 ((A_wmarkInt64S.enc x).2.map (·.blk))).to (decM R_wmarkInt64S) = wmarkInt64S_t x.1 x.2 := by kernel_rfl

theorem wmarkInt64S_m (x : DR A_wmarkInt64S.hs) : meanM (envW Try.prog C8 M11 1) L_wmarkInt64S Try.f19 A_wmarkInt64S R_wmarkInt64S x = (show Option (SumD (R_wmarkInt64S.map (·.2))) from wmarkInt64S x.1 x.2) := meanM_of (wmarkInt64S_e x)

theorem wmarkInt64S_ok : MSpecOk Try.prog 19 (evFnM (envW Try.prog C8 M11 1) L_wmarkInt64S Try.f19) := fnM_ok (envW_ok (C8_ok) (M11_ok)) rfl mixedO Try.func19 (by kernel_rfl) (c := bodyOf Try.f19) (by kernel_rfl) (loopsL (l := [(2, loopC (bodyOf Try.f19) 2)]) (by kernel_rfl) (lk_cons (wmarkInt64S_l2_k _ rfl rfl (fun _ _ => rfl)) lk_nil))

theorem wmarkInt64S_told : MSpecOk Try.prog 19 (toldMO A_wmarkInt64S R_wmarkInt64S (fun x => wmarkInt64S x.1 x.2) (mrest M11 19)) := toldMO_ok (by kernel_rfl) wmarkInt64S_ok (mrest_ok (M11_ok) _) wmarkInt64S_m

noncomputable def M12 : MTab := mtab 19 (toldMO A_wmarkInt64S R_wmarkInt64S (fun x => wmarkInt64S x.1 x.2) (mrest M11 19)) M11
theorem M12_ok : MTabOk Try.prog M12 := mtab_ok (wmarkInt64S_told) (M11_ok)

def S_wmarkDamS_l2 : Shp := ⟨[.slw 0 4, .h, .h], [.arr [.i .i64, .i .i64, .i .i64, .i .i64] false], [.i .i64, .i .i64, .sl [.i .i64, .i .i64, .i .i64, .i .i64]]⟩
def X_wmarkDamS_l2 : List XShp := [(.exit 0, ⟨[.undef, .h, .undef], [.arr [.i .i64, .i .i64, .i .i64, .i .i64] false], [.i .i64, .sl [.i .i64, .i .i64, .i .i64, .i .i64]]⟩)]

noncomputable def L_wmarkDamS_l2 : Loops := (⟨41, lvT [(2, [0, 1, 5])], mdT [(2, .exit 0, [], [0, 5])], fun k vs bs => .bad⟩ : Loops)

theorem wmarkDamS_l2_e (s : Int × Int × (List (Int × Int × Int × Int))) : (loopStep (envW Try.prog C8 M12 1) L_wmarkDamS_l2 2 (loopC (bodyOf Try.f69) 2) (S_wmarkDamS_l2.enc (s.1, s.2.1, s.2.2)).1 (S_wmarkDamS_l2.enc (s.1, s.2.1, s.2.2)).2).to (stepD S_wmarkDamS_l2 X_wmarkDamS_l2) = (wmarkDamS_l2_t  s.1 s.2.1 s.2.2).map (Sum.map (fun s : Int × Int × (List (Int × Int × Int × Int)) => (show DR S_wmarkDamS_l2.hs from (s.1, s.2.1, s.2.2))) id) := by kernel_rfl

theorem wmarkDamS_l2_r (x : DR S_wmarkDamS_l2.hs) : (wmarkDamS_l2 x.1 x.2.1 x.2.2 : Option (SumD (X_wmarkDamS_l2.map (·.2)))) = runL (meanS (envW Try.prog C8 M12 1) L_wmarkDamS_l2 2 (loopC (bodyOf Try.f69) 2) S_wmarkDamS_l2 X_wmarkDamS_l2) x := run_of (fun s : Int × Int × (List (Int × Int × Int × Int)) => (show DR S_wmarkDamS_l2.hs from (s.1, s.2.1, s.2.2))) (wmarkDamS_l2_e ) (x.1, x.2.1, x.2.2)

theorem wmarkDamS_l2_k (L : Loops) (hn : L_wmarkDamS_l2.n = L.n) (hlv : L_wmarkDamS_l2.lv 2 = L.lv 2) (hL : ∀ vs bs, L.loop 2 vs bs = toldL S_wmarkDamS_l2 X_wmarkDamS_l2 (fun x => wmarkDamS_l2 x.1 x.2.1 x.2.2) vs bs) : LOk Try.prog (envW Try.prog C8 M12 1) L 2 (loopC (bodyOf Try.f69) 2) := toldL_ok (L1 := L_wmarkDamS_l2) (envW_ok (C8_ok) (M12_ok)) mixedO hn hlv (loopFree_ok (by kernel_rfl)) wmarkDamS_l2_r hL

def A_wmarkDamS : Shp := ⟨[.slw 0 4, .h], [.arr [.i .i64, .i .i64, .i .i64, .i .i64] false], [.i .i64, .sl [.i .i64, .i .i64, .i .i64, .i .i64]]⟩
def R_wmarkDamS : List XShp := [(.ret, ⟨[.h], [.arr [.i .i64, .i .i64, .i .i64, .i .i64] false], [.i .i64, .sl [.i .i64, .i .i64, .i .i64, .i .i64]]⟩)]

noncomputable def L_wmarkDamS : Loops := (⟨41, lvT [(2, [0, 1, 5])], mdT [(2, .exit 0, [], [0, 5])], fun k vs bs => bif Nat.beq k 2 then toldL S_wmarkDamS_l2 X_wmarkDamS_l2 (fun x => wmarkDamS_l2 x.1 x.2.1 x.2.2) vs bs else .bad⟩ : Loops)

theorem wmarkDamS_e (x : DR A_wmarkDamS.hs) : (evFnM (envW Try.prog C8 M12 1) L_wmarkDamS Try.f69 (A_wmarkDamS.enc x).1 ((A_wmarkDamS.enc x).2.map (·.blk))).to (decM R_wmarkDamS) = wmarkDamS_t x.1 x.2 := by kernel_rfl

theorem wmarkDamS_m (x : DR A_wmarkDamS.hs) : meanM (envW Try.prog C8 M12 1) L_wmarkDamS Try.f69 A_wmarkDamS R_wmarkDamS x = (show Option (SumD (R_wmarkDamS.map (·.2))) from wmarkDamS x.1 x.2) := meanM_of (wmarkDamS_e x)

theorem wmarkDamS_ok : MSpecOk Try.prog 69 (evFnM (envW Try.prog C8 M12 1) L_wmarkDamS Try.f69) := fnM_ok (envW_ok (C8_ok) (M12_ok)) rfl mixedO Try.func69 (by kernel_rfl) (c := bodyOf Try.f69) (by kernel_rfl) (loopsL (l := [(2, loopC (bodyOf Try.f69) 2)]) (by kernel_rfl) (lk_cons (wmarkDamS_l2_k _ rfl rfl (fun _ _ => rfl)) lk_nil))

theorem wmarkDamS_told : MSpecOk Try.prog 69 (toldMO A_wmarkDamS R_wmarkDamS (fun x => wmarkDamS x.1 x.2) (mrest M12 69)) := toldMO_ok (by kernel_rfl) wmarkDamS_ok (mrest_ok (M12_ok) _) wmarkDamS_m

noncomputable def M13 : MTab := mtab 69 (toldMO A_wmarkDamS R_wmarkDamS (fun x => wmarkDamS x.1 x.2) (mrest M12 69)) M12
theorem M13_ok : MTabOk Try.prog M13 := mtab_ok (wmarkDamS_told) (M12_ok)

def A_wmarkRiver_n1 : Shp := ⟨[.agg [.slw 0 1, .slw 1 4, .slw 2 1], .h], [.arr [.i .i64] false, .arr [.i .i64, .i .i64, .i .i64, .i .i64] false, .arr [.i .i64] false], [.i .i64, .sl [.i .i64], .sl [.i .i64, .i .i64, .i .i64, .i .i64], .sl [.i .i64]]⟩
def R_wmarkRiver_n1 : List XShp := [(.ret, ⟨[.h], [.arr [.i .i64] false, .arr [.i .i64, .i .i64, .i .i64, .i .i64] false, .arr [.i .i64] false], [.i .i64, .sl [.i .i64], .sl [.i .i64, .i .i64, .i .i64, .i .i64], .sl [.i .i64]]⟩)]

theorem wmarkRiver_n1_e (x : DR A_wmarkRiver_n1.hs) : (evFnM (envW Try.prog C8 M13 3) noLoops Try.f28 (A_wmarkRiver_n1.enc x).1 ((A_wmarkRiver_n1.enc x).2.map (·.blk))).to (decM R_wmarkRiver_n1) = wmarkRiver_n1_t x.1 x.2.1 x.2.2.1 x.2.2.2 := by kernel_rfl

theorem wmarkRiver_n1_m (x : DR A_wmarkRiver_n1.hs) : meanM (envW Try.prog C8 M13 3) noLoops Try.f28 A_wmarkRiver_n1 R_wmarkRiver_n1 x = (show Option (SumD (R_wmarkRiver_n1.map (·.2))) from wmarkRiver_n1 x.1 x.2.1 x.2.2.1 x.2.2.2) := meanM_of (wmarkRiver_n1_e x)

theorem wmarkRiver_n1_ok : MSpecOk Try.prog 28 (evFnM (envW Try.prog C8 M13 3) noLoops Try.f28) := fnM_ok (envW_ok (C8_ok) (M13_ok)) rfl mixedO Try.func28 (by kernel_rfl) (c := bodyOf Try.f28) (by kernel_rfl) (loopFree_ok (by kernel_rfl))

theorem wmarkRiver_n1_told : MSpecOk Try.prog 28 (toldMO A_wmarkRiver_n1 R_wmarkRiver_n1 (fun x => wmarkRiver_n1 x.1 x.2.1 x.2.2.1 x.2.2.2) (mrest M13 28)) := toldMO_ok (by kernel_rfl) wmarkRiver_n1_ok (mrest_ok (M13_ok) _) wmarkRiver_n1_m

noncomputable def M14 : MTab := mtab 28 (toldMO A_wmarkRiver_n1 R_wmarkRiver_n1 (fun x => wmarkRiver_n1 x.1 x.2.1 x.2.2.1 x.2.2.2) (mrest M13 28)) M13
theorem M14_ok : MTabOk Try.prog M14 := mtab_ok (wmarkRiver_n1_told) (M13_ok)

def S_wheldInt64S_l2 : Shp := ⟨[.h, .h, .undef, .h], [], [.sl [.i .i64], .i .i64, .i .i64]⟩
def X_wheldInt64S_l2 : List XShp := [(.ret, ⟨[.undef, .undef, .h, .undef], [], [.i .i64]⟩), (.exit 0, ⟨[.undef, .h, .undef, .undef], [], [.i .i64]⟩)]

noncomputable def L_wheldInt64S_l2 : Loops := (⟨21, lvT [(2, [0, 1, 4, 5])], mdT [(2, .normal, [], [4]), (2, .exit 0, [], [0, 4, 5]), (2, .ret, [], [0, 1, 5])], fun k vs bs => .bad⟩ : Loops)

theorem wheldInt64S_l2_e (y0 : List Int) (s : Int × Int) : (loopStep (envT Try.prog C8 M14) L_wheldInt64S_l2 2 (loopC (bodyOf Try.f20) 2) (S_wheldInt64S_l2.enc (y0, s.1, s.2)).1 (S_wheldInt64S_l2.enc (y0, s.1, s.2)).2).to (stepD S_wheldInt64S_l2 X_wheldInt64S_l2) = (wheldInt64S_l2_t y0 s.1 s.2).map (Sum.map (fun s : Int × Int => (show DR S_wheldInt64S_l2.hs from (y0, s.1, s.2))) id) := by kernel_rfl

theorem wheldInt64S_l2_r (x : DR S_wheldInt64S_l2.hs) : (wheldInt64S_l2 x.1 x.2.1 x.2.2 : Option (SumD (X_wheldInt64S_l2.map (·.2)))) = runL (meanS (envT Try.prog C8 M14) L_wheldInt64S_l2 2 (loopC (bodyOf Try.f20) 2) S_wheldInt64S_l2 X_wheldInt64S_l2) x := run_of (fun s : Int × Int => (show DR S_wheldInt64S_l2.hs from (x.1, s.1, s.2))) (wheldInt64S_l2_e (x.1)) (x.2.1, x.2.2)

theorem wheldInt64S_l2_k (L : Loops) (hn : L_wheldInt64S_l2.n = L.n) (hlv : L_wheldInt64S_l2.lv 2 = L.lv 2) (hL : ∀ vs bs, L.loop 2 vs bs = toldL S_wheldInt64S_l2 X_wheldInt64S_l2 (fun x => wheldInt64S_l2 x.1 x.2.1 x.2.2) vs bs) : LOk Try.prog (envT Try.prog C8 M14) L 2 (loopC (bodyOf Try.f20) 2) := toldL_ok (L1 := L_wheldInt64S_l2) (envT_ok (C8_ok) (M14_ok)) mixedO hn hlv (loopFree_ok (by kernel_rfl)) wheldInt64S_l2_r hL

def A_wheldInt64S : Shp := ⟨[.h, .h], [], [.sl [.i .i64], .i .i64]⟩
def R_wheldInt64S : List XShp := [(.ret, ⟨[.h], [], [.i .i64]⟩)]

noncomputable def L_wheldInt64S : Loops := (⟨21, lvT [(2, [0, 1, 4, 5])], mdT [(2, .normal, [], [4]), (2, .exit 0, [], [0, 4, 5]), (2, .ret, [], [0, 1, 5])], fun k vs bs => bif Nat.beq k 2 then toldL S_wheldInt64S_l2 X_wheldInt64S_l2 (fun x => wheldInt64S_l2 x.1 x.2.1 x.2.2) vs bs else .bad⟩ : Loops)

theorem wheldInt64S_e (x : DR A_wheldInt64S.hs) : (evFn (envT Try.prog C8 M14) L_wheldInt64S Try.f20 (A_wheldInt64S.enc x).1).to (fun q => decX R_wheldInt64S .ret [q.1] q.2) = wheldInt64S_t x.1 x.2 := by kernel_rfl

theorem wheldInt64S_m (x : DR A_wheldInt64S.hs) : meanF (envT Try.prog C8 M14) L_wheldInt64S Try.f20 A_wheldInt64S R_wheldInt64S x = (show Option (SumD (R_wheldInt64S.map (·.2))) from wheldInt64S x.1 x.2) := meanF_of (wheldInt64S_e x)

theorem wheldInt64S_ok : SpecOk Try.prog 20 (evFn (envT Try.prog C8 M14) L_wheldInt64S Try.f20) := fnL_ok (envT_ok (C8_ok) (M14_ok)) mixedO Try.func20 (by kernel_rfl) (c := bodyOf Try.f20) (by kernel_rfl) (loopsL (l := [(2, loopC (bodyOf Try.f20) 2)]) (by kernel_rfl) (lk_cons (wheldInt64S_l2_k _ rfl rfl (fun _ _ => rfl)) lk_nil))

theorem wheldInt64S_told : SpecOk Try.prog 20 (toldO A_wheldInt64S R_wheldInt64S (fun x => wheldInt64S x.1 x.2) (C8 20)) := toldO_ok (by kernel_rfl) wheldInt64S_ok (rest_ok (C8_ok) _) wheldInt64S_m

noncomputable def C15 : Tab := tab 20 (toldO A_wheldInt64S R_wheldInt64S (fun x => wheldInt64S x.1 x.2) (C8 20)) C8
theorem C15_ok : TabOk Try.prog C15 := tab_ok (wheldInt64S_told) (C8_ok)

def S_wheldDamS_l2 : Shp := ⟨[.h, .h, .undef, .h], [], [.sl [.i .i64, .i .i64, .i .i64, .i .i64], .i .i64, .i .i64]⟩
def X_wheldDamS_l2 : List XShp := [(.ret, ⟨[.undef, .undef, .h, .undef], [], [.i .i64]⟩), (.exit 0, ⟨[.undef, .h, .undef, .undef], [], [.i .i64]⟩)]

noncomputable def L_wheldDamS_l2 : Loops := (⟨49, lvT [(2, [0, 1, 4, 5])], mdT [(2, .normal, [], [4]), (2, .exit 0, [], [0, 4, 5]), (2, .ret, [], [0, 1, 5])], fun k vs bs => .bad⟩ : Loops)

theorem wheldDamS_l2_e (y0 : List (Int × Int × Int × Int)) (s : Int × Int) : (loopStep (envT Try.prog C15 M14) L_wheldDamS_l2 2 (loopC (bodyOf Try.f70) 2) (S_wheldDamS_l2.enc (y0, s.1, s.2)).1 (S_wheldDamS_l2.enc (y0, s.1, s.2)).2).to (stepD S_wheldDamS_l2 X_wheldDamS_l2) = (wheldDamS_l2_t y0 s.1 s.2).map (Sum.map (fun s : Int × Int => (show DR S_wheldDamS_l2.hs from (y0, s.1, s.2))) id) := by kernel_rfl

theorem wheldDamS_l2_r (x : DR S_wheldDamS_l2.hs) : (wheldDamS_l2 x.1 x.2.1 x.2.2 : Option (SumD (X_wheldDamS_l2.map (·.2)))) = runL (meanS (envT Try.prog C15 M14) L_wheldDamS_l2 2 (loopC (bodyOf Try.f70) 2) S_wheldDamS_l2 X_wheldDamS_l2) x := run_of (fun s : Int × Int => (show DR S_wheldDamS_l2.hs from (x.1, s.1, s.2))) (wheldDamS_l2_e (x.1)) (x.2.1, x.2.2)

theorem wheldDamS_l2_k (L : Loops) (hn : L_wheldDamS_l2.n = L.n) (hlv : L_wheldDamS_l2.lv 2 = L.lv 2) (hL : ∀ vs bs, L.loop 2 vs bs = toldL S_wheldDamS_l2 X_wheldDamS_l2 (fun x => wheldDamS_l2 x.1 x.2.1 x.2.2) vs bs) : LOk Try.prog (envT Try.prog C15 M14) L 2 (loopC (bodyOf Try.f70) 2) := toldL_ok (L1 := L_wheldDamS_l2) (envT_ok (C15_ok) (M14_ok)) mixedO hn hlv (loopFree_ok (by kernel_rfl)) wheldDamS_l2_r hL

def A_wheldDamS : Shp := ⟨[.h, .h], [], [.sl [.i .i64, .i .i64, .i .i64, .i .i64], .i .i64]⟩
def R_wheldDamS : List XShp := [(.ret, ⟨[.h], [], [.i .i64]⟩)]

noncomputable def L_wheldDamS : Loops := (⟨49, lvT [(2, [0, 1, 4, 5])], mdT [(2, .normal, [], [4]), (2, .exit 0, [], [0, 4, 5]), (2, .ret, [], [0, 1, 5])], fun k vs bs => bif Nat.beq k 2 then toldL S_wheldDamS_l2 X_wheldDamS_l2 (fun x => wheldDamS_l2 x.1 x.2.1 x.2.2) vs bs else .bad⟩ : Loops)

theorem wheldDamS_e (x : DR A_wheldDamS.hs) : (evFn (envT Try.prog C15 M14) L_wheldDamS Try.f70 (A_wheldDamS.enc x).1).to (fun q => decX R_wheldDamS .ret [q.1] q.2) = wheldDamS_t x.1 x.2 := by kernel_rfl

theorem wheldDamS_m (x : DR A_wheldDamS.hs) : meanF (envT Try.prog C15 M14) L_wheldDamS Try.f70 A_wheldDamS R_wheldDamS x = (show Option (SumD (R_wheldDamS.map (·.2))) from wheldDamS x.1 x.2) := meanF_of (wheldDamS_e x)

theorem wheldDamS_ok : SpecOk Try.prog 70 (evFn (envT Try.prog C15 M14) L_wheldDamS Try.f70) := fnL_ok (envT_ok (C15_ok) (M14_ok)) mixedO Try.func70 (by kernel_rfl) (c := bodyOf Try.f70) (by kernel_rfl) (loopsL (l := [(2, loopC (bodyOf Try.f70) 2)]) (by kernel_rfl) (lk_cons (wheldDamS_l2_k _ rfl rfl (fun _ _ => rfl)) lk_nil))

theorem wheldDamS_told : SpecOk Try.prog 70 (toldO A_wheldDamS R_wheldDamS (fun x => wheldDamS x.1 x.2) (C15 70)) := toldO_ok (by kernel_rfl) wheldDamS_ok (rest_ok (C15_ok) _) wheldDamS_m

noncomputable def C16 : Tab := tab 70 (toldO A_wheldDamS R_wheldDamS (fun x => wheldDamS x.1 x.2) (C15 70)) C15
theorem C16_ok : TabOk Try.prog C16 := tab_ok (wheldDamS_told) (C15_ok)

def A_wheldRiver : Shp := ⟨[.agg [.h, .h, .h], .h], [], [.sl [.i .i64], .sl [.i .i64, .i .i64, .i .i64, .i .i64], .sl [.i .i64], .i .i64]⟩
def R_wheldRiver : List XShp := [(.ret, ⟨[.h], [], [.i .i64]⟩)]

theorem wheldRiver_e (x : DR A_wheldRiver.hs) : (evFn (envT Try.prog C16 M14) noLoops Try.f29 (A_wheldRiver.enc x).1).to (fun q => decX R_wheldRiver .ret [q.1] q.2) = wheldRiver_t x.1 x.2.1 x.2.2.1 x.2.2.2 := by kernel_rfl

theorem wheldRiver_m (x : DR A_wheldRiver.hs) : meanF (envT Try.prog C16 M14) noLoops Try.f29 A_wheldRiver R_wheldRiver x = (show Option (SumD (R_wheldRiver.map (·.2))) from wheldRiver x.1 x.2.1 x.2.2.1 x.2.2.2) := meanF_of (wheldRiver_e x)

theorem wheldRiver_ok : SpecOk Try.prog 29 (evFn (envT Try.prog C16 M14) noLoops Try.f29) := fnL_ok (envT_ok (C16_ok) (M14_ok)) mixedO Try.func29 (by kernel_rfl) (c := bodyOf Try.f29) (by kernel_rfl) (loopFree_ok (by kernel_rfl))

theorem wheldRiver_told : SpecOk Try.prog 29 (toldO A_wheldRiver R_wheldRiver (fun x => wheldRiver x.1 x.2.1 x.2.2.1 x.2.2.2) (C16 29)) := toldO_ok (by kernel_rfl) wheldRiver_ok (rest_ok (C16_ok) _) wheldRiver_m

noncomputable def C17 : Tab := tab 29 (toldO A_wheldRiver R_wheldRiver (fun x => wheldRiver x.1 x.2.1 x.2.2.1 x.2.2.2) (C16 29)) C16
theorem C17_ok : TabOk Try.prog C17 := tab_ok (wheldRiver_told) (C16_ok)

def A_wFnExactLineRiver : Shp := ⟨[.h], [], [.i .i64]⟩
def R_wFnExactLineRiver : List XShp := [(.ret, ⟨[.h], [], [.b]⟩)]

theorem wFnExactLineRiver_e (x : DR A_wFnExactLineRiver.hs) : (evFn (envT Try.prog C17 M14) noLoops Try.f5 (A_wFnExactLineRiver.enc x).1).to (fun q => decX R_wFnExactLineRiver .ret [q.1] q.2) = wFnExactLineRiver_t x := by kernel_rfl

theorem wFnExactLineRiver_m (x : DR A_wFnExactLineRiver.hs) : meanF (envT Try.prog C17 M14) noLoops Try.f5 A_wFnExactLineRiver R_wFnExactLineRiver x = (show Option (SumD (R_wFnExactLineRiver.map (·.2))) from wFnExactLineRiver x) := meanF_of (wFnExactLineRiver_e x)

theorem wFnExactLineRiver_ok : SpecOk Try.prog 5 (evFn (envT Try.prog C17 M14) noLoops Try.f5) := fnL_ok (envT_ok (C17_ok) (M14_ok)) mixedO Try.func5 (by kernel_rfl) (c := bodyOf Try.f5) (by kernel_rfl) (loopFree_ok (by kernel_rfl))

theorem wFnExactLineRiver_told : SpecOk Try.prog 5 (toldO A_wFnExactLineRiver R_wFnExactLineRiver (fun x => wFnExactLineRiver x) (C17 5)) := toldO_ok (by kernel_rfl) wFnExactLineRiver_ok (rest_ok (C17_ok) _) wFnExactLineRiver_m

noncomputable def C18 : Tab := tab 5 (toldO A_wFnExactLineRiver R_wFnExactLineRiver (fun x => wFnExactLineRiver x) (C17 5)) C17
theorem C18_ok : TabOk Try.prog C18 := tab_ok (wFnExactLineRiver_told) (C17_ok)

theorem lawFnExactLineRiver_ok : SpecOk Try.prog 5 (evFn (envT Try.prog C17 M14) noLoops Try.f5) := wFnExactLineRiver_ok
theorem lawFnExactLineRiver_says (x : DR A_wFnExactLineRiver.hs) (h : (show Option (SumD (R_wFnExactLineRiver.map (·.2))) from wFnExactLineRiver x) = some true) : saysTrue (evFn (envT Try.prog C17 M14) noLoops Try.f5 (A_wFnExactLineRiver.enc x).1) = true := law_says (x := x) ((wFnExactLineRiver_m x).trans h)

theorem lawFnExactLineRiver_true (x0 : Int) (h : wFnExactLineRiver x0 = some true) : saysTrue (evFn (envT Try.prog C17 M14) noLoops Try.f5 [.i .i64 x0]) = true := (congrArg (fun l => saysTrue (evFn (envT Try.prog C17 M14) noLoops Try.f5 l)) (by kernel_rfl : ([.i .i64 x0] : List V) = (A_wFnExactLineRiver.enc x0).1)).trans (lawFnExactLineRiver_says x0 h)
end Go.Proofs.Ytjohnpldkanjmaa
