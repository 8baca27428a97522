/- Functions, as plain functions. What the program comes to. -/
import Derived.Test.YtjohnpldkanjmaaHa1d
import Derived.Test.YtjohnpldkanjmaaDc
import Derived.Test.YtjohnpldkanjmaaNv
import Derived.KernelRfl
set_option linter.unusedVariables false
set_option linter.unusedSimpArgs false
set_option linter.constructorNameAsVariable false
namespace Go.Proofs.Ytjohnpldkanjmaa
open Go.RowKit
set_option maxRecDepth 100000
theorem mixedO : (Try.prog).follows .mixedOrders = true := by kernel_rfl
def A_wszInt64S : Shp := ⟨[.h, .h], [], [.sl [.i .i64], .i .i64]⟩
def R_wszInt64S : List XShp := [(.ret, ⟨[.h], [], [.i .i64]⟩)]

theorem wszInt64S_e (x : DR A_wszInt64S.hs) : (evFn (envTo Try.prog tab0 mtab0) noLoops Try.f59 (A_wszInt64S.enc x).1).to (fun q => decX R_wszInt64S .ret [q.1] q.2) = wszInt64S_t x.1 x.2 := by kernel_rfl

theorem wszInt64S_m (x : DR A_wszInt64S.hs) : meanF (envTo Try.prog tab0 mtab0) noLoops Try.f59 A_wszInt64S R_wszInt64S x = some (show SumD (R_wszInt64S.map (·.2)) from wszInt64S x.1 x.2) := @meanF_tot _ _ _ _ _ _ _ (wszInt64S_e x) (show Inhabited (Int) from inferInstance) (by kernel_rfl)

theorem wszInt64S_ok : SpecOk Try.prog 59 (evFn (envTo Try.prog tab0 mtab0) noLoops Try.f59) := fnL_ok (envTo_ok (tab0_ok _) (mtab0_ok _)) mixedO Try.func59 (by kernel_rfl) (c := bodyOf Try.f59) (by kernel_rfl) (loopFree_ok (by kernel_rfl))

theorem wszInt64S_told : SpecOk Try.prog 59 (toldT A_wszInt64S R_wszInt64S (fun x => wszInt64S x.1 x.2) (tab0 59)) := toldT_ok (by kernel_rfl) wszInt64S_ok (rest_ok (tab0_ok _) _) wszInt64S_m

noncomputable def C0 : Tab := tab 59 (toldT A_wszInt64S R_wszInt64S (fun x => wszInt64S x.1 x.2) (tab0 59)) tab0
theorem C0_ok : TabOk Try.prog C0 := tab_ok (wszInt64S_told) (tab0_ok _)

def S_wszInt64SS_l5 : Shp := ⟨[.h, .h, .undef, .h], [], [.sl [.sl [.i .i64]], .i .i64, .i .i64]⟩
def X_wszInt64SS_l5 : List XShp := [(.ret, ⟨[.undef, .undef, .h, .undef], [], [.i .i64]⟩), (.exit 0, ⟨[.undef, .h, .undef, .undef], [], [.i .i64]⟩)]

noncomputable def L_wszInt64SS_l5 : Loops := (⟨27, lvT [(5, [0, 1, 4, 5])], mdT [(5, .normal, [], [4]), (5, .exit 0, [], [0, 4, 5]), (5, .ret, [], [0, 1, 5])], fun k vs bs => .bad⟩ : Loops)

theorem wszInt64SS_l5_e (y0 : List (List Int)) (s : Int × Int) : (loopStep (envTo Try.prog C0 mtab0) L_wszInt64SS_l5 5 (loopC (bodyOf Try.f30) 5) (S_wszInt64SS_l5.enc (y0, s.1, s.2)).1 (S_wszInt64SS_l5.enc (y0, s.1, s.2)).2).to (stepD S_wszInt64SS_l5 X_wszInt64SS_l5) = (wszInt64SS_l5_t y0 s.1 s.2).map (Sum.map (fun s : Int × Int => (show DR S_wszInt64SS_l5.hs from (y0, s.1, s.2))) id) := by kernel_rfl

theorem wszInt64SS_l5_r (x : DR S_wszInt64SS_l5.hs) : (wszInt64SS_l5 x.1 x.2.1 x.2.2 : Option (SumD (X_wszInt64SS_l5.map (·.2)))) = runL (meanS (envTo Try.prog C0 mtab0) L_wszInt64SS_l5 5 (loopC (bodyOf Try.f30) 5) S_wszInt64SS_l5 X_wszInt64SS_l5) x := run_of (fun s : Int × Int => (show DR S_wszInt64SS_l5.hs from (x.1, s.1, s.2))) (wszInt64SS_l5_e (x.1)) (x.2.1, x.2.2)

theorem wszInt64SS_l5_k (L : Loops) (hn : L_wszInt64SS_l5.n = L.n) (hlv : L_wszInt64SS_l5.lv 5 = L.lv 5) (hL : ∀ vs bs, L.loop 5 vs bs = toldL S_wszInt64SS_l5 X_wszInt64SS_l5 (fun x => wszInt64SS_l5 x.1 x.2.1 x.2.2) vs bs) : LOk Try.prog (envTo Try.prog C0 mtab0) L 5 (loopC (bodyOf Try.f30) 5) := toldL_ok (L1 := L_wszInt64SS_l5) (envTo_ok (C0_ok) (mtab0_ok _)) mixedO hn hlv (loopFree_ok (by kernel_rfl)) wszInt64SS_l5_r hL

def A_wszInt64SS : Shp := ⟨[.h, .h], [], [.sl [.sl [.i .i64]], .i .i64]⟩
def R_wszInt64SS : List XShp := [(.ret, ⟨[.h], [], [.i .i64]⟩)]

noncomputable def L_wszInt64SS : Loops := (⟨27, lvT [(5, [0, 1, 4, 5])], mdT [(5, .normal, [], [4]), (5, .exit 0, [], [0, 4, 5]), (5, .ret, [], [0, 1, 5])], fun k vs bs => bif Nat.beq k 5 then toldL S_wszInt64SS_l5 X_wszInt64SS_l5 (fun x => wszInt64SS_l5 x.1 x.2.1 x.2.2) vs bs else .bad⟩ : Loops)

theorem wszInt64SS_e (x : DR A_wszInt64SS.hs) : (evFn (envTo Try.prog C0 mtab0) L_wszInt64SS Try.f30 (A_wszInt64SS.enc x).1).to (fun q => decX R_wszInt64SS .ret [q.1] q.2) = wszInt64SS_t x.1 x.2 := by kernel_rfl

theorem wszInt64SS_m (x : DR A_wszInt64SS.hs) : meanF (envTo Try.prog C0 mtab0) L_wszInt64SS Try.f30 A_wszInt64SS R_wszInt64SS x = (show Option (SumD (R_wszInt64SS.map (·.2))) from wszInt64SS x.1 x.2) := meanF_of (wszInt64SS_e x)

theorem wszInt64SS_ok : SpecOk Try.prog 30 (evFn (envTo Try.prog C0 mtab0) L_wszInt64SS Try.f30) := fnL_ok (envTo_ok (C0_ok) (mtab0_ok _)) mixedO Try.func30 (by kernel_rfl) (c := bodyOf Try.f30) (by kernel_rfl) (loopsL (l := [(5, loopC (bodyOf Try.f30) 5)]) (by kernel_rfl) (lk_cons (wszInt64SS_l5_k _ rfl rfl (fun _ _ => rfl)) lk_nil))

theorem wszInt64SS_told : SpecOk Try.prog 30 (toldO A_wszInt64SS R_wszInt64SS (fun x => wszInt64SS x.1 x.2) (C0 30)) := toldO_ok (by kernel_rfl) wszInt64SS_ok (rest_ok (C0_ok) _) wszInt64SS_m

noncomputable def C1 : Tab := tab 30 (toldO A_wszInt64SS R_wszInt64SS (fun x => wszInt64SS x.1 x.2) (C0 30)) C0
theorem C1_ok : TabOk Try.prog C1 := tab_ok (wszInt64SS_told) (C0_ok)

def S_wtoInt64S_l3 : Shp := ⟨[.h, .slw 0 1, .h], [.arr [.i .i64] false], [.sl [.i .i64], .i .i64, .sl [.i .i64]]⟩
def X_wtoInt64S_l3 : List XShp := [(.exit 0, ⟨[.undef, .slw 0 1, .undef], [.arr [.i .i64] false], [.sl [.i .i64]]⟩)]

noncomputable def L_wtoInt64S_l3 : Loops := (⟨22, lvT [(3, [0, 3, 4])], mdT [(3, .exit 0, [], [0, 4])], fun k vs bs => .bad⟩ : Loops)

theorem wtoInt64S_l3_e (y0 : List Int) (s : Int × List Int) : (loopStep (envTo Try.prog C1 mtab0) L_wtoInt64S_l3 3 (loopC (bodyOf Try.f16) 3) (S_wtoInt64S_l3.enc (y0, s.1, s.2)).1 (S_wtoInt64S_l3.enc (y0, s.1, s.2)).2).to (stepD S_wtoInt64S_l3 X_wtoInt64S_l3) = (wtoInt64S_l3_t y0 s.1 s.2).map (Sum.map (fun s : Int × List Int => (show DR S_wtoInt64S_l3.hs from (y0, s.1, s.2))) id) := by kernel_rfl

theorem wtoInt64S_l3_r (x : DR S_wtoInt64S_l3.hs) : (wtoInt64S_l3 x.1 x.2.1 x.2.2 : Option (SumD (X_wtoInt64S_l3.map (·.2)))) = runL (meanS (envTo Try.prog C1 mtab0) L_wtoInt64S_l3 3 (loopC (bodyOf Try.f16) 3) S_wtoInt64S_l3 X_wtoInt64S_l3) x := run_of (fun s : Int × List Int => (show DR S_wtoInt64S_l3.hs from (x.1, s.1, s.2))) (wtoInt64S_l3_e (x.1)) (x.2.1, x.2.2)

theorem wtoInt64S_l3_k (L : Loops) (hn : L_wtoInt64S_l3.n = L.n) (hlv : L_wtoInt64S_l3.lv 3 = L.lv 3) (hL : ∀ vs bs, L.loop 3 vs bs = toldL S_wtoInt64S_l3 X_wtoInt64S_l3 (fun x => wtoInt64S_l3 x.1 x.2.1 x.2.2) vs bs) : LOk Try.prog (envTo Try.prog C1 mtab0) L 3 (loopC (bodyOf Try.f16) 3) := toldL_ok (L1 := L_wtoInt64S_l3) (envTo_ok (C1_ok) (mtab0_ok _)) mixedO hn hlv (loopFree_ok (by kernel_rfl)) wtoInt64S_l3_r hL

def A_wtoInt64S : Shp := ⟨[.h], [], [.sl [.i .i64]]⟩
def R_wtoInt64S : List XShp := [(.ret, ⟨[.slw 0 1], [.arr [.i .i64] false], [.sl [.i .i64]]⟩)]

noncomputable def L_wtoInt64S : Loops := (⟨22, lvT [(3, [0, 3, 4])], mdT [(3, .exit 0, [], [0, 4])], fun k vs bs => bif Nat.beq k 3 then toldL S_wtoInt64S_l3 X_wtoInt64S_l3 (fun x => wtoInt64S_l3 x.1 x.2.1 x.2.2) vs bs else .bad⟩ : Loops)

theorem wtoInt64S_e (x : DR A_wtoInt64S.hs) : (evFn (envTo Try.prog C1 mtab0) L_wtoInt64S Try.f16 (A_wtoInt64S.enc x).1).to (fun q => decX R_wtoInt64S .ret [q.1] q.2) = wtoInt64S_t x := by kernel_rfl

theorem wtoInt64S_m (x : DR A_wtoInt64S.hs) : meanF (envTo Try.prog C1 mtab0) L_wtoInt64S Try.f16 A_wtoInt64S R_wtoInt64S x = (show Option (SumD (R_wtoInt64S.map (·.2))) from wtoInt64S x) := meanF_of (wtoInt64S_e x)

theorem wtoInt64S_ok : SpecOk Try.prog 16 (evFn (envTo Try.prog C1 mtab0) L_wtoInt64S Try.f16) := fnL_ok (envTo_ok (C1_ok) (mtab0_ok _)) mixedO Try.func16 (by kernel_rfl) (c := bodyOf Try.f16) (by kernel_rfl) (loopsL (l := [(3, loopC (bodyOf Try.f16) 3)]) (by kernel_rfl) (lk_cons (wtoInt64S_l3_k _ rfl rfl (fun _ _ => rfl)) lk_nil))

theorem wtoInt64S_told : SpecOk Try.prog 16 (toldO A_wtoInt64S R_wtoInt64S (fun x => wtoInt64S x) (C1 16)) := toldO_ok (by kernel_rfl) wtoInt64S_ok (rest_ok (C1_ok) _) wtoInt64S_m

noncomputable def C2 : Tab := tab 16 (toldO A_wtoInt64S R_wtoInt64S (fun x => wtoInt64S x) (C1 16)) C1
theorem C2_ok : TabOk Try.prog C2 := tab_ok (wtoInt64S_told) (C1_ok)

def S_wtoInt64SS_l3 : Shp := ⟨[.h, .slw 0 1, .h], [.arr [.osl [.i .i64]] false], [.sl [.sl [.i .i64]], .i .i64, .sl [.osl [.i .i64]]]⟩
def X_wtoInt64SS_l3 : List XShp := [(.exit 0, ⟨[.undef, .slw 0 1, .undef], [.arr [.osl [.i .i64]] false], [.sl [.osl [.i .i64]]]⟩)]

noncomputable def L_wtoInt64SS_l3 : Loops := (⟨23, lvT [(3, [0, 3, 4])], mdT [(3, .exit 0, [], [0, 4])], fun k vs bs => .bad⟩ : Loops)

theorem wtoInt64SS_l3_e (y0 : List (List Int)) (s : Int × List (List Int)) : (loopStep (envTo Try.prog C2 mtab0) L_wtoInt64SS_l3 3 (loopC (bodyOf Try.f32) 3) (S_wtoInt64SS_l3.enc (y0, s.1, s.2)).1 (S_wtoInt64SS_l3.enc (y0, s.1, s.2)).2).to (stepD S_wtoInt64SS_l3 X_wtoInt64SS_l3) = (wtoInt64SS_l3_t y0 s.1 s.2).map (Sum.map (fun s : Int × List (List Int) => (show DR S_wtoInt64SS_l3.hs from (y0, s.1, s.2))) id) := by kernel_rfl

theorem wtoInt64SS_l3_r (x : DR S_wtoInt64SS_l3.hs) : (wtoInt64SS_l3 x.1 x.2.1 x.2.2 : Option (SumD (X_wtoInt64SS_l3.map (·.2)))) = runL (meanS (envTo Try.prog C2 mtab0) L_wtoInt64SS_l3 3 (loopC (bodyOf Try.f32) 3) S_wtoInt64SS_l3 X_wtoInt64SS_l3) x := run_of (fun s : Int × List (List Int) => (show DR S_wtoInt64SS_l3.hs from (x.1, s.1, s.2))) (wtoInt64SS_l3_e (x.1)) (x.2.1, x.2.2)

theorem wtoInt64SS_l3_k (L : Loops) (hn : L_wtoInt64SS_l3.n = L.n) (hlv : L_wtoInt64SS_l3.lv 3 = L.lv 3) (hL : ∀ vs bs, L.loop 3 vs bs = toldL S_wtoInt64SS_l3 X_wtoInt64SS_l3 (fun x => wtoInt64SS_l3 x.1 x.2.1 x.2.2) vs bs) : LOk Try.prog (envTo Try.prog C2 mtab0) L 3 (loopC (bodyOf Try.f32) 3) := toldL_ok (L1 := L_wtoInt64SS_l3) (envTo_ok (C2_ok) (mtab0_ok _)) mixedO hn hlv (loopFree_ok (by kernel_rfl)) wtoInt64SS_l3_r hL

def A_wtoInt64SS : Shp := ⟨[.h], [], [.sl [.sl [.i .i64]]]⟩
def R_wtoInt64SS : List XShp := [(.ret, ⟨[.slw 0 1], [.arr [.osl [.i .i64]] false], [.sl [.osl [.i .i64]]]⟩)]

noncomputable def L_wtoInt64SS : Loops := (⟨23, lvT [(3, [0, 3, 4])], mdT [(3, .exit 0, [], [0, 4])], fun k vs bs => bif Nat.beq k 3 then toldL S_wtoInt64SS_l3 X_wtoInt64SS_l3 (fun x => wtoInt64SS_l3 x.1 x.2.1 x.2.2) vs bs else .bad⟩ : Loops)

theorem wtoInt64SS_e (x : DR A_wtoInt64SS.hs) : (evFn (envTo Try.prog C2 mtab0) L_wtoInt64SS Try.f32 (A_wtoInt64SS.enc x).1).to (fun q => decX R_wtoInt64SS .ret [q.1] q.2) = wtoInt64SS_t x := by kernel_rfl

theorem wtoInt64SS_m (x : DR A_wtoInt64SS.hs) : meanF (envTo Try.prog C2 mtab0) L_wtoInt64SS Try.f32 A_wtoInt64SS R_wtoInt64SS x = (show Option (SumD (R_wtoInt64SS.map (·.2))) from wtoInt64SS x) := meanF_of (wtoInt64SS_e x)

theorem wtoInt64SS_ok : SpecOk Try.prog 32 (evFn (envTo Try.prog C2 mtab0) L_wtoInt64SS Try.f32) := fnL_ok (envTo_ok (C2_ok) (mtab0_ok _)) mixedO Try.func32 (by kernel_rfl) (c := bodyOf Try.f32) (by kernel_rfl) (loopsL (l := [(3, loopC (bodyOf Try.f32) 3)]) (by kernel_rfl) (lk_cons (wtoInt64SS_l3_k _ rfl rfl (fun _ _ => rfl)) lk_nil))

theorem wtoInt64SS_told : SpecOk Try.prog 32 (toldO A_wtoInt64SS R_wtoInt64SS (fun x => wtoInt64SS x) (C2 32)) := toldO_ok (by kernel_rfl) wtoInt64SS_ok (rest_ok (C2_ok) _) wtoInt64SS_m

noncomputable def C3 : Tab := tab 32 (toldO A_wtoInt64SS R_wtoInt64SS (fun x => wtoInt64SS x) (C2 32)) C2
theorem C3_ok : TabOk Try.prog C3 := tab_ok (wtoInt64SS_told) (C2_ok)

def A_sl00In : Shp := ⟨[.h, .h, .h], [], [.i .i64, .i .i64, .i .i64]⟩
def R_sl00In : List XShp := [(.ret, ⟨[.h], [], [.b]⟩)]

theorem sl00In_e (x : DR A_sl00In.hs) : (evFn (envTo Try.prog C3 mtab0) noLoops Try.f66 (A_sl00In.enc x).1).to (fun q => decX R_sl00In .ret [q.1] q.2) = sl00In_t x.1 x.2.1 x.2.2 := by kernel_rfl

theorem sl00In_m (x : DR A_sl00In.hs) : meanF (envTo Try.prog C3 mtab0) noLoops Try.f66 A_sl00In R_sl00In x = some (show SumD (R_sl00In.map (·.2)) from sl00In x.1 x.2.1 x.2.2) := @meanF_tot _ _ _ _ _ _ _ (sl00In_e x) (show Inhabited (Bool) from inferInstance) (by kernel_rfl)

theorem sl00In_ok : SpecOk Try.prog 66 (evFn (envTo Try.prog C3 mtab0) noLoops Try.f66) := fnL_ok (envTo_ok (C3_ok) (mtab0_ok _)) mixedO Try.func66 (by kernel_rfl) (c := bodyOf Try.f66) (by kernel_rfl) (loopFree_ok (by kernel_rfl))

theorem sl00In_told : SpecOk Try.prog 66 (toldT A_sl00In R_sl00In (fun x => sl00In x.1 x.2.1 x.2.2) (C3 66)) := toldT_ok (by kernel_rfl) sl00In_ok (rest_ok (C3_ok) _) sl00In_m

noncomputable def C4 : Tab := tab 66 (toldT A_sl00In R_sl00In (fun x => sl00In x.1 x.2.1 x.2.2) (C3 66)) C3
theorem C4_ok : TabOk Try.prog C4 := tab_ok (sl00In_told) (C3_ok)

def A_sl06Unit : Shp := ⟨[.h], [], [.i .i64]⟩
def R_sl06Unit : List XShp := [(.ret, ⟨[.h], [], [.b]⟩)]

theorem sl06Unit_e (x : DR A_sl06Unit.hs) : (evFn (envTo Try.prog C4 mtab0) noLoops Try.f52 (A_sl06Unit.enc x).1).to (fun q => decX R_sl06Unit .ret [q.1] q.2) = sl06Unit_t x := by kernel_rfl

theorem sl06Unit_m (x : DR A_sl06Unit.hs) : meanF (envTo Try.prog C4 mtab0) noLoops Try.f52 A_sl06Unit R_sl06Unit x = some (show SumD (R_sl06Unit.map (·.2)) from sl06Unit x) := @meanF_tot _ _ _ _ _ _ _ (sl06Unit_e x) (show Inhabited (Bool) from inferInstance) (by kernel_rfl)

theorem sl06Unit_ok : SpecOk Try.prog 52 (evFn (envTo Try.prog C4 mtab0) noLoops Try.f52) := fnL_ok (envTo_ok (C4_ok) (mtab0_ok _)) mixedO Try.func52 (by kernel_rfl) (c := bodyOf Try.f52) (by kernel_rfl) (loopFree_ok (by kernel_rfl))

theorem sl06Unit_told : SpecOk Try.prog 52 (toldT A_sl06Unit R_sl06Unit (fun x => sl06Unit x) (C4 52)) := toldT_ok (by kernel_rfl) sl06Unit_ok (rest_ok (C4_ok) _) sl06Unit_m

noncomputable def C5 : Tab := tab 52 (toldT A_sl06Unit R_sl06Unit (fun x => sl06Unit x) (C4 52)) C4
theorem C5_ok : TabOk Try.prog C5 := tab_ok (sl06Unit_told) (C4_ok)

def S_sl06Inflows_l2 : Shp := ⟨[.h, .h, .undef, .h], [], [.sl [.i .i64], .i .i64, .i .i64]⟩
def X_sl06Inflows_l2 : List XShp := [(.ret, ⟨[.undef, .undef, .lb false, .undef], [], []⟩), (.exit 0, ⟨[.h, .h, .undef, .undef], [], [.sl [.i .i64], .i .i64]⟩)]

noncomputable def L_sl06Inflows_l2 : Loops := (⟨28, lvT [(2, [0, 1, 4, 5])], mdT [(2, .normal, [], [4]), (2, .exit 0, [], [4, 5]), (2, .ret, [], [0, 1, 5])], fun k vs bs => .bad⟩ : Loops)

theorem sl06Inflows_l2_e (y0 : List Int) (y1 : Int) (s : Int) : (loopStep (envTo Try.prog C5 mtab0) L_sl06Inflows_l2 2 (loopC (bodyOf Try.f86) 2) (S_sl06Inflows_l2.enc (y0, y1, s)).1 (S_sl06Inflows_l2.enc (y0, y1, s)).2).to (stepD S_sl06Inflows_l2 X_sl06Inflows_l2) = (sl06Inflows_l2_t y0 y1 s).map (Sum.map (fun s : Int => (show DR S_sl06Inflows_l2.hs from (y0, y1, s))) id) := by kernel_rfl

theorem sl06Inflows_l2_r (x : DR S_sl06Inflows_l2.hs) : (sl06Inflows_l2 x.1 x.2.1 x.2.2 : Option (SumD (X_sl06Inflows_l2.map (·.2)))) = runL (meanS (envTo Try.prog C5 mtab0) L_sl06Inflows_l2 2 (loopC (bodyOf Try.f86) 2) S_sl06Inflows_l2 X_sl06Inflows_l2) x := run_of (fun s : Int => (show DR S_sl06Inflows_l2.hs from (x.1, x.2.1, s))) (sl06Inflows_l2_e (x.1) (x.2.1)) x.2.2

theorem sl06Inflows_l2_k (L : Loops) (hn : L_sl06Inflows_l2.n = L.n) (hlv : L_sl06Inflows_l2.lv 2 = L.lv 2) (hL : ∀ vs bs, L.loop 2 vs bs = toldL S_sl06Inflows_l2 X_sl06Inflows_l2 (fun x => sl06Inflows_l2 x.1 x.2.1 x.2.2) vs bs) : LOk Try.prog (envTo Try.prog C5 mtab0) L 2 (loopC (bodyOf Try.f86) 2) := toldL_ok (L1 := L_sl06Inflows_l2) (envTo_ok (C5_ok) (mtab0_ok _)) mixedO hn hlv (loopFree_ok (by kernel_rfl)) sl06Inflows_l2_r hL

def A_sl06Inflows : Shp := ⟨[.h, .h], [], [.sl [.i .i64], .i .i64]⟩
def R_sl06Inflows : List XShp := [(.ret, ⟨[.h], [], [.b]⟩)]

noncomputable def L_sl06Inflows : Loops := (⟨28, lvT [(2, [0, 1, 4, 5])], mdT [(2, .normal, [], [4]), (2, .exit 0, [], [4, 5]), (2, .ret, [], [0, 1, 5])], fun k vs bs => bif Nat.beq k 2 then toldL S_sl06Inflows_l2 X_sl06Inflows_l2 (fun x => sl06Inflows_l2 x.1 x.2.1 x.2.2) vs bs else .bad⟩ : Loops)

theorem sl06Inflows_e (x : DR A_sl06Inflows.hs) : (evFn (envTo Try.prog C5 mtab0) L_sl06Inflows Try.f86 (A_sl06Inflows.enc x).1).to (fun q => decX R_sl06Inflows .ret [q.1] q.2) = sl06Inflows_t x.1 x.2 := by kernel_rfl

theorem sl06Inflows_m (x : DR A_sl06Inflows.hs) : meanF (envTo Try.prog C5 mtab0) L_sl06Inflows Try.f86 A_sl06Inflows R_sl06Inflows x = (show Option (SumD (R_sl06Inflows.map (·.2))) from sl06Inflows x.1 x.2) := meanF_of (sl06Inflows_e x)

theorem sl06Inflows_ok : SpecOk Try.prog 86 (evFn (envTo Try.prog C5 mtab0) L_sl06Inflows Try.f86) := fnL_ok (envTo_ok (C5_ok) (mtab0_ok _)) mixedO Try.func86 (by kernel_rfl) (c := bodyOf Try.f86) (by kernel_rfl) (loopsL (l := [(2, loopC (bodyOf Try.f86) 2)]) (by kernel_rfl) (lk_cons (sl06Inflows_l2_k _ rfl rfl (fun _ _ => rfl)) lk_nil))

theorem sl06Inflows_told : SpecOk Try.prog 86 (toldO A_sl06Inflows R_sl06Inflows (fun x => sl06Inflows x.1 x.2) (C5 86)) := toldO_ok (by kernel_rfl) sl06Inflows_ok (rest_ok (C5_ok) _) sl06Inflows_m

noncomputable def C6 : Tab := tab 86 (toldO A_sl06Inflows R_sl06Inflows (fun x => sl06Inflows x.1 x.2) (C5 86)) C5
theorem C6_ok : TabOk Try.prog C6 := tab_ok (sl06Inflows_told) (C5_ok)

def S_sl06Days_l2 : Shp := ⟨[.h, .h, .undef, .h], [], [.sl [.sl [.i .i64]], .i .i64, .i .i64]⟩
def X_sl06Days_l2 : List XShp := [(.ret, ⟨[.undef, .undef, .lb false, .undef], [], []⟩), (.exit 0, ⟨[.h, .undef, .undef, .undef], [], [.sl [.sl [.i .i64]]]⟩)]

noncomputable def L_sl06Days_l2 : Loops := (⟨27, lvT [(2, [0, 1, 4, 5])], mdT [(2, .normal, [], [4]), (2, .exit 0, [], [1, 4, 5]), (2, .ret, [], [0, 1, 5])], fun k vs bs => .bad⟩ : Loops)

theorem sl06Days_l2_e (y0 : List (List Int)) (y1 : Int) (s : Int) : (loopStep (envTo Try.prog C6 mtab0) L_sl06Days_l2 2 (loopC (bodyOf Try.f71) 2) (S_sl06Days_l2.enc (y0, y1, s)).1 (S_sl06Days_l2.enc (y0, y1, s)).2).to (stepD S_sl06Days_l2 X_sl06Days_l2) = (sl06Days_l2_t y0 y1 s).map (Sum.map (fun s : Int => (show DR S_sl06Days_l2.hs from (y0, y1, s))) id) := by kernel_rfl

theorem sl06Days_l2_r (x : DR S_sl06Days_l2.hs) : (sl06Days_l2 x.1 x.2.1 x.2.2 : Option (SumD (X_sl06Days_l2.map (·.2)))) = runL (meanS (envTo Try.prog C6 mtab0) L_sl06Days_l2 2 (loopC (bodyOf Try.f71) 2) S_sl06Days_l2 X_sl06Days_l2) x := run_of (fun s : Int => (show DR S_sl06Days_l2.hs from (x.1, x.2.1, s))) (sl06Days_l2_e (x.1) (x.2.1)) x.2.2

theorem sl06Days_l2_k (L : Loops) (hn : L_sl06Days_l2.n = L.n) (hlv : L_sl06Days_l2.lv 2 = L.lv 2) (hL : ∀ vs bs, L.loop 2 vs bs = toldL S_sl06Days_l2 X_sl06Days_l2 (fun x => sl06Days_l2 x.1 x.2.1 x.2.2) vs bs) : LOk Try.prog (envTo Try.prog C6 mtab0) L 2 (loopC (bodyOf Try.f71) 2) := toldL_ok (L1 := L_sl06Days_l2) (envTo_ok (C6_ok) (mtab0_ok _)) mixedO hn hlv (loopFree_ok (by kernel_rfl)) sl06Days_l2_r hL

def A_sl06Days : Shp := ⟨[.h, .h], [], [.sl [.sl [.i .i64]], .i .i64]⟩
def R_sl06Days : List XShp := [(.ret, ⟨[.h], [], [.b]⟩)]

noncomputable def L_sl06Days : Loops := (⟨27, lvT [(2, [0, 1, 4, 5])], mdT [(2, .normal, [], [4]), (2, .exit 0, [], [1, 4, 5]), (2, .ret, [], [0, 1, 5])], fun k vs bs => bif Nat.beq k 2 then toldL S_sl06Days_l2 X_sl06Days_l2 (fun x => sl06Days_l2 x.1 x.2.1 x.2.2) vs bs else .bad⟩ : Loops)

theorem sl06Days_e (x : DR A_sl06Days.hs) : (evFn (envTo Try.prog C6 mtab0) L_sl06Days Try.f71 (A_sl06Days.enc x).1).to (fun q => decX R_sl06Days .ret [q.1] q.2) = sl06Days_t x.1 x.2 := by kernel_rfl

theorem sl06Days_m (x : DR A_sl06Days.hs) : meanF (envTo Try.prog C6 mtab0) L_sl06Days Try.f71 A_sl06Days R_sl06Days x = (show Option (SumD (R_sl06Days.map (·.2))) from sl06Days x.1 x.2) := meanF_of (sl06Days_e x)

theorem sl06Days_ok : SpecOk Try.prog 71 (evFn (envTo Try.prog C6 mtab0) L_sl06Days Try.f71) := fnL_ok (envTo_ok (C6_ok) (mtab0_ok _)) mixedO Try.func71 (by kernel_rfl) (c := bodyOf Try.f71) (by kernel_rfl) (loopsL (l := [(2, loopC (bodyOf Try.f71) 2)]) (by kernel_rfl) (lk_cons (sl06Days_l2_k _ rfl rfl (fun _ _ => rfl)) lk_nil))

theorem sl06Days_told : SpecOk Try.prog 71 (toldO A_sl06Days R_sl06Days (fun x => sl06Days x.1 x.2) (C6 71)) := toldO_ok (by kernel_rfl) sl06Days_ok (rest_ok (C6_ok) _) sl06Days_m

noncomputable def C7 : Tab := tab 71 (toldO A_sl06Days R_sl06Days (fun x => sl06Days x.1 x.2) (C6 71)) C6
theorem C7_ok : TabOk Try.prog C7 := tab_ok (sl06Days_told) (C6_ok)

def S_sHalfWay_l12 : Shp := ⟨[.h, .h, .slw 0 1, .h, .h, .h], [.arr [.i .i64] false], [.sl [.sl [.i .i64]], .i .i64, .i .i64, .i .i64, .i .i64, .sl [.i .i64]]⟩
def X_sHalfWay_l12 : List XShp := [(.exit 2, ⟨[.h, .h, .slw 0 1, .h, .h, .undef], [.arr [.i .i64] false], [.sl [.sl [.i .i64]], .i .i64, .i .i64, .i .i64, .sl [.i .i64]]⟩)]

noncomputable def L_sHalfWay_l12 : Loops := (⟨86, lvT [(18, [0, 4, 5, 6, 7, 9, 10, 11]), (12, [0, 4, 5, 6, 7, 8]), (8, [0, 4, 5, 6])], mdT [(18, .exit 4, [], [7, 9, 11]), (12, .exit 2, [], [8]), (8, .exit 0, [], [0, 4, 6])], fun k vs bs => .bad⟩ : Loops)

theorem sHalfWay_l12_e (y0 : List (List Int)) (y1 : Int) (y2 : Int) (y5 : List Int) (s : Int × Int) : (loopStep (envTo Try.prog C7 mtab0) L_sHalfWay_l12 12 (loopC (loopC (bodyOf Try.f31) 8) 12) (S_sHalfWay_l12.enc (y0, y1, y2, s.1, s.2, y5)).1 (S_sHalfWay_l12.enc (y0, y1, y2, s.1, s.2, y5)).2).to (stepD S_sHalfWay_l12 X_sHalfWay_l12) = (sHalfWay_l12_t y0 y1 y2 y5 s.1 s.2).map (Sum.map (fun s : Int × Int => (show DR S_sHalfWay_l12.hs from (y0, y1, y2, s.1, s.2, y5))) id) := by kernel_rfl

theorem sHalfWay_l12_r (x : DR S_sHalfWay_l12.hs) : (sHalfWay_l12 x.1 x.2.1 x.2.2.1 x.2.2.2.1 x.2.2.2.2.1 x.2.2.2.2.2 : Option (SumD (X_sHalfWay_l12.map (·.2)))) = runL (meanS (envTo Try.prog C7 mtab0) L_sHalfWay_l12 12 (loopC (loopC (bodyOf Try.f31) 8) 12) S_sHalfWay_l12 X_sHalfWay_l12) x := run_of (fun s : Int × Int => (show DR S_sHalfWay_l12.hs from (x.1, x.2.1, x.2.2.1, s.1, s.2, x.2.2.2.2.2))) (sHalfWay_l12_e (x.1) (x.2.1) (x.2.2.1) (x.2.2.2.2.2)) (x.2.2.2.1, x.2.2.2.2.1)

theorem sHalfWay_l12_k (L : Loops) (hn : L_sHalfWay_l12.n = L.n) (hlv : L_sHalfWay_l12.lv 12 = L.lv 12) (hL : ∀ vs bs, L.loop 12 vs bs = toldL S_sHalfWay_l12 X_sHalfWay_l12 (fun x => sHalfWay_l12 x.1 x.2.1 x.2.2.1 x.2.2.2.1 x.2.2.2.2.1 x.2.2.2.2.2) vs bs) : LOk Try.prog (envTo Try.prog C7 mtab0) L 12 (loopC (loopC (bodyOf Try.f31) 8) 12) := toldL_ok (L1 := L_sHalfWay_l12) (envTo_ok (C7_ok) (mtab0_ok _)) mixedO hn hlv (loopFree_ok (by kernel_rfl)) sHalfWay_l12_r hL

def S_sHalfWay_l18 : Shp := ⟨[.h, .h, .slw 0 1, .h, .h, .h, .h, .h], [.arr [.i .i64] false], [.sl [.sl [.i .i64]], .i .i64, .i .i64, .i .i64, .i .i64, .i .i64, .i .i64, .sl [.i .i64]]⟩
def X_sHalfWay_l18 : List XShp := [(.exit 4, ⟨[.h, .h, .slw 0 1, .h, .undef, .undef, .h, .undef], [.arr [.i .i64] false], [.sl [.sl [.i .i64]], .i .i64, .i .i64, .i .i64, .sl [.i .i64]]⟩)]

noncomputable def L_sHalfWay_l18 : Loops := (⟨86, lvT [(18, [0, 4, 5, 6, 7, 9, 10, 11]), (12, [0, 4, 5, 6, 7, 8]), (8, [0, 4, 5, 6])], mdT [(18, .exit 4, [], [7, 9, 11]), (12, .exit 2, [], [8]), (8, .exit 0, [], [0, 4, 6])], fun k vs bs => .bad⟩ : Loops)

theorem sHalfWay_l18_e (y0 : List (List Int)) (y1 : Int) (y2 : Int) (y3 : Int) (y7 : List Int) (s : Int × Int × Int) : (loopStep (envTo Try.prog C7 mtab0) L_sHalfWay_l18 18 (loopC (loopC (bodyOf Try.f31) 8) 18) (S_sHalfWay_l18.enc (y0, y1, y2, y3, s.1, s.2.1, s.2.2, y7)).1 (S_sHalfWay_l18.enc (y0, y1, y2, y3, s.1, s.2.1, s.2.2, y7)).2).to (stepD S_sHalfWay_l18 X_sHalfWay_l18) = (sHalfWay_l18_t y0 y1 y2 y3 y7 s.1 s.2.1 s.2.2).map (Sum.map (fun s : Int × Int × Int => (show DR S_sHalfWay_l18.hs from (y0, y1, y2, y3, s.1, s.2.1, s.2.2, y7))) id) := by kernel_rfl

theorem sHalfWay_l18_r (x : DR S_sHalfWay_l18.hs) : (sHalfWay_l18 x.1 x.2.1 x.2.2.1 x.2.2.2.1 x.2.2.2.2.1 x.2.2.2.2.2.1 x.2.2.2.2.2.2.1 x.2.2.2.2.2.2.2 : Option (SumD (X_sHalfWay_l18.map (·.2)))) = runL (meanS (envTo Try.prog C7 mtab0) L_sHalfWay_l18 18 (loopC (loopC (bodyOf Try.f31) 8) 18) S_sHalfWay_l18 X_sHalfWay_l18) x := run_of (fun s : Int × Int × Int => (show DR S_sHalfWay_l18.hs from (x.1, x.2.1, x.2.2.1, x.2.2.2.1, s.1, s.2.1, s.2.2, x.2.2.2.2.2.2.2))) (sHalfWay_l18_e (x.1) (x.2.1) (x.2.2.1) (x.2.2.2.1) (x.2.2.2.2.2.2.2)) (x.2.2.2.2.1, x.2.2.2.2.2.1, x.2.2.2.2.2.2.1)

theorem sHalfWay_l18_k (L : Loops) (hn : L_sHalfWay_l18.n = L.n) (hlv : L_sHalfWay_l18.lv 18 = L.lv 18) (hL : ∀ vs bs, L.loop 18 vs bs = toldL S_sHalfWay_l18 X_sHalfWay_l18 (fun x => sHalfWay_l18 x.1 x.2.1 x.2.2.1 x.2.2.2.1 x.2.2.2.2.1 x.2.2.2.2.2.1 x.2.2.2.2.2.2.1 x.2.2.2.2.2.2.2) vs bs) : LOk Try.prog (envTo Try.prog C7 mtab0) L 18 (loopC (loopC (bodyOf Try.f31) 8) 18) := toldL_ok (L1 := L_sHalfWay_l18) (envTo_ok (C7_ok) (mtab0_ok _)) mixedO hn hlv (loopFree_ok (by kernel_rfl)) sHalfWay_l18_r hL

def S_sHalfWay_l8 : Shp := ⟨[.h, .h, .slw 0 1, .h], [.arr [.i .i64] false], [.sl [.sl [.i .i64]], .i .i64, .i .i64, .sl [.i .i64]]⟩
def X_sHalfWay_l8 : List XShp := [(.exit 0, ⟨[.undef, .undef, .slw 0 1, .undef], [.arr [.i .i64] false], [.sl [.i .i64]]⟩)]

noncomputable def L_sHalfWay_l8 : Loops := (⟨86, lvT [(18, [0, 4, 5, 6, 7, 9, 10, 11]), (12, [0, 4, 5, 6, 7, 8]), (8, [0, 4, 5, 6])], mdT [(18, .exit 4, [], [7, 9, 11]), (12, .exit 2, [], [8]), (8, .exit 0, [], [0, 4, 6])], fun k vs bs => bif Nat.beq k 18 then toldL S_sHalfWay_l18 X_sHalfWay_l18 (fun x => sHalfWay_l18 x.1 x.2.1 x.2.2.1 x.2.2.2.1 x.2.2.2.2.1 x.2.2.2.2.2.1 x.2.2.2.2.2.2.1 x.2.2.2.2.2.2.2) vs bs else bif Nat.beq k 12 then toldL S_sHalfWay_l12 X_sHalfWay_l12 (fun x => sHalfWay_l12 x.1 x.2.1 x.2.2.1 x.2.2.2.1 x.2.2.2.2.1 x.2.2.2.2.2) vs bs else .bad⟩ : Loops)

theorem sHalfWay_l8_e (s : List (List Int) × Int × Int × List Int) : (loopStep (envTo Try.prog C7 mtab0) L_sHalfWay_l8 8 (loopC (bodyOf Try.f31) 8) (S_sHalfWay_l8.enc (s.1, s.2.1, s.2.2.1, s.2.2.2)).1 (S_sHalfWay_l8.enc (s.1, s.2.1, s.2.2.1, s.2.2.2)).2).to (stepD S_sHalfWay_l8 X_sHalfWay_l8) = (sHalfWay_l8_t  s.1 s.2.1 s.2.2.1 s.2.2.2).map (Sum.map (fun s : List (List Int) × Int × Int × List Int => (show DR S_sHalfWay_l8.hs from (s.1, s.2.1, s.2.2.1, s.2.2.2))) id) := by kernel_rfl

theorem sHalfWay_l8_r (x : DR S_sHalfWay_l8.hs) : (sHalfWay_l8 x.1 x.2.1 x.2.2.1 x.2.2.2 : Option (SumD (X_sHalfWay_l8.map (·.2)))) = runL (meanS (envTo Try.prog C7 mtab0) L_sHalfWay_l8 8 (loopC (bodyOf Try.f31) 8) S_sHalfWay_l8 X_sHalfWay_l8) x := run_of (fun s : List (List Int) × Int × Int × List Int => (show DR S_sHalfWay_l8.hs from (s.1, s.2.1, s.2.2.1, s.2.2.2))) (sHalfWay_l8_e ) (x.1, x.2.1, x.2.2.1, x.2.2.2)

theorem sHalfWay_l8_k (L : Loops) (hn : L_sHalfWay_l8.n = L.n) (hlv : L_sHalfWay_l8.lv 8 = L.lv 8) (hL : ∀ vs bs, L.loop 8 vs bs = toldL S_sHalfWay_l8 X_sHalfWay_l8 (fun x => sHalfWay_l8 x.1 x.2.1 x.2.2.1 x.2.2.2) vs bs) : LOk Try.prog (envTo Try.prog C7 mtab0) L 8 (loopC (bodyOf Try.f31) 8) := toldL_ok (L1 := L_sHalfWay_l8) (envTo_ok (C7_ok) (mtab0_ok _)) mixedO hn hlv (loopsL (l := [(12, loopC (loopC (bodyOf Try.f31) 8) 12), (18, loopC (loopC (bodyOf Try.f31) 8) 18)]) (by kernel_rfl) (lk_cons (sHalfWay_l12_k _ rfl rfl (fun _ _ => rfl)) (lk_cons (sHalfWay_l18_k _ rfl rfl (fun _ _ => rfl)) lk_nil))) sHalfWay_l8_r hL

def A_sHalfWay : Shp := ⟨[.h], [], [.sl [.sl [.i .i64]]]⟩
def R_sHalfWay : List XShp := [(.ret, ⟨[.tup [.nils, .lb false]], [], []⟩), (.ret, ⟨[.tup [.slw 0 1, .lb true]], [.arr [.i .i64] false], [.sl [.i .i64]]⟩)]

noncomputable def L_sHalfWay : Loops := (⟨86, lvT [(18, [0, 4, 5, 6, 7, 9, 10, 11]), (12, [0, 4, 5, 6, 7, 8]), (8, [0, 4, 5, 6])], mdT [(18, .exit 4, [], [7, 9, 11]), (12, .exit 2, [], [8]), (8, .exit 0, [], [0, 4, 6])], fun k vs bs => bif Nat.beq k 8 then toldL S_sHalfWay_l8 X_sHalfWay_l8 (fun x => sHalfWay_l8 x.1 x.2.1 x.2.2.1 x.2.2.2) vs bs else .bad⟩ : Loops)

theorem sHalfWay_e (x : DR A_sHalfWay.hs) : (evFn (envTo Try.prog C7 mtab0) L_sHalfWay Try.f31 (A_sHalfWay.enc x).1).to (fun q => decX R_sHalfWay .ret [q.1] q.2) = sHalfWay_t x := by kernel_rfl

theorem sHalfWay_m (x : DR A_sHalfWay.hs) : meanF (envTo Try.prog C7 mtab0) L_sHalfWay Try.f31 A_sHalfWay R_sHalfWay x = (show Option (SumD (R_sHalfWay.map (·.2))) from sHalfWay x) := meanF_of (sHalfWay_e x)

theorem sHalfWay_ok : SpecOk Try.prog 31 (evFn (envTo Try.prog C7 mtab0) L_sHalfWay Try.f31) := fnL_ok (envTo_ok (C7_ok) (mtab0_ok _)) mixedO Try.func31 (by kernel_rfl) (c := bodyOf Try.f31) (by kernel_rfl) (loopsL (l := [(8, loopC (bodyOf Try.f31) 8)]) (by kernel_rfl) (lk_cons (sHalfWay_l8_k _ rfl rfl (fun _ _ => rfl)) lk_nil))

theorem sHalfWay_told : SpecOk Try.prog 31 (toldO A_sHalfWay R_sHalfWay (fun x => sHalfWay x) (C7 31)) := toldO_ok (by kernel_rfl) sHalfWay_ok (rest_ok (C7_ok) _) sHalfWay_m

noncomputable def C8 : Tab := tab 31 (toldO A_sHalfWay R_sHalfWay (fun x => sHalfWay x) (C7 31)) C7
theorem C8_ok : TabOk Try.prog C8 := tab_ok (sHalfWay_told) (C7_ok)

def A_iwithin : Shp := ⟨[.h, .h, .h], [], [.i .i64, .i .i64, .i .i64]⟩
def R_iwithin : List XShp := [(.ret, ⟨[.h], [], [.b]⟩)]

theorem iwithin_e (x : DR A_iwithin.hs) : (evFn (envTo Try.prog C8 mtab0) noLoops Try.f68 (A_iwithin.enc x).1).to (fun q => decX R_iwithin .ret [q.1] q.2) = iwithin_t x.1 x.2.1 x.2.2 := by kernel_rfl

theorem iwithin_m (x : DR A_iwithin.hs) : meanF (envTo Try.prog C8 mtab0) noLoops Try.f68 A_iwithin R_iwithin x = some (show SumD (R_iwithin.map (·.2)) from iwithin x.1 x.2.1 x.2.2) := @meanF_tot _ _ _ _ _ _ _ (iwithin_e x) (show Inhabited (Bool) from inferInstance) (by kernel_rfl)

theorem iwithin_ok : SpecOk Try.prog 68 (evFn (envTo Try.prog C8 mtab0) noLoops Try.f68) := fnL_ok (envTo_ok (C8_ok) (mtab0_ok _)) mixedO Try.func68 (by kernel_rfl) (c := bodyOf Try.f68) (by kernel_rfl) (loopFree_ok (by kernel_rfl))

theorem iwithin_told : SpecOk Try.prog 68 (toldT A_iwithin R_iwithin (fun x => iwithin x.1 x.2.1 x.2.2) (C8 68)) := toldT_ok (by kernel_rfl) iwithin_ok (rest_ok (C8_ok) _) iwithin_m

noncomputable def C9 : Tab := tab 68 (toldT A_iwithin R_iwithin (fun x => iwithin x.1 x.2.1 x.2.2) (C8 68)) C8
theorem C9_ok : TabOk Try.prog C9 := tab_ok (iwithin_told) (C8_ok)

def A_iareWithin_1 : Shp := ⟨[.h, .dpt [.h] 0, .dpt [.h] 0], [], [.i .i64, .i .i64, .i .i64]⟩
def R_iareWithin_1 : List XShp := [(.ret, ⟨[.h], [], [.b]⟩)]

theorem iareWithin_1_e (x : DR A_iareWithin_1.hs) : (evFn (envTo Try.prog C9 mtab0) noLoops Try.f91 (A_iareWithin_1.enc x).1).to (fun q => decX R_iareWithin_1 .ret [q.1] q.2) = iareWithin_1_t x.1 x.2.1 x.2.2 := by kernel_rfl

theorem iareWithin_1_m (x : DR A_iareWithin_1.hs) : meanF (envTo Try.prog C9 mtab0) noLoops Try.f91 A_iareWithin_1 R_iareWithin_1 x = some (show SumD (R_iareWithin_1.map (·.2)) from iareWithin_1 x.1 x.2.1 x.2.2) := @meanF_tot _ _ _ _ _ _ _ (iareWithin_1_e x) (show Inhabited (Bool) from inferInstance) (by kernel_rfl)

theorem iareWithin_1_ok : SpecOk Try.prog 91 (evFn (envTo Try.prog C9 mtab0) noLoops Try.f91) := fnL_ok (envTo_ok (C9_ok) (mtab0_ok _)) mixedO Try.func91 (by kernel_rfl) (c := bodyOf Try.f91) (by kernel_rfl) (loopFree_ok (by kernel_rfl))

theorem iareWithin_1_told : SpecOk Try.prog 91 (toldT A_iareWithin_1 R_iareWithin_1 (fun x => iareWithin_1 x.1 x.2.1 x.2.2) (C9 91)) := toldT_ok (by kernel_rfl) iareWithin_1_ok (rest_ok (C9_ok) _) iareWithin_1_m

noncomputable def C10 : Tab := tab 91 (toldT A_iareWithin_1 R_iareWithin_1 (fun x => iareWithin_1 x.1 x.2.1 x.2.2) (C9 91)) C9
theorem C10_ok : TabOk Try.prog C10 := tab_ok (iareWithin_1_told) (C9_ok)

def S_lIndexFunc_iareWithin_1_l2 : Shp := ⟨[.h, .fn 91 [.dpt [.h] 0, .dpt [.h] 0], .undef, .h, .h], [], [.sl [.i .i64], .i .i64, .i .i64, .i .i64, .i .i64]⟩
def X_lIndexFunc_iareWithin_1_l2 : List XShp := [(.ret, ⟨[.undef, .undef, .h, .undef, .undef], [], [.i .i64]⟩), (.exit 0, ⟨[.undef, .undef, .undef, .undef, .undef], [], []⟩)]

noncomputable def L_lIndexFunc_iareWithin_1_l2 : Loops := (⟨19, lvT [(2, [0, 1, 4, 7, 8])], mdT [(2, .normal, [], [4]), (2, .exit 0, [], [0, 1, 4, 7, 8]), (2, .ret, [], [0, 1, 7, 8])], fun k vs bs => .bad⟩ : Loops)

theorem lIndexFunc_iareWithin_1_l2_e (y0 : List Int) (y1 : Int) (y2 : Int) (y3 : Int) (s : Int) : (loopStep (envTo Try.prog C10 mtab0) L_lIndexFunc_iareWithin_1_l2 2 (loopC (bodyOf Try.f95) 2) (S_lIndexFunc_iareWithin_1_l2.enc (y0, y1, y2, y3, s)).1 (S_lIndexFunc_iareWithin_1_l2.enc (y0, y1, y2, y3, s)).2).to (stepD S_lIndexFunc_iareWithin_1_l2 X_lIndexFunc_iareWithin_1_l2) = (lIndexFunc_iareWithin_1_l2_t y0 y1 y2 y3 s).map (Sum.map (fun s : Int => (show DR S_lIndexFunc_iareWithin_1_l2.hs from (y0, y1, y2, y3, s))) id) := by kernel_rfl

theorem lIndexFunc_iareWithin_1_l2_r (x : DR S_lIndexFunc_iareWithin_1_l2.hs) : (lIndexFunc_iareWithin_1_l2 x.1 x.2.1 x.2.2.1 x.2.2.2.1 x.2.2.2.2 : Option (SumD (X_lIndexFunc_iareWithin_1_l2.map (·.2)))) = runL (meanS (envTo Try.prog C10 mtab0) L_lIndexFunc_iareWithin_1_l2 2 (loopC (bodyOf Try.f95) 2) S_lIndexFunc_iareWithin_1_l2 X_lIndexFunc_iareWithin_1_l2) x := run_of (fun s : Int => (show DR S_lIndexFunc_iareWithin_1_l2.hs from (x.1, x.2.1, x.2.2.1, x.2.2.2.1, s))) (lIndexFunc_iareWithin_1_l2_e (x.1) (x.2.1) (x.2.2.1) (x.2.2.2.1)) x.2.2.2.2

theorem lIndexFunc_iareWithin_1_l2_k (L : Loops) (hn : L_lIndexFunc_iareWithin_1_l2.n = L.n) (hlv : L_lIndexFunc_iareWithin_1_l2.lv 2 = L.lv 2) (hL : ∀ vs bs, L.loop 2 vs bs = toldL S_lIndexFunc_iareWithin_1_l2 X_lIndexFunc_iareWithin_1_l2 (fun x => lIndexFunc_iareWithin_1_l2 x.1 x.2.1 x.2.2.1 x.2.2.2.1 x.2.2.2.2) vs bs) : LOk Try.prog (envTo Try.prog C10 mtab0) L 2 (loopC (bodyOf Try.f95) 2) := toldL_ok (L1 := L_lIndexFunc_iareWithin_1_l2) (envTo_ok (C10_ok) (mtab0_ok _)) mixedO hn hlv (loopFree_ok (by kernel_rfl)) lIndexFunc_iareWithin_1_l2_r hL

def A_lIndexFunc_iareWithin_1 : Shp := ⟨[.h, .fn 91 [.dpt [.h] 0, .dpt [.h] 0]], [], [.sl [.i .i64], .i .i64, .i .i64]⟩
def R_lIndexFunc_iareWithin_1 : List XShp := [(.ret, ⟨[.h], [], [.i .i64]⟩)]

noncomputable def L_lIndexFunc_iareWithin_1 : Loops := (⟨19, lvT [(2, [0, 1, 4, 7, 8])], mdT [(2, .normal, [], [4]), (2, .exit 0, [], [0, 1, 4, 7, 8]), (2, .ret, [], [0, 1, 7, 8])], fun k vs bs => bif Nat.beq k 2 then toldL S_lIndexFunc_iareWithin_1_l2 X_lIndexFunc_iareWithin_1_l2 (fun x => lIndexFunc_iareWithin_1_l2 x.1 x.2.1 x.2.2.1 x.2.2.2.1 x.2.2.2.2) vs bs else .bad⟩ : Loops)

theorem lIndexFunc_iareWithin_1_e (x : DR A_lIndexFunc_iareWithin_1.hs) : (evFn (envTo Try.prog C10 mtab0) L_lIndexFunc_iareWithin_1 Try.f95 (A_lIndexFunc_iareWithin_1.enc x).1).to (fun q => decX R_lIndexFunc_iareWithin_1 .ret [q.1] q.2) = lIndexFunc_iareWithin_1_t x.1 x.2.1 x.2.2 := by kernel_rfl

theorem lIndexFunc_iareWithin_1_m (x : DR A_lIndexFunc_iareWithin_1.hs) : meanF (envTo Try.prog C10 mtab0) L_lIndexFunc_iareWithin_1 Try.f95 A_lIndexFunc_iareWithin_1 R_lIndexFunc_iareWithin_1 x = (show Option (SumD (R_lIndexFunc_iareWithin_1.map (·.2))) from lIndexFunc_iareWithin_1 x.1 x.2.1 x.2.2) := meanF_of (lIndexFunc_iareWithin_1_e x)

theorem lIndexFunc_iareWithin_1_ok : SpecOk Try.prog 95 (evFn (envTo Try.prog C10 mtab0) L_lIndexFunc_iareWithin_1 Try.f95) := fnL_ok (envTo_ok (C10_ok) (mtab0_ok _)) mixedO Try.func95 (by kernel_rfl) (c := bodyOf Try.f95) (by kernel_rfl) (loopsL (l := [(2, loopC (bodyOf Try.f95) 2)]) (by kernel_rfl) (lk_cons (lIndexFunc_iareWithin_1_l2_k _ rfl rfl (fun _ _ => rfl)) lk_nil))

theorem lIndexFunc_iareWithin_1_told : SpecOk Try.prog 95 (toldO A_lIndexFunc_iareWithin_1 R_lIndexFunc_iareWithin_1 (fun x => lIndexFunc_iareWithin_1 x.1 x.2.1 x.2.2) (C10 95)) := toldO_ok (by kernel_rfl) lIndexFunc_iareWithin_1_ok (rest_ok (C10_ok) _) lIndexFunc_iareWithin_1_m

noncomputable def C11 : Tab := tab 95 (toldO A_lIndexFunc_iareWithin_1 R_lIndexFunc_iareWithin_1 (fun x => lIndexFunc_iareWithin_1 x.1 x.2.1 x.2.2) (C10 95)) C10
theorem C11_ok : TabOk Try.prog C11 := tab_ok (lIndexFunc_iareWithin_1_told) (C10_ok)

def A_lContainsFunc_iareWithin_1 : Shp := ⟨[.h, .fn 91 [.dpt [.h] 0, .dpt [.h] 0]], [], [.sl [.i .i64], .i .i64, .i .i64]⟩
def R_lContainsFunc_iareWithin_1 : List XShp := [(.ret, ⟨[.h], [], [.b]⟩)]

theorem lContainsFunc_iareWithin_1_e (x : DR A_lContainsFunc_iareWithin_1.hs) : (evFn (envTo Try.prog C11 mtab0) noLoops Try.f90 (A_lContainsFunc_iareWithin_1.enc x).1).to (fun q => decX R_lContainsFunc_iareWithin_1 .ret [q.1] q.2) = lContainsFunc_iareWithin_1_t x.1 x.2.1 x.2.2 := by kernel_rfl

theorem lContainsFunc_iareWithin_1_m (x : DR A_lContainsFunc_iareWithin_1.hs) : meanF (envTo Try.prog C11 mtab0) noLoops Try.f90 A_lContainsFunc_iareWithin_1 R_lContainsFunc_iareWithin_1 x = (show Option (SumD (R_lContainsFunc_iareWithin_1.map (·.2))) from lContainsFunc_iareWithin_1 x.1 x.2.1 x.2.2) := meanF_of (lContainsFunc_iareWithin_1_e x)

theorem lContainsFunc_iareWithin_1_ok : SpecOk Try.prog 90 (evFn (envTo Try.prog C11 mtab0) noLoops Try.f90) := fnL_ok (envTo_ok (C11_ok) (mtab0_ok _)) mixedO Try.func90 (by kernel_rfl) (c := bodyOf Try.f90) (by kernel_rfl) (loopFree_ok (by kernel_rfl))

theorem lContainsFunc_iareWithin_1_told : SpecOk Try.prog 90 (toldO A_lContainsFunc_iareWithin_1 R_lContainsFunc_iareWithin_1 (fun x => lContainsFunc_iareWithin_1 x.1 x.2.1 x.2.2) (C11 90)) := toldO_ok (by kernel_rfl) lContainsFunc_iareWithin_1_ok (rest_ok (C11_ok) _) lContainsFunc_iareWithin_1_m

noncomputable def C12 : Tab := tab 90 (toldO A_lContainsFunc_iareWithin_1 R_lContainsFunc_iareWithin_1 (fun x => lContainsFunc_iareWithin_1 x.1 x.2.1 x.2.2) (C11 90)) C11
theorem C12_ok : TabOk Try.prog C12 := tab_ok (lContainsFunc_iareWithin_1_told) (C11_ok)

def A_iareWithin : Shp := ⟨[.h, .h, .h], [], [.sl [.i .i64], .i .i64, .i .i64]⟩
def R_iareWithin : List XShp := [(.ret, ⟨[.h], [], [.b]⟩)]

theorem iareWithin_e (x : DR A_iareWithin.hs) : (evFn (envTo Try.prog C12 mtab0) noLoops Try.f72 (A_iareWithin.enc x).1).to (fun q => decX R_iareWithin .ret [q.1] q.2) = iareWithin_t x.1 x.2.1 x.2.2 := by kernel_rfl

theorem iareWithin_m (x : DR A_iareWithin.hs) : meanF (envTo Try.prog C12 mtab0) noLoops Try.f72 A_iareWithin R_iareWithin x = (show Option (SumD (R_iareWithin.map (·.2))) from iareWithin x.1 x.2.1 x.2.2) := meanF_of (iareWithin_e x)

theorem iareWithin_ok : SpecOk Try.prog 72 (evFn (envTo Try.prog C12 mtab0) noLoops Try.f72) := fnL_ok (envTo_ok (C12_ok) (mtab0_ok _)) mixedO Try.func72 (by kernel_rfl) (c := bodyOf Try.f72) (by kernel_rfl) (loopFree_ok (by kernel_rfl))

theorem iareWithin_told : SpecOk Try.prog 72 (toldO A_iareWithin R_iareWithin (fun x => iareWithin x.1 x.2.1 x.2.2) (C12 72)) := toldO_ok (by kernel_rfl) iareWithin_ok (rest_ok (C12_ok) _) iareWithin_m

noncomputable def C13 : Tab := tab 72 (toldO A_iareWithin R_iareWithin (fun x => iareWithin x.1 x.2.1 x.2.2) (C12 72)) C12
theorem C13_ok : TabOk Try.prog C13 := tab_ok (iareWithin_told) (C12_ok)

def S_iHalfWay_l10 : Shp := ⟨[.h, .slw 0 1, .h, .h, .h, .h, .h, .h], [.arr [.i .i64] false], [.sl [.sl [.i .i64]], .sl [.sl [.i .i64]], .i .i64, .i .i64, .sl [.i .i64], .i .i64, .i .i64, .sl [.i .i64]]⟩
def X_iHalfWay_l10 : List XShp := [(.exit 2, ⟨[.h, .slw 0 1, .h, .h, .h, .undef, .undef, .undef], [.arr [.i .i64] false], [.sl [.sl [.i .i64]], .sl [.sl [.i .i64]], .i .i64, .i .i64, .sl [.i .i64]]⟩)]

noncomputable def L_iHalfWay_l10 : Loops := (⟨96, lvT [(21, [0, 9, 10, 11, 12, 65, 66, 67, 72, 73, 74]), (17, [0, 9, 65, 66, 67]), (10, [0, 4, 32, 33, 34, 48, 49, 50]), (5, [0, 2, 3, 4, 32, 33, 34])], mdT [(21, .exit 6, [], [10, 11, 12, 72, 73, 74]), (17, .exit 4, [], [0, 65, 66, 67]), (10, .exit 2, [], [48, 49, 50]), (5, .normal, [], [2, 3]), (5, .exit 0, [], [2, 3, 32, 33, 34]), (5, .ret, [], [0, 4, 32, 33, 34])], fun k vs bs => .bad⟩ : Loops)

theorem iHalfWay_l10_e (y0 : List (List Int)) (y1 : List (List Int)) (y2 : Int) (y3 : Int) (y4 : List Int) (y5 : Int) (s : Int × List Int) : (loopStep (envTo Try.prog C13 mtab0) L_iHalfWay_l10 10 (loopC (loopC (bodyOf Try.f33) 5) 10) (S_iHalfWay_l10.enc (y0, y1, y2, y3, y4, y5, s.1, s.2)).1 (S_iHalfWay_l10.enc (y0, y1, y2, y3, y4, y5, s.1, s.2)).2).to (stepD S_iHalfWay_l10 X_iHalfWay_l10) = (iHalfWay_l10_t y0 y1 y2 y3 y4 y5 s.1 s.2).map (Sum.map (fun s : Int × List Int => (show DR S_iHalfWay_l10.hs from (y0, y1, y2, y3, y4, y5, s.1, s.2))) id) := by kernel_rfl

theorem iHalfWay_l10_r (x : DR S_iHalfWay_l10.hs) : (iHalfWay_l10 x.1 x.2.1 x.2.2.1 x.2.2.2.1 x.2.2.2.2.1 x.2.2.2.2.2.1 x.2.2.2.2.2.2.1 x.2.2.2.2.2.2.2 : Option (SumD (X_iHalfWay_l10.map (·.2)))) = runL (meanS (envTo Try.prog C13 mtab0) L_iHalfWay_l10 10 (loopC (loopC (bodyOf Try.f33) 5) 10) S_iHalfWay_l10 X_iHalfWay_l10) x := run_of (fun s : Int × List Int => (show DR S_iHalfWay_l10.hs from (x.1, x.2.1, x.2.2.1, x.2.2.2.1, x.2.2.2.2.1, x.2.2.2.2.2.1, s.1, s.2))) (iHalfWay_l10_e (x.1) (x.2.1) (x.2.2.1) (x.2.2.2.1) (x.2.2.2.2.1) (x.2.2.2.2.2.1)) (x.2.2.2.2.2.2.1, x.2.2.2.2.2.2.2)

theorem iHalfWay_l10_k (L : Loops) (hn : L_iHalfWay_l10.n = L.n) (hlv : L_iHalfWay_l10.lv 10 = L.lv 10) (hL : ∀ vs bs, L.loop 10 vs bs = toldL S_iHalfWay_l10 X_iHalfWay_l10 (fun x => iHalfWay_l10 x.1 x.2.1 x.2.2.1 x.2.2.2.1 x.2.2.2.2.1 x.2.2.2.2.2.1 x.2.2.2.2.2.2.1 x.2.2.2.2.2.2.2) vs bs) : LOk Try.prog (envTo Try.prog C13 mtab0) L 10 (loopC (loopC (bodyOf Try.f33) 5) 10) := toldL_ok (L1 := L_iHalfWay_l10) (envTo_ok (C13_ok) (mtab0_ok _)) mixedO hn hlv (loopFree_ok (by kernel_rfl)) iHalfWay_l10_r hL

def S_iHalfWay_l21 : Shp := ⟨[.h, .slw 0 1, .h, .h, .h, .slw 1 1, .h, .h, .h, .h, .h], [.arr [.i .i64] false, .arr [.i .i64] false], [.sl [.sl [.i .i64]], .i .i64, .i .i64, .i .i64, .i .i64, .i .i64, .sl [.sl [.i .i64]], .i .i64, .i .i64, .sl [.i .i64], .sl [.i .i64]]⟩
def X_iHalfWay_l21 : List XShp := [(.exit 6, ⟨[.h, .slw 0 1, .undef, .undef, .undef, .slw 1 1, .h, .h, .undef, .undef, .undef], [.arr [.i .i64] false, .arr [.i .i64] false], [.sl [.sl [.i .i64]], .i .i64, .i .i64, .sl [.i .i64], .sl [.i .i64]]⟩)]

noncomputable def L_iHalfWay_l21 : Loops := (⟨96, lvT [(21, [0, 9, 10, 11, 12, 65, 66, 67, 72, 73, 74]), (17, [0, 9, 65, 66, 67]), (10, [0, 4, 32, 33, 34, 48, 49, 50]), (5, [0, 2, 3, 4, 32, 33, 34])], mdT [(21, .exit 6, [], [10, 11, 12, 72, 73, 74]), (17, .exit 4, [], [0, 65, 66, 67]), (10, .exit 2, [], [48, 49, 50]), (5, .normal, [], [2, 3]), (5, .exit 0, [], [2, 3, 32, 33, 34]), (5, .ret, [], [0, 4, 32, 33, 34])], fun k vs bs => .bad⟩ : Loops)

theorem iHalfWay_l21_e (y0 : List (List Int)) (y1 : Int) (y2 : Int) (y4 : Int) (y5 : Int) (y6 : List (List Int)) (y7 : Int) (y9 : List Int) (y10 : List Int) (s : Int × Int) : (loopStep (envTo Try.prog C13 mtab0) L_iHalfWay_l21 21 (loopC (loopC (bodyOf Try.f33) 17) 21) (S_iHalfWay_l21.enc (y0, y1, y2, s.1, y4, y5, y6, y7, s.2, y9, y10)).1 (S_iHalfWay_l21.enc (y0, y1, y2, s.1, y4, y5, y6, y7, s.2, y9, y10)).2).to (stepD S_iHalfWay_l21 X_iHalfWay_l21) = (iHalfWay_l21_t y0 y1 y2 y4 y5 y6 y7 y9 y10 s.1 s.2).map (Sum.map (fun s : Int × Int => (show DR S_iHalfWay_l21.hs from (y0, y1, y2, s.1, y4, y5, y6, y7, s.2, y9, y10))) id) := by kernel_rfl

theorem iHalfWay_l21_r (x : DR S_iHalfWay_l21.hs) : (iHalfWay_l21 x.1 x.2.1 x.2.2.1 x.2.2.2.1 x.2.2.2.2.1 x.2.2.2.2.2.1 x.2.2.2.2.2.2.1 x.2.2.2.2.2.2.2.1 x.2.2.2.2.2.2.2.2.1 x.2.2.2.2.2.2.2.2.2.1 x.2.2.2.2.2.2.2.2.2.2 : Option (SumD (X_iHalfWay_l21.map (·.2)))) = runL (meanS (envTo Try.prog C13 mtab0) L_iHalfWay_l21 21 (loopC (loopC (bodyOf Try.f33) 17) 21) S_iHalfWay_l21 X_iHalfWay_l21) x := run_of (fun s : Int × Int => (show DR S_iHalfWay_l21.hs from (x.1, x.2.1, x.2.2.1, s.1, x.2.2.2.2.1, x.2.2.2.2.2.1, x.2.2.2.2.2.2.1, x.2.2.2.2.2.2.2.1, s.2, x.2.2.2.2.2.2.2.2.2.1, x.2.2.2.2.2.2.2.2.2.2))) (iHalfWay_l21_e (x.1) (x.2.1) (x.2.2.1) (x.2.2.2.2.1) (x.2.2.2.2.2.1) (x.2.2.2.2.2.2.1) (x.2.2.2.2.2.2.2.1) (x.2.2.2.2.2.2.2.2.2.1) (x.2.2.2.2.2.2.2.2.2.2)) (x.2.2.2.1, x.2.2.2.2.2.2.2.2.1)

theorem iHalfWay_l21_k (L : Loops) (hn : L_iHalfWay_l21.n = L.n) (hlv : L_iHalfWay_l21.lv 21 = L.lv 21) (hL : ∀ vs bs, L.loop 21 vs bs = toldL S_iHalfWay_l21 X_iHalfWay_l21 (fun x => iHalfWay_l21 x.1 x.2.1 x.2.2.1 x.2.2.2.1 x.2.2.2.2.1 x.2.2.2.2.2.1 x.2.2.2.2.2.2.1 x.2.2.2.2.2.2.2.1 x.2.2.2.2.2.2.2.2.1 x.2.2.2.2.2.2.2.2.2.1 x.2.2.2.2.2.2.2.2.2.2) vs bs) : LOk Try.prog (envTo Try.prog C13 mtab0) L 21 (loopC (loopC (bodyOf Try.f33) 17) 21) := toldL_ok (L1 := L_iHalfWay_l21) (envTo_ok (C13_ok) (mtab0_ok _)) mixedO hn hlv (loopFree_ok (by kernel_rfl)) iHalfWay_l21_r hL

def S_iHalfWay_l5 : Shp := ⟨[.h, .undef, .undef, .slw 0 1, .h, .h, .h], [.arr [.i .i64] false], [.sl [.sl [.i .i64]], .sl [.sl [.i .i64]], .i .i64, .i .i64, .sl [.i .i64]]⟩
def X_iHalfWay_l5 : List XShp := [(.ret, ⟨[.undef, .nils, .lb false, .undef, .undef, .undef, .undef], [], []⟩), (.exit 0, ⟨[.h, .undef, .undef, .slw 0 1, .undef, .undef, .undef], [.arr [.i .i64] false], [.sl [.sl [.i .i64]], .sl [.i .i64]]⟩)]

noncomputable def L_iHalfWay_l5 : Loops := (⟨96, lvT [(21, [0, 9, 10, 11, 12, 65, 66, 67, 72, 73, 74]), (17, [0, 9, 65, 66, 67]), (10, [0, 4, 32, 33, 34, 48, 49, 50]), (5, [0, 2, 3, 4, 32, 33, 34])], mdT [(21, .exit 6, [], [10, 11, 12, 72, 73, 74]), (17, .exit 4, [], [0, 65, 66, 67]), (10, .exit 2, [], [48, 49, 50]), (5, .normal, [], [2, 3]), (5, .exit 0, [], [2, 3, 32, 33, 34]), (5, .ret, [], [0, 4, 32, 33, 34])], fun k vs bs => bif Nat.beq k 10 then toldL S_iHalfWay_l10 X_iHalfWay_l10 (fun x => iHalfWay_l10 x.1 x.2.1 x.2.2.1 x.2.2.2.1 x.2.2.2.2.1 x.2.2.2.2.2.1 x.2.2.2.2.2.2.1 x.2.2.2.2.2.2.2) vs bs else .bad⟩ : Loops)

theorem iHalfWay_l5_e (s : List (List Int) × List (List Int) × Int × Int × List Int) : (loopStep (envTo Try.prog C13 mtab0) L_iHalfWay_l5 5 (loopC (bodyOf Try.f33) 5) (S_iHalfWay_l5.enc (s.1, s.2.1, s.2.2.1, s.2.2.2.1, s.2.2.2.2)).1 (S_iHalfWay_l5.enc (s.1, s.2.1, s.2.2.1, s.2.2.2.1, s.2.2.2.2)).2).to (stepD S_iHalfWay_l5 X_iHalfWay_l5) = (iHalfWay_l5_t  s.1 s.2.1 s.2.2.1 s.2.2.2.1 s.2.2.2.2).map (Sum.map (fun s : List (List Int) × List (List Int) × Int × Int × List Int => (show DR S_iHalfWay_l5.hs from (s.1, s.2.1, s.2.2.1, s.2.2.2.1, s.2.2.2.2))) id) := by kernel_rfl

theorem iHalfWay_l5_r (x : DR S_iHalfWay_l5.hs) : (iHalfWay_l5 x.1 x.2.1 x.2.2.1 x.2.2.2.1 x.2.2.2.2 : Option (SumD (X_iHalfWay_l5.map (·.2)))) = runL (meanS (envTo Try.prog C13 mtab0) L_iHalfWay_l5 5 (loopC (bodyOf Try.f33) 5) S_iHalfWay_l5 X_iHalfWay_l5) x := run_of (fun s : List (List Int) × List (List Int) × Int × Int × List Int => (show DR S_iHalfWay_l5.hs from (s.1, s.2.1, s.2.2.1, s.2.2.2.1, s.2.2.2.2))) (iHalfWay_l5_e ) (x.1, x.2.1, x.2.2.1, x.2.2.2.1, x.2.2.2.2)

theorem iHalfWay_l5_k (L : Loops) (hn : L_iHalfWay_l5.n = L.n) (hlv : L_iHalfWay_l5.lv 5 = L.lv 5) (hL : ∀ vs bs, L.loop 5 vs bs = toldL S_iHalfWay_l5 X_iHalfWay_l5 (fun x => iHalfWay_l5 x.1 x.2.1 x.2.2.1 x.2.2.2.1 x.2.2.2.2) vs bs) : LOk Try.prog (envTo Try.prog C13 mtab0) L 5 (loopC (bodyOf Try.f33) 5) := toldL_ok (L1 := L_iHalfWay_l5) (envTo_ok (C13_ok) (mtab0_ok _)) mixedO hn hlv (loopsL (l := [(10, loopC (loopC (bodyOf Try.f33) 5) 10)]) (by kernel_rfl) (lk_cons (iHalfWay_l10_k _ rfl rfl (fun _ _ => rfl)) lk_nil)) iHalfWay_l5_r hL

def S_iHalfWay_l17 : Shp := ⟨[.h, .slw 0 1, .slw 1 1, .h, .h], [.arr [.i .i64] false, .arr [.i .i64] false], [.sl [.sl [.i .i64]], .i .i64, .i .i64, .sl [.i .i64], .sl [.i .i64]]⟩
def X_iHalfWay_l17 : List XShp := [(.exit 4, ⟨[.undef, .slw 0 1, .undef, .undef, .undef], [.arr [.i .i64] false], [.sl [.i .i64]]⟩)]

noncomputable def L_iHalfWay_l17 : Loops := (⟨96, lvT [(21, [0, 9, 10, 11, 12, 65, 66, 67, 72, 73, 74]), (17, [0, 9, 65, 66, 67]), (10, [0, 4, 32, 33, 34, 48, 49, 50]), (5, [0, 2, 3, 4, 32, 33, 34])], mdT [(21, .exit 6, [], [10, 11, 12, 72, 73, 74]), (17, .exit 4, [], [0, 65, 66, 67]), (10, .exit 2, [], [48, 49, 50]), (5, .normal, [], [2, 3]), (5, .exit 0, [], [2, 3, 32, 33, 34]), (5, .ret, [], [0, 4, 32, 33, 34])], fun k vs bs => bif Nat.beq k 21 then toldL S_iHalfWay_l21 X_iHalfWay_l21 (fun x => iHalfWay_l21 x.1 x.2.1 x.2.2.1 x.2.2.2.1 x.2.2.2.2.1 x.2.2.2.2.2.1 x.2.2.2.2.2.2.1 x.2.2.2.2.2.2.2.1 x.2.2.2.2.2.2.2.2.1 x.2.2.2.2.2.2.2.2.2.1 x.2.2.2.2.2.2.2.2.2.2) vs bs else .bad⟩ : Loops)

theorem iHalfWay_l17_e (s : List (List Int) × Int × Int × List Int × List Int) : (loopStep (envTo Try.prog C13 mtab0) L_iHalfWay_l17 17 (loopC (bodyOf Try.f33) 17) (S_iHalfWay_l17.enc (s.1, s.2.1, s.2.2.1, s.2.2.2.1, s.2.2.2.2)).1 (S_iHalfWay_l17.enc (s.1, s.2.1, s.2.2.1, s.2.2.2.1, s.2.2.2.2)).2).to (stepD S_iHalfWay_l17 X_iHalfWay_l17) = (iHalfWay_l17_t  s.1 s.2.1 s.2.2.1 s.2.2.2.1 s.2.2.2.2).map (Sum.map (fun s : List (List Int) × Int × Int × List Int × List Int => (show DR S_iHalfWay_l17.hs from (s.1, s.2.1, s.2.2.1, s.2.2.2.1, s.2.2.2.2))) id) := by kernel_rfl

theorem iHalfWay_l17_r (x : DR S_iHalfWay_l17.hs) : (iHalfWay_l17 x.1 x.2.1 x.2.2.1 x.2.2.2.1 x.2.2.2.2 : Option (SumD (X_iHalfWay_l17.map (·.2)))) = runL (meanS (envTo Try.prog C13 mtab0) L_iHalfWay_l17 17 (loopC (bodyOf Try.f33) 17) S_iHalfWay_l17 X_iHalfWay_l17) x := run_of (fun s : List (List Int) × Int × Int × List Int × List Int => (show DR S_iHalfWay_l17.hs from (s.1, s.2.1, s.2.2.1, s.2.2.2.1, s.2.2.2.2))) (iHalfWay_l17_e ) (x.1, x.2.1, x.2.2.1, x.2.2.2.1, x.2.2.2.2)

theorem iHalfWay_l17_k (L : Loops) (hn : L_iHalfWay_l17.n = L.n) (hlv : L_iHalfWay_l17.lv 17 = L.lv 17) (hL : ∀ vs bs, L.loop 17 vs bs = toldL S_iHalfWay_l17 X_iHalfWay_l17 (fun x => iHalfWay_l17 x.1 x.2.1 x.2.2.1 x.2.2.2.1 x.2.2.2.2) vs bs) : LOk Try.prog (envTo Try.prog C13 mtab0) L 17 (loopC (bodyOf Try.f33) 17) := toldL_ok (L1 := L_iHalfWay_l17) (envTo_ok (C13_ok) (mtab0_ok _)) mixedO hn hlv (loopsL (l := [(21, loopC (loopC (bodyOf Try.f33) 17) 21)]) (by kernel_rfl) (lk_cons (iHalfWay_l21_k _ rfl rfl (fun _ _ => rfl)) lk_nil)) iHalfWay_l17_r hL

def A_iHalfWay : Shp := ⟨[.h], [], [.sl [.sl [.i .i64]]]⟩
def R_iHalfWay : List XShp := [(.ret, ⟨[.tup [.nils, .lb false]], [], []⟩), (.ret, ⟨[.tup [.slw 0 1, .lb true]], [.arr [.i .i64] false], [.sl [.i .i64]]⟩)]

noncomputable def L_iHalfWay : Loops := (⟨96, lvT [(21, [0, 9, 10, 11, 12, 65, 66, 67, 72, 73, 74]), (17, [0, 9, 65, 66, 67]), (10, [0, 4, 32, 33, 34, 48, 49, 50]), (5, [0, 2, 3, 4, 32, 33, 34])], mdT [(21, .exit 6, [], [10, 11, 12, 72, 73, 74]), (17, .exit 4, [], [0, 65, 66, 67]), (10, .exit 2, [], [48, 49, 50]), (5, .normal, [], [2, 3]), (5, .exit 0, [], [2, 3, 32, 33, 34]), (5, .ret, [], [0, 4, 32, 33, 34])], fun k vs bs => bif Nat.beq k 17 then toldL S_iHalfWay_l17 X_iHalfWay_l17 (fun x => iHalfWay_l17 x.1 x.2.1 x.2.2.1 x.2.2.2.1 x.2.2.2.2) vs bs else bif Nat.beq k 5 then toldL S_iHalfWay_l5 X_iHalfWay_l5 (fun x => iHalfWay_l5 x.1 x.2.1 x.2.2.1 x.2.2.2.1 x.2.2.2.2) vs bs else .bad⟩ : Loops)

theorem iHalfWay_e (x : DR A_iHalfWay.hs) : (evFn (envTo Try.prog C13 mtab0) L_iHalfWay Try.f33 (A_iHalfWay.enc x).1).to (fun q => decX R_iHalfWay .ret [q.1] q.2) = iHalfWay_t x := by kernel_rfl

theorem iHalfWay_m (x : DR A_iHalfWay.hs) : meanF (envTo Try.prog C13 mtab0) L_iHalfWay Try.f33 A_iHalfWay R_iHalfWay x = (show Option (SumD (R_iHalfWay.map (·.2))) from iHalfWay x) := meanF_of (iHalfWay_e x)

theorem iHalfWay_ok : SpecOk Try.prog 33 (evFn (envTo Try.prog C13 mtab0) L_iHalfWay Try.f33) := fnL_ok (envTo_ok (C13_ok) (mtab0_ok _)) mixedO Try.func33 (by kernel_rfl) (c := bodyOf Try.f33) (by kernel_rfl) (loopsL (l := [(5, loopC (bodyOf Try.f33) 5), (17, loopC (bodyOf Try.f33) 17)]) (by kernel_rfl) (lk_cons (iHalfWay_l5_k _ rfl rfl (fun _ _ => rfl)) (lk_cons (iHalfWay_l17_k _ rfl rfl (fun _ _ => rfl)) lk_nil)))

theorem iHalfWay_told : SpecOk Try.prog 33 (toldO A_iHalfWay R_iHalfWay (fun x => iHalfWay x) (C13 33)) := toldO_ok (by kernel_rfl) iHalfWay_ok (rest_ok (C13_ok) _) iHalfWay_m

noncomputable def C14 : Tab := tab 33 (toldO A_iHalfWay R_iHalfWay (fun x => iHalfWay x) (C13 33)) C13
theorem C14_ok : TabOk Try.prog C14 := tab_ok (iHalfWay_told) (C13_ok)

def S_weqInt64S_l4 : Shp := ⟨[.h, .h, .undef, .h], [], [.sl [.i .i64], .sl [.i .i64], .i .i64]⟩
def X_weqInt64S_l4 : List XShp := [(.ret, ⟨[.undef, .undef, .lb false, .undef], [], []⟩), (.exit 0, ⟨[.undef, .undef, .undef, .undef], [], []⟩)]

noncomputable def L_weqInt64S_l4 : Loops := (⟨26, lvT [(4, [0, 1, 4, 5])], mdT [(4, .normal, [], [4]), (4, .exit 0, [], [0, 1, 4, 5]), (4, .ret, [], [0, 1, 5])], fun k vs bs => .bad⟩ : Loops)

theorem weqInt64S_l4_e (y0 : List Int) (y1 : List Int) (s : Int) : (loopStep (envTo Try.prog C14 mtab0) L_weqInt64S_l4 4 (loopC (bodyOf Try.f18) 4) (S_weqInt64S_l4.enc (y0, y1, s)).1 (S_weqInt64S_l4.enc (y0, y1, s)).2).to (stepD S_weqInt64S_l4 X_weqInt64S_l4) = (weqInt64S_l4_t y0 y1 s).map (Sum.map (fun s : Int => (show DR S_weqInt64S_l4.hs from (y0, y1, s))) id) := by kernel_rfl

theorem weqInt64S_l4_r (x : DR S_weqInt64S_l4.hs) : (weqInt64S_l4 x.1 x.2.1 x.2.2 : Option (SumD (X_weqInt64S_l4.map (·.2)))) = runL (meanS (envTo Try.prog C14 mtab0) L_weqInt64S_l4 4 (loopC (bodyOf Try.f18) 4) S_weqInt64S_l4 X_weqInt64S_l4) x := run_of (fun s : Int => (show DR S_weqInt64S_l4.hs from (x.1, x.2.1, s))) (weqInt64S_l4_e (x.1) (x.2.1)) x.2.2

theorem weqInt64S_l4_k (L : Loops) (hn : L_weqInt64S_l4.n = L.n) (hlv : L_weqInt64S_l4.lv 4 = L.lv 4) (hL : ∀ vs bs, L.loop 4 vs bs = toldL S_weqInt64S_l4 X_weqInt64S_l4 (fun x => weqInt64S_l4 x.1 x.2.1 x.2.2) vs bs) : LOk Try.prog (envTo Try.prog C14 mtab0) L 4 (loopC (bodyOf Try.f18) 4) := toldL_ok (L1 := L_weqInt64S_l4) (envTo_ok (C14_ok) (mtab0_ok _)) mixedO hn hlv (loopFree_ok (by kernel_rfl)) weqInt64S_l4_r hL

def A_weqInt64S : Shp := ⟨[.h, .h], [], [.sl [.i .i64], .sl [.i .i64]]⟩
def R_weqInt64S : List XShp := [(.ret, ⟨[.h], [], [.b]⟩)]

noncomputable def L_weqInt64S : Loops := (⟨26, lvT [(4, [0, 1, 4, 5])], mdT [(4, .normal, [], [4]), (4, .exit 0, [], [0, 1, 4, 5]), (4, .ret, [], [0, 1, 5])], fun k vs bs => bif Nat.beq k 4 then toldL S_weqInt64S_l4 X_weqInt64S_l4 (fun x => weqInt64S_l4 x.1 x.2.1 x.2.2) vs bs else .bad⟩ : Loops)

theorem weqInt64S_e (x : DR A_weqInt64S.hs) : (evFn (envTo Try.prog C14 mtab0) L_weqInt64S Try.f18 (A_weqInt64S.enc x).1).to (fun q => decX R_weqInt64S .ret [q.1] q.2) = weqInt64S_t x.1 x.2 := by kernel_rfl

theorem weqInt64S_m (x : DR A_weqInt64S.hs) : meanF (envTo Try.prog C14 mtab0) L_weqInt64S Try.f18 A_weqInt64S R_weqInt64S x = (show Option (SumD (R_weqInt64S.map (·.2))) from weqInt64S x.1 x.2) := meanF_of (weqInt64S_e x)

theorem weqInt64S_ok : SpecOk Try.prog 18 (evFn (envTo Try.prog C14 mtab0) L_weqInt64S Try.f18) := fnL_ok (envTo_ok (C14_ok) (mtab0_ok _)) mixedO Try.func18 (by kernel_rfl) (c := bodyOf Try.f18) (by kernel_rfl) (loopsL (l := [(4, loopC (bodyOf Try.f18) 4)]) (by kernel_rfl) (lk_cons (weqInt64S_l4_k _ rfl rfl (fun _ _ => rfl)) lk_nil))

theorem weqInt64S_told : SpecOk Try.prog 18 (toldO A_weqInt64S R_weqInt64S (fun x => weqInt64S x.1 x.2) (C14 18)) := toldO_ok (by kernel_rfl) weqInt64S_ok (rest_ok (C14_ok) _) weqInt64S_m

noncomputable def C15 : Tab := tab 18 (toldO A_weqInt64S R_weqInt64S (fun x => weqInt64S x.1 x.2) (C14 18)) C14
theorem C15_ok : TabOk Try.prog C15 := tab_ok (weqInt64S_told) (C14_ok)

def S_weqInt64SS_l4 : Shp := ⟨[.h, .h, .undef, .h], [], [.sl [.sl [.i .i64]], .sl [.sl [.i .i64]], .i .i64]⟩
def X_weqInt64SS_l4 : List XShp := [(.ret, ⟨[.undef, .undef, .lb false, .undef], [], []⟩), (.exit 0, ⟨[.undef, .undef, .undef, .undef], [], []⟩)]

noncomputable def L_weqInt64SS_l4 : Loops := (⟨27, lvT [(4, [0, 1, 4, 5])], mdT [(4, .normal, [], [4]), (4, .exit 0, [], [0, 1, 4, 5]), (4, .ret, [], [0, 1, 5])], fun k vs bs => .bad⟩ : Loops)

theorem weqInt64SS_l4_e (y0 : List (List Int)) (y1 : List (List Int)) (s : Int) : (loopStep (envTo Try.prog C15 mtab0) L_weqInt64SS_l4 4 (loopC (bodyOf Try.f34) 4) (S_weqInt64SS_l4.enc (y0, y1, s)).1 (S_weqInt64SS_l4.enc (y0, y1, s)).2).to (stepD S_weqInt64SS_l4 X_weqInt64SS_l4) = (weqInt64SS_l4_t y0 y1 s).map (Sum.map (fun s : Int => (show DR S_weqInt64SS_l4.hs from (y0, y1, s))) id) := by kernel_rfl

theorem weqInt64SS_l4_r (x : DR S_weqInt64SS_l4.hs) : (weqInt64SS_l4 x.1 x.2.1 x.2.2 : Option (SumD (X_weqInt64SS_l4.map (·.2)))) = runL (meanS (envTo Try.prog C15 mtab0) L_weqInt64SS_l4 4 (loopC (bodyOf Try.f34) 4) S_weqInt64SS_l4 X_weqInt64SS_l4) x := run_of (fun s : Int => (show DR S_weqInt64SS_l4.hs from (x.1, x.2.1, s))) (weqInt64SS_l4_e (x.1) (x.2.1)) x.2.2

theorem weqInt64SS_l4_k (L : Loops) (hn : L_weqInt64SS_l4.n = L.n) (hlv : L_weqInt64SS_l4.lv 4 = L.lv 4) (hL : ∀ vs bs, L.loop 4 vs bs = toldL S_weqInt64SS_l4 X_weqInt64SS_l4 (fun x => weqInt64SS_l4 x.1 x.2.1 x.2.2) vs bs) : LOk Try.prog (envTo Try.prog C15 mtab0) L 4 (loopC (bodyOf Try.f34) 4) := toldL_ok (L1 := L_weqInt64SS_l4) (envTo_ok (C15_ok) (mtab0_ok _)) mixedO hn hlv (loopFree_ok (by kernel_rfl)) weqInt64SS_l4_r hL

def A_weqInt64SS : Shp := ⟨[.h, .h], [], [.sl [.sl [.i .i64]], .sl [.sl [.i .i64]]]⟩
def R_weqInt64SS : List XShp := [(.ret, ⟨[.h], [], [.b]⟩)]

noncomputable def L_weqInt64SS : Loops := (⟨27, lvT [(4, [0, 1, 4, 5])], mdT [(4, .normal, [], [4]), (4, .exit 0, [], [0, 1, 4, 5]), (4, .ret, [], [0, 1, 5])], fun k vs bs => bif Nat.beq k 4 then toldL S_weqInt64SS_l4 X_weqInt64SS_l4 (fun x => weqInt64SS_l4 x.1 x.2.1 x.2.2) vs bs else .bad⟩ : Loops)

theorem weqInt64SS_e (x : DR A_weqInt64SS.hs) : (evFn (envTo Try.prog C15 mtab0) L_weqInt64SS Try.f34 (A_weqInt64SS.enc x).1).to (fun q => decX R_weqInt64SS .ret [q.1] q.2) = weqInt64SS_t x.1 x.2 := by kernel_rfl

theorem weqInt64SS_m (x : DR A_weqInt64SS.hs) : meanF (envTo Try.prog C15 mtab0) L_weqInt64SS Try.f34 A_weqInt64SS R_weqInt64SS x = (show Option (SumD (R_weqInt64SS.map (·.2))) from weqInt64SS x.1 x.2) := meanF_of (weqInt64SS_e x)

theorem weqInt64SS_ok : SpecOk Try.prog 34 (evFn (envTo Try.prog C15 mtab0) L_weqInt64SS Try.f34) := fnL_ok (envTo_ok (C15_ok) (mtab0_ok _)) mixedO Try.func34 (by kernel_rfl) (c := bodyOf Try.f34) (by kernel_rfl) (loopsL (l := [(4, loopC (bodyOf Try.f34) 4)]) (by kernel_rfl) (lk_cons (weqInt64SS_l4_k _ rfl rfl (fun _ _ => rfl)) lk_nil))

theorem weqInt64SS_told : SpecOk Try.prog 34 (toldO A_weqInt64SS R_weqInt64SS (fun x => weqInt64SS x.1 x.2) (C15 34)) := toldO_ok (by kernel_rfl) weqInt64SS_ok (rest_ok (C15_ok) _) weqInt64SS_m

noncomputable def C16 : Tab := tab 34 (toldO A_weqInt64SS R_weqInt64SS (fun x => weqInt64SS x.1 x.2) (C15 34)) C15
theorem C16_ok : TabOk Try.prog C16 := tab_ok (weqInt64SS_told) (C15_ok)

def S_wmarkInt64S_l2 : Shp := ⟨[.slw 0 1, .h, .h], [.arr [.i .i64] false], [.i .i64, .i .i64, .sl [.i .i64]]⟩
def X_wmarkInt64S_l2 : List XShp := [(.exit 0, ⟨[.undef, .h, .undef], [.arr [.i .i64] false], [.i .i64, .sl [.i .i64]]⟩)]

noncomputable def L_wmarkInt64S_l2 : Loops := (⟨19, lvT [(2, [0, 1, 5])], mdT [(2, .exit 0, [], [0, 5])], fun k vs bs => .bad⟩ : Loops)

theorem wmarkInt64S_l2_e (s : Int × Int × List Int) : (loopStep (envWo Try.prog C16 mtab0 1) L_wmarkInt64S_l2 2 (loopC (bodyOf Try.f19) 2) (S_wmarkInt64S_l2.enc (s.1, s.2.1, s.2.2)).1 (S_wmarkInt64S_l2.enc (s.1, s.2.1, s.2.2)).2).to (stepD S_wmarkInt64S_l2 X_wmarkInt64S_l2) = (wmarkInt64S_l2_t  s.1 s.2.1 s.2.2).map (Sum.map (fun s : Int × Int × List Int => (show DR S_wmarkInt64S_l2.hs from (s.1, s.2.1, s.2.2))) id) := by kernel_rfl

theorem wmarkInt64S_l2_r (x : DR S_wmarkInt64S_l2.hs) : (wmarkInt64S_l2 x.1 x.2.1 x.2.2 : Option (SumD (X_wmarkInt64S_l2.map (·.2)))) = runL (meanS (envWo Try.prog C16 mtab0 1) L_wmarkInt64S_l2 2 (loopC (bodyOf Try.f19) 2) S_wmarkInt64S_l2 X_wmarkInt64S_l2) x := run_of (fun s : Int × Int × List Int => (show DR S_wmarkInt64S_l2.hs from (s.1, s.2.1, s.2.2))) (wmarkInt64S_l2_e ) (x.1, x.2.1, x.2.2)

theorem wmarkInt64S_l2_k (L : Loops) (hn : L_wmarkInt64S_l2.n = L.n) (hlv : L_wmarkInt64S_l2.lv 2 = L.lv 2) (hL : ∀ vs bs, L.loop 2 vs bs = toldL S_wmarkInt64S_l2 X_wmarkInt64S_l2 (fun x => wmarkInt64S_l2 x.1 x.2.1 x.2.2) vs bs) : LOk Try.prog (envWo Try.prog C16 mtab0 1) L 2 (loopC (bodyOf Try.f19) 2) := toldL_ok (L1 := L_wmarkInt64S_l2) (envWo_ok (C16_ok) (mtab0_ok _)) mixedO hn hlv (loopFree_ok (by kernel_rfl)) wmarkInt64S_l2_r hL

def A_wmarkInt64S : Shp := ⟨[.slw 0 1, .h], [.arr [.i .i64] false], [.i .i64, .sl [.i .i64]]⟩
def R_wmarkInt64S : List XShp := [(.ret, ⟨[.h], [.arr [.i .i64] false], [.i .i64, .sl [.i .i64]]⟩)]

noncomputable def L_wmarkInt64S : Loops := (⟨19, lvT [(2, [0, 1, 5])], mdT [(2, .exit 0, [], [0, 5])], fun k vs bs => bif Nat.beq k 2 then toldL S_wmarkInt64S_l2 X_wmarkInt64S_l2 (fun x => wmarkInt64S_l2 x.1 x.2.1 x.2.2) vs bs else .bad⟩ : Loops)

theorem wmarkInt64S_e (x : DR A_wmarkInt64S.hs) : (evFnM (envWo Try.prog C16 mtab0 1) L_wmarkInt64S Try.f19 (A_wmarkInt64S.enc x).1 ((A_wmarkInt64S.enc x).2.map (·.blk))).to (decM R_wmarkInt64S) = wmarkInt64S_t x.1 x.2 := by kernel_rfl

theorem wmarkInt64S_m (x : DR A_wmarkInt64S.hs) : meanM (envWo Try.prog C16 mtab0 1) L_wmarkInt64S Try.f19 A_wmarkInt64S R_wmarkInt64S x = (show Option (SumD (R_wmarkInt64S.map (·.2))) from wmarkInt64S x.1 x.2) := meanM_of (wmarkInt64S_e x)

theorem wmarkInt64S_ok : MSpecOk Try.prog 19 (evFnM (envWo Try.prog C16 mtab0 1) L_wmarkInt64S Try.f19) := fnM_ok (envWo_ok (C16_ok) (mtab0_ok _)) rfl mixedO Try.func19 (by kernel_rfl) (c := bodyOf Try.f19) (by kernel_rfl) (loopsL (l := [(2, loopC (bodyOf Try.f19) 2)]) (by kernel_rfl) (lk_cons (wmarkInt64S_l2_k _ rfl rfl (fun _ _ => rfl)) lk_nil))

theorem wmarkInt64S_told : MSpecOk Try.prog 19 (toldMO A_wmarkInt64S R_wmarkInt64S (fun x => wmarkInt64S x.1 x.2) (mrest mtab0 19)) := toldMO_ok (by kernel_rfl) wmarkInt64S_ok (mrest_ok (mtab0_ok _) _) wmarkInt64S_m

noncomputable def M17 : MTab := mtab 19 (toldMO A_wmarkInt64S R_wmarkInt64S (fun x => wmarkInt64S x.1 x.2) (mrest mtab0 19)) mtab0
theorem M17_ok : MTabOk Try.prog M17 := mtab_ok (wmarkInt64S_told) (mtab0_ok _)

def S_wmarkInt64S_nil_l2 : Shp := ⟨[.nils, .h, .h], [], [.i .i64, .i .i64]⟩
def X_wmarkInt64S_nil_l2 : List XShp := [(.exit 0, ⟨[.undef, .h, .undef], [], [.i .i64]⟩)]

noncomputable def L_wmarkInt64S_nil_l2 : Loops := (⟨19, lvT [(2, [0, 1, 5])], mdT [(2, .exit 0, [], [0, 5])], fun k vs bs => .bad⟩ : Loops)

theorem wmarkInt64S_nil_l2_e (y0 : Int) (y1 : Int) (s : Unit) : (loopStep (envWo Try.prog C16 M17 0) L_wmarkInt64S_nil_l2 2 (loopC (bodyOf Try.f19) 2) (S_wmarkInt64S_nil_l2.enc (y0, y1)).1 (S_wmarkInt64S_nil_l2.enc (y0, y1)).2).to (stepD S_wmarkInt64S_nil_l2 X_wmarkInt64S_nil_l2) = (wmarkInt64S_nil_l2_t y0 y1 ).map (Sum.map (fun s : Unit => (show DR S_wmarkInt64S_nil_l2.hs from (y0, y1))) id) := by kernel_rfl

theorem wmarkInt64S_nil_l2_r (x : DR S_wmarkInt64S_nil_l2.hs) : (wmarkInt64S_nil_l2 x.1 x.2 : Option (SumD (X_wmarkInt64S_nil_l2.map (·.2)))) = runL (meanS (envWo Try.prog C16 M17 0) L_wmarkInt64S_nil_l2 2 (loopC (bodyOf Try.f19) 2) S_wmarkInt64S_nil_l2 X_wmarkInt64S_nil_l2) x := run_of (fun s : Unit => (show DR S_wmarkInt64S_nil_l2.hs from (x.1, x.2))) (wmarkInt64S_nil_l2_e (x.1) (x.2)) ()

theorem wmarkInt64S_nil_l2_k (L : Loops) (hn : L_wmarkInt64S_nil_l2.n = L.n) (hlv : L_wmarkInt64S_nil_l2.lv 2 = L.lv 2) (hL : ∀ vs bs, L.loop 2 vs bs = toldL S_wmarkInt64S_nil_l2 X_wmarkInt64S_nil_l2 (fun x => wmarkInt64S_nil_l2 x.1 x.2) vs bs) : LOk Try.prog (envWo Try.prog C16 M17 0) L 2 (loopC (bodyOf Try.f19) 2) := toldL_ok (L1 := L_wmarkInt64S_nil_l2) (envWo_ok (C16_ok) (M17_ok)) mixedO hn hlv (loopFree_ok (by kernel_rfl)) wmarkInt64S_nil_l2_r hL

def A_wmarkInt64S_nil : Shp := ⟨[.nils, .h], [], [.i .i64]⟩
def R_wmarkInt64S_nil : List XShp := [(.ret, ⟨[.h], [], [.i .i64]⟩)]

noncomputable def L_wmarkInt64S_nil : Loops := (⟨19, lvT [(2, [0, 1, 5])], mdT [(2, .exit 0, [], [0, 5])], fun k vs bs => bif Nat.beq k 2 then toldL S_wmarkInt64S_nil_l2 X_wmarkInt64S_nil_l2 (fun x => wmarkInt64S_nil_l2 x.1 x.2) vs bs else .bad⟩ : Loops)

theorem wmarkInt64S_nil_e (x : DR A_wmarkInt64S_nil.hs) : (evFnM (envWo Try.prog C16 M17 0) L_wmarkInt64S_nil Try.f19 (A_wmarkInt64S_nil.enc x).1 ((A_wmarkInt64S_nil.enc x).2.map (·.blk))).to (decM R_wmarkInt64S_nil) = wmarkInt64S_nil_t x := by kernel_rfl

theorem wmarkInt64S_nil_m (x : DR A_wmarkInt64S_nil.hs) : meanM (envWo Try.prog C16 M17 0) L_wmarkInt64S_nil Try.f19 A_wmarkInt64S_nil R_wmarkInt64S_nil x = (show Option (SumD (R_wmarkInt64S_nil.map (·.2))) from wmarkInt64S_nil x) := meanM_of (wmarkInt64S_nil_e x)

theorem wmarkInt64S_nil_ok : MSpecOk Try.prog 19 (evFnM (envWo Try.prog C16 M17 0) L_wmarkInt64S_nil Try.f19) := fnM_ok (envWo_ok (C16_ok) (M17_ok)) rfl mixedO Try.func19 (by kernel_rfl) (c := bodyOf Try.f19) (by kernel_rfl) (loopsL (l := [(2, loopC (bodyOf Try.f19) 2)]) (by kernel_rfl) (lk_cons (wmarkInt64S_nil_l2_k _ rfl rfl (fun _ _ => rfl)) lk_nil))

theorem wmarkInt64S_nil_told : MSpecOk Try.prog 19 (toldMO A_wmarkInt64S_nil R_wmarkInt64S_nil (fun x => wmarkInt64S_nil x) (mrest M17 19)) := toldMO_ok (by kernel_rfl) wmarkInt64S_nil_ok (mrest_ok (M17_ok) _) wmarkInt64S_nil_m

noncomputable def M18 : MTab := mtab 19 (toldMO A_wmarkInt64S_nil R_wmarkInt64S_nil (fun x => wmarkInt64S_nil x) (mrest M17 19)) M17
theorem M18_ok : MTabOk Try.prog M18 := mtab_ok (wmarkInt64S_nil_told) (M17_ok)

def S_wmarkInt64SS_l2 : Shp := ⟨[.slw 0 1, .h, .h], [.arr [.osl [.i .i64]] false], [.i .i64, .i .i64, .sl [.osl [.i .i64]]]⟩
def X_wmarkInt64SS_l2 : List XShp := [(.exit 0, ⟨[.undef, .h, .undef], [.arr [.osl [.i .i64]] false], [.i .i64, .sl [.osl [.i .i64]]]⟩)]

noncomputable def L_wmarkInt64SS_l2 : Loops := (⟨19, lvT [(2, [0, 1, 5])], mdT [(2, .exit 0, [], [0, 5])], fun k vs bs => .bad⟩ : Loops)

theorem wmarkInt64SS_l2_e (s : Int × Int × List (List Int)) : (loopStep (envWo Try.prog C16 M18 1) L_wmarkInt64SS_l2 2 (loopC (bodyOf Try.f35) 2) (S_wmarkInt64SS_l2.enc (s.1, s.2.1, s.2.2)).1 (S_wmarkInt64SS_l2.enc (s.1, s.2.1, s.2.2)).2).to (stepD S_wmarkInt64SS_l2 X_wmarkInt64SS_l2) = (wmarkInt64SS_l2_t  s.1 s.2.1 s.2.2).map (Sum.map (fun s : Int × Int × List (List Int) => (show DR S_wmarkInt64SS_l2.hs from (s.1, s.2.1, s.2.2))) id) := by kernel_rfl

theorem wmarkInt64SS_l2_r (x : DR S_wmarkInt64SS_l2.hs) : (wmarkInt64SS_l2 x.1 x.2.1 x.2.2 : Option (SumD (X_wmarkInt64SS_l2.map (·.2)))) = runL (meanS (envWo Try.prog C16 M18 1) L_wmarkInt64SS_l2 2 (loopC (bodyOf Try.f35) 2) S_wmarkInt64SS_l2 X_wmarkInt64SS_l2) x := run_of (fun s : Int × Int × List (List Int) => (show DR S_wmarkInt64SS_l2.hs from (s.1, s.2.1, s.2.2))) (wmarkInt64SS_l2_e ) (x.1, x.2.1, x.2.2)

theorem wmarkInt64SS_l2_k (L : Loops) (hn : L_wmarkInt64SS_l2.n = L.n) (hlv : L_wmarkInt64SS_l2.lv 2 = L.lv 2) (hL : ∀ vs bs, L.loop 2 vs bs = toldL S_wmarkInt64SS_l2 X_wmarkInt64SS_l2 (fun x => wmarkInt64SS_l2 x.1 x.2.1 x.2.2) vs bs) : LOk Try.prog (envWo Try.prog C16 M18 1) L 2 (loopC (bodyOf Try.f35) 2) := toldL_ok (L1 := L_wmarkInt64SS_l2) (envWo_ok (C16_ok) (M18_ok)) mixedO hn hlv (loopFree_ok (by kernel_rfl)) wmarkInt64SS_l2_r hL

def A_wmarkInt64SS : Shp := ⟨[.slw 0 1, .h], [.arr [.osl [.i .i64]] false], [.i .i64, .sl [.osl [.i .i64]]]⟩
def R_wmarkInt64SS : List XShp := [(.ret, ⟨[.h], [.arr [.osl [.i .i64]] false], [.i .i64, .sl [.osl [.i .i64]]]⟩)]

noncomputable def L_wmarkInt64SS : Loops := (⟨19, lvT [(2, [0, 1, 5])], mdT [(2, .exit 0, [], [0, 5])], fun k vs bs => bif Nat.beq k 2 then toldL S_wmarkInt64SS_l2 X_wmarkInt64SS_l2 (fun x => wmarkInt64SS_l2 x.1 x.2.1 x.2.2) vs bs else .bad⟩ : Loops)

theorem wmarkInt64SS_e (x : DR A_wmarkInt64SS.hs) : (evFnM (envWo Try.prog C16 M18 1) L_wmarkInt64SS Try.f35 (A_wmarkInt64SS.enc x).1 ((A_wmarkInt64SS.enc x).2.map (·.blk))).to (decM R_wmarkInt64SS) = wmarkInt64SS_t x.1 x.2 := by kernel_rfl

theorem wmarkInt64SS_m (x : DR A_wmarkInt64SS.hs) : meanM (envWo Try.prog C16 M18 1) L_wmarkInt64SS Try.f35 A_wmarkInt64SS R_wmarkInt64SS x = (show Option (SumD (R_wmarkInt64SS.map (·.2))) from wmarkInt64SS x.1 x.2) := meanM_of (wmarkInt64SS_e x)

theorem wmarkInt64SS_ok : MSpecOk Try.prog 35 (evFnM (envWo Try.prog C16 M18 1) L_wmarkInt64SS Try.f35) := fnM_ok (envWo_ok (C16_ok) (M18_ok)) rfl mixedO Try.func35 (by kernel_rfl) (c := bodyOf Try.f35) (by kernel_rfl) (loopsL (l := [(2, loopC (bodyOf Try.f35) 2)]) (by kernel_rfl) (lk_cons (wmarkInt64SS_l2_k _ rfl rfl (fun _ _ => rfl)) lk_nil))

theorem wmarkInt64SS_told : MSpecOk Try.prog 35 (toldMO A_wmarkInt64SS R_wmarkInt64SS (fun x => wmarkInt64SS x.1 x.2) (mrest M18 35)) := toldMO_ok (by kernel_rfl) wmarkInt64SS_ok (mrest_ok (M18_ok) _) wmarkInt64SS_m

noncomputable def M19 : MTab := mtab 35 (toldMO A_wmarkInt64SS R_wmarkInt64SS (fun x => wmarkInt64SS x.1 x.2) (mrest M18 35)) M18
theorem M19_ok : MTabOk Try.prog M19 := mtab_ok (wmarkInt64SS_told) (M18_ok)

def S_wheldInt64S_l2 : Shp := ⟨[.h, .h, .undef, .h], [], [.sl [.i .i64], .i .i64, .i .i64]⟩
def X_wheldInt64S_l2 : List XShp := [(.ret, ⟨[.undef, .undef, .h, .undef], [], [.i .i64]⟩), (.exit 0, ⟨[.undef, .h, .undef, .undef], [], [.i .i64]⟩)]

noncomputable def L_wheldInt64S_l2 : Loops := (⟨21, lvT [(2, [0, 1, 4, 5])], mdT [(2, .normal, [], [4]), (2, .exit 0, [], [0, 4, 5]), (2, .ret, [], [0, 1, 5])], fun k vs bs => .bad⟩ : Loops)

theorem wheldInt64S_l2_e (y0 : List Int) (s : Int × Int) : (loopStep (envTo Try.prog C16 M19) L_wheldInt64S_l2 2 (loopC (bodyOf Try.f20) 2) (S_wheldInt64S_l2.enc (y0, s.1, s.2)).1 (S_wheldInt64S_l2.enc (y0, s.1, s.2)).2).to (stepD S_wheldInt64S_l2 X_wheldInt64S_l2) = (wheldInt64S_l2_t y0 s.1 s.2).map (Sum.map (fun s : Int × Int => (show DR S_wheldInt64S_l2.hs from (y0, s.1, s.2))) id) := by kernel_rfl

theorem wheldInt64S_l2_r (x : DR S_wheldInt64S_l2.hs) : (wheldInt64S_l2 x.1 x.2.1 x.2.2 : Option (SumD (X_wheldInt64S_l2.map (·.2)))) = runL (meanS (envTo Try.prog C16 M19) L_wheldInt64S_l2 2 (loopC (bodyOf Try.f20) 2) S_wheldInt64S_l2 X_wheldInt64S_l2) x := run_of (fun s : Int × Int => (show DR S_wheldInt64S_l2.hs from (x.1, s.1, s.2))) (wheldInt64S_l2_e (x.1)) (x.2.1, x.2.2)

theorem wheldInt64S_l2_k (L : Loops) (hn : L_wheldInt64S_l2.n = L.n) (hlv : L_wheldInt64S_l2.lv 2 = L.lv 2) (hL : ∀ vs bs, L.loop 2 vs bs = toldL S_wheldInt64S_l2 X_wheldInt64S_l2 (fun x => wheldInt64S_l2 x.1 x.2.1 x.2.2) vs bs) : LOk Try.prog (envTo Try.prog C16 M19) L 2 (loopC (bodyOf Try.f20) 2) := toldL_ok (L1 := L_wheldInt64S_l2) (envTo_ok (C16_ok) (M19_ok)) mixedO hn hlv (loopFree_ok (by kernel_rfl)) wheldInt64S_l2_r hL

def A_wheldInt64S : Shp := ⟨[.h, .h], [], [.sl [.i .i64], .i .i64]⟩
def R_wheldInt64S : List XShp := [(.ret, ⟨[.h], [], [.i .i64]⟩)]

noncomputable def L_wheldInt64S : Loops := (⟨21, lvT [(2, [0, 1, 4, 5])], mdT [(2, .normal, [], [4]), (2, .exit 0, [], [0, 4, 5]), (2, .ret, [], [0, 1, 5])], fun k vs bs => bif Nat.beq k 2 then toldL S_wheldInt64S_l2 X_wheldInt64S_l2 (fun x => wheldInt64S_l2 x.1 x.2.1 x.2.2) vs bs else .bad⟩ : Loops)

theorem wheldInt64S_e (x : DR A_wheldInt64S.hs) : (evFn (envTo Try.prog C16 M19) L_wheldInt64S Try.f20 (A_wheldInt64S.enc x).1).to (fun q => decX R_wheldInt64S .ret [q.1] q.2) = wheldInt64S_t x.1 x.2 := by kernel_rfl

theorem wheldInt64S_m (x : DR A_wheldInt64S.hs) : meanF (envTo Try.prog C16 M19) L_wheldInt64S Try.f20 A_wheldInt64S R_wheldInt64S x = (show Option (SumD (R_wheldInt64S.map (·.2))) from wheldInt64S x.1 x.2) := meanF_of (wheldInt64S_e x)

theorem wheldInt64S_ok : SpecOk Try.prog 20 (evFn (envTo Try.prog C16 M19) L_wheldInt64S Try.f20) := fnL_ok (envTo_ok (C16_ok) (M19_ok)) mixedO Try.func20 (by kernel_rfl) (c := bodyOf Try.f20) (by kernel_rfl) (loopsL (l := [(2, loopC (bodyOf Try.f20) 2)]) (by kernel_rfl) (lk_cons (wheldInt64S_l2_k _ rfl rfl (fun _ _ => rfl)) lk_nil))

theorem wheldInt64S_told : SpecOk Try.prog 20 (toldO A_wheldInt64S R_wheldInt64S (fun x => wheldInt64S x.1 x.2) (C16 20)) := toldO_ok (by kernel_rfl) wheldInt64S_ok (rest_ok (C16_ok) _) wheldInt64S_m

noncomputable def C20 : Tab := tab 20 (toldO A_wheldInt64S R_wheldInt64S (fun x => wheldInt64S x.1 x.2) (C16 20)) C16
theorem C20_ok : TabOk Try.prog C20 := tab_ok (wheldInt64S_told) (C16_ok)

def A_wFnExactHalfWay : Shp := ⟨[.h], [], [.sl [.sl [.i .i64]]]⟩
def R_wFnExactHalfWay : List XShp := [(.ret, ⟨[.h], [], [.b]⟩)]

theorem wFnExactHalfWay_e (x : DR A_wFnExactHalfWay.hs) : (evFn (envTo Try.prog C20 M19) noLoops Try.f6 (A_wFnExactHalfWay.enc x).1).to (fun q => decX R_wFnExactHalfWay .ret [q.1] q.2) = wFnExactHalfWay_t x := by kernel_rfl

theorem wFnExactHalfWay_m (x : DR A_wFnExactHalfWay.hs) : meanF (envTo Try.prog C20 M19) noLoops Try.f6 A_wFnExactHalfWay R_wFnExactHalfWay x = (show Option (SumD (R_wFnExactHalfWay.map (·.2))) from wFnExactHalfWay x) := meanF_of (wFnExactHalfWay_e x)

theorem wFnExactHalfWay_ok : SpecOk Try.prog 6 (evFn (envTo Try.prog C20 M19) noLoops Try.f6) := fnL_ok (envTo_ok (C20_ok) (M19_ok)) mixedO Try.func6 (by kernel_rfl) (c := bodyOf Try.f6) (by kernel_rfl) (loopFree_ok (by kernel_rfl))

theorem wFnExactHalfWay_told : SpecOk Try.prog 6 (toldO A_wFnExactHalfWay R_wFnExactHalfWay (fun x => wFnExactHalfWay x) (C20 6)) := toldO_ok (by kernel_rfl) wFnExactHalfWay_ok (rest_ok (C20_ok) _) wFnExactHalfWay_m

noncomputable def C21 : Tab := tab 6 (toldO A_wFnExactHalfWay R_wFnExactHalfWay (fun x => wFnExactHalfWay x) (C20 6)) C20
theorem C21_ok : TabOk Try.prog C21 := tab_ok (wFnExactHalfWay_told) (C20_ok)

theorem lawFnExactHalfWay_ok : SpecOk Try.prog 6 (evFn (envTo Try.prog C20 M19) noLoops Try.f6) := wFnExactHalfWay_ok
theorem lawFnExactHalfWay_says (x : DR A_wFnExactHalfWay.hs) (h : (show Option (SumD (R_wFnExactHalfWay.map (·.2))) from wFnExactHalfWay x) = some true) : saysTrue (evFn (envTo Try.prog C20 M19) noLoops Try.f6 (A_wFnExactHalfWay.enc x).1) = true := law_says (x := x) ((wFnExactHalfWay_m x).trans h)

theorem lawFnExactHalfWay_true (x0 : List (List Int)) (h : wFnExactHalfWay x0 = some true) : saysTrue (evFn (envTo Try.prog C20 M19) noLoops Try.f6 [.ds [.sl [.i .i64]] x0]) = true := (congrArg (fun l => saysTrue (evFn (envTo Try.prog C20 M19) noLoops Try.f6 l)) (by kernel_rfl : ([.ds [.sl [.i .i64]] x0] : List V) = (A_wFnExactHalfWay.enc x0).1)).trans (lawFnExactHalfWay_says x0 h)
end Go.Proofs.Ytjohnpldkanjmaa
