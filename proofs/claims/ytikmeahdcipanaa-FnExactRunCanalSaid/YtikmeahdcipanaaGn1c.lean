/- Functions, as plain functions. What the program comes to. -/
import Derived.Test.YtikmeahdcipanaaGn1d
import Derived.Test.YtikmeahdcipanaaDb
import Derived.Test.YtikmeahdcipanaaNv
import Derived.KernelRfl
set_option linter.unusedVariables false
set_option linter.unusedSimpArgs false
set_option linter.constructorNameAsVariable false
namespace Go.Proofs.Ytikmeahdcipanaa
open Go.RowKit
set_option maxRecDepth 100000
theorem mixedO : (Try.prog).follows .mixedOrders = true := by kernel_rfl
noncomputable def C0 : Tab := tab 68 (spFB .f32 (isFin .f32)) tab0
theorem C0_ok : TabOk Try.prog C0 := tab_ok (spFB_ok Try.func68 (by kernel_rfl) (fun hx => l01Finite_c hx)) (tab0_ok _)

noncomputable def C1 : Tab := tab 72 (spFB .f32 (isFin .f32)) C0
theorem C1_ok : TabOk Try.prog C1 := tab_ok (spFB_ok Try.func72 (by kernel_rfl) (fun hx => IsFinite_c hx)) (C0_ok)

noncomputable def C2 : Tab := tab 77 (spFB .f32 isLen) C1
theorem C2_ok : TabOk Try.prog C2 := tab_ok (spFB_ok Try.func77 (by kernel_rfl) (fun hx => l02Above_c hx)) (C1_ok)

noncomputable def C3 : Tab := tab 81 (spFB .f32 isLen) C2
theorem C3_ok : TabOk Try.prog C3 := tab_ok (spFB_ok Try.func81 (by kernel_rfl) (fun hx => aLength_c hx)) (C2_ok)

noncomputable def C4 : Tab := tab 76 (spFB .f32 isMass) C3
theorem C4_ok : TabOk Try.prog C4 := tab_ok (spFB_ok Try.func76 (by kernel_rfl) (fun hx => l02Least_c hx)) (C3_ok)

noncomputable def C5 : Tab := tab 106 (spFB .f32 isMass) C4
theorem C5_ok : TabOk Try.prog C5 := tab_ok (spFB_ok Try.func106 (by kernel_rfl) (fun hx => aMass_c hx)) (C4_ok)

noncomputable def C6 : Tab := tab 132 (spFF .f32 .f32 froot) C5
theorem C6_ok : TabOk Try.prog C6 := tab_ok (spFF_ok Try.func132 (by kernel_rfl) (fun hx => l01Sqrt_c hx)) (C5_ok)

noncomputable def C7 : Tab := tab 107 (spFF .f32 .f32 froot) C6
theorem C7_ok : TabOk Try.prog C7 := tab_ok (spFF_ok Try.func107 (by kernel_rfl) (fun hx => RootNumber_c hx)) (C6_ok)

noncomputable def C8 : Tab := tab 19 (spSame .f64) C7
theorem C8_ok : TabOk Try.prog C8 := tab_ok (spSame_ok Try.func19 (by kernel_rfl) (fun hx hy => sameFloat_c hx hy)) (C7_ok)

noncomputable def C9 : Tab := tab 120 (spFB .f64 (isFin .f64)) C8
theorem C9_ok : TabOk Try.prog C9 := tab_ok (spFB_ok Try.func120 (by kernel_rfl) (fun hx => finite_c hx)) (C8_ok)

noncomputable def C10 : Tab := tab 145 (spFB .f64 (isN .f64)) C9
theorem C10_ok : TabOk Try.prog C10 := tab_ok (spFB_ok Try.func145 (by kernel_rfl) (fun hx => isNaN_c hx)) (C9_ok)

noncomputable def C11 : Tab := tab 149 (spFF .f64 .f64 (fabs .f64)) C10
theorem C11_ok : TabOk Try.prog C11 := tab_ok (spFF_ok Try.func149 (by kernel_rfl) (fun hx => abs_c hx)) (C10_ok)

noncomputable def C12 : Tab := tab 134 (spFF .f64 .f64 (fsqrt .f64)) C11
theorem C12_ok : TabOk Try.prog C12 := tab_ok (spFF_ok Try.func134 (by kernel_rfl) (fun hx => Sqrt_c hx)) (C11_ok)

noncomputable def C13 : Tab := tab 150 (spFrom) C12
theorem C13_ok : TabOk Try.prog C13 := tab_ok ((spFrom_ok (fun n w => ext_from64 n w))) (C12_ok)

def A_wszFloat32S : Shp := ⟨[.h, .h], [], [.sl [.f .f32], .i .i64]⟩
def R_wszFloat32S : List XShp := [(.ret, ⟨[.h], [], [.i .i64]⟩)]

theorem wszFloat32S_e (x : DR A_wszFloat32S.hs) : (evFn (envT Try.prog C13 mtab0) noLoops Try.f66 (A_wszFloat32S.enc x).1).to (fun q => decX R_wszFloat32S .ret [q.1] q.2) = wszFloat32S_t x.1 x.2 := by kernel_rfl

theorem wszFloat32S_m (x : DR A_wszFloat32S.hs) : meanF (envT Try.prog C13 mtab0) noLoops Try.f66 A_wszFloat32S R_wszFloat32S x = some (show SumD (R_wszFloat32S.map (·.2)) from wszFloat32S x.1 x.2) := @meanF_tot _ _ _ _ _ _ _ (wszFloat32S_e x) (show Inhabited (Int) from inferInstance) (by kernel_rfl)

theorem wszFloat32S_ok : SpecOk Try.prog 66 (evFn (envT Try.prog C13 mtab0) noLoops Try.f66) := fnL_ok (envT_ok (C13_ok) (mtab0_ok _)) mixedO Try.func66 (by kernel_rfl) (c := bodyOf Try.f66) (by kernel_rfl) (loopFree_ok (by kernel_rfl))

theorem wszFloat32S_told : SpecOk Try.prog 66 (toldT A_wszFloat32S R_wszFloat32S (fun x => wszFloat32S x.1 x.2) (C13 66)) := toldT_ok (by kernel_rfl) wszFloat32S_ok (rest_ok (C13_ok) _) wszFloat32S_m

noncomputable def C14 : Tab := tab 66 (toldT A_wszFloat32S R_wszFloat32S (fun x => wszFloat32S x.1 x.2) (C13 66)) C13
theorem C14_ok : TabOk Try.prog C14 := tab_ok (wszFloat32S_told) (C13_ok)

def A_wszCanal : Shp := ⟨[.agg [.h, .h, .h, .h, .h], .h], [], [.f .f32, .f .f32, .f .f32, .sl [.f .f32], .sl [.f .f32], .i .i64]⟩
def R_wszCanal : List XShp := [(.ret, ⟨[.h], [], [.i .i64]⟩)]

theorem wszCanal_e (x : DR A_wszCanal.hs) : (evFn (envT Try.prog C14 mtab0) noLoops Try.f46 (A_wszCanal.enc x).1).to (fun q => decX R_wszCanal .ret [q.1] q.2) = wszCanal_t x.1 x.2.1 x.2.2.1 x.2.2.2.1 x.2.2.2.2.1 x.2.2.2.2.2 := by kernel_rfl

theorem wszCanal_m (x : DR A_wszCanal.hs) : meanF (envT Try.prog C14 mtab0) noLoops Try.f46 A_wszCanal R_wszCanal x = some (show SumD (R_wszCanal.map (·.2)) from wszCanal x.1 x.2.1 x.2.2.1 x.2.2.2.1 x.2.2.2.2.1 x.2.2.2.2.2) := @meanF_tot _ _ _ _ _ _ _ (wszCanal_e x) (show Inhabited (Int) from inferInstance) (by kernel_rfl)

theorem wszCanal_ok : SpecOk Try.prog 46 (evFn (envT Try.prog C14 mtab0) noLoops Try.f46) := fnL_ok (envT_ok (C14_ok) (mtab0_ok _)) mixedO Try.func46 (by kernel_rfl) (c := bodyOf Try.f46) (by kernel_rfl) (loopFree_ok (by kernel_rfl))

theorem wszCanal_told : SpecOk Try.prog 46 (toldT A_wszCanal R_wszCanal (fun x => wszCanal x.1 x.2.1 x.2.2.1 x.2.2.2.1 x.2.2.2.2.1 x.2.2.2.2.2) (C14 46)) := toldT_ok (by kernel_rfl) wszCanal_ok (rest_ok (C14_ok) _) wszCanal_m

noncomputable def C15 : Tab := tab 46 (toldT A_wszCanal R_wszCanal (fun x => wszCanal x.1 x.2.1 x.2.2.1 x.2.2.2.1 x.2.2.2.2.1 x.2.2.2.2.2) (C14 46)) C14
theorem C15_ok : TabOk Try.prog C15 := tab_ok (wszCanal_told) (C14_ok)

def S_wtoFloat32S_l3 : Shp := ⟨[.h, .slw 0 1, .h], [.arr [.f .f32] false], [.sl [.f .f32], .i .i64, .sl [.f .f32]]⟩
def X_wtoFloat32S_l3 : List XShp := [(.exit 0, ⟨[.undef, .slw 0 1, .undef], [.arr [.f .f32] false], [.sl [.f .f32]]⟩)]

noncomputable def L_wtoFloat32S_l3 : Loops := (⟨22, lvT [(3, [0, 3, 4])], mdT [(3, .exit 0, [], [0, 4])], fun k vs bs => .bad⟩ : Loops)

theorem wtoFloat32S_l3_e (y0 : List Nat) (s : Int × List Nat) : (loopStep (envT Try.prog C15 mtab0) L_wtoFloat32S_l3 3 (loopC (bodyOf Try.f24) 3) (S_wtoFloat32S_l3.enc (y0, s.1, s.2)).1 (S_wtoFloat32S_l3.enc (y0, s.1, s.2)).2).to (stepD S_wtoFloat32S_l3 X_wtoFloat32S_l3) = (wtoFloat32S_l3_t y0 s.1 s.2).map (Sum.map (fun s : Int × List Nat => (show DR S_wtoFloat32S_l3.hs from (y0, s.1, s.2))) id) := by kernel_rfl

theorem wtoFloat32S_l3_r (x : DR S_wtoFloat32S_l3.hs) : (wtoFloat32S_l3 x.1 x.2.1 x.2.2 : Option (SumD (X_wtoFloat32S_l3.map (·.2)))) = runL (meanS (envT Try.prog C15 mtab0) L_wtoFloat32S_l3 3 (loopC (bodyOf Try.f24) 3) S_wtoFloat32S_l3 X_wtoFloat32S_l3) x := run_of (fun s : Int × List Nat => (show DR S_wtoFloat32S_l3.hs from (x.1, s.1, s.2))) (wtoFloat32S_l3_e (x.1)) (x.2.1, x.2.2)

theorem wtoFloat32S_l3_k (L : Loops) (hn : L_wtoFloat32S_l3.n = L.n) (hlv : L_wtoFloat32S_l3.lv 3 = L.lv 3) (hL : ∀ vs bs, L.loop 3 vs bs = toldL S_wtoFloat32S_l3 X_wtoFloat32S_l3 (fun x => wtoFloat32S_l3 x.1 x.2.1 x.2.2) vs bs) : LOk Try.prog (envT Try.prog C15 mtab0) L 3 (loopC (bodyOf Try.f24) 3) := toldL_ok (L1 := L_wtoFloat32S_l3) (envT_ok (C15_ok) (mtab0_ok _)) mixedO hn hlv (loopFree_ok (by kernel_rfl)) wtoFloat32S_l3_r hL

def A_wtoFloat32S : Shp := ⟨[.h], [], [.sl [.f .f32]]⟩
def R_wtoFloat32S : List XShp := [(.ret, ⟨[.slw 0 1], [.arr [.f .f32] false], [.sl [.f .f32]]⟩)]

noncomputable def L_wtoFloat32S : Loops := (⟨22, lvT [(3, [0, 3, 4])], mdT [(3, .exit 0, [], [0, 4])], fun k vs bs => bif Nat.beq k 3 then toldL S_wtoFloat32S_l3 X_wtoFloat32S_l3 (fun x => wtoFloat32S_l3 x.1 x.2.1 x.2.2) vs bs else .bad⟩ : Loops)

theorem wtoFloat32S_e (x : DR A_wtoFloat32S.hs) : (evFn (envT Try.prog C15 mtab0) L_wtoFloat32S Try.f24 (A_wtoFloat32S.enc x).1).to (fun q => decX R_wtoFloat32S .ret [q.1] q.2) = wtoFloat32S_t x := by kernel_rfl

theorem wtoFloat32S_m (x : DR A_wtoFloat32S.hs) : meanF (envT Try.prog C15 mtab0) L_wtoFloat32S Try.f24 A_wtoFloat32S R_wtoFloat32S x = (show Option (SumD (R_wtoFloat32S.map (·.2))) from wtoFloat32S x) := meanF_of (wtoFloat32S_e x)

theorem wtoFloat32S_ok : SpecOk Try.prog 24 (evFn (envT Try.prog C15 mtab0) L_wtoFloat32S Try.f24) := fnL_ok (envT_ok (C15_ok) (mtab0_ok _)) mixedO Try.func24 (by kernel_rfl) (c := bodyOf Try.f24) (by kernel_rfl) (loopsL (l := [(3, loopC (bodyOf Try.f24) 3)]) (by kernel_rfl) (lk_cons (wtoFloat32S_l3_k _ rfl rfl (fun _ _ => rfl)) lk_nil))

theorem wtoFloat32S_told : SpecOk Try.prog 24 (toldO A_wtoFloat32S R_wtoFloat32S (fun x => wtoFloat32S x) (C15 24)) := toldO_ok (by kernel_rfl) wtoFloat32S_ok (rest_ok (C15_ok) _) wtoFloat32S_m

noncomputable def C16 : Tab := tab 24 (toldO A_wtoFloat32S R_wtoFloat32S (fun x => wtoFloat32S x) (C15 24)) C15
theorem C16_ok : TabOk Try.prog C16 := tab_ok (wtoFloat32S_told) (C15_ok)

def A_wtoCanal : Shp := ⟨[.agg [.h, .h, .h, .h, .h]], [], [.f .f32, .f .f32, .f .f32, .sl [.f .f32], .sl [.f .f32]]⟩
def R_wtoCanal : List XShp := [(.ret, ⟨[.agg [.h, .h, .h, .slw 0 1, .slw 1 1]], [.arr [.f .f32] false, .arr [.f .f32] false], [.f .f32, .f .f32, .f .f32, .sl [.f .f32], .sl [.f .f32]]⟩)]

theorem wtoCanal_e (x : DR A_wtoCanal.hs) : (evFn (envT Try.prog C16 mtab0) noLoops Try.f48 (A_wtoCanal.enc x).1).to (fun q => decX R_wtoCanal .ret [q.1] q.2) = wtoCanal_t x.1 x.2.1 x.2.2.1 x.2.2.2.1 x.2.2.2.2 := by kernel_rfl

theorem wtoCanal_m (x : DR A_wtoCanal.hs) : meanF (envT Try.prog C16 mtab0) noLoops Try.f48 A_wtoCanal R_wtoCanal x = (show Option (SumD (R_wtoCanal.map (·.2))) from wtoCanal x.1 x.2.1 x.2.2.1 x.2.2.2.1 x.2.2.2.2) := meanF_of (wtoCanal_e x)

theorem wtoCanal_ok : SpecOk Try.prog 48 (evFn (envT Try.prog C16 mtab0) noLoops Try.f48) := fnL_ok (envT_ok (C16_ok) (mtab0_ok _)) mixedO Try.func48 (by kernel_rfl) (c := bodyOf Try.f48) (by kernel_rfl) (loopFree_ok (by kernel_rfl))

theorem wtoCanal_told : SpecOk Try.prog 48 (toldO A_wtoCanal R_wtoCanal (fun x => wtoCanal x.1 x.2.1 x.2.2.1 x.2.2.2.1 x.2.2.2.2) (C16 48)) := toldO_ok (by kernel_rfl) wtoCanal_ok (rest_ok (C16_ok) _) wtoCanal_m

noncomputable def C17 : Tab := tab 48 (toldO A_wtoCanal R_wtoCanal (fun x => wtoCanal x.1 x.2.1 x.2.2.1 x.2.2.2.1 x.2.2.2.2) (C16 48)) C16
theorem C17_ok : TabOk Try.prog C17 := tab_ok (wtoCanal_told) (C16_ok)

def S_sl02Finite_l2 : Shp := ⟨[.h, .undef, .h], [], [.sl [.f .f32], .i .i64]⟩
def X_sl02Finite_l2 : List XShp := [(.ret, ⟨[.undef, .lb false, .undef], [], []⟩), (.exit 0, ⟨[.undef, .undef, .undef], [], []⟩)]

noncomputable def L_sl02Finite_l2 : Loops := (⟨16, lvT [(2, [0, 2, 3])], mdT [(2, .normal, [], [2]), (2, .exit 0, [], [0, 2, 3]), (2, .ret, [], [0, 3])], fun k vs bs => .bad⟩ : Loops)

theorem sl02Finite_l2_e (y0 : List Nat) (s : Int) : (loopStep (envT Try.prog C17 mtab0) L_sl02Finite_l2 2 (loopC (bodyOf Try.f85) 2) (S_sl02Finite_l2.enc (y0, s)).1 (S_sl02Finite_l2.enc (y0, s)).2).to (stepD S_sl02Finite_l2 X_sl02Finite_l2) = (sl02Finite_l2_t y0 s).map (Sum.map (fun s : Int => (show DR S_sl02Finite_l2.hs from (y0, s))) id) := by kernel_rfl

theorem sl02Finite_l2_r (x : DR S_sl02Finite_l2.hs) : (sl02Finite_l2 x.1 x.2 : Option (SumD (X_sl02Finite_l2.map (·.2)))) = runL (meanS (envT Try.prog C17 mtab0) L_sl02Finite_l2 2 (loopC (bodyOf Try.f85) 2) S_sl02Finite_l2 X_sl02Finite_l2) x := run_of (fun s : Int => (show DR S_sl02Finite_l2.hs from (x.1, s))) (sl02Finite_l2_e (x.1)) x.2

theorem sl02Finite_l2_k (L : Loops) (hn : L_sl02Finite_l2.n = L.n) (hlv : L_sl02Finite_l2.lv 2 = L.lv 2) (hL : ∀ vs bs, L.loop 2 vs bs = toldL S_sl02Finite_l2 X_sl02Finite_l2 (fun x => sl02Finite_l2 x.1 x.2) vs bs) : LOk Try.prog (envT Try.prog C17 mtab0) L 2 (loopC (bodyOf Try.f85) 2) := toldL_ok (L1 := L_sl02Finite_l2) (envT_ok (C17_ok) (mtab0_ok _)) mixedO hn hlv (loopFree_ok (by kernel_rfl)) sl02Finite_l2_r hL

def A_sl02Finite : Shp := ⟨[.h], [], [.sl [.f .f32]]⟩
def R_sl02Finite : List XShp := [(.ret, ⟨[.h], [], [.b]⟩)]

noncomputable def L_sl02Finite : Loops := (⟨16, lvT [(2, [0, 2, 3])], mdT [(2, .normal, [], [2]), (2, .exit 0, [], [0, 2, 3]), (2, .ret, [], [0, 3])], fun k vs bs => bif Nat.beq k 2 then toldL S_sl02Finite_l2 X_sl02Finite_l2 (fun x => sl02Finite_l2 x.1 x.2) vs bs else .bad⟩ : Loops)

theorem sl02Finite_e (x : DR A_sl02Finite.hs) : (evFn (envT Try.prog C17 mtab0) L_sl02Finite Try.f85 (A_sl02Finite.enc x).1).to (fun q => decX R_sl02Finite .ret [q.1] q.2) = sl02Finite_t x := by kernel_rfl

theorem sl02Finite_m (x : DR A_sl02Finite.hs) : meanF (envT Try.prog C17 mtab0) L_sl02Finite Try.f85 A_sl02Finite R_sl02Finite x = (show Option (SumD (R_sl02Finite.map (·.2))) from sl02Finite x) := meanF_of (sl02Finite_e x)

theorem sl02Finite_ok : SpecOk Try.prog 85 (evFn (envT Try.prog C17 mtab0) L_sl02Finite Try.f85) := fnL_ok (envT_ok (C17_ok) (mtab0_ok _)) mixedO Try.func85 (by kernel_rfl) (c := bodyOf Try.f85) (by kernel_rfl) (loopsL (l := [(2, loopC (bodyOf Try.f85) 2)]) (by kernel_rfl) (lk_cons (sl02Finite_l2_k _ rfl rfl (fun _ _ => rfl)) lk_nil))

theorem sl02Finite_told : SpecOk Try.prog 85 (toldO A_sl02Finite R_sl02Finite (fun x => sl02Finite x) (C17 85)) := toldO_ok (by kernel_rfl) sl02Finite_ok (rest_ok (C17_ok) _) sl02Finite_m

noncomputable def C18 : Tab := tab 85 (toldO A_sl02Finite R_sl02Finite (fun x => sl02Finite x) (C17 85)) C17
theorem C18_ok : TabOk Try.prog C18 := tab_ok (sl02Finite_told) (C17_ok)

def A_sl05Canal : Shp := ⟨[.dpt [.h, .h, .h, .h, .h] 0], [], [.f .f32, .f .f32, .f .f32, .sl [.f .f32], .sl [.f .f32]]⟩
def R_sl05Canal : List XShp := [(.ret, ⟨[.h], [], [.b]⟩)]

theorem sl05Canal_e (x : DR A_sl05Canal.hs) : (evFn (envT Try.prog C18 mtab0) noLoops Try.f97 (A_sl05Canal.enc x).1).to (fun q => decX R_sl05Canal .ret [q.1] q.2) = sl05Canal_t x.1 x.2.1 x.2.2.1 x.2.2.2.1 x.2.2.2.2 := by kernel_rfl

theorem sl05Canal_m (x : DR A_sl05Canal.hs) : meanF (envT Try.prog C18 mtab0) noLoops Try.f97 A_sl05Canal R_sl05Canal x = (show Option (SumD (R_sl05Canal.map (·.2))) from sl05Canal x.1 x.2.1 x.2.2.1 x.2.2.2.1 x.2.2.2.2) := meanF_of (sl05Canal_e x)

theorem sl05Canal_ok : SpecOk Try.prog 97 (evFn (envT Try.prog C18 mtab0) noLoops Try.f97) := fnL_ok (envT_ok (C18_ok) (mtab0_ok _)) mixedO Try.func97 (by kernel_rfl) (c := bodyOf Try.f97) (by kernel_rfl) (loopFree_ok (by kernel_rfl))

theorem sl05Canal_told : SpecOk Try.prog 97 (toldO A_sl05Canal R_sl05Canal (fun x => sl05Canal x.1 x.2.1 x.2.2.1 x.2.2.2.1 x.2.2.2.2) (C18 97)) := toldO_ok (by kernel_rfl) sl05Canal_ok (rest_ok (C18_ok) _) sl05Canal_m

noncomputable def C19 : Tab := tab 97 (toldO A_sl05Canal R_sl05Canal (fun x => sl05Canal x.1 x.2.1 x.2.2.1 x.2.2.2.1 x.2.2.2.2) (C18 97)) C18
theorem C19_ok : TabOk Try.prog C19 := tab_ok (sl05Canal_told) (C18_ok)

def A_sl05Own : Shp := ⟨[.dpt [.h, .h, .h, .h, .h] 0], [], [.f .f32, .f .f32, .f .f32, .sl [.f .f32], .sl [.f .f32]]⟩
def R_sl05Own : List XShp := [(.ret, ⟨[.agg [.h, .h, .h, .slw 0 1, .slw 1 1]], [.arr [.f .f32] false, .arr [.f .f32] false], [.f .f32, .f .f32, .f .f32, .sl [.f .f32], .sl [.f .f32]]⟩)]

theorem sl05Own_e (x : DR A_sl05Own.hs) : (evFn (envT Try.prog C19 mtab0) noLoops Try.f102 (A_sl05Own.enc x).1).to (fun q => decX R_sl05Own .ret [q.1] q.2) = sl05Own_t x.1 x.2.1 x.2.2.1 x.2.2.2.1 x.2.2.2.2 := by kernel_rfl

theorem sl05Own_m (x : DR A_sl05Own.hs) : meanF (envT Try.prog C19 mtab0) noLoops Try.f102 A_sl05Own R_sl05Own x = (show Option (SumD (R_sl05Own.map (·.2))) from sl05Own x.1 x.2.1 x.2.2.1 x.2.2.2.1 x.2.2.2.2) := meanF_of (sl05Own_e x)

theorem sl05Own_ok : SpecOk Try.prog 102 (evFn (envT Try.prog C19 mtab0) noLoops Try.f102) := fnL_ok (envT_ok (C19_ok) (mtab0_ok _)) mixedO Try.func102 (by kernel_rfl) (c := bodyOf Try.f102) (by kernel_rfl) (loopFree_ok (by kernel_rfl))

theorem sl05Own_told : SpecOk Try.prog 102 (toldO A_sl05Own R_sl05Own (fun x => sl05Own x.1 x.2.1 x.2.2.1 x.2.2.2.1 x.2.2.2.2) (C19 102)) := toldO_ok (by kernel_rfl) sl05Own_ok (rest_ok (C19_ok) _) sl05Own_m

noncomputable def C20 : Tab := tab 102 (toldO A_sl05Own R_sl05Own (fun x => sl05Own x.1 x.2.1 x.2.2.1 x.2.2.2.1 x.2.2.2.2) (C19 102)) C19
theorem C20_ok : TabOk Try.prog C20 := tab_ok (sl05Own_told) (C19_ok)

def S_sl05Tick_l4 : Shp := ⟨[.dpt [.h, .h, .h, .h, .h] 0, .h, .h, .ref 0 0, .ref 1 0, .h, .h, .h], [.cells [.h, .h, .h, .nils, .nils] false, .cells [.h, .h, .h, .slw 2 1, .slw 3 1] false, .arr [.f .f32] false, .arr [.f .f32] false], [.f .f32, .f .f32, .f .f32, .sl [.f .f32], .sl [.f .f32], .f .f32, .f .f32, .f .f32, .i .i64, .i .i64, .f .f32, .f .f32, .f .f32, .f .f32, .f .f32, .f .f32, .sl [.f .f32], .sl [.f .f32]]⟩
def X_sl05Tick_l4 : List XShp := [(.exit 0, ⟨[.dpt [.h, .h, .h, .h, .h] 0, .undef, .h, .ref 0 0, .ref 1 0, .undef, .undef, .undef], [.cells [.h, .h, .h, .nils, .nils] false, .cells [.h, .h, .h, .slw 2 1, .slw 3 1] false, .arr [.f .f32] false, .arr [.f .f32] false], [.f .f32, .f .f32, .f .f32, .sl [.f .f32], .sl [.f .f32], .f .f32, .f .f32, .f .f32, .f .f32, .f .f32, .f .f32, .f .f32, .sl [.f .f32], .sl [.f .f32]]⟩)]

noncomputable def L_sl05Tick_l4 : Loops := (⟨128, lvT [(13, [0, 2, 6, 8, 81, 82]), (4, [0, 1, 2, 6, 8, 9, 26, 27])], mdT [(13, .exit 2, [], [0, 2, 81, 82]), (4, .exit 0, [], [1, 9, 26, 27])], fun k vs bs => .bad⟩ : Loops)

theorem sl05Tick_l4_e (y0 : Nat) (y1 : Nat) (y2 : Nat) (y3 : List Nat) (y4 : List Nat) (y5 : Nat) (y6 : Nat) (y7 : Nat) (y8 : Int) (y10 : Nat) (y11 : Nat) (y12 : Nat) (y13 : Nat) (y14 : Nat) (y15 : Nat) (y16 : List Nat) (s : Int × List Nat) : (loopStep (envT Try.prog C20 mtab0) L_sl05Tick_l4 4 (loopC (bodyOf Try.f99) 4) (S_sl05Tick_l4.enc (y0, y1, y2, y3, y4, y5, y6, y7, y8, s.1, y10, y11, y12, y13, y14, y15, y16, s.2)).1 (S_sl05Tick_l4.enc (y0, y1, y2, y3, y4, y5, y6, y7, y8, s.1, y10, y11, y12, y13, y14, y15, y16, s.2)).2).to (stepD S_sl05Tick_l4 X_sl05Tick_l4) = (sl05Tick_l4_t y0 y1 y2 y3 y4 y5 y6 y7 y8 y10 y11 y12 y13 y14 y15 y16 s.1 s.2).map (Sum.map (fun s : Int × List Nat => (show DR S_sl05Tick_l4.hs from (y0, y1, y2, y3, y4, y5, y6, y7, y8, s.1, y10, y11, y12, y13, y14, y15, y16, s.2))) id) := by kernel_rfl

theorem sl05Tick_l4_r (x : DR S_sl05Tick_l4.hs) : (sl05Tick_l4 x.1 x.2.1 x.2.2.1 x.2.2.2.1 x.2.2.2.2.1 x.2.2.2.2.2.1 x.2.2.2.2.2.2.1 x.2.2.2.2.2.2.2.1 x.2.2.2.2.2.2.2.2.1 x.2.2.2.2.2.2.2.2.2.1 x.2.2.2.2.2.2.2.2.2.2.1 x.2.2.2.2.2.2.2.2.2.2.2.1 x.2.2.2.2.2.2.2.2.2.2.2.2.1 x.2.2.2.2.2.2.2.2.2.2.2.2.2.1 x.2.2.2.2.2.2.2.2.2.2.2.2.2.2.1 x.2.2.2.2.2.2.2.2.2.2.2.2.2.2.2.1 x.2.2.2.2.2.2.2.2.2.2.2.2.2.2.2.2.1 x.2.2.2.2.2.2.2.2.2.2.2.2.2.2.2.2.2 : Option (SumD (X_sl05Tick_l4.map (·.2)))) = runL (meanS (envT Try.prog C20 mtab0) L_sl05Tick_l4 4 (loopC (bodyOf Try.f99) 4) S_sl05Tick_l4 X_sl05Tick_l4) x := run_of (fun s : Int × List Nat => (show DR S_sl05Tick_l4.hs from (x.1, x.2.1, x.2.2.1, x.2.2.2.1, x.2.2.2.2.1, x.2.2.2.2.2.1, x.2.2.2.2.2.2.1, x.2.2.2.2.2.2.2.1, x.2.2.2.2.2.2.2.2.1, s.1, x.2.2.2.2.2.2.2.2.2.2.1, x.2.2.2.2.2.2.2.2.2.2.2.1, x.2.2.2.2.2.2.2.2.2.2.2.2.1, x.2.2.2.2.2.2.2.2.2.2.2.2.2.1, x.2.2.2.2.2.2.2.2.2.2.2.2.2.2.1, x.2.2.2.2.2.2.2.2.2.2.2.2.2.2.2.1, x.2.2.2.2.2.2.2.2.2.2.2.2.2.2.2.2.1, s.2))) (sl05Tick_l4_e (x.1) (x.2.1) (x.2.2.1) (x.2.2.2.1) (x.2.2.2.2.1) (x.2.2.2.2.2.1) (x.2.2.2.2.2.2.1) (x.2.2.2.2.2.2.2.1) (x.2.2.2.2.2.2.2.2.1) (x.2.2.2.2.2.2.2.2.2.2.1) (x.2.2.2.2.2.2.2.2.2.2.2.1) (x.2.2.2.2.2.2.2.2.2.2.2.2.1) (x.2.2.2.2.2.2.2.2.2.2.2.2.2.1) (x.2.2.2.2.2.2.2.2.2.2.2.2.2.2.1) (x.2.2.2.2.2.2.2.2.2.2.2.2.2.2.2.1) (x.2.2.2.2.2.2.2.2.2.2.2.2.2.2.2.2.1)) (x.2.2.2.2.2.2.2.2.2.1, x.2.2.2.2.2.2.2.2.2.2.2.2.2.2.2.2.2)

theorem sl05Tick_l4_k (L : Loops) (hn : L_sl05Tick_l4.n = L.n) (hlv : L_sl05Tick_l4.lv 4 = L.lv 4) (hL : ∀ vs bs, L.loop 4 vs bs = toldL S_sl05Tick_l4 X_sl05Tick_l4 (fun x => sl05Tick_l4 x.1 x.2.1 x.2.2.1 x.2.2.2.1 x.2.2.2.2.1 x.2.2.2.2.2.1 x.2.2.2.2.2.2.1 x.2.2.2.2.2.2.2.1 x.2.2.2.2.2.2.2.2.1 x.2.2.2.2.2.2.2.2.2.1 x.2.2.2.2.2.2.2.2.2.2.1 x.2.2.2.2.2.2.2.2.2.2.2.1 x.2.2.2.2.2.2.2.2.2.2.2.2.1 x.2.2.2.2.2.2.2.2.2.2.2.2.2.1 x.2.2.2.2.2.2.2.2.2.2.2.2.2.2.1 x.2.2.2.2.2.2.2.2.2.2.2.2.2.2.2.1 x.2.2.2.2.2.2.2.2.2.2.2.2.2.2.2.2.1 x.2.2.2.2.2.2.2.2.2.2.2.2.2.2.2.2.2) vs bs) : LOk Try.prog (envT Try.prog C20 mtab0) L 4 (loopC (bodyOf Try.f99) 4) := toldL_ok (L1 := L_sl05Tick_l4) (envT_ok (C20_ok) (mtab0_ok _)) mixedO hn hlv (loopFree_ok (by kernel_rfl)) sl05Tick_l4_r hL

def S_sl05Tick_l13 : Shp := ⟨[.dpt [.h, .h, .h, .h, .h] 0, .h, .ref 0 0, .ref 1 0, .h, .h], [.cells [.h, .h, .h, .nils, .nils] false, .cells [.h, .h, .h, .slw 2 1, .slw 3 1] false, .arr [.f .f32] false, .arr [.f .f32] false], [.f .f32, .f .f32, .f .f32, .sl [.f .f32], .sl [.f .f32], .f .f32, .i .i64, .i .i64, .f .f32, .f .f32, .f .f32, .f .f32, .f .f32, .f .f32, .sl [.f .f32], .sl [.f .f32]]⟩
def X_sl05Tick_l13 : List XShp := [(.exit 2, ⟨[.undef, .undef, .ref 0 0, .ref 1 0, .undef, .undef], [.cells [.h, .h, .h, .nils, .nils] false, .cells [.h, .h, .h, .slw 2 1, .slw 3 1] false, .arr [.f .f32] false, .arr [.f .f32] false], [.f .f32, .f .f32, .f .f32, .f .f32, .f .f32, .f .f32, .sl [.f .f32], .sl [.f .f32]]⟩)]

noncomputable def L_sl05Tick_l13 : Loops := (⟨128, lvT [(13, [0, 2, 6, 8, 81, 82]), (4, [0, 1, 2, 6, 8, 9, 26, 27])], mdT [(13, .exit 2, [], [0, 2, 81, 82]), (4, .exit 0, [], [1, 9, 26, 27])], fun k vs bs => .bad⟩ : Loops)

theorem sl05Tick_l13_e (y0 : Nat) (y1 : Nat) (y2 : Nat) (y3 : List Nat) (y4 : List Nat) (y5 : Nat) (y6 : Int) (y8 : Nat) (y9 : Nat) (y10 : Nat) (y11 : Nat) (y12 : Nat) (y13 : Nat) (y15 : List Nat) (s : Int × List Nat) : (loopStep (envT Try.prog C20 mtab0) L_sl05Tick_l13 13 (loopC (bodyOf Try.f99) 13) (S_sl05Tick_l13.enc (y0, y1, y2, y3, y4, y5, y6, s.1, y8, y9, y10, y11, y12, y13, s.2, y15)).1 (S_sl05Tick_l13.enc (y0, y1, y2, y3, y4, y5, y6, s.1, y8, y9, y10, y11, y12, y13, s.2, y15)).2).to (stepD S_sl05Tick_l13 X_sl05Tick_l13) = (sl05Tick_l13_t y0 y1 y2 y3 y4 y5 y6 y8 y9 y10 y11 y12 y13 y15 s.1 s.2).map (Sum.map (fun s : Int × List Nat => (show DR S_sl05Tick_l13.hs from (y0, y1, y2, y3, y4, y5, y6, s.1, y8, y9, y10, y11, y12, y13, s.2, y15))) id) := by kernel_rfl

theorem sl05Tick_l13_r (x : DR S_sl05Tick_l13.hs) : (sl05Tick_l13 x.1 x.2.1 x.2.2.1 x.2.2.2.1 x.2.2.2.2.1 x.2.2.2.2.2.1 x.2.2.2.2.2.2.1 x.2.2.2.2.2.2.2.1 x.2.2.2.2.2.2.2.2.1 x.2.2.2.2.2.2.2.2.2.1 x.2.2.2.2.2.2.2.2.2.2.1 x.2.2.2.2.2.2.2.2.2.2.2.1 x.2.2.2.2.2.2.2.2.2.2.2.2.1 x.2.2.2.2.2.2.2.2.2.2.2.2.2.1 x.2.2.2.2.2.2.2.2.2.2.2.2.2.2.1 x.2.2.2.2.2.2.2.2.2.2.2.2.2.2.2 : Option (SumD (X_sl05Tick_l13.map (·.2)))) = runL (meanS (envT Try.prog C20 mtab0) L_sl05Tick_l13 13 (loopC (bodyOf Try.f99) 13) S_sl05Tick_l13 X_sl05Tick_l13) x := run_of (fun s : Int × List Nat => (show DR S_sl05Tick_l13.hs from (x.1, x.2.1, x.2.2.1, x.2.2.2.1, x.2.2.2.2.1, x.2.2.2.2.2.1, x.2.2.2.2.2.2.1, s.1, x.2.2.2.2.2.2.2.2.1, x.2.2.2.2.2.2.2.2.2.1, x.2.2.2.2.2.2.2.2.2.2.1, x.2.2.2.2.2.2.2.2.2.2.2.1, x.2.2.2.2.2.2.2.2.2.2.2.2.1, x.2.2.2.2.2.2.2.2.2.2.2.2.2.1, s.2, x.2.2.2.2.2.2.2.2.2.2.2.2.2.2.2))) (sl05Tick_l13_e (x.1) (x.2.1) (x.2.2.1) (x.2.2.2.1) (x.2.2.2.2.1) (x.2.2.2.2.2.1) (x.2.2.2.2.2.2.1) (x.2.2.2.2.2.2.2.2.1) (x.2.2.2.2.2.2.2.2.2.1) (x.2.2.2.2.2.2.2.2.2.2.1) (x.2.2.2.2.2.2.2.2.2.2.2.1) (x.2.2.2.2.2.2.2.2.2.2.2.2.1) (x.2.2.2.2.2.2.2.2.2.2.2.2.2.1) (x.2.2.2.2.2.2.2.2.2.2.2.2.2.2.2)) (x.2.2.2.2.2.2.2.1, x.2.2.2.2.2.2.2.2.2.2.2.2.2.2.1)

theorem sl05Tick_l13_k (L : Loops) (hn : L_sl05Tick_l13.n = L.n) (hlv : L_sl05Tick_l13.lv 13 = L.lv 13) (hL : ∀ vs bs, L.loop 13 vs bs = toldL S_sl05Tick_l13 X_sl05Tick_l13 (fun x => sl05Tick_l13 x.1 x.2.1 x.2.2.1 x.2.2.2.1 x.2.2.2.2.1 x.2.2.2.2.2.1 x.2.2.2.2.2.2.1 x.2.2.2.2.2.2.2.1 x.2.2.2.2.2.2.2.2.1 x.2.2.2.2.2.2.2.2.2.1 x.2.2.2.2.2.2.2.2.2.2.1 x.2.2.2.2.2.2.2.2.2.2.2.1 x.2.2.2.2.2.2.2.2.2.2.2.2.1 x.2.2.2.2.2.2.2.2.2.2.2.2.2.1 x.2.2.2.2.2.2.2.2.2.2.2.2.2.2.1 x.2.2.2.2.2.2.2.2.2.2.2.2.2.2.2) vs bs) : LOk Try.prog (envT Try.prog C20 mtab0) L 13 (loopC (bodyOf Try.f99) 13) := toldL_ok (L1 := L_sl05Tick_l13) (envT_ok (C20_ok) (mtab0_ok _)) mixedO hn hlv (loopFree_ok (by kernel_rfl)) sl05Tick_l13_r hL

def A_sl05Tick : Shp := ⟨[.dpt [.h, .h, .h, .h, .h] 0, .h, .h], [], [.f .f32, .f .f32, .f .f32, .sl [.f .f32], .sl [.f .f32], .f .f32, .f .f32]⟩
def R_sl05Tick : List XShp := [(.ret, ⟨[.tup [.agg [.h, .h, .h, .nils, .nils], .lb false]], [], [.f .f32, .f .f32, .f .f32]⟩), (.ret, ⟨[.tup [.agg [.h, .h, .h, .slw 0 1, .slw 1 1], .lb true]], [.arr [.f .f32] false, .arr [.f .f32] false], [.f .f32, .f .f32, .f .f32, .sl [.f .f32], .sl [.f .f32]]⟩)]

noncomputable def L_sl05Tick : Loops := (⟨128, lvT [(13, [0, 2, 6, 8, 81, 82]), (4, [0, 1, 2, 6, 8, 9, 26, 27])], mdT [(13, .exit 2, [], [0, 2, 81, 82]), (4, .exit 0, [], [1, 9, 26, 27])], fun k vs bs => bif Nat.beq k 13 then toldL S_sl05Tick_l13 X_sl05Tick_l13 (fun x => sl05Tick_l13 x.1 x.2.1 x.2.2.1 x.2.2.2.1 x.2.2.2.2.1 x.2.2.2.2.2.1 x.2.2.2.2.2.2.1 x.2.2.2.2.2.2.2.1 x.2.2.2.2.2.2.2.2.1 x.2.2.2.2.2.2.2.2.2.1 x.2.2.2.2.2.2.2.2.2.2.1 x.2.2.2.2.2.2.2.2.2.2.2.1 x.2.2.2.2.2.2.2.2.2.2.2.2.1 x.2.2.2.2.2.2.2.2.2.2.2.2.2.1 x.2.2.2.2.2.2.2.2.2.2.2.2.2.2.1 x.2.2.2.2.2.2.2.2.2.2.2.2.2.2.2) vs bs else bif Nat.beq k 4 then toldL S_sl05Tick_l4 X_sl05Tick_l4 (fun x => sl05Tick_l4 x.1 x.2.1 x.2.2.1 x.2.2.2.1 x.2.2.2.2.1 x.2.2.2.2.2.1 x.2.2.2.2.2.2.1 x.2.2.2.2.2.2.2.1 x.2.2.2.2.2.2.2.2.1 x.2.2.2.2.2.2.2.2.2.1 x.2.2.2.2.2.2.2.2.2.2.1 x.2.2.2.2.2.2.2.2.2.2.2.1 x.2.2.2.2.2.2.2.2.2.2.2.2.1 x.2.2.2.2.2.2.2.2.2.2.2.2.2.1 x.2.2.2.2.2.2.2.2.2.2.2.2.2.2.1 x.2.2.2.2.2.2.2.2.2.2.2.2.2.2.2.1 x.2.2.2.2.2.2.2.2.2.2.2.2.2.2.2.2.1 x.2.2.2.2.2.2.2.2.2.2.2.2.2.2.2.2.2) vs bs else .bad⟩ : Loops)

theorem sl05Tick_e (x : DR A_sl05Tick.hs) : (evFn (envT Try.prog C20 mtab0) L_sl05Tick Try.f99 (A_sl05Tick.enc x).1).to (fun q => decX R_sl05Tick .ret [q.1] q.2) = sl05Tick_t x.1 x.2.1 x.2.2.1 x.2.2.2.1 x.2.2.2.2.1 x.2.2.2.2.2.1 x.2.2.2.2.2.2 := by kernel_rfl

theorem sl05Tick_m (x : DR A_sl05Tick.hs) : meanF (envT Try.prog C20 mtab0) L_sl05Tick Try.f99 A_sl05Tick R_sl05Tick x = (show Option (SumD (R_sl05Tick.map (·.2))) from sl05Tick x.1 x.2.1 x.2.2.1 x.2.2.2.1 x.2.2.2.2.1 x.2.2.2.2.2.1 x.2.2.2.2.2.2) := meanF_of (sl05Tick_e x)

theorem sl05Tick_ok : SpecOk Try.prog 99 (evFn (envT Try.prog C20 mtab0) L_sl05Tick Try.f99) := fnL_ok (envT_ok (C20_ok) (mtab0_ok _)) mixedO Try.func99 (by kernel_rfl) (c := bodyOf Try.f99) (by kernel_rfl) (loopsL (l := [(4, loopC (bodyOf Try.f99) 4), (13, loopC (bodyOf Try.f99) 13)]) (by kernel_rfl) (lk_cons (sl05Tick_l4_k _ rfl rfl (fun _ _ => rfl)) (lk_cons (sl05Tick_l13_k _ rfl rfl (fun _ _ => rfl)) lk_nil)))

theorem sl05Tick_told : SpecOk Try.prog 99 (toldO A_sl05Tick R_sl05Tick (fun x => sl05Tick x.1 x.2.1 x.2.2.1 x.2.2.2.1 x.2.2.2.2.1 x.2.2.2.2.2.1 x.2.2.2.2.2.2) (C20 99)) := toldO_ok (by kernel_rfl) sl05Tick_ok (rest_ok (C20_ok) _) sl05Tick_m

noncomputable def C21 : Tab := tab 99 (toldO A_sl05Tick R_sl05Tick (fun x => sl05Tick x.1 x.2.1 x.2.2.1 x.2.2.2.1 x.2.2.2.2.1 x.2.2.2.2.2.1 x.2.2.2.2.2.2) (C20 99)) C20
theorem C21_ok : TabOk Try.prog C21 := tab_ok (sl05Tick_told) (C20_ok)

def A_sStepCanal : Shp := ⟨[.agg [.h, .h, .h, .h, .h], .h, .h], [], [.f .f32, .f .f32, .f .f32, .sl [.f .f32], .sl [.f .f32], .f .f32, .f .f32]⟩
def R_sStepCanal : List XShp := [(.ret, ⟨[.tup [.agg [.h, .h, .h, .nils, .nils], .lb false]], [], [.f .f32, .f .f32, .f .f32]⟩), (.ret, ⟨[.tup [.agg [.h, .h, .h, .slw 0 1, .slw 1 1], .lb true]], [.arr [.f .f32] false, .arr [.f .f32] false], [.f .f32, .f .f32, .f .f32, .sl [.f .f32], .sl [.f .f32]]⟩)]

theorem sStepCanal_e (x : DR A_sStepCanal.hs) : (evFn (envT Try.prog C21 mtab0) noLoops Try.f51 (A_sStepCanal.enc x).1).to (fun q => decX R_sStepCanal .ret [q.1] q.2) = sStepCanal_t x.1 x.2.1 x.2.2.1 x.2.2.2.1 x.2.2.2.2.1 x.2.2.2.2.2.1 x.2.2.2.2.2.2 := by kernel_rfl

theorem sStepCanal_m (x : DR A_sStepCanal.hs) : meanF (envT Try.prog C21 mtab0) noLoops Try.f51 A_sStepCanal R_sStepCanal x = (show Option (SumD (R_sStepCanal.map (·.2))) from sStepCanal x.1 x.2.1 x.2.2.1 x.2.2.2.1 x.2.2.2.2.1 x.2.2.2.2.2.1 x.2.2.2.2.2.2) := meanF_of (sStepCanal_e x)

theorem sStepCanal_ok : SpecOk Try.prog 51 (evFn (envT Try.prog C21 mtab0) noLoops Try.f51) := fnL_ok (envT_ok (C21_ok) (mtab0_ok _)) mixedO Try.func51 (by kernel_rfl) (c := bodyOf Try.f51) (by kernel_rfl) (loopFree_ok (by kernel_rfl))

theorem sStepCanal_told : SpecOk Try.prog 51 (toldO A_sStepCanal R_sStepCanal (fun x => sStepCanal x.1 x.2.1 x.2.2.1 x.2.2.2.1 x.2.2.2.2.1 x.2.2.2.2.2.1 x.2.2.2.2.2.2) (C21 51)) := toldO_ok (by kernel_rfl) sStepCanal_ok (rest_ok (C21_ok) _) sStepCanal_m

noncomputable def C22 : Tab := tab 51 (toldO A_sStepCanal R_sStepCanal (fun x => sStepCanal x.1 x.2.1 x.2.2.1 x.2.2.2.1 x.2.2.2.2.1 x.2.2.2.2.2.1 x.2.2.2.2.2.2) (C21 51)) C21
theorem C22_ok : TabOk Try.prog C22 := tab_ok (sStepCanal_told) (C21_ok)

def S_iareLengths_l2 : Shp := ⟨[.undef, .h, .h, .h], [], [.sl [.f .f32], .i .i64, .i .i64]⟩
def X_iareLengths_l2 : List XShp := [(.ret, ⟨[.lb false, .undef, .undef, .undef], [], []⟩), (.exit 0, ⟨[.undef, .undef, .undef, .undef], [], []⟩)]

noncomputable def L_iareLengths_l2 : Loops := (⟨15, lvT [(2, [2, 5, 6, 7])], mdT [(2, .normal, [], [2]), (2, .exit 0, [], [2, 5, 6, 7]), (2, .ret, [], [5, 6, 7])], fun k vs bs => .bad⟩ : Loops)

theorem iareLengths_l2_e (y0 : List Nat) (y1 : Int) (s : Int) : (loopStep (envT Try.prog C22 mtab0) L_iareLengths_l2 2 (loopC (bodyOf Try.f130) 2) (S_iareLengths_l2.enc (y0, y1, s)).1 (S_iareLengths_l2.enc (y0, y1, s)).2).to (stepD S_iareLengths_l2 X_iareLengths_l2) = (iareLengths_l2_t y0 y1 s).map (Sum.map (fun s : Int => (show DR S_iareLengths_l2.hs from (y0, y1, s))) id) := by kernel_rfl

theorem iareLengths_l2_r (x : DR S_iareLengths_l2.hs) : (iareLengths_l2 x.1 x.2.1 x.2.2 : Option (SumD (X_iareLengths_l2.map (·.2)))) = runL (meanS (envT Try.prog C22 mtab0) L_iareLengths_l2 2 (loopC (bodyOf Try.f130) 2) S_iareLengths_l2 X_iareLengths_l2) x := run_of (fun s : Int => (show DR S_iareLengths_l2.hs from (x.1, x.2.1, s))) (iareLengths_l2_e (x.1) (x.2.1)) x.2.2

theorem iareLengths_l2_k (L : Loops) (hn : L_iareLengths_l2.n = L.n) (hlv : L_iareLengths_l2.lv 2 = L.lv 2) (hL : ∀ vs bs, L.loop 2 vs bs = toldL S_iareLengths_l2 X_iareLengths_l2 (fun x => iareLengths_l2 x.1 x.2.1 x.2.2) vs bs) : LOk Try.prog (envT Try.prog C22 mtab0) L 2 (loopC (bodyOf Try.f130) 2) := toldL_ok (L1 := L_iareLengths_l2) (envT_ok (C22_ok) (mtab0_ok _)) mixedO hn hlv (loopFree_ok (by kernel_rfl)) iareLengths_l2_r hL

def A_iareLengths : Shp := ⟨[.h], [], [.sl [.f .f32]]⟩
def R_iareLengths : List XShp := [(.ret, ⟨[.h], [], [.b]⟩)]

noncomputable def L_iareLengths : Loops := (⟨15, lvT [(2, [2, 5, 6, 7])], mdT [(2, .normal, [], [2]), (2, .exit 0, [], [2, 5, 6, 7]), (2, .ret, [], [5, 6, 7])], fun k vs bs => bif Nat.beq k 2 then toldL S_iareLengths_l2 X_iareLengths_l2 (fun x => iareLengths_l2 x.1 x.2.1 x.2.2) vs bs else .bad⟩ : Loops)

theorem iareLengths_e (x : DR A_iareLengths.hs) : (evFn (envT Try.prog C22 mtab0) L_iareLengths Try.f130 (A_iareLengths.enc x).1).to (fun q => decX R_iareLengths .ret [q.1] q.2) = iareLengths_t x := by kernel_rfl

theorem iareLengths_m (x : DR A_iareLengths.hs) : meanF (envT Try.prog C22 mtab0) L_iareLengths Try.f130 A_iareLengths R_iareLengths x = (show Option (SumD (R_iareLengths.map (·.2))) from iareLengths x) := meanF_of (iareLengths_e x)

theorem iareLengths_ok : SpecOk Try.prog 130 (evFn (envT Try.prog C22 mtab0) L_iareLengths Try.f130) := fnL_ok (envT_ok (C22_ok) (mtab0_ok _)) mixedO Try.func130 (by kernel_rfl) (c := bodyOf Try.f130) (by kernel_rfl) (loopsL (l := [(2, loopC (bodyOf Try.f130) 2)]) (by kernel_rfl) (lk_cons (iareLengths_l2_k _ rfl rfl (fun _ _ => rfl)) lk_nil))

theorem iareLengths_told : SpecOk Try.prog 130 (toldO A_iareLengths R_iareLengths (fun x => iareLengths x) (C22 130)) := toldO_ok (by kernel_rfl) iareLengths_ok (rest_ok (C22_ok) _) iareLengths_m

noncomputable def C23 : Tab := tab 130 (toldO A_iareLengths R_iareLengths (fun x => iareLengths x) (C22 130)) C22
theorem C23_ok : TabOk Try.prog C23 := tab_ok (iareLengths_told) (C22_ok)

def A_iwithin : Shp := ⟨[.h, .h, .h], [], [.i .i64, .i .i64, .i .i64]⟩
def R_iwithin : List XShp := [(.ret, ⟨[.h], [], [.b]⟩)]

theorem iwithin_e (x : DR A_iwithin.hs) : (evFn (envT Try.prog C23 mtab0) noLoops Try.f96 (A_iwithin.enc x).1).to (fun q => decX R_iwithin .ret [q.1] q.2) = iwithin_t x.1 x.2.1 x.2.2 := by kernel_rfl

theorem iwithin_m (x : DR A_iwithin.hs) : meanF (envT Try.prog C23 mtab0) noLoops Try.f96 A_iwithin R_iwithin x = some (show SumD (R_iwithin.map (·.2)) from iwithin x.1 x.2.1 x.2.2) := @meanF_tot _ _ _ _ _ _ _ (iwithin_e x) (show Inhabited (Bool) from inferInstance) (by kernel_rfl)

theorem iwithin_ok : SpecOk Try.prog 96 (evFn (envT Try.prog C23 mtab0) noLoops Try.f96) := fnL_ok (envT_ok (C23_ok) (mtab0_ok _)) mixedO Try.func96 (by kernel_rfl) (c := bodyOf Try.f96) (by kernel_rfl) (loopFree_ok (by kernel_rfl))

theorem iwithin_told : SpecOk Try.prog 96 (toldT A_iwithin R_iwithin (fun x => iwithin x.1 x.2.1 x.2.2) (C23 96)) := toldT_ok (by kernel_rfl) iwithin_ok (rest_ok (C23_ok) _) iwithin_m

noncomputable def C24 : Tab := tab 96 (toldT A_iwithin R_iwithin (fun x => iwithin x.1 x.2.1 x.2.2) (C23 96)) C23
theorem C24_ok : TabOk Try.prog C24 := tab_ok (iwithin_told) (C23_ok)

def A_iareFinite_1 : Shp := ⟨[.h], [], [.f .f32]⟩
def R_iareFinite_1 : List XShp := [(.ret, ⟨[.h], [], [.b]⟩)]

theorem iareFinite_1_e (x : DR A_iareFinite_1.hs) : (evFn (envT Try.prog C24 mtab0) noLoops Try.f127 (A_iareFinite_1.enc x).1).to (fun q => decX R_iareFinite_1 .ret [q.1] q.2) = iareFinite_1_t x := by kernel_rfl

theorem iareFinite_1_m (x : DR A_iareFinite_1.hs) : meanF (envT Try.prog C24 mtab0) noLoops Try.f127 A_iareFinite_1 R_iareFinite_1 x = some (show SumD (R_iareFinite_1.map (·.2)) from iareFinite_1 x) := @meanF_tot _ _ _ _ _ _ _ (iareFinite_1_e x) (show Inhabited (Bool) from inferInstance) (by kernel_rfl)

theorem iareFinite_1_ok : SpecOk Try.prog 127 (evFn (envT Try.prog C24 mtab0) noLoops Try.f127) := fnL_ok (envT_ok (C24_ok) (mtab0_ok _)) mixedO Try.func127 (by kernel_rfl) (c := bodyOf Try.f127) (by kernel_rfl) (loopFree_ok (by kernel_rfl))

theorem iareFinite_1_told : SpecOk Try.prog 127 (toldT A_iareFinite_1 R_iareFinite_1 (fun x => iareFinite_1 x) (C24 127)) := toldT_ok (by kernel_rfl) iareFinite_1_ok (rest_ok (C24_ok) _) iareFinite_1_m

noncomputable def C25 : Tab := tab 127 (toldT A_iareFinite_1 R_iareFinite_1 (fun x => iareFinite_1 x) (C24 127)) C24
theorem C25_ok : TabOk Try.prog C25 := tab_ok (iareFinite_1_told) (C24_ok)

def S_lIndexFunc_iareFinite_1_l2 : Shp := ⟨[.h, .fn 127 [], .undef, .h, .h], [], [.sl [.f .f32], .i .i64, .i .i64]⟩
def X_lIndexFunc_iareFinite_1_l2 : List XShp := [(.ret, ⟨[.undef, .undef, .h, .undef, .undef], [], [.i .i64]⟩), (.exit 0, ⟨[.undef, .undef, .undef, .undef, .undef], [], []⟩)]

noncomputable def L_lIndexFunc_iareFinite_1_l2 : Loops := (⟨19, lvT [(2, [0, 1, 4, 7, 8])], mdT [(2, .normal, [], [4]), (2, .exit 0, [], [0, 1, 4, 7, 8]), (2, .ret, [], [0, 1, 7, 8])], fun k vs bs => .bad⟩ : Loops)

theorem lIndexFunc_iareFinite_1_l2_e (y0 : List Nat) (y1 : Int) (s : Int) : (loopStep (envT Try.prog C25 mtab0) L_lIndexFunc_iareFinite_1_l2 2 (loopC (bodyOf Try.f121) 2) (S_lIndexFunc_iareFinite_1_l2.enc (y0, y1, s)).1 (S_lIndexFunc_iareFinite_1_l2.enc (y0, y1, s)).2).to (stepD S_lIndexFunc_iareFinite_1_l2 X_lIndexFunc_iareFinite_1_l2) = (lIndexFunc_iareFinite_1_l2_t y0 y1 s).map (Sum.map (fun s : Int => (show DR S_lIndexFunc_iareFinite_1_l2.hs from (y0, y1, s))) id) := by kernel_rfl

theorem lIndexFunc_iareFinite_1_l2_r (x : DR S_lIndexFunc_iareFinite_1_l2.hs) : (lIndexFunc_iareFinite_1_l2 x.1 x.2.1 x.2.2 : Option (SumD (X_lIndexFunc_iareFinite_1_l2.map (·.2)))) = runL (meanS (envT Try.prog C25 mtab0) L_lIndexFunc_iareFinite_1_l2 2 (loopC (bodyOf Try.f121) 2) S_lIndexFunc_iareFinite_1_l2 X_lIndexFunc_iareFinite_1_l2) x := run_of (fun s : Int => (show DR S_lIndexFunc_iareFinite_1_l2.hs from (x.1, x.2.1, s))) (lIndexFunc_iareFinite_1_l2_e (x.1) (x.2.1)) x.2.2

theorem lIndexFunc_iareFinite_1_l2_k (L : Loops) (hn : L_lIndexFunc_iareFinite_1_l2.n = L.n) (hlv : L_lIndexFunc_iareFinite_1_l2.lv 2 = L.lv 2) (hL : ∀ vs bs, L.loop 2 vs bs = toldL S_lIndexFunc_iareFinite_1_l2 X_lIndexFunc_iareFinite_1_l2 (fun x => lIndexFunc_iareFinite_1_l2 x.1 x.2.1 x.2.2) vs bs) : LOk Try.prog (envT Try.prog C25 mtab0) L 2 (loopC (bodyOf Try.f121) 2) := toldL_ok (L1 := L_lIndexFunc_iareFinite_1_l2) (envT_ok (C25_ok) (mtab0_ok _)) mixedO hn hlv (loopFree_ok (by kernel_rfl)) lIndexFunc_iareFinite_1_l2_r hL

def A_lIndexFunc_iareFinite_1 : Shp := ⟨[.h, .fn 127 []], [], [.sl [.f .f32]]⟩
def R_lIndexFunc_iareFinite_1 : List XShp := [(.ret, ⟨[.h], [], [.i .i64]⟩)]

noncomputable def L_lIndexFunc_iareFinite_1 : Loops := (⟨19, lvT [(2, [0, 1, 4, 7, 8])], mdT [(2, .normal, [], [4]), (2, .exit 0, [], [0, 1, 4, 7, 8]), (2, .ret, [], [0, 1, 7, 8])], fun k vs bs => bif Nat.beq k 2 then toldL S_lIndexFunc_iareFinite_1_l2 X_lIndexFunc_iareFinite_1_l2 (fun x => lIndexFunc_iareFinite_1_l2 x.1 x.2.1 x.2.2) vs bs else .bad⟩ : Loops)

theorem lIndexFunc_iareFinite_1_e (x : DR A_lIndexFunc_iareFinite_1.hs) : (evFn (envT Try.prog C25 mtab0) L_lIndexFunc_iareFinite_1 Try.f121 (A_lIndexFunc_iareFinite_1.enc x).1).to (fun q => decX R_lIndexFunc_iareFinite_1 .ret [q.1] q.2) = lIndexFunc_iareFinite_1_t x := by kernel_rfl

theorem lIndexFunc_iareFinite_1_m (x : DR A_lIndexFunc_iareFinite_1.hs) : meanF (envT Try.prog C25 mtab0) L_lIndexFunc_iareFinite_1 Try.f121 A_lIndexFunc_iareFinite_1 R_lIndexFunc_iareFinite_1 x = (show Option (SumD (R_lIndexFunc_iareFinite_1.map (·.2))) from lIndexFunc_iareFinite_1 x) := meanF_of (lIndexFunc_iareFinite_1_e x)

theorem lIndexFunc_iareFinite_1_ok : SpecOk Try.prog 121 (evFn (envT Try.prog C25 mtab0) L_lIndexFunc_iareFinite_1 Try.f121) := fnL_ok (envT_ok (C25_ok) (mtab0_ok _)) mixedO Try.func121 (by kernel_rfl) (c := bodyOf Try.f121) (by kernel_rfl) (loopsL (l := [(2, loopC (bodyOf Try.f121) 2)]) (by kernel_rfl) (lk_cons (lIndexFunc_iareFinite_1_l2_k _ rfl rfl (fun _ _ => rfl)) lk_nil))

theorem lIndexFunc_iareFinite_1_told : SpecOk Try.prog 121 (toldO A_lIndexFunc_iareFinite_1 R_lIndexFunc_iareFinite_1 (fun x => lIndexFunc_iareFinite_1 x) (C25 121)) := toldO_ok (by kernel_rfl) lIndexFunc_iareFinite_1_ok (rest_ok (C25_ok) _) lIndexFunc_iareFinite_1_m

noncomputable def C26 : Tab := tab 121 (toldO A_lIndexFunc_iareFinite_1 R_lIndexFunc_iareFinite_1 (fun x => lIndexFunc_iareFinite_1 x) (C25 121)) C25
theorem C26_ok : TabOk Try.prog C26 := tab_ok (lIndexFunc_iareFinite_1_told) (C25_ok)

def A_lContainsFunc_iareFinite_1 : Shp := ⟨[.h, .fn 127 []], [], [.sl [.f .f32]]⟩
def R_lContainsFunc_iareFinite_1 : List XShp := [(.ret, ⟨[.h], [], [.b]⟩)]

theorem lContainsFunc_iareFinite_1_e (x : DR A_lContainsFunc_iareFinite_1.hs) : (evFn (envT Try.prog C26 mtab0) noLoops Try.f123 (A_lContainsFunc_iareFinite_1.enc x).1).to (fun q => decX R_lContainsFunc_iareFinite_1 .ret [q.1] q.2) = lContainsFunc_iareFinite_1_t x := by kernel_rfl

theorem lContainsFunc_iareFinite_1_m (x : DR A_lContainsFunc_iareFinite_1.hs) : meanF (envT Try.prog C26 mtab0) noLoops Try.f123 A_lContainsFunc_iareFinite_1 R_lContainsFunc_iareFinite_1 x = (show Option (SumD (R_lContainsFunc_iareFinite_1.map (·.2))) from lContainsFunc_iareFinite_1 x) := meanF_of (lContainsFunc_iareFinite_1_e x)

theorem lContainsFunc_iareFinite_1_ok : SpecOk Try.prog 123 (evFn (envT Try.prog C26 mtab0) noLoops Try.f123) := fnL_ok (envT_ok (C26_ok) (mtab0_ok _)) mixedO Try.func123 (by kernel_rfl) (c := bodyOf Try.f123) (by kernel_rfl) (loopFree_ok (by kernel_rfl))

theorem lContainsFunc_iareFinite_1_told : SpecOk Try.prog 123 (toldO A_lContainsFunc_iareFinite_1 R_lContainsFunc_iareFinite_1 (fun x => lContainsFunc_iareFinite_1 x) (C26 123)) := toldO_ok (by kernel_rfl) lContainsFunc_iareFinite_1_ok (rest_ok (C26_ok) _) lContainsFunc_iareFinite_1_m

noncomputable def C27 : Tab := tab 123 (toldO A_lContainsFunc_iareFinite_1 R_lContainsFunc_iareFinite_1 (fun x => lContainsFunc_iareFinite_1 x) (C26 123)) C26
theorem C27_ok : TabOk Try.prog C27 := tab_ok (lContainsFunc_iareFinite_1_told) (C26_ok)

def A_iareFinite : Shp := ⟨[.h], [], [.sl [.f .f32]]⟩
def R_iareFinite : List XShp := [(.ret, ⟨[.h], [], [.b]⟩)]

theorem iareFinite_e (x : DR A_iareFinite.hs) : (evFn (envT Try.prog C27 mtab0) noLoops Try.f90 (A_iareFinite.enc x).1).to (fun q => decX R_iareFinite .ret [q.1] q.2) = iareFinite_t x := by kernel_rfl

theorem iareFinite_m (x : DR A_iareFinite.hs) : meanF (envT Try.prog C27 mtab0) noLoops Try.f90 A_iareFinite R_iareFinite x = (show Option (SumD (R_iareFinite.map (·.2))) from iareFinite x) := meanF_of (iareFinite_e x)

theorem iareFinite_ok : SpecOk Try.prog 90 (evFn (envT Try.prog C27 mtab0) noLoops Try.f90) := fnL_ok (envT_ok (C27_ok) (mtab0_ok _)) mixedO Try.func90 (by kernel_rfl) (c := bodyOf Try.f90) (by kernel_rfl) (loopFree_ok (by kernel_rfl))

theorem iareFinite_told : SpecOk Try.prog 90 (toldO A_iareFinite R_iareFinite (fun x => iareFinite x) (C27 90)) := toldO_ok (by kernel_rfl) iareFinite_ok (rest_ok (C27_ok) _) iareFinite_m

noncomputable def C28 : Tab := tab 90 (toldO A_iareFinite R_iareFinite (fun x => iareFinite x) (C27 90)) C27
theorem C28_ok : TabOk Try.prog C28 := tab_ok (iareFinite_told) (C27_ok)

def A_iValidCanal : Shp := ⟨[.agg [.h, .h, .h, .h, .h]], [], [.f .f32, .f .f32, .f .f32, .sl [.f .f32], .sl [.f .f32]]⟩
def R_iValidCanal : List XShp := [(.ret, ⟨[.h], [], [.b]⟩)]

theorem iValidCanal_e (x : DR A_iValidCanal.hs) : (evFn (envT Try.prog C28 mtab0) noLoops Try.f98 (A_iValidCanal.enc x).1).to (fun q => decX R_iValidCanal .ret [q.1] q.2) = iValidCanal_t x.1 x.2.1 x.2.2.1 x.2.2.2.1 x.2.2.2.2 := by kernel_rfl

theorem iValidCanal_m (x : DR A_iValidCanal.hs) : meanF (envT Try.prog C28 mtab0) noLoops Try.f98 A_iValidCanal R_iValidCanal x = (show Option (SumD (R_iValidCanal.map (·.2))) from iValidCanal x.1 x.2.1 x.2.2.1 x.2.2.2.1 x.2.2.2.2) := meanF_of (iValidCanal_e x)

theorem iValidCanal_ok : SpecOk Try.prog 98 (evFn (envT Try.prog C28 mtab0) noLoops Try.f98) := fnL_ok (envT_ok (C28_ok) (mtab0_ok _)) mixedO Try.func98 (by kernel_rfl) (c := bodyOf Try.f98) (by kernel_rfl) (loopFree_ok (by kernel_rfl))

theorem iValidCanal_told : SpecOk Try.prog 98 (toldO A_iValidCanal R_iValidCanal (fun x => iValidCanal x.1 x.2.1 x.2.2.1 x.2.2.2.1 x.2.2.2.2) (C28 98)) := toldO_ok (by kernel_rfl) iValidCanal_ok (rest_ok (C28_ok) _) iValidCanal_m

noncomputable def C29 : Tab := tab 98 (toldO A_iValidCanal R_iValidCanal (fun x => iValidCanal x.1 x.2.1 x.2.2.1 x.2.2.2.1 x.2.2.2.2) (C28 98)) C28
theorem C29_ok : TabOk Try.prog C29 := tab_ok (iValidCanal_told) (C28_ok)

def A_lClone : Shp := ⟨[.h], [], [.sl [.f .f32]]⟩
def R_lClone : List XShp := [(.ret, ⟨[.slw 0 1], [.arr [.f .f32] false], [.sl [.f .f32]]⟩)]

theorem lClone_e (x : DR A_lClone.hs) : (evFn (envT Try.prog C29 mtab0) noLoops Try.f131 (A_lClone.enc x).1).to (fun q => decX R_lClone .ret [q.1] q.2) = lClone_t x := by kernel_rfl

theorem lClone_m (x : DR A_lClone.hs) : meanF (envT Try.prog C29 mtab0) noLoops Try.f131 A_lClone R_lClone x = (show Option (SumD (R_lClone.map (·.2))) from lClone x) := meanF_of (lClone_e x)

theorem lClone_ok : SpecOk Try.prog 131 (evFn (envT Try.prog C29 mtab0) noLoops Try.f131) := fnL_ok (envT_ok (C29_ok) (mtab0_ok _)) mixedO Try.func131 (by kernel_rfl) (c := bodyOf Try.f131) (by kernel_rfl) (loopFree_ok (by kernel_rfl))

theorem lClone_told : SpecOk Try.prog 131 (toldO A_lClone R_lClone (fun x => lClone x) (C29 131)) := toldO_ok (by kernel_rfl) lClone_ok (rest_ok (C29_ok) _) lClone_m

noncomputable def C30 : Tab := tab 131 (toldO A_lClone R_lClone (fun x => lClone x) (C29 131)) C29
theorem C30_ok : TabOk Try.prog C30 := tab_ok (lClone_told) (C29_ok)

def A_iCanal_cloned : Shp := ⟨[.agg [.h, .h, .h, .h, .h]], [], [.f .f32, .f .f32, .f .f32, .sl [.f .f32], .sl [.f .f32]]⟩
def R_iCanal_cloned : List XShp := [(.ret, ⟨[.agg [.h, .h, .h, .slw 0 1, .slw 1 1]], [.arr [.f .f32] false, .arr [.f .f32] false], [.f .f32, .f .f32, .f .f32, .sl [.f .f32], .sl [.f .f32]]⟩)]

theorem iCanal_cloned_e (x : DR A_iCanal_cloned.hs) : (evFn (envT Try.prog C30 mtab0) noLoops Try.f100 (A_iCanal_cloned.enc x).1).to (fun q => decX R_iCanal_cloned .ret [q.1] q.2) = iCanal_cloned_t x.1 x.2.1 x.2.2.1 x.2.2.2.1 x.2.2.2.2 := by kernel_rfl

theorem iCanal_cloned_m (x : DR A_iCanal_cloned.hs) : meanF (envT Try.prog C30 mtab0) noLoops Try.f100 A_iCanal_cloned R_iCanal_cloned x = (show Option (SumD (R_iCanal_cloned.map (·.2))) from iCanal_cloned x.1 x.2.1 x.2.2.1 x.2.2.2.1 x.2.2.2.2) := meanF_of (iCanal_cloned_e x)

theorem iCanal_cloned_ok : SpecOk Try.prog 100 (evFn (envT Try.prog C30 mtab0) noLoops Try.f100) := fnL_ok (envT_ok (C30_ok) (mtab0_ok _)) mixedO Try.func100 (by kernel_rfl) (c := bodyOf Try.f100) (by kernel_rfl) (loopFree_ok (by kernel_rfl))

theorem iCanal_cloned_told : SpecOk Try.prog 100 (toldO A_iCanal_cloned R_iCanal_cloned (fun x => iCanal_cloned x.1 x.2.1 x.2.2.1 x.2.2.2.1 x.2.2.2.2) (C30 100)) := toldO_ok (by kernel_rfl) iCanal_cloned_ok (rest_ok (C30_ok) _) iCanal_cloned_m

noncomputable def C31 : Tab := tab 100 (toldO A_iCanal_cloned R_iCanal_cloned (fun x => iCanal_cloned x.1 x.2.1 x.2.2.1 x.2.2.2.1 x.2.2.2.2) (C30 100)) C30
theorem C31_ok : TabOk Try.prog C31 := tab_ok (iCanal_cloned_told) (C30_ok)

def A_itoldCanal : Shp := ⟨[.agg [.h, .h, .h, .slw 0 1, .slw 1 1]], [.arr [.f .f32] false, .arr [.f .f32] false], [.f .f32, .f .f32, .f .f32, .sl [.f .f32], .sl [.f .f32]]⟩
def R_itoldCanal : List XShp := [(.ret, ⟨[.tup [.agg [.h, .h, .h, .nils, .nils], .lb false]], [.arr [.f .f32] false, .arr [.f .f32] false], [.f .f32, .f .f32, .f .f32, .sl [.f .f32], .sl [.f .f32]]⟩), (.ret, ⟨[.tup [.agg [.h, .h, .h, .slw 0 1, .slw 1 1], .lb true]], [.arr [.f .f32] false, .arr [.f .f32] false], [.f .f32, .f .f32, .f .f32, .sl [.f .f32], .sl [.f .f32]]⟩)]

theorem itoldCanal_e (x : DR A_itoldCanal.hs) : (evFnM (envW Try.prog C31 mtab0 2) noLoops Try.f101 (A_itoldCanal.enc x).1 ((A_itoldCanal.enc x).2.map (·.blk))).to (decM R_itoldCanal) = itoldCanal_t x.1 x.2.1 x.2.2.1 x.2.2.2.1 x.2.2.2.2 := by kernel_rfl

theorem itoldCanal_m (x : DR A_itoldCanal.hs) : meanM (envW Try.prog C31 mtab0 2) noLoops Try.f101 A_itoldCanal R_itoldCanal x = (show Option (SumD (R_itoldCanal.map (·.2))) from itoldCanal x.1 x.2.1 x.2.2.1 x.2.2.2.1 x.2.2.2.2) := meanM_of (itoldCanal_e x)

theorem itoldCanal_ok : MSpecOk Try.prog 101 (evFnM (envW Try.prog C31 mtab0 2) noLoops Try.f101) := fnM_ok (envW_ok (C31_ok) (mtab0_ok _)) rfl mixedO Try.func101 (by kernel_rfl) (c := bodyOf Try.f101) (by kernel_rfl) (loopFree_ok (by kernel_rfl))

theorem itoldCanal_told : MSpecOk Try.prog 101 (toldMO A_itoldCanal R_itoldCanal (fun x => itoldCanal x.1 x.2.1 x.2.2.1 x.2.2.2.1 x.2.2.2.2) (mrest mtab0 101)) := toldMO_ok (by kernel_rfl) itoldCanal_ok (mrest_ok (mtab0_ok _) _) itoldCanal_m

noncomputable def M32 : MTab := mtab 101 (toldMO A_itoldCanal R_itoldCanal (fun x => itoldCanal x.1 x.2.1 x.2.2.1 x.2.2.2.1 x.2.2.2.2) (mrest mtab0 101)) mtab0
theorem M32_ok : MTabOk Try.prog M32 := mtab_ok (itoldCanal_told) (mtab0_ok _)

def S_iStepCanal_l5 : Shp := ⟨[.h, .ref 0 0, .ref 1 0, .ref 2 0, .h, .h, .h, .h], [.cells [.h, .h, .h, .h, .h] false, .cells [.h, .h, .h, .nils, .nils] false, .cells [.h, .h, .h, .slw 3 1, .slw 4 1] false, .arr [.f .f32] false, .arr [.f .f32] false], [.f .f32, .f .f32, .sl [.f .f32], .i .i64, .i .i64, .f .f32, .f .f32, .f .f32, .sl [.f .f32], .sl [.f .f32], .f .f32, .f .f32, .f .f32, .f .f32, .f .f32, .f .f32, .sl [.f .f32], .sl [.f .f32]]⟩
def X_iStepCanal_l5 : List XShp := [(.exit 0, ⟨[.h, .ref 0 0, .ref 1 0, .ref 2 0, .undef, .undef, .undef, .undef], [.cells [.h, .h, .h, .h, .h] false, .cells [.h, .h, .h, .nils, .nils] false, .cells [.h, .h, .h, .slw 3 1, .slw 4 1] false, .arr [.f .f32] false, .arr [.f .f32] false], [.f .f32, .f .f32, .f .f32, .f .f32, .sl [.f .f32], .sl [.f .f32], .f .f32, .f .f32, .f .f32, .f .f32, .f .f32, .f .f32, .sl [.f .f32], .sl [.f .f32]]⟩)]

noncomputable def L_iStepCanal_l5 : Loops := (⟨119, lvT [(12, [2, 3, 6, 8, 77, 78, 79]), (5, [2, 3, 6, 8, 9, 34, 35, 36])], mdT [(12, .exit 2, [], [2, 3, 77, 78, 79]), (5, .exit 0, [], [9, 34, 35, 36])], fun k vs bs => .bad⟩ : Loops)

theorem iStepCanal_l5_e (y0 : Nat) (y2 : List Nat) (y3 : Int) (y5 : Nat) (y6 : Nat) (y7 : Nat) (y8 : List Nat) (y9 : List Nat) (y10 : Nat) (y11 : Nat) (y12 : Nat) (y13 : Nat) (y14 : Nat) (y15 : Nat) (y16 : List Nat) (s : Nat × Int × List Nat) : (loopStep (envT Try.prog C31 M32) L_iStepCanal_l5 5 (loopC (bodyOf Try.f52) 5) (S_iStepCanal_l5.enc (y0, s.1, y2, y3, s.2.1, y5, y6, y7, y8, y9, y10, y11, y12, y13, y14, y15, y16, s.2.2)).1 (S_iStepCanal_l5.enc (y0, s.1, y2, y3, s.2.1, y5, y6, y7, y8, y9, y10, y11, y12, y13, y14, y15, y16, s.2.2)).2).to (stepD S_iStepCanal_l5 X_iStepCanal_l5) = (iStepCanal_l5_t y0 y2 y3 y5 y6 y7 y8 y9 y10 y11 y12 y13 y14 y15 y16 s.1 s.2.1 s.2.2).map (Sum.map (fun s : Nat × Int × List Nat => (show DR S_iStepCanal_l5.hs from (y0, s.1, y2, y3, s.2.1, y5, y6, y7, y8, y9, y10, y11, y12, y13, y14, y15, y16, s.2.2))) id) := by kernel_rfl

theorem iStepCanal_l5_r (x : DR S_iStepCanal_l5.hs) : (iStepCanal_l5 x.1 x.2.1 x.2.2.1 x.2.2.2.1 x.2.2.2.2.1 x.2.2.2.2.2.1 x.2.2.2.2.2.2.1 x.2.2.2.2.2.2.2.1 x.2.2.2.2.2.2.2.2.1 x.2.2.2.2.2.2.2.2.2.1 x.2.2.2.2.2.2.2.2.2.2.1 x.2.2.2.2.2.2.2.2.2.2.2.1 x.2.2.2.2.2.2.2.2.2.2.2.2.1 x.2.2.2.2.2.2.2.2.2.2.2.2.2.1 x.2.2.2.2.2.2.2.2.2.2.2.2.2.2.1 x.2.2.2.2.2.2.2.2.2.2.2.2.2.2.2.1 x.2.2.2.2.2.2.2.2.2.2.2.2.2.2.2.2.1 x.2.2.2.2.2.2.2.2.2.2.2.2.2.2.2.2.2 : Option (SumD (X_iStepCanal_l5.map (·.2)))) = runL (meanS (envT Try.prog C31 M32) L_iStepCanal_l5 5 (loopC (bodyOf Try.f52) 5) S_iStepCanal_l5 X_iStepCanal_l5) x := run_of (fun s : Nat × Int × List Nat => (show DR S_iStepCanal_l5.hs from (x.1, s.1, x.2.2.1, x.2.2.2.1, s.2.1, x.2.2.2.2.2.1, x.2.2.2.2.2.2.1, x.2.2.2.2.2.2.2.1, x.2.2.2.2.2.2.2.2.1, x.2.2.2.2.2.2.2.2.2.1, x.2.2.2.2.2.2.2.2.2.2.1, x.2.2.2.2.2.2.2.2.2.2.2.1, x.2.2.2.2.2.2.2.2.2.2.2.2.1, x.2.2.2.2.2.2.2.2.2.2.2.2.2.1, x.2.2.2.2.2.2.2.2.2.2.2.2.2.2.1, x.2.2.2.2.2.2.2.2.2.2.2.2.2.2.2.1, x.2.2.2.2.2.2.2.2.2.2.2.2.2.2.2.2.1, s.2.2))) (iStepCanal_l5_e (x.1) (x.2.2.1) (x.2.2.2.1) (x.2.2.2.2.2.1) (x.2.2.2.2.2.2.1) (x.2.2.2.2.2.2.2.1) (x.2.2.2.2.2.2.2.2.1) (x.2.2.2.2.2.2.2.2.2.1) (x.2.2.2.2.2.2.2.2.2.2.1) (x.2.2.2.2.2.2.2.2.2.2.2.1) (x.2.2.2.2.2.2.2.2.2.2.2.2.1) (x.2.2.2.2.2.2.2.2.2.2.2.2.2.1) (x.2.2.2.2.2.2.2.2.2.2.2.2.2.2.1) (x.2.2.2.2.2.2.2.2.2.2.2.2.2.2.2.1) (x.2.2.2.2.2.2.2.2.2.2.2.2.2.2.2.2.1)) (x.2.1, x.2.2.2.2.1, x.2.2.2.2.2.2.2.2.2.2.2.2.2.2.2.2.2)

theorem iStepCanal_l5_k (L : Loops) (hn : L_iStepCanal_l5.n = L.n) (hlv : L_iStepCanal_l5.lv 5 = L.lv 5) (hL : ∀ vs bs, L.loop 5 vs bs = toldL S_iStepCanal_l5 X_iStepCanal_l5 (fun x => iStepCanal_l5 x.1 x.2.1 x.2.2.1 x.2.2.2.1 x.2.2.2.2.1 x.2.2.2.2.2.1 x.2.2.2.2.2.2.1 x.2.2.2.2.2.2.2.1 x.2.2.2.2.2.2.2.2.1 x.2.2.2.2.2.2.2.2.2.1 x.2.2.2.2.2.2.2.2.2.2.1 x.2.2.2.2.2.2.2.2.2.2.2.1 x.2.2.2.2.2.2.2.2.2.2.2.2.1 x.2.2.2.2.2.2.2.2.2.2.2.2.2.1 x.2.2.2.2.2.2.2.2.2.2.2.2.2.2.1 x.2.2.2.2.2.2.2.2.2.2.2.2.2.2.2.1 x.2.2.2.2.2.2.2.2.2.2.2.2.2.2.2.2.1 x.2.2.2.2.2.2.2.2.2.2.2.2.2.2.2.2.2) vs bs) : LOk Try.prog (envT Try.prog C31 M32) L 5 (loopC (bodyOf Try.f52) 5) := toldL_ok (L1 := L_iStepCanal_l5) (envT_ok (C31_ok) (M32_ok)) mixedO hn hlv (loopFree_ok (by kernel_rfl)) iStepCanal_l5_r hL

def S_iStepCanal_l12 : Shp := ⟨[.h, .ref 0 0, .ref 1 0, .ref 2 0, .h, .h, .h], [.cells [.h, .h, .h, .h, .h] false, .cells [.h, .h, .h, .nils, .nils] false, .cells [.h, .h, .h, .slw 3 1, .slw 4 1] false, .arr [.f .f32] false, .arr [.f .f32] false], [.f .f32, .sl [.f .f32], .i .i64, .i .i64, .f .f32, .f .f32, .f .f32, .sl [.f .f32], .sl [.f .f32], .f .f32, .f .f32, .f .f32, .f .f32, .f .f32, .f .f32, .sl [.f .f32], .sl [.f .f32]]⟩
def X_iStepCanal_l12 : List XShp := [(.exit 2, ⟨[.undef, .undef, .ref 0 0, .ref 1 0, .undef, .undef, .undef], [.cells [.h, .h, .h, .nils, .nils] false, .cells [.h, .h, .h, .slw 2 1, .slw 3 1] false, .arr [.f .f32] false, .arr [.f .f32] false], [.f .f32, .f .f32, .f .f32, .f .f32, .f .f32, .f .f32, .sl [.f .f32], .sl [.f .f32]]⟩)]

noncomputable def L_iStepCanal_l12 : Loops := (⟨119, lvT [(12, [2, 3, 6, 8, 77, 78, 79]), (5, [2, 3, 6, 8, 9, 34, 35, 36])], mdT [(12, .exit 2, [], [2, 3, 77, 78, 79]), (5, .exit 0, [], [9, 34, 35, 36])], fun k vs bs => .bad⟩ : Loops)

theorem iStepCanal_l12_e (y0 : Nat) (y1 : List Nat) (y2 : Int) (y4 : Nat) (y5 : Nat) (y6 : Nat) (y7 : List Nat) (y8 : List Nat) (y9 : Nat) (y10 : Nat) (y11 : Nat) (y12 : Nat) (y13 : Nat) (y14 : Nat) (y16 : List Nat) (s : Int × List Nat) : (loopStep (envT Try.prog C31 M32) L_iStepCanal_l12 12 (loopC (bodyOf Try.f52) 12) (S_iStepCanal_l12.enc (y0, y1, y2, s.1, y4, y5, y6, y7, y8, y9, y10, y11, y12, y13, y14, s.2, y16)).1 (S_iStepCanal_l12.enc (y0, y1, y2, s.1, y4, y5, y6, y7, y8, y9, y10, y11, y12, y13, y14, s.2, y16)).2).to (stepD S_iStepCanal_l12 X_iStepCanal_l12) = (iStepCanal_l12_t y0 y1 y2 y4 y5 y6 y7 y8 y9 y10 y11 y12 y13 y14 y16 s.1 s.2).map (Sum.map (fun s : Int × List Nat => (show DR S_iStepCanal_l12.hs from (y0, y1, y2, s.1, y4, y5, y6, y7, y8, y9, y10, y11, y12, y13, y14, s.2, y16))) id) := by kernel_rfl

theorem iStepCanal_l12_r (x : DR S_iStepCanal_l12.hs) : (iStepCanal_l12 x.1 x.2.1 x.2.2.1 x.2.2.2.1 x.2.2.2.2.1 x.2.2.2.2.2.1 x.2.2.2.2.2.2.1 x.2.2.2.2.2.2.2.1 x.2.2.2.2.2.2.2.2.1 x.2.2.2.2.2.2.2.2.2.1 x.2.2.2.2.2.2.2.2.2.2.1 x.2.2.2.2.2.2.2.2.2.2.2.1 x.2.2.2.2.2.2.2.2.2.2.2.2.1 x.2.2.2.2.2.2.2.2.2.2.2.2.2.1 x.2.2.2.2.2.2.2.2.2.2.2.2.2.2.1 x.2.2.2.2.2.2.2.2.2.2.2.2.2.2.2.1 x.2.2.2.2.2.2.2.2.2.2.2.2.2.2.2.2 : Option (SumD (X_iStepCanal_l12.map (·.2)))) = runL (meanS (envT Try.prog C31 M32) L_iStepCanal_l12 12 (loopC (bodyOf Try.f52) 12) S_iStepCanal_l12 X_iStepCanal_l12) x := run_of (fun s : Int × List Nat => (show DR S_iStepCanal_l12.hs from (x.1, x.2.1, x.2.2.1, s.1, x.2.2.2.2.1, x.2.2.2.2.2.1, x.2.2.2.2.2.2.1, x.2.2.2.2.2.2.2.1, x.2.2.2.2.2.2.2.2.1, x.2.2.2.2.2.2.2.2.2.1, x.2.2.2.2.2.2.2.2.2.2.1, x.2.2.2.2.2.2.2.2.2.2.2.1, x.2.2.2.2.2.2.2.2.2.2.2.2.1, x.2.2.2.2.2.2.2.2.2.2.2.2.2.1, x.2.2.2.2.2.2.2.2.2.2.2.2.2.2.1, s.2, x.2.2.2.2.2.2.2.2.2.2.2.2.2.2.2.2))) (iStepCanal_l12_e (x.1) (x.2.1) (x.2.2.1) (x.2.2.2.2.1) (x.2.2.2.2.2.1) (x.2.2.2.2.2.2.1) (x.2.2.2.2.2.2.2.1) (x.2.2.2.2.2.2.2.2.1) (x.2.2.2.2.2.2.2.2.2.1) (x.2.2.2.2.2.2.2.2.2.2.1) (x.2.2.2.2.2.2.2.2.2.2.2.1) (x.2.2.2.2.2.2.2.2.2.2.2.2.1) (x.2.2.2.2.2.2.2.2.2.2.2.2.2.1) (x.2.2.2.2.2.2.2.2.2.2.2.2.2.2.1) (x.2.2.2.2.2.2.2.2.2.2.2.2.2.2.2.2)) (x.2.2.2.1, x.2.2.2.2.2.2.2.2.2.2.2.2.2.2.2.1)

theorem iStepCanal_l12_k (L : Loops) (hn : L_iStepCanal_l12.n = L.n) (hlv : L_iStepCanal_l12.lv 12 = L.lv 12) (hL : ∀ vs bs, L.loop 12 vs bs = toldL S_iStepCanal_l12 X_iStepCanal_l12 (fun x => iStepCanal_l12 x.1 x.2.1 x.2.2.1 x.2.2.2.1 x.2.2.2.2.1 x.2.2.2.2.2.1 x.2.2.2.2.2.2.1 x.2.2.2.2.2.2.2.1 x.2.2.2.2.2.2.2.2.1 x.2.2.2.2.2.2.2.2.2.1 x.2.2.2.2.2.2.2.2.2.2.1 x.2.2.2.2.2.2.2.2.2.2.2.1 x.2.2.2.2.2.2.2.2.2.2.2.2.1 x.2.2.2.2.2.2.2.2.2.2.2.2.2.1 x.2.2.2.2.2.2.2.2.2.2.2.2.2.2.1 x.2.2.2.2.2.2.2.2.2.2.2.2.2.2.2.1 x.2.2.2.2.2.2.2.2.2.2.2.2.2.2.2.2) vs bs) : LOk Try.prog (envT Try.prog C31 M32) L 12 (loopC (bodyOf Try.f52) 12) := toldL_ok (L1 := L_iStepCanal_l12) (envT_ok (C31_ok) (M32_ok)) mixedO hn hlv (loopFree_ok (by kernel_rfl)) iStepCanal_l12_r hL

def A_iStepCanal : Shp := ⟨[.agg [.h, .h, .h, .h, .h], .h, .h], [], [.f .f32, .f .f32, .f .f32, .sl [.f .f32], .sl [.f .f32], .f .f32, .f .f32]⟩
def R_iStepCanal : List XShp := [(.ret, ⟨[.tup [.agg [.h, .h, .h, .nils, .nils], .lb false]], [], [.f .f32, .f .f32, .f .f32]⟩), (.ret, ⟨[.tup [.agg [.h, .h, .h, .slw 0 1, .slw 1 1], .lb true]], [.arr [.f .f32] false, .arr [.f .f32] false], [.f .f32, .f .f32, .f .f32, .sl [.f .f32], .sl [.f .f32]]⟩)]

noncomputable def L_iStepCanal : Loops := (⟨119, lvT [(12, [2, 3, 6, 8, 77, 78, 79]), (5, [2, 3, 6, 8, 9, 34, 35, 36])], mdT [(12, .exit 2, [], [2, 3, 77, 78, 79]), (5, .exit 0, [], [9, 34, 35, 36])], fun k vs bs => bif Nat.beq k 12 then toldL S_iStepCanal_l12 X_iStepCanal_l12 (fun x => iStepCanal_l12 x.1 x.2.1 x.2.2.1 x.2.2.2.1 x.2.2.2.2.1 x.2.2.2.2.2.1 x.2.2.2.2.2.2.1 x.2.2.2.2.2.2.2.1 x.2.2.2.2.2.2.2.2.1 x.2.2.2.2.2.2.2.2.2.1 x.2.2.2.2.2.2.2.2.2.2.1 x.2.2.2.2.2.2.2.2.2.2.2.1 x.2.2.2.2.2.2.2.2.2.2.2.2.1 x.2.2.2.2.2.2.2.2.2.2.2.2.2.1 x.2.2.2.2.2.2.2.2.2.2.2.2.2.2.1 x.2.2.2.2.2.2.2.2.2.2.2.2.2.2.2.1 x.2.2.2.2.2.2.2.2.2.2.2.2.2.2.2.2) vs bs else bif Nat.beq k 5 then toldL S_iStepCanal_l5 X_iStepCanal_l5 (fun x => iStepCanal_l5 x.1 x.2.1 x.2.2.1 x.2.2.2.1 x.2.2.2.2.1 x.2.2.2.2.2.1 x.2.2.2.2.2.2.1 x.2.2.2.2.2.2.2.1 x.2.2.2.2.2.2.2.2.1 x.2.2.2.2.2.2.2.2.2.1 x.2.2.2.2.2.2.2.2.2.2.1 x.2.2.2.2.2.2.2.2.2.2.2.1 x.2.2.2.2.2.2.2.2.2.2.2.2.1 x.2.2.2.2.2.2.2.2.2.2.2.2.2.1 x.2.2.2.2.2.2.2.2.2.2.2.2.2.2.1 x.2.2.2.2.2.2.2.2.2.2.2.2.2.2.2.1 x.2.2.2.2.2.2.2.2.2.2.2.2.2.2.2.2.1 x.2.2.2.2.2.2.2.2.2.2.2.2.2.2.2.2.2) vs bs else .bad⟩ : Loops)

theorem iStepCanal_e (x : DR A_iStepCanal.hs) : (evFn (envT Try.prog C31 M32) L_iStepCanal Try.f52 (A_iStepCanal.enc x).1).to (fun q => decX R_iStepCanal .ret [q.1] q.2) = iStepCanal_t x.1 x.2.1 x.2.2.1 x.2.2.2.1 x.2.2.2.2.1 x.2.2.2.2.2.1 x.2.2.2.2.2.2 := by kernel_rfl

theorem iStepCanal_m (x : DR A_iStepCanal.hs) : meanF (envT Try.prog C31 M32) L_iStepCanal Try.f52 A_iStepCanal R_iStepCanal x = (show Option (SumD (R_iStepCanal.map (·.2))) from iStepCanal x.1 x.2.1 x.2.2.1 x.2.2.2.1 x.2.2.2.2.1 x.2.2.2.2.2.1 x.2.2.2.2.2.2) := meanF_of (iStepCanal_e x)

theorem iStepCanal_ok : SpecOk Try.prog 52 (evFn (envT Try.prog C31 M32) L_iStepCanal Try.f52) := fnL_ok (envT_ok (C31_ok) (M32_ok)) mixedO Try.func52 (by kernel_rfl) (c := bodyOf Try.f52) (by kernel_rfl) (loopsL (l := [(5, loopC (bodyOf Try.f52) 5), (12, loopC (bodyOf Try.f52) 12)]) (by kernel_rfl) (lk_cons (iStepCanal_l5_k _ rfl rfl (fun _ _ => rfl)) (lk_cons (iStepCanal_l12_k _ rfl rfl (fun _ _ => rfl)) lk_nil)))

theorem iStepCanal_told : SpecOk Try.prog 52 (toldO A_iStepCanal R_iStepCanal (fun x => iStepCanal x.1 x.2.1 x.2.2.1 x.2.2.2.1 x.2.2.2.2.1 x.2.2.2.2.2.1 x.2.2.2.2.2.2) (C31 52)) := toldO_ok (by kernel_rfl) iStepCanal_ok (rest_ok (C31_ok) _) iStepCanal_m

noncomputable def C33 : Tab := tab 52 (toldO A_iStepCanal R_iStepCanal (fun x => iStepCanal x.1 x.2.1 x.2.2.1 x.2.2.2.1 x.2.2.2.2.1 x.2.2.2.2.2.1 x.2.2.2.2.2.2) (C31 52)) C31
theorem C33_ok : TabOk Try.prog C33 := tab_ok (iStepCanal_told) (C31_ok)

def S_weqFloat32S_l4 : Shp := ⟨[.h, .h, .undef, .h], [], [.sl [.f .f32], .sl [.f .f32], .i .i64]⟩
def X_weqFloat32S_l4 : List XShp := [(.exit 0, ⟨[.undef, .undef, .undef, .undef], [], []⟩)]

noncomputable def L_weqFloat32S_l4 : Loops := (⟨29, lvT [(4, [0, 1, 4, 5])], mdT [(4, .normal, [], [4]), (4, .exit 0, [], [0, 1, 4, 5]), (4, .ret, [], [0, 1, 5])], fun k vs bs => .bad⟩ : Loops)

theorem weqFloat32S_l4_e (y0 : List Nat) (y1 : List Nat) (s : Int) : (loopStep (envT Try.prog C33 M32) L_weqFloat32S_l4 4 (loopC (bodyOf Try.f26) 4) (S_weqFloat32S_l4.enc (y0, y1, s)).1 (S_weqFloat32S_l4.enc (y0, y1, s)).2).to (stepD S_weqFloat32S_l4 X_weqFloat32S_l4) = (weqFloat32S_l4_t y0 y1 s).map (Sum.map (fun s : Int => (show DR S_weqFloat32S_l4.hs from (y0, y1, s))) id) := by kernel_rfl

theorem weqFloat32S_l4_r (x : DR S_weqFloat32S_l4.hs) : (weqFloat32S_l4 x.1 x.2.1 x.2.2 : Option (SumD (X_weqFloat32S_l4.map (·.2)))) = runL (meanS (envT Try.prog C33 M32) L_weqFloat32S_l4 4 (loopC (bodyOf Try.f26) 4) S_weqFloat32S_l4 X_weqFloat32S_l4) x := run_of (fun s : Int => (show DR S_weqFloat32S_l4.hs from (x.1, x.2.1, s))) (weqFloat32S_l4_e (x.1) (x.2.1)) x.2.2

theorem weqFloat32S_l4_k (L : Loops) (hn : L_weqFloat32S_l4.n = L.n) (hlv : L_weqFloat32S_l4.lv 4 = L.lv 4) (hL : ∀ vs bs, L.loop 4 vs bs = toldL S_weqFloat32S_l4 X_weqFloat32S_l4 (fun x => weqFloat32S_l4 x.1 x.2.1 x.2.2) vs bs) : LOk Try.prog (envT Try.prog C33 M32) L 4 (loopC (bodyOf Try.f26) 4) := toldL_ok (L1 := L_weqFloat32S_l4) (envT_ok (C33_ok) (M32_ok)) mixedO hn hlv (loopFree_ok (by kernel_rfl)) weqFloat32S_l4_r hL

def A_weqFloat32S : Shp := ⟨[.h, .h], [], [.sl [.f .f32], .sl [.f .f32]]⟩
def R_weqFloat32S : List XShp := [(.ret, ⟨[.h], [], [.b]⟩)]

noncomputable def L_weqFloat32S : Loops := (⟨29, lvT [(4, [0, 1, 4, 5])], mdT [(4, .normal, [], [4]), (4, .exit 0, [], [0, 1, 4, 5]), (4, .ret, [], [0, 1, 5])], fun k vs bs => bif Nat.beq k 4 then toldL S_weqFloat32S_l4 X_weqFloat32S_l4 (fun x => weqFloat32S_l4 x.1 x.2.1 x.2.2) vs bs else .bad⟩ : Loops)

theorem weqFloat32S_e (x : DR A_weqFloat32S.hs) : (evFn (envT Try.prog C33 M32) L_weqFloat32S Try.f26 (A_weqFloat32S.enc x).1).to (fun q => decX R_weqFloat32S .ret [q.1] q.2) = weqFloat32S_t x.1 x.2 := by kernel_rfl

theorem weqFloat32S_m (x : DR A_weqFloat32S.hs) : meanF (envT Try.prog C33 M32) L_weqFloat32S Try.f26 A_weqFloat32S R_weqFloat32S x = (show Option (SumD (R_weqFloat32S.map (·.2))) from weqFloat32S x.1 x.2) := meanF_of (weqFloat32S_e x)

theorem weqFloat32S_ok : SpecOk Try.prog 26 (evFn (envT Try.prog C33 M32) L_weqFloat32S Try.f26) := fnL_ok (envT_ok (C33_ok) (M32_ok)) mixedO Try.func26 (by kernel_rfl) (c := bodyOf Try.f26) (by kernel_rfl) (loopsL (l := [(4, loopC (bodyOf Try.f26) 4)]) (by kernel_rfl) (lk_cons (weqFloat32S_l4_k _ rfl rfl (fun _ _ => rfl)) lk_nil))

theorem weqFloat32S_told : SpecOk Try.prog 26 (toldO A_weqFloat32S R_weqFloat32S (fun x => weqFloat32S x.1 x.2) (C33 26)) := toldO_ok (by kernel_rfl) weqFloat32S_ok (rest_ok (C33_ok) _) weqFloat32S_m

noncomputable def C34 : Tab := tab 26 (toldO A_weqFloat32S R_weqFloat32S (fun x => weqFloat32S x.1 x.2) (C33 26)) C33
theorem C34_ok : TabOk Try.prog C34 := tab_ok (weqFloat32S_told) (C33_ok)

def A_weqCanal : Shp := ⟨[.agg [.h, .h, .h, .h, .h], .agg [.h, .h, .h, .h, .h]], [], [.f .f32, .f .f32, .f .f32, .sl [.f .f32], .sl [.f .f32], .f .f32, .f .f32, .f .f32, .sl [.f .f32], .sl [.f .f32]]⟩
def R_weqCanal : List XShp := [(.ret, ⟨[.h], [], [.b]⟩)]

theorem weqCanal_e (x : DR A_weqCanal.hs) : (evFn (envT Try.prog C34 M32) noLoops Try.f50 (A_weqCanal.enc x).1).to (fun q => decX R_weqCanal .ret [q.1] q.2) = weqCanal_t x.1 x.2.1 x.2.2.1 x.2.2.2.1 x.2.2.2.2.1 x.2.2.2.2.2.1 x.2.2.2.2.2.2.1 x.2.2.2.2.2.2.2.1 x.2.2.2.2.2.2.2.2.1 x.2.2.2.2.2.2.2.2.2 := by kernel_rfl

theorem weqCanal_m (x : DR A_weqCanal.hs) : meanF (envT Try.prog C34 M32) noLoops Try.f50 A_weqCanal R_weqCanal x = (show Option (SumD (R_weqCanal.map (·.2))) from weqCanal x.1 x.2.1 x.2.2.1 x.2.2.2.1 x.2.2.2.2.1 x.2.2.2.2.2.1 x.2.2.2.2.2.2.1 x.2.2.2.2.2.2.2.1 x.2.2.2.2.2.2.2.2.1 x.2.2.2.2.2.2.2.2.2) := meanF_of (weqCanal_e x)

theorem weqCanal_ok : SpecOk Try.prog 50 (evFn (envT Try.prog C34 M32) noLoops Try.f50) := fnL_ok (envT_ok (C34_ok) (M32_ok)) mixedO Try.func50 (by kernel_rfl) (c := bodyOf Try.f50) (by kernel_rfl) (loopFree_ok (by kernel_rfl))

theorem weqCanal_told : SpecOk Try.prog 50 (toldO A_weqCanal R_weqCanal (fun x => weqCanal x.1 x.2.1 x.2.2.1 x.2.2.2.1 x.2.2.2.2.1 x.2.2.2.2.2.1 x.2.2.2.2.2.2.1 x.2.2.2.2.2.2.2.1 x.2.2.2.2.2.2.2.2.1 x.2.2.2.2.2.2.2.2.2) (C34 50)) := toldO_ok (by kernel_rfl) weqCanal_ok (rest_ok (C34_ok) _) weqCanal_m

noncomputable def C35 : Tab := tab 50 (toldO A_weqCanal R_weqCanal (fun x => weqCanal x.1 x.2.1 x.2.2.1 x.2.2.2.1 x.2.2.2.2.1 x.2.2.2.2.2.1 x.2.2.2.2.2.2.1 x.2.2.2.2.2.2.2.1 x.2.2.2.2.2.2.2.2.1 x.2.2.2.2.2.2.2.2.2) (C34 50)) C34
theorem C35_ok : TabOk Try.prog C35 := tab_ok (weqCanal_told) (C34_ok)

def S_wmarkFloat32S_l2 : Shp := ⟨[.slw 0 1, .h, .h], [.arr [.f .f32] false], [.i .i64, .i .i64, .sl [.f .f32]]⟩
def X_wmarkFloat32S_l2 : List XShp := [(.exit 0, ⟨[.undef, .h, .undef], [.arr [.f .f32] false], [.i .i64, .sl [.f .f32]]⟩)]

noncomputable def L_wmarkFloat32S_l2 : Loops := (⟨20, lvT [(2, [0, 1, 5])], mdT [(2, .exit 0, [], [0, 5])], fun k vs bs => .bad⟩ : Loops)

theorem wmarkFloat32S_l2_e (s : Int × Int × List Nat) : (loopStep (envW Try.prog C35 M32 1) L_wmarkFloat32S_l2 2 (loopC (bodyOf Try.f28) 2) (S_wmarkFloat32S_l2.enc (s.1, s.2.1, s.2.2)).1 (S_wmarkFloat32S_l2.enc (s.1, s.2.1, s.2.2)).2).to (stepD S_wmarkFloat32S_l2 X_wmarkFloat32S_l2) = (wmarkFloat32S_l2_t  s.1 s.2.1 s.2.2).map (Sum.map (fun s : Int × Int × List Nat => (show DR S_wmarkFloat32S_l2.hs from (s.1, s.2.1, s.2.2))) id) := by kernel_rfl

theorem wmarkFloat32S_l2_r (x : DR S_wmarkFloat32S_l2.hs) : (wmarkFloat32S_l2 x.1 x.2.1 x.2.2 : Option (SumD (X_wmarkFloat32S_l2.map (·.2)))) = runL (meanS (envW Try.prog C35 M32 1) L_wmarkFloat32S_l2 2 (loopC (bodyOf Try.f28) 2) S_wmarkFloat32S_l2 X_wmarkFloat32S_l2) x := run_of (fun s : Int × Int × List Nat => (show DR S_wmarkFloat32S_l2.hs from (s.1, s.2.1, s.2.2))) (wmarkFloat32S_l2_e ) (x.1, x.2.1, x.2.2)

theorem wmarkFloat32S_l2_k (L : Loops) (hn : L_wmarkFloat32S_l2.n = L.n) (hlv : L_wmarkFloat32S_l2.lv 2 = L.lv 2) (hL : ∀ vs bs, L.loop 2 vs bs = toldL S_wmarkFloat32S_l2 X_wmarkFloat32S_l2 (fun x => wmarkFloat32S_l2 x.1 x.2.1 x.2.2) vs bs) : LOk Try.prog (envW Try.prog C35 M32 1) L 2 (loopC (bodyOf Try.f28) 2) := toldL_ok (L1 := L_wmarkFloat32S_l2) (envW_ok (C35_ok) (M32_ok)) mixedO hn hlv (loopFree_ok (by kernel_rfl)) wmarkFloat32S_l2_r hL

def A_wmarkFloat32S : Shp := ⟨[.slw 0 1, .h], [.arr [.f .f32] false], [.i .i64, .sl [.f .f32]]⟩
def R_wmarkFloat32S : List XShp := [(.ret, ⟨[.h], [.arr [.f .f32] false], [.i .i64, .sl [.f .f32]]⟩)]

noncomputable def L_wmarkFloat32S : Loops := (⟨20, lvT [(2, [0, 1, 5])], mdT [(2, .exit 0, [], [0, 5])], fun k vs bs => bif Nat.beq k 2 then toldL S_wmarkFloat32S_l2 X_wmarkFloat32S_l2 (fun x => wmarkFloat32S_l2 x.1 x.2.1 x.2.2) vs bs else .bad⟩ : Loops)

theorem wmarkFloat32S_e (x : DR A_wmarkFloat32S.hs) : (evFnM (envW Try.prog C35 M32 1) L_wmarkFloat32S Try.f28 (A_wmarkFloat32S.enc x).1 ((A_wmarkFloat32S.enc x).2.map (·.blk))).to (decM R_wmarkFloat32S) = wmarkFloat32S_t x.1 x.2 := by kernel_rfl

theorem wmarkFloat32S_m (x : DR A_wmarkFloat32S.hs) : meanM (envW Try.prog C35 M32 1) L_wmarkFloat32S Try.f28 A_wmarkFloat32S R_wmarkFloat32S x = (show Option (SumD (R_wmarkFloat32S.map (·.2))) from wmarkFloat32S x.1 x.2) := meanM_of (wmarkFloat32S_e x)

theorem wmarkFloat32S_ok : MSpecOk Try.prog 28 (evFnM (envW Try.prog C35 M32 1) L_wmarkFloat32S Try.f28) := fnM_ok (envW_ok (C35_ok) (M32_ok)) rfl mixedO Try.func28 (by kernel_rfl) (c := bodyOf Try.f28) (by kernel_rfl) (loopsL (l := [(2, loopC (bodyOf Try.f28) 2)]) (by kernel_rfl) (lk_cons (wmarkFloat32S_l2_k _ rfl rfl (fun _ _ => rfl)) lk_nil))

theorem wmarkFloat32S_told : MSpecOk Try.prog 28 (toldMO A_wmarkFloat32S R_wmarkFloat32S (fun x => wmarkFloat32S x.1 x.2) (mrest M32 28)) := toldMO_ok (by kernel_rfl) wmarkFloat32S_ok (mrest_ok (M32_ok) _) wmarkFloat32S_m

noncomputable def M36 : MTab := mtab 28 (toldMO A_wmarkFloat32S R_wmarkFloat32S (fun x => wmarkFloat32S x.1 x.2) (mrest M32 28)) M32
theorem M36_ok : MTabOk Try.prog M36 := mtab_ok (wmarkFloat32S_told) (M32_ok)

def A_wmarkCanal : Shp := ⟨[.agg [.h, .h, .h, .slw 0 1, .slw 1 1], .h], [.arr [.f .f32] false, .arr [.f .f32] false], [.f .f32, .f .f32, .f .f32, .i .i64, .sl [.f .f32], .sl [.f .f32]]⟩
def R_wmarkCanal : List XShp := [(.ret, ⟨[.h], [.arr [.f .f32] false, .arr [.f .f32] false], [.i .i64, .sl [.f .f32], .sl [.f .f32]]⟩)]

theorem wmarkCanal_e (x : DR A_wmarkCanal.hs) : (evFnM (envW Try.prog C35 M36 2) noLoops Try.f53 (A_wmarkCanal.enc x).1 ((A_wmarkCanal.enc x).2.map (·.blk))).to (decM R_wmarkCanal) = wmarkCanal_t x.1 x.2.1 x.2.2.1 x.2.2.2.1 x.2.2.2.2.1 x.2.2.2.2.2 := by kernel_rfl

theorem wmarkCanal_m (x : DR A_wmarkCanal.hs) : meanM (envW Try.prog C35 M36 2) noLoops Try.f53 A_wmarkCanal R_wmarkCanal x = (show Option (SumD (R_wmarkCanal.map (·.2))) from wmarkCanal x.1 x.2.1 x.2.2.1 x.2.2.2.1 x.2.2.2.2.1 x.2.2.2.2.2) := meanM_of (wmarkCanal_e x)

theorem wmarkCanal_ok : MSpecOk Try.prog 53 (evFnM (envW Try.prog C35 M36 2) noLoops Try.f53) := fnM_ok (envW_ok (C35_ok) (M36_ok)) rfl mixedO Try.func53 (by kernel_rfl) (c := bodyOf Try.f53) (by kernel_rfl) (loopFree_ok (by kernel_rfl))

theorem wmarkCanal_told : MSpecOk Try.prog 53 (toldMO A_wmarkCanal R_wmarkCanal (fun x => wmarkCanal x.1 x.2.1 x.2.2.1 x.2.2.2.1 x.2.2.2.2.1 x.2.2.2.2.2) (mrest M36 53)) := toldMO_ok (by kernel_rfl) wmarkCanal_ok (mrest_ok (M36_ok) _) wmarkCanal_m

noncomputable def M37 : MTab := mtab 53 (toldMO A_wmarkCanal R_wmarkCanal (fun x => wmarkCanal x.1 x.2.1 x.2.2.1 x.2.2.2.1 x.2.2.2.2.1 x.2.2.2.2.2) (mrest M36 53)) M36
theorem M37_ok : MTabOk Try.prog M37 := mtab_ok (wmarkCanal_told) (M36_ok)

def S_wheldFloat32S_l2 : Shp := ⟨[.h, .h, .undef, .h], [], [.sl [.f .f32], .i .i64, .i .i64]⟩
def X_wheldFloat32S_l2 : List XShp := [(.ret, ⟨[.undef, .undef, .h, .undef], [], [.i .i64]⟩), (.exit 0, ⟨[.undef, .h, .undef, .undef], [], [.i .i64]⟩)]

noncomputable def L_wheldFloat32S_l2 : Loops := (⟨22, lvT [(2, [0, 1, 4, 5])], mdT [(2, .normal, [], [4]), (2, .exit 0, [], [0, 4, 5]), (2, .ret, [], [0, 1, 5])], fun k vs bs => .bad⟩ : Loops)

theorem wheldFloat32S_l2_e (y0 : List Nat) (s : Int × Int) : (loopStep (envT Try.prog C35 M37) L_wheldFloat32S_l2 2 (loopC (bodyOf Try.f29) 2) (S_wheldFloat32S_l2.enc (y0, s.1, s.2)).1 (S_wheldFloat32S_l2.enc (y0, s.1, s.2)).2).to (stepD S_wheldFloat32S_l2 X_wheldFloat32S_l2) = (wheldFloat32S_l2_t y0 s.1 s.2).map (Sum.map (fun s : Int × Int => (show DR S_wheldFloat32S_l2.hs from (y0, s.1, s.2))) id) := by kernel_rfl

theorem wheldFloat32S_l2_r (x : DR S_wheldFloat32S_l2.hs) : (wheldFloat32S_l2 x.1 x.2.1 x.2.2 : Option (SumD (X_wheldFloat32S_l2.map (·.2)))) = runL (meanS (envT Try.prog C35 M37) L_wheldFloat32S_l2 2 (loopC (bodyOf Try.f29) 2) S_wheldFloat32S_l2 X_wheldFloat32S_l2) x := run_of (fun s : Int × Int => (show DR S_wheldFloat32S_l2.hs from (x.1, s.1, s.2))) (wheldFloat32S_l2_e (x.1)) (x.2.1, x.2.2)

theorem wheldFloat32S_l2_k (L : Loops) (hn : L_wheldFloat32S_l2.n = L.n) (hlv : L_wheldFloat32S_l2.lv 2 = L.lv 2) (hL : ∀ vs bs, L.loop 2 vs bs = toldL S_wheldFloat32S_l2 X_wheldFloat32S_l2 (fun x => wheldFloat32S_l2 x.1 x.2.1 x.2.2) vs bs) : LOk Try.prog (envT Try.prog C35 M37) L 2 (loopC (bodyOf Try.f29) 2) := toldL_ok (L1 := L_wheldFloat32S_l2) (envT_ok (C35_ok) (M37_ok)) mixedO hn hlv (loopFree_ok (by kernel_rfl)) wheldFloat32S_l2_r hL

def A_wheldFloat32S : Shp := ⟨[.h, .h], [], [.sl [.f .f32], .i .i64]⟩
def R_wheldFloat32S : List XShp := [(.ret, ⟨[.h], [], [.i .i64]⟩)]

noncomputable def L_wheldFloat32S : Loops := (⟨22, lvT [(2, [0, 1, 4, 5])], mdT [(2, .normal, [], [4]), (2, .exit 0, [], [0, 4, 5]), (2, .ret, [], [0, 1, 5])], fun k vs bs => bif Nat.beq k 2 then toldL S_wheldFloat32S_l2 X_wheldFloat32S_l2 (fun x => wheldFloat32S_l2 x.1 x.2.1 x.2.2) vs bs else .bad⟩ : Loops)

theorem wheldFloat32S_e (x : DR A_wheldFloat32S.hs) : (evFn (envT Try.prog C35 M37) L_wheldFloat32S Try.f29 (A_wheldFloat32S.enc x).1).to (fun q => decX R_wheldFloat32S .ret [q.1] q.2) = wheldFloat32S_t x.1 x.2 := by kernel_rfl

theorem wheldFloat32S_m (x : DR A_wheldFloat32S.hs) : meanF (envT Try.prog C35 M37) L_wheldFloat32S Try.f29 A_wheldFloat32S R_wheldFloat32S x = (show Option (SumD (R_wheldFloat32S.map (·.2))) from wheldFloat32S x.1 x.2) := meanF_of (wheldFloat32S_e x)

theorem wheldFloat32S_ok : SpecOk Try.prog 29 (evFn (envT Try.prog C35 M37) L_wheldFloat32S Try.f29) := fnL_ok (envT_ok (C35_ok) (M37_ok)) mixedO Try.func29 (by kernel_rfl) (c := bodyOf Try.f29) (by kernel_rfl) (loopsL (l := [(2, loopC (bodyOf Try.f29) 2)]) (by kernel_rfl) (lk_cons (wheldFloat32S_l2_k _ rfl rfl (fun _ _ => rfl)) lk_nil))

theorem wheldFloat32S_told : SpecOk Try.prog 29 (toldO A_wheldFloat32S R_wheldFloat32S (fun x => wheldFloat32S x.1 x.2) (C35 29)) := toldO_ok (by kernel_rfl) wheldFloat32S_ok (rest_ok (C35_ok) _) wheldFloat32S_m

noncomputable def C38 : Tab := tab 29 (toldO A_wheldFloat32S R_wheldFloat32S (fun x => wheldFloat32S x.1 x.2) (C35 29)) C35
theorem C38_ok : TabOk Try.prog C38 := tab_ok (wheldFloat32S_told) (C35_ok)

def A_wheldCanal : Shp := ⟨[.agg [.h, .h, .h, .h, .h], .h], [], [.f .f32, .f .f32, .f .f32, .sl [.f .f32], .sl [.f .f32], .i .i64]⟩
def R_wheldCanal : List XShp := [(.ret, ⟨[.h], [], [.i .i64]⟩)]

theorem wheldCanal_e (x : DR A_wheldCanal.hs) : (evFn (envT Try.prog C38 M37) noLoops Try.f54 (A_wheldCanal.enc x).1).to (fun q => decX R_wheldCanal .ret [q.1] q.2) = wheldCanal_t x.1 x.2.1 x.2.2.1 x.2.2.2.1 x.2.2.2.2.1 x.2.2.2.2.2 := by kernel_rfl

theorem wheldCanal_m (x : DR A_wheldCanal.hs) : meanF (envT Try.prog C38 M37) noLoops Try.f54 A_wheldCanal R_wheldCanal x = (show Option (SumD (R_wheldCanal.map (·.2))) from wheldCanal x.1 x.2.1 x.2.2.1 x.2.2.2.1 x.2.2.2.2.1 x.2.2.2.2.2) := meanF_of (wheldCanal_e x)

theorem wheldCanal_ok : SpecOk Try.prog 54 (evFn (envT Try.prog C38 M37) noLoops Try.f54) := fnL_ok (envT_ok (C38_ok) (M37_ok)) mixedO Try.func54 (by kernel_rfl) (c := bodyOf Try.f54) (by kernel_rfl) (loopFree_ok (by kernel_rfl))

theorem wheldCanal_told : SpecOk Try.prog 54 (toldO A_wheldCanal R_wheldCanal (fun x => wheldCanal x.1 x.2.1 x.2.2.1 x.2.2.2.1 x.2.2.2.2.1 x.2.2.2.2.2) (C38 54)) := toldO_ok (by kernel_rfl) wheldCanal_ok (rest_ok (C38_ok) _) wheldCanal_m

noncomputable def C39 : Tab := tab 54 (toldO A_wheldCanal R_wheldCanal (fun x => wheldCanal x.1 x.2.1 x.2.2.1 x.2.2.2.1 x.2.2.2.2.1 x.2.2.2.2.2) (C38 54)) C38
theorem C39_ok : TabOk Try.prog C39 := tab_ok (wheldCanal_told) (C38_ok)

def S_wmarkFloat32S_nil_l2 : Shp := ⟨[.nils, .h, .h], [], [.i .i64, .i .i64]⟩
def X_wmarkFloat32S_nil_l2 : List XShp := [(.exit 0, ⟨[.undef, .h, .undef], [], [.i .i64]⟩)]

noncomputable def L_wmarkFloat32S_nil_l2 : Loops := (⟨20, lvT [(2, [0, 1, 5])], mdT [(2, .exit 0, [], [0, 5])], fun k vs bs => .bad⟩ : Loops)

theorem wmarkFloat32S_nil_l2_e (y0 : Int) (y1 : Int) (s : Unit) : (loopStep (envW Try.prog C39 M37 0) L_wmarkFloat32S_nil_l2 2 (loopC (bodyOf Try.f28) 2) (S_wmarkFloat32S_nil_l2.enc (y0, y1)).1 (S_wmarkFloat32S_nil_l2.enc (y0, y1)).2).to (stepD S_wmarkFloat32S_nil_l2 X_wmarkFloat32S_nil_l2) = (wmarkFloat32S_nil_l2_t y0 y1 ).map (Sum.map (fun s : Unit => (show DR S_wmarkFloat32S_nil_l2.hs from (y0, y1))) id) := by kernel_rfl

theorem wmarkFloat32S_nil_l2_r (x : DR S_wmarkFloat32S_nil_l2.hs) : (wmarkFloat32S_nil_l2 x.1 x.2 : Option (SumD (X_wmarkFloat32S_nil_l2.map (·.2)))) = runL (meanS (envW Try.prog C39 M37 0) L_wmarkFloat32S_nil_l2 2 (loopC (bodyOf Try.f28) 2) S_wmarkFloat32S_nil_l2 X_wmarkFloat32S_nil_l2) x := run_of (fun s : Unit => (show DR S_wmarkFloat32S_nil_l2.hs from (x.1, x.2))) (wmarkFloat32S_nil_l2_e (x.1) (x.2)) ()

theorem wmarkFloat32S_nil_l2_k (L : Loops) (hn : L_wmarkFloat32S_nil_l2.n = L.n) (hlv : L_wmarkFloat32S_nil_l2.lv 2 = L.lv 2) (hL : ∀ vs bs, L.loop 2 vs bs = toldL S_wmarkFloat32S_nil_l2 X_wmarkFloat32S_nil_l2 (fun x => wmarkFloat32S_nil_l2 x.1 x.2) vs bs) : LOk Try.prog (envW Try.prog C39 M37 0) L 2 (loopC (bodyOf Try.f28) 2) := toldL_ok (L1 := L_wmarkFloat32S_nil_l2) (envW_ok (C39_ok) (M37_ok)) mixedO hn hlv (loopFree_ok (by kernel_rfl)) wmarkFloat32S_nil_l2_r hL

def A_wmarkFloat32S_nil : Shp := ⟨[.nils, .h], [], [.i .i64]⟩
def R_wmarkFloat32S_nil : List XShp := [(.ret, ⟨[.h], [], [.i .i64]⟩)]

noncomputable def L_wmarkFloat32S_nil : Loops := (⟨20, lvT [(2, [0, 1, 5])], mdT [(2, .exit 0, [], [0, 5])], fun k vs bs => bif Nat.beq k 2 then toldL S_wmarkFloat32S_nil_l2 X_wmarkFloat32S_nil_l2 (fun x => wmarkFloat32S_nil_l2 x.1 x.2) vs bs else .bad⟩ : Loops)

theorem wmarkFloat32S_nil_e (x : DR A_wmarkFloat32S_nil.hs) : (evFnM (envW Try.prog C39 M37 0) L_wmarkFloat32S_nil Try.f28 (A_wmarkFloat32S_nil.enc x).1 ((A_wmarkFloat32S_nil.enc x).2.map (·.blk))).to (decM R_wmarkFloat32S_nil) = wmarkFloat32S_nil_t x := by kernel_rfl

theorem wmarkFloat32S_nil_m (x : DR A_wmarkFloat32S_nil.hs) : meanM (envW Try.prog C39 M37 0) L_wmarkFloat32S_nil Try.f28 A_wmarkFloat32S_nil R_wmarkFloat32S_nil x = (show Option (SumD (R_wmarkFloat32S_nil.map (·.2))) from wmarkFloat32S_nil x) := meanM_of (wmarkFloat32S_nil_e x)

theorem wmarkFloat32S_nil_ok : MSpecOk Try.prog 28 (evFnM (envW Try.prog C39 M37 0) L_wmarkFloat32S_nil Try.f28) := fnM_ok (envW_ok (C39_ok) (M37_ok)) rfl mixedO Try.func28 (by kernel_rfl) (c := bodyOf Try.f28) (by kernel_rfl) (loopsL (l := [(2, loopC (bodyOf Try.f28) 2)]) (by kernel_rfl) (lk_cons (wmarkFloat32S_nil_l2_k _ rfl rfl (fun _ _ => rfl)) lk_nil))

theorem wmarkFloat32S_nil_told : MSpecOk Try.prog 28 (toldMO A_wmarkFloat32S_nil R_wmarkFloat32S_nil (fun x => wmarkFloat32S_nil x) (mrest M37 28)) := toldMO_ok (by kernel_rfl) wmarkFloat32S_nil_ok (mrest_ok (M37_ok) _) wmarkFloat32S_nil_m

noncomputable def M40 : MTab := mtab 28 (toldMO A_wmarkFloat32S_nil R_wmarkFloat32S_nil (fun x => wmarkFloat32S_nil x) (mrest M37 28)) M37
theorem M40_ok : MTabOk Try.prog M40 := mtab_ok (wmarkFloat32S_nil_told) (M37_ok)

def A_wmarkCanal_n1 : Shp := ⟨[.agg [.h, .h, .h, .nils, .nils], .h], [], [.f .f32, .f .f32, .f .f32, .i .i64]⟩
def R_wmarkCanal_n1 : List XShp := [(.ret, ⟨[.h], [], [.i .i64]⟩)]

theorem wmarkCanal_n1_e (x : DR A_wmarkCanal_n1.hs) : (evFnM (envW Try.prog C39 M40 0) noLoops Try.f53 (A_wmarkCanal_n1.enc x).1 ((A_wmarkCanal_n1.enc x).2.map (·.blk))).to (decM R_wmarkCanal_n1) = wmarkCanal_n1_t x.1 x.2.1 x.2.2.1 x.2.2.2 := by kernel_rfl

theorem wmarkCanal_n1_m (x : DR A_wmarkCanal_n1.hs) : meanM (envW Try.prog C39 M40 0) noLoops Try.f53 A_wmarkCanal_n1 R_wmarkCanal_n1 x = (show Option (SumD (R_wmarkCanal_n1.map (·.2))) from wmarkCanal_n1 x.1 x.2.1 x.2.2.1 x.2.2.2) := meanM_of (wmarkCanal_n1_e x)

theorem wmarkCanal_n1_ok : MSpecOk Try.prog 53 (evFnM (envW Try.prog C39 M40 0) noLoops Try.f53) := fnM_ok (envW_ok (C39_ok) (M40_ok)) rfl mixedO Try.func53 (by kernel_rfl) (c := bodyOf Try.f53) (by kernel_rfl) (loopFree_ok (by kernel_rfl))

theorem wmarkCanal_n1_told : MSpecOk Try.prog 53 (toldMO A_wmarkCanal_n1 R_wmarkCanal_n1 (fun x => wmarkCanal_n1 x.1 x.2.1 x.2.2.1 x.2.2.2) (mrest M40 53)) := toldMO_ok (by kernel_rfl) wmarkCanal_n1_ok (mrest_ok (M40_ok) _) wmarkCanal_n1_m

noncomputable def M41 : MTab := mtab 53 (toldMO A_wmarkCanal_n1 R_wmarkCanal_n1 (fun x => wmarkCanal_n1 x.1 x.2.1 x.2.2.1 x.2.2.2) (mrest M40 53)) M40
theorem M41_ok : MTabOk Try.prog M41 := mtab_ok (wmarkCanal_n1_told) (M40_ok)

def A_wFnExactStepCanal : Shp := ⟨[.agg [.h, .h, .h, .h, .h], .h, .h], [], [.f .f32, .f .f32, .f .f32, .sl [.f .f32], .sl [.f .f32], .f .f32, .f .f32]⟩
def R_wFnExactStepCanal : List XShp := [(.ret, ⟨[.h], [], [.b]⟩)]

theorem wFnExactStepCanal_e (x : DR A_wFnExactStepCanal.hs) : (evFn (envT Try.prog C39 M41) noLoops Try.f10 (A_wFnExactStepCanal.enc x).1).to (fun q => decX R_wFnExactStepCanal .ret [q.1] q.2) = wFnExactStepCanal_t x.1 x.2.1 x.2.2.1 x.2.2.2.1 x.2.2.2.2.1 x.2.2.2.2.2.1 x.2.2.2.2.2.2 := by kernel_rfl

theorem wFnExactStepCanal_m (x : DR A_wFnExactStepCanal.hs) : meanF (envT Try.prog C39 M41) noLoops Try.f10 A_wFnExactStepCanal R_wFnExactStepCanal x = (show Option (SumD (R_wFnExactStepCanal.map (·.2))) from wFnExactStepCanal x.1 x.2.1 x.2.2.1 x.2.2.2.1 x.2.2.2.2.1 x.2.2.2.2.2.1 x.2.2.2.2.2.2) := meanF_of (wFnExactStepCanal_e x)

theorem wFnExactStepCanal_ok : SpecOk Try.prog 10 (evFn (envT Try.prog C39 M41) noLoops Try.f10) := fnL_ok (envT_ok (C39_ok) (M41_ok)) mixedO Try.func10 (by kernel_rfl) (c := bodyOf Try.f10) (by kernel_rfl) (loopFree_ok (by kernel_rfl))

theorem wFnExactStepCanal_told : SpecOk Try.prog 10 (toldO A_wFnExactStepCanal R_wFnExactStepCanal (fun x => wFnExactStepCanal x.1 x.2.1 x.2.2.1 x.2.2.2.1 x.2.2.2.2.1 x.2.2.2.2.2.1 x.2.2.2.2.2.2) (C39 10)) := toldO_ok (by kernel_rfl) wFnExactStepCanal_ok (rest_ok (C39_ok) _) wFnExactStepCanal_m

noncomputable def C42 : Tab := tab 10 (toldO A_wFnExactStepCanal R_wFnExactStepCanal (fun x => wFnExactStepCanal x.1 x.2.1 x.2.2.1 x.2.2.2.1 x.2.2.2.2.1 x.2.2.2.2.2.1 x.2.2.2.2.2.2) (C39 10)) C39
theorem C42_ok : TabOk Try.prog C42 := tab_ok (wFnExactStepCanal_told) (C39_ok)

theorem lawFnExactStepCanal_ok : SpecOk Try.prog 10 (evFn (envT Try.prog C39 M41) noLoops Try.f10) := wFnExactStepCanal_ok
theorem lawFnExactStepCanal_says (x : DR A_wFnExactStepCanal.hs) (h : (show Option (SumD (R_wFnExactStepCanal.map (·.2))) from wFnExactStepCanal x.1 x.2.1 x.2.2.1 x.2.2.2.1 x.2.2.2.2.1 x.2.2.2.2.2.1 x.2.2.2.2.2.2) = some true) : saysTrue (evFn (envT Try.prog C39 M41) noLoops Try.f10 (A_wFnExactStepCanal.enc x).1) = true := law_says (x := x) ((wFnExactStepCanal_m x).trans h)

theorem lawFnExactStepCanal_true (x0 : Nat) (x1 : Nat) (x2 : Nat) (x3 : List Nat) (x4 : List Nat) (x5 : Nat) (x6 : Nat) (h : wFnExactStepCanal x0 x1 x2 x3 x4 x5 x6 = some true) : saysTrue (evFn (envT Try.prog C39 M41) noLoops Try.f10 [.agg [.f .f32 x0, .f .f32 x1, .f .f32 x2, .ds [.f .f32] x3, .ds [.f .f32] x4], .f .f32 x5, .f .f32 x6]) = true := (congrArg (fun l => saysTrue (evFn (envT Try.prog C39 M41) noLoops Try.f10 l)) (by kernel_rfl : ([.agg [.f .f32 x0, .f .f32 x1, .f .f32 x2, .ds [.f .f32] x3, .ds [.f .f32] x4], .f .f32 x5, .f .f32 x6] : List V) = (A_wFnExactStepCanal.enc (x0, x1, x2, x3, x4, x5, x6)).1)).trans (lawFnExactStepCanal_says (x0, x1, x2, x3, x4, x5, x6) h)

def S_sRunCanal_l6 : Shp := ⟨[.h, .h, .ref 0 0, .undef, .undef, .ref 1 0, .slw 4 1, .h, .h], [.cells [.h, .h, .h, .nils, .nils] false, .cells [.h, .h, .h, .slw 2 1, .slw 3 1] false, .arr [.f .f32] false, .arr [.f .f32] false, .arr [.f .f32] false], [.sl [.f .f32], .f .f32, .i .i64, .i .i64, .f .f32, .f .f32, .f .f32, .f .f32, .f .f32, .f .f32, .sl [.f .f32], .sl [.f .f32], .sl [.f .f32]]⟩
def X_sRunCanal_l6 : List XShp := [(.ret, ⟨[.undef, .undef, .ref 0 0, .nils, .lb false, .undef, .undef, .undef, .undef], [.cells [.h, .h, .h, .nils, .nils] false], [.f .f32, .f .f32, .f .f32]⟩), (.exit 0, ⟨[.undef, .undef, .ref 0 0, .undef, .undef, .ref 1 0, .slw 4 1, .undef, .undef], [.cells [.h, .h, .h, .nils, .nils] false, .cells [.h, .h, .h, .slw 2 1, .slw 3 1] false, .arr [.f .f32] false, .arr [.f .f32] false, .arr [.f .f32] false], [.f .f32, .f .f32, .f .f32, .f .f32, .f .f32, .f .f32, .sl [.f .f32], .sl [.f .f32], .sl [.f .f32]]⟩)]

noncomputable def L_sRunCanal_l6 : Loops := (⟨66, lvT [(6, [1, 2, 6, 7, 8, 9, 10, 35, 36])], mdT [(6, .normal, [], [7, 8]), (6, .exit 0, [], [1, 2, 7, 8, 35, 36]), (6, .ret, [], [1, 2, 9, 10, 35, 36])], fun k vs bs => .bad⟩ : Loops)

theorem sRunCanal_l6_e (y0 : List Nat) (y1 : Nat) (y2 : Int) (y4 : Nat) (y5 : Nat) (y6 : Nat) (s : Int × Nat × Nat × Nat × List Nat × List Nat × List Nat) : (loopStep (envT Try.prog C42 M41) L_sRunCanal_l6 6 (loopC (bodyOf Try.f55) 6) (S_sRunCanal_l6.enc (y0, y1, y2, s.1, y4, y5, y6, s.2.1, s.2.2.1, s.2.2.2.1, s.2.2.2.2.1, s.2.2.2.2.2.1, s.2.2.2.2.2.2)).1 (S_sRunCanal_l6.enc (y0, y1, y2, s.1, y4, y5, y6, s.2.1, s.2.2.1, s.2.2.2.1, s.2.2.2.2.1, s.2.2.2.2.2.1, s.2.2.2.2.2.2)).2).to (stepD S_sRunCanal_l6 X_sRunCanal_l6) = (sRunCanal_l6_t y0 y1 y2 y4 y5 y6 s.1 s.2.1 s.2.2.1 s.2.2.2.1 s.2.2.2.2.1 s.2.2.2.2.2.1 s.2.2.2.2.2.2).map (Sum.map (fun s : Int × Nat × Nat × Nat × List Nat × List Nat × List Nat => (show DR S_sRunCanal_l6.hs from (y0, y1, y2, s.1, y4, y5, y6, s.2.1, s.2.2.1, s.2.2.2.1, s.2.2.2.2.1, s.2.2.2.2.2.1, s.2.2.2.2.2.2))) id) := by kernel_rfl

theorem sRunCanal_l6_r (x : DR S_sRunCanal_l6.hs) : (sRunCanal_l6 x.1 x.2.1 x.2.2.1 x.2.2.2.1 x.2.2.2.2.1 x.2.2.2.2.2.1 x.2.2.2.2.2.2.1 x.2.2.2.2.2.2.2.1 x.2.2.2.2.2.2.2.2.1 x.2.2.2.2.2.2.2.2.2.1 x.2.2.2.2.2.2.2.2.2.2.1 x.2.2.2.2.2.2.2.2.2.2.2.1 x.2.2.2.2.2.2.2.2.2.2.2.2 : Option (SumD (X_sRunCanal_l6.map (·.2)))) = runL (meanS (envT Try.prog C42 M41) L_sRunCanal_l6 6 (loopC (bodyOf Try.f55) 6) S_sRunCanal_l6 X_sRunCanal_l6) x := run_of (fun s : Int × Nat × Nat × Nat × List Nat × List Nat × List Nat => (show DR S_sRunCanal_l6.hs from (x.1, x.2.1, x.2.2.1, s.1, x.2.2.2.2.1, x.2.2.2.2.2.1, x.2.2.2.2.2.2.1, s.2.1, s.2.2.1, s.2.2.2.1, s.2.2.2.2.1, s.2.2.2.2.2.1, s.2.2.2.2.2.2))) (sRunCanal_l6_e (x.1) (x.2.1) (x.2.2.1) (x.2.2.2.2.1) (x.2.2.2.2.2.1) (x.2.2.2.2.2.2.1)) (x.2.2.2.1, x.2.2.2.2.2.2.2.1, x.2.2.2.2.2.2.2.2.1, x.2.2.2.2.2.2.2.2.2.1, x.2.2.2.2.2.2.2.2.2.2.1, x.2.2.2.2.2.2.2.2.2.2.2.1, x.2.2.2.2.2.2.2.2.2.2.2.2)

theorem sRunCanal_l6_k (L : Loops) (hn : L_sRunCanal_l6.n = L.n) (hlv : L_sRunCanal_l6.lv 6 = L.lv 6) (hL : ∀ vs bs, L.loop 6 vs bs = toldL S_sRunCanal_l6 X_sRunCanal_l6 (fun x => sRunCanal_l6 x.1 x.2.1 x.2.2.1 x.2.2.2.1 x.2.2.2.2.1 x.2.2.2.2.2.1 x.2.2.2.2.2.2.1 x.2.2.2.2.2.2.2.1 x.2.2.2.2.2.2.2.2.1 x.2.2.2.2.2.2.2.2.2.1 x.2.2.2.2.2.2.2.2.2.2.1 x.2.2.2.2.2.2.2.2.2.2.2.1 x.2.2.2.2.2.2.2.2.2.2.2.2) vs bs) : LOk Try.prog (envT Try.prog C42 M41) L 6 (loopC (bodyOf Try.f55) 6) := toldL_ok (L1 := L_sRunCanal_l6) (envT_ok (C42_ok) (M41_ok)) mixedO hn hlv (loopFree_ok (by kernel_rfl)) sRunCanal_l6_r hL

def A_sRunCanal : Shp := ⟨[.agg [.h, .h, .h, .h, .h], .h, .h], [], [.f .f32, .f .f32, .f .f32, .sl [.f .f32], .sl [.f .f32], .sl [.f .f32], .f .f32]⟩
def R_sRunCanal : List XShp := [(.ret, ⟨[.tup [.agg [.h, .h, .h, .nils, .nils], .nils, .lb false]], [], [.f .f32, .f .f32, .f .f32]⟩), (.ret, ⟨[.tup [.agg [.h, .h, .h, .slw 0 1, .slw 1 1], .slw 2 1, .lb true]], [.arr [.f .f32] false, .arr [.f .f32] false, .arr [.f .f32] false], [.f .f32, .f .f32, .f .f32, .sl [.f .f32], .sl [.f .f32], .sl [.f .f32]]⟩)]

noncomputable def L_sRunCanal : Loops := (⟨66, lvT [(6, [1, 2, 6, 7, 8, 9, 10, 35, 36])], mdT [(6, .normal, [], [7, 8]), (6, .exit 0, [], [1, 2, 7, 8, 35, 36]), (6, .ret, [], [1, 2, 9, 10, 35, 36])], fun k vs bs => bif Nat.beq k 6 then toldL S_sRunCanal_l6 X_sRunCanal_l6 (fun x => sRunCanal_l6 x.1 x.2.1 x.2.2.1 x.2.2.2.1 x.2.2.2.2.1 x.2.2.2.2.2.1 x.2.2.2.2.2.2.1 x.2.2.2.2.2.2.2.1 x.2.2.2.2.2.2.2.2.1 x.2.2.2.2.2.2.2.2.2.1 x.2.2.2.2.2.2.2.2.2.2.1 x.2.2.2.2.2.2.2.2.2.2.2.1 x.2.2.2.2.2.2.2.2.2.2.2.2) vs bs else .bad⟩ : Loops)

theorem sRunCanal_e (x : DR A_sRunCanal.hs) : (evFn (envT Try.prog C42 M41) L_sRunCanal Try.f55 (A_sRunCanal.enc x).1).to (fun q => decX R_sRunCanal .ret [q.1] q.2) = sRunCanal_t x.1 x.2.1 x.2.2.1 x.2.2.2.1 x.2.2.2.2.1 x.2.2.2.2.2.1 x.2.2.2.2.2.2 := by kernel_rfl

theorem sRunCanal_m (x : DR A_sRunCanal.hs) : meanF (envT Try.prog C42 M41) L_sRunCanal Try.f55 A_sRunCanal R_sRunCanal x = (show Option (SumD (R_sRunCanal.map (·.2))) from sRunCanal x.1 x.2.1 x.2.2.1 x.2.2.2.1 x.2.2.2.2.1 x.2.2.2.2.2.1 x.2.2.2.2.2.2) := meanF_of (sRunCanal_e x)

theorem sRunCanal_ok : SpecOk Try.prog 55 (evFn (envT Try.prog C42 M41) L_sRunCanal Try.f55) := fnL_ok (envT_ok (C42_ok) (M41_ok)) mixedO Try.func55 (by kernel_rfl) (c := bodyOf Try.f55) (by kernel_rfl) (loopsL (l := [(6, loopC (bodyOf Try.f55) 6)]) (by kernel_rfl) (lk_cons (sRunCanal_l6_k _ rfl rfl (fun _ _ => rfl)) lk_nil))

theorem sRunCanal_told : SpecOk Try.prog 55 (toldO A_sRunCanal R_sRunCanal (fun x => sRunCanal x.1 x.2.1 x.2.2.1 x.2.2.2.1 x.2.2.2.2.1 x.2.2.2.2.2.1 x.2.2.2.2.2.2) (C42 55)) := toldO_ok (by kernel_rfl) sRunCanal_ok (rest_ok (C42_ok) _) sRunCanal_m

noncomputable def C43 : Tab := tab 55 (toldO A_sRunCanal R_sRunCanal (fun x => sRunCanal x.1 x.2.1 x.2.2.1 x.2.2.2.1 x.2.2.2.2.1 x.2.2.2.2.2.1 x.2.2.2.2.2.2) (C42 55)) C42
theorem C43_ok : TabOk Try.prog C43 := tab_ok (sRunCanal_told) (C42_ok)

def S_iRunCanal_l6 : Shp := ⟨[.h, .ref 0 0, .ref 3 0, .undef, .undef, .slw 4 1, .h, .h, .h], [.cells [.h, .h, .h, .slw 1 1, .slw 2 1] false, .arr [.f .f32] false, .arr [.f .f32] false, .cells [.h, .h, .h, .nils, .nils] false, .arr [.f .f32] false], [.f .f32, .sl [.f .f32], .i .i64, .i .i64, .f .f32, .f .f32, .f .f32, .sl [.f .f32], .sl [.f .f32], .f .f32, .f .f32, .f .f32, .sl [.f .f32]]⟩
def X_iRunCanal_l6 : List XShp := [(.ret, ⟨[.undef, .undef, .ref 0 0, .nils, .lb false, .undef, .undef, .undef, .undef], [.cells [.h, .h, .h, .nils, .nils] false], [.f .f32, .f .f32, .f .f32]⟩), (.exit 0, ⟨[.undef, .ref 0 0, .ref 3 0, .undef, .undef, .slw 4 1, .undef, .undef, .undef], [.cells [.h, .h, .h, .slw 1 1, .slw 2 1] false, .arr [.f .f32] false, .arr [.f .f32] false, .cells [.h, .h, .h, .nils, .nils] false, .arr [.f .f32] false], [.f .f32, .f .f32, .f .f32, .sl [.f .f32], .sl [.f .f32], .f .f32, .f .f32, .f .f32, .sl [.f .f32]]⟩)]

noncomputable def L_iRunCanal_l6 : Loops := (⟨67, lvT [(6, [2, 3, 6, 7, 8, 9, 36, 37, 38])], mdT [(6, .normal, [], [7, 8]), (6, .exit 0, [], [2, 7, 8, 36, 37, 38]), (6, .ret, [], [2, 3, 9, 36, 37, 38])], fun k vs bs => .bad⟩ : Loops)

theorem iRunCanal_l6_e (y0 : Nat) (y1 : List Nat) (y2 : Int) (y9 : Nat) (y10 : Nat) (y11 : Nat) (s : Int × Nat × Nat × Nat × List Nat × List Nat × List Nat) : (loopStep (envT Try.prog C43 M41) L_iRunCanal_l6 6 (loopC (bodyOf Try.f56) 6) (S_iRunCanal_l6.enc (y0, y1, y2, s.1, s.2.1, s.2.2.1, s.2.2.2.1, s.2.2.2.2.1, s.2.2.2.2.2.1, y9, y10, y11, s.2.2.2.2.2.2)).1 (S_iRunCanal_l6.enc (y0, y1, y2, s.1, s.2.1, s.2.2.1, s.2.2.2.1, s.2.2.2.2.1, s.2.2.2.2.2.1, y9, y10, y11, s.2.2.2.2.2.2)).2).to (stepD S_iRunCanal_l6 X_iRunCanal_l6) = (iRunCanal_l6_t y0 y1 y2 y9 y10 y11 s.1 s.2.1 s.2.2.1 s.2.2.2.1 s.2.2.2.2.1 s.2.2.2.2.2.1 s.2.2.2.2.2.2).map (Sum.map (fun s : Int × Nat × Nat × Nat × List Nat × List Nat × List Nat => (show DR S_iRunCanal_l6.hs from (y0, y1, y2, s.1, s.2.1, s.2.2.1, s.2.2.2.1, s.2.2.2.2.1, s.2.2.2.2.2.1, y9, y10, y11, s.2.2.2.2.2.2))) id) := by kernel_rfl

theorem iRunCanal_l6_r (x : DR S_iRunCanal_l6.hs) : (iRunCanal_l6 x.1 x.2.1 x.2.2.1 x.2.2.2.1 x.2.2.2.2.1 x.2.2.2.2.2.1 x.2.2.2.2.2.2.1 x.2.2.2.2.2.2.2.1 x.2.2.2.2.2.2.2.2.1 x.2.2.2.2.2.2.2.2.2.1 x.2.2.2.2.2.2.2.2.2.2.1 x.2.2.2.2.2.2.2.2.2.2.2.1 x.2.2.2.2.2.2.2.2.2.2.2.2 : Option (SumD (X_iRunCanal_l6.map (·.2)))) = runL (meanS (envT Try.prog C43 M41) L_iRunCanal_l6 6 (loopC (bodyOf Try.f56) 6) S_iRunCanal_l6 X_iRunCanal_l6) x := run_of (fun s : Int × Nat × Nat × Nat × List Nat × List Nat × List Nat => (show DR S_iRunCanal_l6.hs from (x.1, x.2.1, x.2.2.1, s.1, s.2.1, s.2.2.1, s.2.2.2.1, s.2.2.2.2.1, s.2.2.2.2.2.1, x.2.2.2.2.2.2.2.2.2.1, x.2.2.2.2.2.2.2.2.2.2.1, x.2.2.2.2.2.2.2.2.2.2.2.1, s.2.2.2.2.2.2))) (iRunCanal_l6_e (x.1) (x.2.1) (x.2.2.1) (x.2.2.2.2.2.2.2.2.2.1) (x.2.2.2.2.2.2.2.2.2.2.1) (x.2.2.2.2.2.2.2.2.2.2.2.1)) (x.2.2.2.1, x.2.2.2.2.1, x.2.2.2.2.2.1, x.2.2.2.2.2.2.1, x.2.2.2.2.2.2.2.1, x.2.2.2.2.2.2.2.2.1, x.2.2.2.2.2.2.2.2.2.2.2.2)

theorem iRunCanal_l6_k (L : Loops) (hn : L_iRunCanal_l6.n = L.n) (hlv : L_iRunCanal_l6.lv 6 = L.lv 6) (hL : ∀ vs bs, L.loop 6 vs bs = toldL S_iRunCanal_l6 X_iRunCanal_l6 (fun x => iRunCanal_l6 x.1 x.2.1 x.2.2.1 x.2.2.2.1 x.2.2.2.2.1 x.2.2.2.2.2.1 x.2.2.2.2.2.2.1 x.2.2.2.2.2.2.2.1 x.2.2.2.2.2.2.2.2.1 x.2.2.2.2.2.2.2.2.2.1 x.2.2.2.2.2.2.2.2.2.2.1 x.2.2.2.2.2.2.2.2.2.2.2.1 x.2.2.2.2.2.2.2.2.2.2.2.2) vs bs) : LOk Try.prog (envT Try.prog C43 M41) L 6 (loopC (bodyOf Try.f56) 6) := toldL_ok (L1 := L_iRunCanal_l6) (envT_ok (C43_ok) (M41_ok)) mixedO hn hlv (loopFree_ok (by kernel_rfl)) iRunCanal_l6_r hL

def A_iRunCanal : Shp := ⟨[.agg [.h, .h, .h, .h, .h], .h, .h], [], [.f .f32, .f .f32, .f .f32, .sl [.f .f32], .sl [.f .f32], .sl [.f .f32], .f .f32]⟩
def R_iRunCanal : List XShp := [(.ret, ⟨[.tup [.agg [.h, .h, .h, .nils, .nils], .nils, .lb false]], [], [.f .f32, .f .f32, .f .f32]⟩), (.ret, ⟨[.tup [.agg [.h, .h, .h, .slw 0 1, .slw 1 1], .slw 2 1, .lb true]], [.arr [.f .f32] false, .arr [.f .f32] false, .arr [.f .f32] false], [.f .f32, .f .f32, .f .f32, .sl [.f .f32], .sl [.f .f32], .sl [.f .f32]]⟩)]

noncomputable def L_iRunCanal : Loops := (⟨67, lvT [(6, [2, 3, 6, 7, 8, 9, 36, 37, 38])], mdT [(6, .normal, [], [7, 8]), (6, .exit 0, [], [2, 7, 8, 36, 37, 38]), (6, .ret, [], [2, 3, 9, 36, 37, 38])], fun k vs bs => bif Nat.beq k 6 then toldL S_iRunCanal_l6 X_iRunCanal_l6 (fun x => iRunCanal_l6 x.1 x.2.1 x.2.2.1 x.2.2.2.1 x.2.2.2.2.1 x.2.2.2.2.2.1 x.2.2.2.2.2.2.1 x.2.2.2.2.2.2.2.1 x.2.2.2.2.2.2.2.2.1 x.2.2.2.2.2.2.2.2.2.1 x.2.2.2.2.2.2.2.2.2.2.1 x.2.2.2.2.2.2.2.2.2.2.2.1 x.2.2.2.2.2.2.2.2.2.2.2.2) vs bs else .bad⟩ : Loops)

theorem iRunCanal_e (x : DR A_iRunCanal.hs) : (evFn (envT Try.prog C43 M41) L_iRunCanal Try.f56 (A_iRunCanal.enc x).1).to (fun q => decX R_iRunCanal .ret [q.1] q.2) = iRunCanal_t x.1 x.2.1 x.2.2.1 x.2.2.2.1 x.2.2.2.2.1 x.2.2.2.2.2.1 x.2.2.2.2.2.2 := by kernel_rfl

theorem iRunCanal_m (x : DR A_iRunCanal.hs) : meanF (envT Try.prog C43 M41) L_iRunCanal Try.f56 A_iRunCanal R_iRunCanal x = (show Option (SumD (R_iRunCanal.map (·.2))) from iRunCanal x.1 x.2.1 x.2.2.1 x.2.2.2.1 x.2.2.2.2.1 x.2.2.2.2.2.1 x.2.2.2.2.2.2) := meanF_of (iRunCanal_e x)

theorem iRunCanal_ok : SpecOk Try.prog 56 (evFn (envT Try.prog C43 M41) L_iRunCanal Try.f56) := fnL_ok (envT_ok (C43_ok) (M41_ok)) mixedO Try.func56 (by kernel_rfl) (c := bodyOf Try.f56) (by kernel_rfl) (loopsL (l := [(6, loopC (bodyOf Try.f56) 6)]) (by kernel_rfl) (lk_cons (iRunCanal_l6_k _ rfl rfl (fun _ _ => rfl)) lk_nil))

theorem iRunCanal_told : SpecOk Try.prog 56 (toldO A_iRunCanal R_iRunCanal (fun x => iRunCanal x.1 x.2.1 x.2.2.1 x.2.2.2.1 x.2.2.2.2.1 x.2.2.2.2.2.1 x.2.2.2.2.2.2) (C43 56)) := toldO_ok (by kernel_rfl) iRunCanal_ok (rest_ok (C43_ok) _) iRunCanal_m

noncomputable def C44 : Tab := tab 56 (toldO A_iRunCanal R_iRunCanal (fun x => iRunCanal x.1 x.2.1 x.2.2.1 x.2.2.2.1 x.2.2.2.2.1 x.2.2.2.2.2.1 x.2.2.2.2.2.2) (C43 56)) C43
theorem C44_ok : TabOk Try.prog C44 := tab_ok (iRunCanal_told) (C43_ok)

def A_wFnExactRunCanal : Shp := ⟨[.agg [.h, .h, .h, .h, .h], .h, .h], [], [.f .f32, .f .f32, .f .f32, .sl [.f .f32], .sl [.f .f32], .sl [.f .f32], .f .f32]⟩
def R_wFnExactRunCanal : List XShp := [(.ret, ⟨[.h], [], [.b]⟩)]

theorem wFnExactRunCanal_e (x : DR A_wFnExactRunCanal.hs) : (evFn (envT Try.prog C44 M41) noLoops Try.f11 (A_wFnExactRunCanal.enc x).1).to (fun q => decX R_wFnExactRunCanal .ret [q.1] q.2) = wFnExactRunCanal_t x.1 x.2.1 x.2.2.1 x.2.2.2.1 x.2.2.2.2.1 x.2.2.2.2.2.1 x.2.2.2.2.2.2 := by kernel_rfl

theorem wFnExactRunCanal_m (x : DR A_wFnExactRunCanal.hs) : meanF (envT Try.prog C44 M41) noLoops Try.f11 A_wFnExactRunCanal R_wFnExactRunCanal x = (show Option (SumD (R_wFnExactRunCanal.map (·.2))) from wFnExactRunCanal x.1 x.2.1 x.2.2.1 x.2.2.2.1 x.2.2.2.2.1 x.2.2.2.2.2.1 x.2.2.2.2.2.2) := meanF_of (wFnExactRunCanal_e x)

theorem wFnExactRunCanal_ok : SpecOk Try.prog 11 (evFn (envT Try.prog C44 M41) noLoops Try.f11) := fnL_ok (envT_ok (C44_ok) (M41_ok)) mixedO Try.func11 (by kernel_rfl) (c := bodyOf Try.f11) (by kernel_rfl) (loopFree_ok (by kernel_rfl))

theorem wFnExactRunCanal_told : SpecOk Try.prog 11 (toldO A_wFnExactRunCanal R_wFnExactRunCanal (fun x => wFnExactRunCanal x.1 x.2.1 x.2.2.1 x.2.2.2.1 x.2.2.2.2.1 x.2.2.2.2.2.1 x.2.2.2.2.2.2) (C44 11)) := toldO_ok (by kernel_rfl) wFnExactRunCanal_ok (rest_ok (C44_ok) _) wFnExactRunCanal_m

noncomputable def C45 : Tab := tab 11 (toldO A_wFnExactRunCanal R_wFnExactRunCanal (fun x => wFnExactRunCanal x.1 x.2.1 x.2.2.1 x.2.2.2.1 x.2.2.2.2.1 x.2.2.2.2.2.1 x.2.2.2.2.2.2) (C44 11)) C44
theorem C45_ok : TabOk Try.prog C45 := tab_ok (wFnExactRunCanal_told) (C44_ok)

theorem lawFnExactRunCanal_ok : SpecOk Try.prog 11 (evFn (envT Try.prog C44 M41) noLoops Try.f11) := wFnExactRunCanal_ok
theorem lawFnExactRunCanal_says (x : DR A_wFnExactRunCanal.hs) (h : (show Option (SumD (R_wFnExactRunCanal.map (·.2))) from wFnExactRunCanal x.1 x.2.1 x.2.2.1 x.2.2.2.1 x.2.2.2.2.1 x.2.2.2.2.2.1 x.2.2.2.2.2.2) = some true) : saysTrue (evFn (envT Try.prog C44 M41) noLoops Try.f11 (A_wFnExactRunCanal.enc x).1) = true := law_says (x := x) ((wFnExactRunCanal_m x).trans h)

theorem lawFnExactRunCanal_true (x0 : Nat) (x1 : Nat) (x2 : Nat) (x3 : List Nat) (x4 : List Nat) (x5 : List Nat) (x6 : Nat) (h : wFnExactRunCanal x0 x1 x2 x3 x4 x5 x6 = some true) : saysTrue (evFn (envT Try.prog C44 M41) noLoops Try.f11 [.agg [.f .f32 x0, .f .f32 x1, .f .f32 x2, .ds [.f .f32] x3, .ds [.f .f32] x4], .ds [.f .f32] x5, .f .f32 x6]) = true := (congrArg (fun l => saysTrue (evFn (envT Try.prog C44 M41) noLoops Try.f11 l)) (by kernel_rfl : ([.agg [.f .f32 x0, .f .f32 x1, .f .f32 x2, .ds [.f .f32] x3, .ds [.f .f32] x4], .ds [.f .f32] x5, .f .f32 x6] : List V) = (A_wFnExactRunCanal.enc (x0, x1, x2, x3, x4, x5, x6)).1)).trans (lawFnExactRunCanal_says (x0, x1, x2, x3, x4, x5, x6) h)
end Go.Proofs.Ytikmeahdcipanaa
