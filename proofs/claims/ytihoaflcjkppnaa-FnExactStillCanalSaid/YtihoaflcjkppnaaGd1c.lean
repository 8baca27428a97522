/- Functions, as plain functions. What the program comes to. -/
import Derived.Test.YtihoaflcjkppnaaGd1d
import Derived.Test.YtihoaflcjkppnaaDb
import Derived.Test.YtihoaflcjkppnaaNv
import Derived.KernelRfl
set_option linter.unusedVariables false
set_option linter.unusedSimpArgs false
set_option linter.constructorNameAsVariable false
namespace Go.Proofs.Ytihoaflcjkppnaa
open Go.RowKit
set_option maxRecDepth 100000
theorem mixedO : (Try.prog).follows .mixedOrders = true := by kernel_rfl
noncomputable def C0 : Tab := tab 54 (spFB .f32 (isFin .f32)) tab0
theorem C0_ok : TabOk Try.prog C0 := tab_ok (spFB_ok Try.func54 (by kernel_rfl) (fun hx => l01Finite_c hx)) (tab0_ok _)

noncomputable def C1 : Tab := tab 80 (spFB .f32 (isFin .f32)) C0
theorem C1_ok : TabOk Try.prog C1 := tab_ok (spFB_ok Try.func80 (by kernel_rfl) (fun hx => IsFinite_c hx)) (C0_ok)

noncomputable def C2 : Tab := tab 58 (spFB .f32 isLen) C1
theorem C2_ok : TabOk Try.prog C2 := tab_ok (spFB_ok Try.func58 (by kernel_rfl) (fun hx => l02Above_c hx)) (C1_ok)

noncomputable def C3 : Tab := tab 53 (spFB .f32 isLen) C2
theorem C3_ok : TabOk Try.prog C3 := tab_ok (spFB_ok Try.func53 (by kernel_rfl) (fun hx => aLength_c hx)) (C2_ok)

noncomputable def C4 : Tab := tab 70 (spFB .f32 isMass) C3
theorem C4_ok : TabOk Try.prog C4 := tab_ok (spFB_ok Try.func70 (by kernel_rfl) (fun hx => l02Least_c hx)) (C3_ok)

noncomputable def C5 : Tab := tab 72 (spFB .f32 isMass) C4
theorem C5_ok : TabOk Try.prog C5 := tab_ok (spFB_ok Try.func72 (by kernel_rfl) (fun hx => aMass_c hx)) (C4_ok)

noncomputable def C6 : Tab := tab 91 (spFF .f32 .f32 froot) C5
theorem C6_ok : TabOk Try.prog C6 := tab_ok (spFF_ok Try.func91 (by kernel_rfl) (fun hx => l01Sqrt_c hx)) (C5_ok)

noncomputable def C7 : Tab := tab 92 (spFF .f32 .f32 froot) C6
theorem C7_ok : TabOk Try.prog C7 := tab_ok (spFF_ok Try.func92 (by kernel_rfl) (fun hx => RootNumber_c hx)) (C6_ok)

noncomputable def C8 : Tab := tab 20 (spSame .f64) C7
theorem C8_ok : TabOk Try.prog C8 := tab_ok (spSame_ok Try.func20 (by kernel_rfl) (fun hx hy => sameFloat_c hx hy)) (C7_ok)

noncomputable def C9 : Tab := tab 60 (spFFtoB .f32 natEq) C8
theorem C9_ok : TabOk Try.prog C9 := tab_ok (spFFtoB_ok Try.func60 (by kernel_rfl) (fun hx hy => l01Same_c hx hy)) (C8_ok)

noncomputable def C10 : Tab := tab 63 (spFFtoB .f32 natEq) C9
theorem C10_ok : TabOk Try.prog C10 := tab_ok (spFFtoB_ok Try.func63 (by kernel_rfl) (fun hx hy => SameNumber_c hx hy)) (C9_ok)

noncomputable def C11 : Tab := tab 95 (spFB .f64 (isFin .f64)) C10
theorem C11_ok : TabOk Try.prog C11 := tab_ok (spFB_ok Try.func95 (by kernel_rfl) (fun hx => finite_c hx)) (C10_ok)

noncomputable def C12 : Tab := tab 101 (spFB .f64 (isN .f64)) C11
theorem C12_ok : TabOk Try.prog C12 := tab_ok (spFB_ok Try.func101 (by kernel_rfl) (fun hx => isNaN_c hx)) (C11_ok)

noncomputable def C13 : Tab := tab 104 (spFF .f64 .f64 (fabs .f64)) C12
theorem C13_ok : TabOk Try.prog C13 := tab_ok (spFF_ok Try.func104 (by kernel_rfl) (fun hx => abs_c hx)) (C12_ok)

noncomputable def C14 : Tab := tab 100 (spFF .f64 .f64 (fsqrt .f64)) C13
theorem C14_ok : TabOk Try.prog C14 := tab_ok (spFF_ok Try.func100 (by kernel_rfl) (fun hx => Sqrt_c hx)) (C13_ok)

noncomputable def C15 : Tab := tab 105 (spFrom) C14
theorem C15_ok : TabOk Try.prog C15 := tab_ok ((spFrom_ok (fun n w => ext_from64 n w))) (C14_ok)

def A_wszFloat32S : Shp := ⟨[.h, .h], [], [.sl [.f .f32], .i .i64]⟩
def R_wszFloat32S : List XShp := [(.ret, ⟨[.h], [], [.i .i64]⟩)]

theorem wszFloat32S_e (x : DR A_wszFloat32S.hs) : (evFn (envT Try.prog C15 mtab0) noLoops Try.f65 (A_wszFloat32S.enc x).1).to (fun q => decX R_wszFloat32S .ret [q.1] q.2) = wszFloat32S_t x.1 x.2 := by kernel_rfl

theorem wszFloat32S_m (x : DR A_wszFloat32S.hs) : meanF (envT Try.prog C15 mtab0) noLoops Try.f65 A_wszFloat32S R_wszFloat32S x = some (show SumD (R_wszFloat32S.map (·.2)) from wszFloat32S x.1 x.2) := @meanF_tot _ _ _ _ _ _ _ (wszFloat32S_e x) (show Inhabited (Int) from inferInstance) (by kernel_rfl)

theorem wszFloat32S_ok : SpecOk Try.prog 65 (evFn (envT Try.prog C15 mtab0) noLoops Try.f65) := fnL_ok (envT_ok (C15_ok) (mtab0_ok _)) mixedO Try.func65 (by kernel_rfl) (c := bodyOf Try.f65) (by kernel_rfl) (loopFree_ok (by kernel_rfl))

theorem wszFloat32S_told : SpecOk Try.prog 65 (toldT A_wszFloat32S R_wszFloat32S (fun x => wszFloat32S x.1 x.2) (C15 65)) := toldT_ok (by kernel_rfl) wszFloat32S_ok (rest_ok (C15_ok) _) wszFloat32S_m

noncomputable def C16 : Tab := tab 65 (toldT A_wszFloat32S R_wszFloat32S (fun x => wszFloat32S x.1 x.2) (C15 65)) C15
theorem C16_ok : TabOk Try.prog C16 := tab_ok (wszFloat32S_told) (C15_ok)

def A_wszLake : Shp := ⟨[.agg [.h, .h], .h], [], [.sl [.f .f32], .sl [.f .f32], .i .i64]⟩
def R_wszLake : List XShp := [(.ret, ⟨[.h], [], [.i .i64]⟩)]

theorem wszLake_e (x : DR A_wszLake.hs) : (evFn (envT Try.prog C16 mtab0) noLoops Try.f28 (A_wszLake.enc x).1).to (fun q => decX R_wszLake .ret [q.1] q.2) = wszLake_t x.1 x.2.1 x.2.2 := by kernel_rfl

theorem wszLake_m (x : DR A_wszLake.hs) : meanF (envT Try.prog C16 mtab0) noLoops Try.f28 A_wszLake R_wszLake x = some (show SumD (R_wszLake.map (·.2)) from wszLake x.1 x.2.1 x.2.2) := @meanF_tot _ _ _ _ _ _ _ (wszLake_e x) (show Inhabited (Int) from inferInstance) (by kernel_rfl)

theorem wszLake_ok : SpecOk Try.prog 28 (evFn (envT Try.prog C16 mtab0) noLoops Try.f28) := fnL_ok (envT_ok (C16_ok) (mtab0_ok _)) mixedO Try.func28 (by kernel_rfl) (c := bodyOf Try.f28) (by kernel_rfl) (loopFree_ok (by kernel_rfl))

theorem wszLake_told : SpecOk Try.prog 28 (toldT A_wszLake R_wszLake (fun x => wszLake x.1 x.2.1 x.2.2) (C16 28)) := toldT_ok (by kernel_rfl) wszLake_ok (rest_ok (C16_ok) _) wszLake_m

noncomputable def C17 : Tab := tab 28 (toldT A_wszLake R_wszLake (fun x => wszLake x.1 x.2.1 x.2.2) (C16 28)) C16
theorem C17_ok : TabOk Try.prog C17 := tab_ok (wszLake_told) (C16_ok)

def S_wtoFloat32S_l3 : Shp := ⟨[.h, .slw 0 1, .h], [.arr [.f .f32] false], [.sl [.f .f32], .i .i64, .sl [.f .f32]]⟩
def X_wtoFloat32S_l3 : List XShp := [(.exit 0, ⟨[.undef, .slw 0 1, .undef], [.arr [.f .f32] false], [.sl [.f .f32]]⟩)]

noncomputable def L_wtoFloat32S_l3 : Loops := (⟨22, lvT [(3, [0, 3, 4])], mdT [(3, .exit 0, [], [0, 4])], fun k vs bs => .bad⟩ : Loops)

theorem wtoFloat32S_l3_e (y0 : List Nat) (s : Int × List Nat) : (loopStep (envT Try.prog C17 mtab0) L_wtoFloat32S_l3 3 (loopC (bodyOf Try.f67) 3) (S_wtoFloat32S_l3.enc (y0, s.1, s.2)).1 (S_wtoFloat32S_l3.enc (y0, s.1, s.2)).2).to (stepD S_wtoFloat32S_l3 X_wtoFloat32S_l3) = (wtoFloat32S_l3_t y0 s.1 s.2).map (Sum.map (fun s : Int × List Nat => (show DR S_wtoFloat32S_l3.hs from (y0, s.1, s.2))) id) := by kernel_rfl

theorem wtoFloat32S_l3_r (x : DR S_wtoFloat32S_l3.hs) : (wtoFloat32S_l3 x.1 x.2.1 x.2.2 : Option (SumD (X_wtoFloat32S_l3.map (·.2)))) = runL (meanS (envT Try.prog C17 mtab0) L_wtoFloat32S_l3 3 (loopC (bodyOf Try.f67) 3) S_wtoFloat32S_l3 X_wtoFloat32S_l3) x := run_of (fun s : Int × List Nat => (show DR S_wtoFloat32S_l3.hs from (x.1, s.1, s.2))) (wtoFloat32S_l3_e (x.1)) (x.2.1, x.2.2)

theorem wtoFloat32S_l3_k (L : Loops) (hn : L_wtoFloat32S_l3.n = L.n) (hlv : L_wtoFloat32S_l3.lv 3 = L.lv 3) (hL : ∀ vs bs, L.loop 3 vs bs = toldL S_wtoFloat32S_l3 X_wtoFloat32S_l3 (fun x => wtoFloat32S_l3 x.1 x.2.1 x.2.2) vs bs) : LOk Try.prog (envT Try.prog C17 mtab0) L 3 (loopC (bodyOf Try.f67) 3) := toldL_ok (L1 := L_wtoFloat32S_l3) (envT_ok (C17_ok) (mtab0_ok _)) mixedO hn hlv (loopFree_ok (by kernel_rfl)) wtoFloat32S_l3_r hL

def A_wtoFloat32S : Shp := ⟨[.h], [], [.sl [.f .f32]]⟩
def R_wtoFloat32S : List XShp := [(.ret, ⟨[.slw 0 1], [.arr [.f .f32] false], [.sl [.f .f32]]⟩)]

noncomputable def L_wtoFloat32S : Loops := (⟨22, lvT [(3, [0, 3, 4])], mdT [(3, .exit 0, [], [0, 4])], fun k vs bs => bif Nat.beq k 3 then toldL S_wtoFloat32S_l3 X_wtoFloat32S_l3 (fun x => wtoFloat32S_l3 x.1 x.2.1 x.2.2) vs bs else .bad⟩ : Loops)

theorem wtoFloat32S_e (x : DR A_wtoFloat32S.hs) : (evFn (envT Try.prog C17 mtab0) L_wtoFloat32S Try.f67 (A_wtoFloat32S.enc x).1).to (fun q => decX R_wtoFloat32S .ret [q.1] q.2) = wtoFloat32S_t x := by kernel_rfl

theorem wtoFloat32S_m (x : DR A_wtoFloat32S.hs) : meanF (envT Try.prog C17 mtab0) L_wtoFloat32S Try.f67 A_wtoFloat32S R_wtoFloat32S x = (show Option (SumD (R_wtoFloat32S.map (·.2))) from wtoFloat32S x) := meanF_of (wtoFloat32S_e x)

theorem wtoFloat32S_ok : SpecOk Try.prog 67 (evFn (envT Try.prog C17 mtab0) L_wtoFloat32S Try.f67) := fnL_ok (envT_ok (C17_ok) (mtab0_ok _)) mixedO Try.func67 (by kernel_rfl) (c := bodyOf Try.f67) (by kernel_rfl) (loopsL (l := [(3, loopC (bodyOf Try.f67) 3)]) (by kernel_rfl) (lk_cons (wtoFloat32S_l3_k _ rfl rfl (fun _ _ => rfl)) lk_nil))

theorem wtoFloat32S_told : SpecOk Try.prog 67 (toldO A_wtoFloat32S R_wtoFloat32S (fun x => wtoFloat32S x) (C17 67)) := toldO_ok (by kernel_rfl) wtoFloat32S_ok (rest_ok (C17_ok) _) wtoFloat32S_m

noncomputable def C18 : Tab := tab 67 (toldO A_wtoFloat32S R_wtoFloat32S (fun x => wtoFloat32S x) (C17 67)) C17
theorem C18_ok : TabOk Try.prog C18 := tab_ok (wtoFloat32S_told) (C17_ok)

def A_wtoLake : Shp := ⟨[.agg [.h, .h]], [], [.sl [.f .f32], .sl [.f .f32]]⟩
def R_wtoLake : List XShp := [(.ret, ⟨[.agg [.slw 0 1, .slw 1 1]], [.arr [.f .f32] false, .arr [.f .f32] false], [.sl [.f .f32], .sl [.f .f32]]⟩)]

theorem wtoLake_e (x : DR A_wtoLake.hs) : (evFn (envT Try.prog C18 mtab0) noLoops Try.f30 (A_wtoLake.enc x).1).to (fun q => decX R_wtoLake .ret [q.1] q.2) = wtoLake_t x.1 x.2 := by kernel_rfl

theorem wtoLake_m (x : DR A_wtoLake.hs) : meanF (envT Try.prog C18 mtab0) noLoops Try.f30 A_wtoLake R_wtoLake x = (show Option (SumD (R_wtoLake.map (·.2))) from wtoLake x.1 x.2) := meanF_of (wtoLake_e x)

theorem wtoLake_ok : SpecOk Try.prog 30 (evFn (envT Try.prog C18 mtab0) noLoops Try.f30) := fnL_ok (envT_ok (C18_ok) (mtab0_ok _)) mixedO Try.func30 (by kernel_rfl) (c := bodyOf Try.f30) (by kernel_rfl) (loopFree_ok (by kernel_rfl))

theorem wtoLake_told : SpecOk Try.prog 30 (toldO A_wtoLake R_wtoLake (fun x => wtoLake x.1 x.2) (C18 30)) := toldO_ok (by kernel_rfl) wtoLake_ok (rest_ok (C18_ok) _) wtoLake_m

noncomputable def C19 : Tab := tab 30 (toldO A_wtoLake R_wtoLake (fun x => wtoLake x.1 x.2) (C18 30)) C18
theorem C19_ok : TabOk Try.prog C19 := tab_ok (wtoLake_told) (C18_ok)

def S_sl05Lake_l5 : Shp := ⟨[.dpt [.h, .h] 0, .undef, .h, .h], [], [.sl [.f .f32], .sl [.f .f32], .i .i64, .i .i64]⟩
def X_sl05Lake_l5 : List XShp := [(.ret, ⟨[.undef, .lb false, .undef, .undef], [], []⟩), (.exit 0, ⟨[.undef, .undef, .undef, .undef], [], []⟩)]

noncomputable def L_sl05Lake_l5 : Loops := (⟨94, lvT [(5, [0, 2, 29, 30])], mdT [(5, .normal, [], [2]), (5, .exit 0, [], [0, 2, 29, 30]), (5, .ret, [], [0, 29, 30])], fun k vs bs => .bad⟩ : Loops)

theorem sl05Lake_l5_e (y0 : List Nat) (y1 : List Nat) (y2 : Int) (s : Int) : (loopStep (envT Try.prog C19 mtab0) L_sl05Lake_l5 5 (loopC (bodyOf Try.f74) 5) (S_sl05Lake_l5.enc (y0, y1, y2, s)).1 (S_sl05Lake_l5.enc (y0, y1, y2, s)).2).to (stepD S_sl05Lake_l5 X_sl05Lake_l5) = (sl05Lake_l5_t y0 y1 y2 s).map (Sum.map (fun s : Int => (show DR S_sl05Lake_l5.hs from (y0, y1, y2, s))) id) := by kernel_rfl

theorem sl05Lake_l5_r (x : DR S_sl05Lake_l5.hs) : (sl05Lake_l5 x.1 x.2.1 x.2.2.1 x.2.2.2 : Option (SumD (X_sl05Lake_l5.map (·.2)))) = runL (meanS (envT Try.prog C19 mtab0) L_sl05Lake_l5 5 (loopC (bodyOf Try.f74) 5) S_sl05Lake_l5 X_sl05Lake_l5) x := run_of (fun s : Int => (show DR S_sl05Lake_l5.hs from (x.1, x.2.1, x.2.2.1, s))) (sl05Lake_l5_e (x.1) (x.2.1) (x.2.2.1)) x.2.2.2

theorem sl05Lake_l5_k (L : Loops) (hn : L_sl05Lake_l5.n = L.n) (hlv : L_sl05Lake_l5.lv 5 = L.lv 5) (hL : ∀ vs bs, L.loop 5 vs bs = toldL S_sl05Lake_l5 X_sl05Lake_l5 (fun x => sl05Lake_l5 x.1 x.2.1 x.2.2.1 x.2.2.2) vs bs) : LOk Try.prog (envT Try.prog C19 mtab0) L 5 (loopC (bodyOf Try.f74) 5) := toldL_ok (L1 := L_sl05Lake_l5) (envT_ok (C19_ok) (mtab0_ok _)) mixedO hn hlv (loopFree_ok (by kernel_rfl)) sl05Lake_l5_r hL

def A_sl05Lake : Shp := ⟨[.dpt [.h, .h] 0], [], [.sl [.f .f32], .sl [.f .f32]]⟩
def R_sl05Lake : List XShp := [(.ret, ⟨[.h], [], [.b]⟩)]

noncomputable def L_sl05Lake : Loops := (⟨94, lvT [(5, [0, 2, 29, 30])], mdT [(5, .normal, [], [2]), (5, .exit 0, [], [0, 2, 29, 30]), (5, .ret, [], [0, 29, 30])], fun k vs bs => bif Nat.beq k 5 then toldL S_sl05Lake_l5 X_sl05Lake_l5 (fun x => sl05Lake_l5 x.1 x.2.1 x.2.2.1 x.2.2.2) vs bs else .bad⟩ : Loops)

theorem sl05Lake_e (x : DR A_sl05Lake.hs) : (evFn (envT Try.prog C19 mtab0) L_sl05Lake Try.f74 (A_sl05Lake.enc x).1).to (fun q => decX R_sl05Lake .ret [q.1] q.2) = sl05Lake_t x.1 x.2 := by kernel_rfl

theorem sl05Lake_m (x : DR A_sl05Lake.hs) : meanF (envT Try.prog C19 mtab0) L_sl05Lake Try.f74 A_sl05Lake R_sl05Lake x = (show Option (SumD (R_sl05Lake.map (·.2))) from sl05Lake x.1 x.2) := meanF_of (sl05Lake_e x)

theorem sl05Lake_ok : SpecOk Try.prog 74 (evFn (envT Try.prog C19 mtab0) L_sl05Lake Try.f74) := fnL_ok (envT_ok (C19_ok) (mtab0_ok _)) mixedO Try.func74 (by kernel_rfl) (c := bodyOf Try.f74) (by kernel_rfl) (loopsL (l := [(5, loopC (bodyOf Try.f74) 5)]) (by kernel_rfl) (lk_cons (sl05Lake_l5_k _ rfl rfl (fun _ _ => rfl)) lk_nil))

theorem sl05Lake_told : SpecOk Try.prog 74 (toldO A_sl05Lake R_sl05Lake (fun x => sl05Lake x.1 x.2) (C19 74)) := toldO_ok (by kernel_rfl) sl05Lake_ok (rest_ok (C19_ok) _) sl05Lake_m

noncomputable def C20 : Tab := tab 74 (toldO A_sl05Lake R_sl05Lake (fun x => sl05Lake x.1 x.2) (C19 74)) C19
theorem C20_ok : TabOk Try.prog C20 := tab_ok (sl05Lake_told) (C19_ok)

def A_sValidLake : Shp := ⟨[.agg [.h, .h]], [], [.sl [.f .f32], .sl [.f .f32]]⟩
def R_sValidLake : List XShp := [(.ret, ⟨[.h], [], [.b]⟩)]

theorem sValidLake_e (x : DR A_sValidLake.hs) : (evFn (envT Try.prog C20 mtab0) noLoops Try.f40 (A_sValidLake.enc x).1).to (fun q => decX R_sValidLake .ret [q.1] q.2) = sValidLake_t x.1 x.2 := by kernel_rfl

theorem sValidLake_m (x : DR A_sValidLake.hs) : meanF (envT Try.prog C20 mtab0) noLoops Try.f40 A_sValidLake R_sValidLake x = (show Option (SumD (R_sValidLake.map (·.2))) from sValidLake x.1 x.2) := meanF_of (sValidLake_e x)

theorem sValidLake_ok : SpecOk Try.prog 40 (evFn (envT Try.prog C20 mtab0) noLoops Try.f40) := fnL_ok (envT_ok (C20_ok) (mtab0_ok _)) mixedO Try.func40 (by kernel_rfl) (c := bodyOf Try.f40) (by kernel_rfl) (loopFree_ok (by kernel_rfl))

theorem sValidLake_told : SpecOk Try.prog 40 (toldO A_sValidLake R_sValidLake (fun x => sValidLake x.1 x.2) (C20 40)) := toldO_ok (by kernel_rfl) sValidLake_ok (rest_ok (C20_ok) _) sValidLake_m

noncomputable def C21 : Tab := tab 40 (toldO A_sValidLake R_sValidLake (fun x => sValidLake x.1 x.2) (C20 40)) C20
theorem C21_ok : TabOk Try.prog C21 := tab_ok (sValidLake_told) (C20_ok)

def A_iwithin : Shp := ⟨[.h, .h, .h], [], [.i .i64, .i .i64, .i .i64]⟩
def R_iwithin : List XShp := [(.ret, ⟨[.h], [], [.b]⟩)]

theorem iwithin_e (x : DR A_iwithin.hs) : (evFn (envT Try.prog C21 mtab0) noLoops Try.f75 (A_iwithin.enc x).1).to (fun q => decX R_iwithin .ret [q.1] q.2) = iwithin_t x.1 x.2.1 x.2.2 := by kernel_rfl

theorem iwithin_m (x : DR A_iwithin.hs) : meanF (envT Try.prog C21 mtab0) noLoops Try.f75 A_iwithin R_iwithin x = some (show SumD (R_iwithin.map (·.2)) from iwithin x.1 x.2.1 x.2.2) := @meanF_tot _ _ _ _ _ _ _ (iwithin_e x) (show Inhabited (Bool) from inferInstance) (by kernel_rfl)

theorem iwithin_ok : SpecOk Try.prog 75 (evFn (envT Try.prog C21 mtab0) noLoops Try.f75) := fnL_ok (envT_ok (C21_ok) (mtab0_ok _)) mixedO Try.func75 (by kernel_rfl) (c := bodyOf Try.f75) (by kernel_rfl) (loopFree_ok (by kernel_rfl))

theorem iwithin_told : SpecOk Try.prog 75 (toldT A_iwithin R_iwithin (fun x => iwithin x.1 x.2.1 x.2.2) (C21 75)) := toldT_ok (by kernel_rfl) iwithin_ok (rest_ok (C21_ok) _) iwithin_m

noncomputable def C22 : Tab := tab 75 (toldT A_iwithin R_iwithin (fun x => iwithin x.1 x.2.1 x.2.2) (C21 75)) C21
theorem C22_ok : TabOk Try.prog C22 := tab_ok (iwithin_told) (C21_ok)

def A_iareMasses_1 : Shp := ⟨[.h], [], [.f .f32]⟩
def R_iareMasses_1 : List XShp := [(.ret, ⟨[.h], [], [.b]⟩)]

theorem iareMasses_1_e (x : DR A_iareMasses_1.hs) : (evFn (envT Try.prog C22 mtab0) noLoops Try.f93 (A_iareMasses_1.enc x).1).to (fun q => decX R_iareMasses_1 .ret [q.1] q.2) = iareMasses_1_t x := by kernel_rfl

theorem iareMasses_1_m (x : DR A_iareMasses_1.hs) : meanF (envT Try.prog C22 mtab0) noLoops Try.f93 A_iareMasses_1 R_iareMasses_1 x = some (show SumD (R_iareMasses_1.map (·.2)) from iareMasses_1 x) := @meanF_tot _ _ _ _ _ _ _ (iareMasses_1_e x) (show Inhabited (Bool) from inferInstance) (by kernel_rfl)

theorem iareMasses_1_ok : SpecOk Try.prog 93 (evFn (envT Try.prog C22 mtab0) noLoops Try.f93) := fnL_ok (envT_ok (C22_ok) (mtab0_ok _)) mixedO Try.func93 (by kernel_rfl) (c := bodyOf Try.f93) (by kernel_rfl) (loopFree_ok (by kernel_rfl))

theorem iareMasses_1_told : SpecOk Try.prog 93 (toldT A_iareMasses_1 R_iareMasses_1 (fun x => iareMasses_1 x) (C22 93)) := toldT_ok (by kernel_rfl) iareMasses_1_ok (rest_ok (C22_ok) _) iareMasses_1_m

noncomputable def C23 : Tab := tab 93 (toldT A_iareMasses_1 R_iareMasses_1 (fun x => iareMasses_1 x) (C22 93)) C22
theorem C23_ok : TabOk Try.prog C23 := tab_ok (iareMasses_1_told) (C22_ok)

def S_lIndexFunc_iareMasses_1_l2 : Shp := ⟨[.h, .fn 93 [], .undef, .h, .h], [], [.sl [.f .f32], .i .i64, .i .i64]⟩
def X_lIndexFunc_iareMasses_1_l2 : List XShp := [(.ret, ⟨[.undef, .undef, .h, .undef, .undef], [], [.i .i64]⟩), (.exit 0, ⟨[.undef, .undef, .undef, .undef, .undef], [], []⟩)]

noncomputable def L_lIndexFunc_iareMasses_1_l2 : Loops := (⟨19, lvT [(2, [0, 1, 4, 7, 8])], mdT [(2, .normal, [], [4]), (2, .exit 0, [], [0, 1, 4, 7, 8]), (2, .ret, [], [0, 1, 7, 8])], fun k vs bs => .bad⟩ : Loops)

theorem lIndexFunc_iareMasses_1_l2_e (y0 : List Nat) (y1 : Int) (s : Int) : (loopStep (envT Try.prog C23 mtab0) L_lIndexFunc_iareMasses_1_l2 2 (loopC (bodyOf Try.f96) 2) (S_lIndexFunc_iareMasses_1_l2.enc (y0, y1, s)).1 (S_lIndexFunc_iareMasses_1_l2.enc (y0, y1, s)).2).to (stepD S_lIndexFunc_iareMasses_1_l2 X_lIndexFunc_iareMasses_1_l2) = (lIndexFunc_iareMasses_1_l2_t y0 y1 s).map (Sum.map (fun s : Int => (show DR S_lIndexFunc_iareMasses_1_l2.hs from (y0, y1, s))) id) := by kernel_rfl

theorem lIndexFunc_iareMasses_1_l2_r (x : DR S_lIndexFunc_iareMasses_1_l2.hs) : (lIndexFunc_iareMasses_1_l2 x.1 x.2.1 x.2.2 : Option (SumD (X_lIndexFunc_iareMasses_1_l2.map (·.2)))) = runL (meanS (envT Try.prog C23 mtab0) L_lIndexFunc_iareMasses_1_l2 2 (loopC (bodyOf Try.f96) 2) S_lIndexFunc_iareMasses_1_l2 X_lIndexFunc_iareMasses_1_l2) x := run_of (fun s : Int => (show DR S_lIndexFunc_iareMasses_1_l2.hs from (x.1, x.2.1, s))) (lIndexFunc_iareMasses_1_l2_e (x.1) (x.2.1)) x.2.2

theorem lIndexFunc_iareMasses_1_l2_k (L : Loops) (hn : L_lIndexFunc_iareMasses_1_l2.n = L.n) (hlv : L_lIndexFunc_iareMasses_1_l2.lv 2 = L.lv 2) (hL : ∀ vs bs, L.loop 2 vs bs = toldL S_lIndexFunc_iareMasses_1_l2 X_lIndexFunc_iareMasses_1_l2 (fun x => lIndexFunc_iareMasses_1_l2 x.1 x.2.1 x.2.2) vs bs) : LOk Try.prog (envT Try.prog C23 mtab0) L 2 (loopC (bodyOf Try.f96) 2) := toldL_ok (L1 := L_lIndexFunc_iareMasses_1_l2) (envT_ok (C23_ok) (mtab0_ok _)) mixedO hn hlv (loopFree_ok (by kernel_rfl)) lIndexFunc_iareMasses_1_l2_r hL

def A_lIndexFunc_iareMasses_1 : Shp := ⟨[.h, .fn 93 []], [], [.sl [.f .f32]]⟩
def R_lIndexFunc_iareMasses_1 : List XShp := [(.ret, ⟨[.h], [], [.i .i64]⟩)]

noncomputable def L_lIndexFunc_iareMasses_1 : Loops := (⟨19, lvT [(2, [0, 1, 4, 7, 8])], mdT [(2, .normal, [], [4]), (2, .exit 0, [], [0, 1, 4, 7, 8]), (2, .ret, [], [0, 1, 7, 8])], fun k vs bs => bif Nat.beq k 2 then toldL S_lIndexFunc_iareMasses_1_l2 X_lIndexFunc_iareMasses_1_l2 (fun x => lIndexFunc_iareMasses_1_l2 x.1 x.2.1 x.2.2) vs bs else .bad⟩ : Loops)

theorem lIndexFunc_iareMasses_1_e (x : DR A_lIndexFunc_iareMasses_1.hs) : (evFn (envT Try.prog C23 mtab0) L_lIndexFunc_iareMasses_1 Try.f96 (A_lIndexFunc_iareMasses_1.enc x).1).to (fun q => decX R_lIndexFunc_iareMasses_1 .ret [q.1] q.2) = lIndexFunc_iareMasses_1_t x := by kernel_rfl

theorem lIndexFunc_iareMasses_1_m (x : DR A_lIndexFunc_iareMasses_1.hs) : meanF (envT Try.prog C23 mtab0) L_lIndexFunc_iareMasses_1 Try.f96 A_lIndexFunc_iareMasses_1 R_lIndexFunc_iareMasses_1 x = (show Option (SumD (R_lIndexFunc_iareMasses_1.map (·.2))) from lIndexFunc_iareMasses_1 x) := meanF_of (lIndexFunc_iareMasses_1_e x)

theorem lIndexFunc_iareMasses_1_ok : SpecOk Try.prog 96 (evFn (envT Try.prog C23 mtab0) L_lIndexFunc_iareMasses_1 Try.f96) := fnL_ok (envT_ok (C23_ok) (mtab0_ok _)) mixedO Try.func96 (by kernel_rfl) (c := bodyOf Try.f96) (by kernel_rfl) (loopsL (l := [(2, loopC (bodyOf Try.f96) 2)]) (by kernel_rfl) (lk_cons (lIndexFunc_iareMasses_1_l2_k _ rfl rfl (fun _ _ => rfl)) lk_nil))

theorem lIndexFunc_iareMasses_1_told : SpecOk Try.prog 96 (toldO A_lIndexFunc_iareMasses_1 R_lIndexFunc_iareMasses_1 (fun x => lIndexFunc_iareMasses_1 x) (C23 96)) := toldO_ok (by kernel_rfl) lIndexFunc_iareMasses_1_ok (rest_ok (C23_ok) _) lIndexFunc_iareMasses_1_m

noncomputable def C24 : Tab := tab 96 (toldO A_lIndexFunc_iareMasses_1 R_lIndexFunc_iareMasses_1 (fun x => lIndexFunc_iareMasses_1 x) (C23 96)) C23
theorem C24_ok : TabOk Try.prog C24 := tab_ok (lIndexFunc_iareMasses_1_told) (C23_ok)

def A_lContainsFunc_iareMasses_1 : Shp := ⟨[.h, .fn 93 []], [], [.sl [.f .f32]]⟩
def R_lContainsFunc_iareMasses_1 : List XShp := [(.ret, ⟨[.h], [], [.b]⟩)]

theorem lContainsFunc_iareMasses_1_e (x : DR A_lContainsFunc_iareMasses_1.hs) : (evFn (envT Try.prog C24 mtab0) noLoops Try.f86 (A_lContainsFunc_iareMasses_1.enc x).1).to (fun q => decX R_lContainsFunc_iareMasses_1 .ret [q.1] q.2) = lContainsFunc_iareMasses_1_t x := by kernel_rfl

theorem lContainsFunc_iareMasses_1_m (x : DR A_lContainsFunc_iareMasses_1.hs) : meanF (envT Try.prog C24 mtab0) noLoops Try.f86 A_lContainsFunc_iareMasses_1 R_lContainsFunc_iareMasses_1 x = (show Option (SumD (R_lContainsFunc_iareMasses_1.map (·.2))) from lContainsFunc_iareMasses_1 x) := meanF_of (lContainsFunc_iareMasses_1_e x)

theorem lContainsFunc_iareMasses_1_ok : SpecOk Try.prog 86 (evFn (envT Try.prog C24 mtab0) noLoops Try.f86) := fnL_ok (envT_ok (C24_ok) (mtab0_ok _)) mixedO Try.func86 (by kernel_rfl) (c := bodyOf Try.f86) (by kernel_rfl) (loopFree_ok (by kernel_rfl))

theorem lContainsFunc_iareMasses_1_told : SpecOk Try.prog 86 (toldO A_lContainsFunc_iareMasses_1 R_lContainsFunc_iareMasses_1 (fun x => lContainsFunc_iareMasses_1 x) (C24 86)) := toldO_ok (by kernel_rfl) lContainsFunc_iareMasses_1_ok (rest_ok (C24_ok) _) lContainsFunc_iareMasses_1_m

noncomputable def C25 : Tab := tab 86 (toldO A_lContainsFunc_iareMasses_1 R_lContainsFunc_iareMasses_1 (fun x => lContainsFunc_iareMasses_1 x) (C24 86)) C24
theorem C25_ok : TabOk Try.prog C25 := tab_ok (lContainsFunc_iareMasses_1_told) (C24_ok)

def A_iareMasses : Shp := ⟨[.h], [], [.sl [.f .f32]]⟩
def R_iareMasses : List XShp := [(.ret, ⟨[.h], [], [.b]⟩)]

theorem iareMasses_e (x : DR A_iareMasses.hs) : (evFn (envT Try.prog C25 mtab0) noLoops Try.f76 (A_iareMasses.enc x).1).to (fun q => decX R_iareMasses .ret [q.1] q.2) = iareMasses_t x := by kernel_rfl

theorem iareMasses_m (x : DR A_iareMasses.hs) : meanF (envT Try.prog C25 mtab0) noLoops Try.f76 A_iareMasses R_iareMasses x = (show Option (SumD (R_iareMasses.map (·.2))) from iareMasses x) := meanF_of (iareMasses_e x)

theorem iareMasses_ok : SpecOk Try.prog 76 (evFn (envT Try.prog C25 mtab0) noLoops Try.f76) := fnL_ok (envT_ok (C25_ok) (mtab0_ok _)) mixedO Try.func76 (by kernel_rfl) (c := bodyOf Try.f76) (by kernel_rfl) (loopFree_ok (by kernel_rfl))

theorem iareMasses_told : SpecOk Try.prog 76 (toldO A_iareMasses R_iareMasses (fun x => iareMasses x) (C25 76)) := toldO_ok (by kernel_rfl) iareMasses_ok (rest_ok (C25_ok) _) iareMasses_m

noncomputable def C26 : Tab := tab 76 (toldO A_iareMasses R_iareMasses (fun x => iareMasses x) (C25 76)) C25
theorem C26_ok : TabOk Try.prog C26 := tab_ok (iareMasses_told) (C25_ok)

def S_iValidLake_l4 : Shp := ⟨[.ref 0 0, .undef, .h], [.cells [.h, .h] false], [.i .i64, .sl [.f .f32], .sl [.f .f32]]⟩
def X_iValidLake_l4 : List XShp := [(.ret, ⟨[.undef, .lb false, .undef], [], []⟩), (.exit 0, ⟨[.undef, .undef, .undef], [], []⟩)]

noncomputable def L_iValidLake_l4 : Loops := (⟨64, lvT [(4, [1, 2, 3])], mdT [(4, .normal, [], [2]), (4, .exit 0, [], [1, 2, 3]), (4, .ret, [], [1, 3])], fun k vs bs => .bad⟩ : Loops)

theorem iValidLake_l4_e (y1 : List Nat) (y2 : List Nat) (s : Int) : (loopStep (envT Try.prog C26 mtab0) L_iValidLake_l4 4 (loopC (bodyOf Try.f41) 4) (S_iValidLake_l4.enc (s, y1, y2)).1 (S_iValidLake_l4.enc (s, y1, y2)).2).to (stepD S_iValidLake_l4 X_iValidLake_l4) = (iValidLake_l4_t y1 y2 s).map (Sum.map (fun s : Int => (show DR S_iValidLake_l4.hs from (s, y1, y2))) id) := by kernel_rfl

theorem iValidLake_l4_r (x : DR S_iValidLake_l4.hs) : (iValidLake_l4 x.1 x.2.1 x.2.2 : Option (SumD (X_iValidLake_l4.map (·.2)))) = runL (meanS (envT Try.prog C26 mtab0) L_iValidLake_l4 4 (loopC (bodyOf Try.f41) 4) S_iValidLake_l4 X_iValidLake_l4) x := run_of (fun s : Int => (show DR S_iValidLake_l4.hs from (s, x.2.1, x.2.2))) (iValidLake_l4_e (x.2.1) (x.2.2)) x.1

theorem iValidLake_l4_k (L : Loops) (hn : L_iValidLake_l4.n = L.n) (hlv : L_iValidLake_l4.lv 4 = L.lv 4) (hL : ∀ vs bs, L.loop 4 vs bs = toldL S_iValidLake_l4 X_iValidLake_l4 (fun x => iValidLake_l4 x.1 x.2.1 x.2.2) vs bs) : LOk Try.prog (envT Try.prog C26 mtab0) L 4 (loopC (bodyOf Try.f41) 4) := toldL_ok (L1 := L_iValidLake_l4) (envT_ok (C26_ok) (mtab0_ok _)) mixedO hn hlv (loopFree_ok (by kernel_rfl)) iValidLake_l4_r hL

def A_iValidLake : Shp := ⟨[.agg [.h, .h]], [], [.sl [.f .f32], .sl [.f .f32]]⟩
def R_iValidLake : List XShp := [(.ret, ⟨[.h], [], [.b]⟩)]

noncomputable def L_iValidLake : Loops := (⟨64, lvT [(4, [1, 2, 3])], mdT [(4, .normal, [], [2]), (4, .exit 0, [], [1, 2, 3]), (4, .ret, [], [1, 3])], fun k vs bs => bif Nat.beq k 4 then toldL S_iValidLake_l4 X_iValidLake_l4 (fun x => iValidLake_l4 x.1 x.2.1 x.2.2) vs bs else .bad⟩ : Loops)

theorem iValidLake_e (x : DR A_iValidLake.hs) : (evFn (envT Try.prog C26 mtab0) L_iValidLake Try.f41 (A_iValidLake.enc x).1).to (fun q => decX R_iValidLake .ret [q.1] q.2) = iValidLake_t x.1 x.2 := by kernel_rfl

theorem iValidLake_m (x : DR A_iValidLake.hs) : meanF (envT Try.prog C26 mtab0) L_iValidLake Try.f41 A_iValidLake R_iValidLake x = (show Option (SumD (R_iValidLake.map (·.2))) from iValidLake x.1 x.2) := meanF_of (iValidLake_e x)

theorem iValidLake_ok : SpecOk Try.prog 41 (evFn (envT Try.prog C26 mtab0) L_iValidLake Try.f41) := fnL_ok (envT_ok (C26_ok) (mtab0_ok _)) mixedO Try.func41 (by kernel_rfl) (c := bodyOf Try.f41) (by kernel_rfl) (loopsL (l := [(4, loopC (bodyOf Try.f41) 4)]) (by kernel_rfl) (lk_cons (iValidLake_l4_k _ rfl rfl (fun _ _ => rfl)) lk_nil))

theorem iValidLake_told : SpecOk Try.prog 41 (toldO A_iValidLake R_iValidLake (fun x => iValidLake x.1 x.2) (C26 41)) := toldO_ok (by kernel_rfl) iValidLake_ok (rest_ok (C26_ok) _) iValidLake_m

noncomputable def C27 : Tab := tab 41 (toldO A_iValidLake R_iValidLake (fun x => iValidLake x.1 x.2) (C26 41)) C26
theorem C27_ok : TabOk Try.prog C27 := tab_ok (iValidLake_told) (C26_ok)

def S_weqFloat32S_l4 : Shp := ⟨[.h, .h, .undef, .h], [], [.sl [.f .f32], .sl [.f .f32], .i .i64]⟩
def X_weqFloat32S_l4 : List XShp := [(.exit 0, ⟨[.undef, .undef, .undef, .undef], [], []⟩)]

noncomputable def L_weqFloat32S_l4 : Loops := (⟨29, lvT [(4, [0, 1, 4, 5])], mdT [(4, .normal, [], [4]), (4, .exit 0, [], [0, 1, 4, 5]), (4, .ret, [], [0, 1, 5])], fun k vs bs => .bad⟩ : Loops)

theorem weqFloat32S_l4_e (y0 : List Nat) (y1 : List Nat) (s : Int) : (loopStep (envT Try.prog C27 mtab0) L_weqFloat32S_l4 4 (loopC (bodyOf Try.f69) 4) (S_weqFloat32S_l4.enc (y0, y1, s)).1 (S_weqFloat32S_l4.enc (y0, y1, s)).2).to (stepD S_weqFloat32S_l4 X_weqFloat32S_l4) = (weqFloat32S_l4_t y0 y1 s).map (Sum.map (fun s : Int => (show DR S_weqFloat32S_l4.hs from (y0, y1, s))) id) := by kernel_rfl

theorem weqFloat32S_l4_r (x : DR S_weqFloat32S_l4.hs) : (weqFloat32S_l4 x.1 x.2.1 x.2.2 : Option (SumD (X_weqFloat32S_l4.map (·.2)))) = runL (meanS (envT Try.prog C27 mtab0) L_weqFloat32S_l4 4 (loopC (bodyOf Try.f69) 4) S_weqFloat32S_l4 X_weqFloat32S_l4) x := run_of (fun s : Int => (show DR S_weqFloat32S_l4.hs from (x.1, x.2.1, s))) (weqFloat32S_l4_e (x.1) (x.2.1)) x.2.2

theorem weqFloat32S_l4_k (L : Loops) (hn : L_weqFloat32S_l4.n = L.n) (hlv : L_weqFloat32S_l4.lv 4 = L.lv 4) (hL : ∀ vs bs, L.loop 4 vs bs = toldL S_weqFloat32S_l4 X_weqFloat32S_l4 (fun x => weqFloat32S_l4 x.1 x.2.1 x.2.2) vs bs) : LOk Try.prog (envT Try.prog C27 mtab0) L 4 (loopC (bodyOf Try.f69) 4) := toldL_ok (L1 := L_weqFloat32S_l4) (envT_ok (C27_ok) (mtab0_ok _)) mixedO hn hlv (loopFree_ok (by kernel_rfl)) weqFloat32S_l4_r hL

def A_weqFloat32S : Shp := ⟨[.h, .h], [], [.sl [.f .f32], .sl [.f .f32]]⟩
def R_weqFloat32S : List XShp := [(.ret, ⟨[.h], [], [.b]⟩)]

noncomputable def L_weqFloat32S : Loops := (⟨29, lvT [(4, [0, 1, 4, 5])], mdT [(4, .normal, [], [4]), (4, .exit 0, [], [0, 1, 4, 5]), (4, .ret, [], [0, 1, 5])], fun k vs bs => bif Nat.beq k 4 then toldL S_weqFloat32S_l4 X_weqFloat32S_l4 (fun x => weqFloat32S_l4 x.1 x.2.1 x.2.2) vs bs else .bad⟩ : Loops)

theorem weqFloat32S_e (x : DR A_weqFloat32S.hs) : (evFn (envT Try.prog C27 mtab0) L_weqFloat32S Try.f69 (A_weqFloat32S.enc x).1).to (fun q => decX R_weqFloat32S .ret [q.1] q.2) = weqFloat32S_t x.1 x.2 := by kernel_rfl

theorem weqFloat32S_m (x : DR A_weqFloat32S.hs) : meanF (envT Try.prog C27 mtab0) L_weqFloat32S Try.f69 A_weqFloat32S R_weqFloat32S x = (show Option (SumD (R_weqFloat32S.map (·.2))) from weqFloat32S x.1 x.2) := meanF_of (weqFloat32S_e x)

theorem weqFloat32S_ok : SpecOk Try.prog 69 (evFn (envT Try.prog C27 mtab0) L_weqFloat32S Try.f69) := fnL_ok (envT_ok (C27_ok) (mtab0_ok _)) mixedO Try.func69 (by kernel_rfl) (c := bodyOf Try.f69) (by kernel_rfl) (loopsL (l := [(4, loopC (bodyOf Try.f69) 4)]) (by kernel_rfl) (lk_cons (weqFloat32S_l4_k _ rfl rfl (fun _ _ => rfl)) lk_nil))

theorem weqFloat32S_told : SpecOk Try.prog 69 (toldO A_weqFloat32S R_weqFloat32S (fun x => weqFloat32S x.1 x.2) (C27 69)) := toldO_ok (by kernel_rfl) weqFloat32S_ok (rest_ok (C27_ok) _) weqFloat32S_m

noncomputable def C28 : Tab := tab 69 (toldO A_weqFloat32S R_weqFloat32S (fun x => weqFloat32S x.1 x.2) (C27 69)) C27
theorem C28_ok : TabOk Try.prog C28 := tab_ok (weqFloat32S_told) (C27_ok)

def A_weqLake : Shp := ⟨[.agg [.h, .h], .agg [.h, .h]], [], [.sl [.f .f32], .sl [.f .f32], .sl [.f .f32], .sl [.f .f32]]⟩
def R_weqLake : List XShp := [(.ret, ⟨[.h], [], [.b]⟩)]

theorem weqLake_e (x : DR A_weqLake.hs) : (evFn (envT Try.prog C28 mtab0) noLoops Try.f32 (A_weqLake.enc x).1).to (fun q => decX R_weqLake .ret [q.1] q.2) = weqLake_t x.1 x.2.1 x.2.2.1 x.2.2.2 := by kernel_rfl

theorem weqLake_m (x : DR A_weqLake.hs) : meanF (envT Try.prog C28 mtab0) noLoops Try.f32 A_weqLake R_weqLake x = (show Option (SumD (R_weqLake.map (·.2))) from weqLake x.1 x.2.1 x.2.2.1 x.2.2.2) := meanF_of (weqLake_e x)

theorem weqLake_ok : SpecOk Try.prog 32 (evFn (envT Try.prog C28 mtab0) noLoops Try.f32) := fnL_ok (envT_ok (C28_ok) (mtab0_ok _)) mixedO Try.func32 (by kernel_rfl) (c := bodyOf Try.f32) (by kernel_rfl) (loopFree_ok (by kernel_rfl))

theorem weqLake_told : SpecOk Try.prog 32 (toldO A_weqLake R_weqLake (fun x => weqLake x.1 x.2.1 x.2.2.1 x.2.2.2) (C28 32)) := toldO_ok (by kernel_rfl) weqLake_ok (rest_ok (C28_ok) _) weqLake_m

noncomputable def C29 : Tab := tab 32 (toldO A_weqLake R_weqLake (fun x => weqLake x.1 x.2.1 x.2.2.1 x.2.2.2) (C28 32)) C28
theorem C29_ok : TabOk Try.prog C29 := tab_ok (weqLake_told) (C28_ok)

def A_wFnExactValidLake : Shp := ⟨[.agg [.h, .h]], [], [.sl [.f .f32], .sl [.f .f32]]⟩
def R_wFnExactValidLake : List XShp := [(.ret, ⟨[.h], [], [.b]⟩)]

theorem wFnExactValidLake_e (x : DR A_wFnExactValidLake.hs) : (evFn (envT Try.prog C29 mtab0) noLoops Try.f10 (A_wFnExactValidLake.enc x).1).to (fun q => decX R_wFnExactValidLake .ret [q.1] q.2) = wFnExactValidLake_t x.1 x.2 := by kernel_rfl

theorem wFnExactValidLake_m (x : DR A_wFnExactValidLake.hs) : meanF (envT Try.prog C29 mtab0) noLoops Try.f10 A_wFnExactValidLake R_wFnExactValidLake x = (show Option (SumD (R_wFnExactValidLake.map (·.2))) from wFnExactValidLake x.1 x.2) := meanF_of (wFnExactValidLake_e x)

theorem wFnExactValidLake_ok : SpecOk Try.prog 10 (evFn (envT Try.prog C29 mtab0) noLoops Try.f10) := fnL_ok (envT_ok (C29_ok) (mtab0_ok _)) mixedO Try.func10 (by kernel_rfl) (c := bodyOf Try.f10) (by kernel_rfl) (loopFree_ok (by kernel_rfl))

theorem wFnExactValidLake_told : SpecOk Try.prog 10 (toldO A_wFnExactValidLake R_wFnExactValidLake (fun x => wFnExactValidLake x.1 x.2) (C29 10)) := toldO_ok (by kernel_rfl) wFnExactValidLake_ok (rest_ok (C29_ok) _) wFnExactValidLake_m

noncomputable def C30 : Tab := tab 10 (toldO A_wFnExactValidLake R_wFnExactValidLake (fun x => wFnExactValidLake x.1 x.2) (C29 10)) C29
theorem C30_ok : TabOk Try.prog C30 := tab_ok (wFnExactValidLake_told) (C29_ok)

theorem lawFnExactValidLake_ok : SpecOk Try.prog 10 (evFn (envT Try.prog C29 mtab0) noLoops Try.f10) := wFnExactValidLake_ok
theorem lawFnExactValidLake_says (x : DR A_wFnExactValidLake.hs) (h : (show Option (SumD (R_wFnExactValidLake.map (·.2))) from wFnExactValidLake x.1 x.2) = some true) : saysTrue (evFn (envT Try.prog C29 mtab0) noLoops Try.f10 (A_wFnExactValidLake.enc x).1) = true := law_says (x := x) ((wFnExactValidLake_m x).trans h)

theorem lawFnExactValidLake_true (x0 : List Nat) (x1 : List Nat) (h : wFnExactValidLake x0 x1 = some true) : saysTrue (evFn (envT Try.prog C29 mtab0) noLoops Try.f10 [.agg [.ds [.f .f32] x0, .ds [.f .f32] x1]]) = true := (congrArg (fun l => saysTrue (evFn (envT Try.prog C29 mtab0) noLoops Try.f10 l)) (by kernel_rfl : ([.agg [.ds [.f .f32] x0, .ds [.f .f32] x1]] : List V) = (A_wFnExactValidLake.enc (x0, x1)).1)).trans (lawFnExactValidLake_says (x0, x1) h)

def A_sl00In : Shp := ⟨[.h, .h, .h], [], [.i .i64, .i .i64, .i .i64]⟩
def R_sl00In : List XShp := [(.ret, ⟨[.h], [], [.b]⟩)]

theorem sl00In_e (x : DR A_sl00In.hs) : (evFn (envT Try.prog C30 mtab0) noLoops Try.f82 (A_sl00In.enc x).1).to (fun q => decX R_sl00In .ret [q.1] q.2) = sl00In_t x.1 x.2.1 x.2.2 := by kernel_rfl

theorem sl00In_m (x : DR A_sl00In.hs) : meanF (envT Try.prog C30 mtab0) noLoops Try.f82 A_sl00In R_sl00In x = some (show SumD (R_sl00In.map (·.2)) from sl00In x.1 x.2.1 x.2.2) := @meanF_tot _ _ _ _ _ _ _ (sl00In_e x) (show Inhabited (Bool) from inferInstance) (by kernel_rfl)

theorem sl00In_ok : SpecOk Try.prog 82 (evFn (envT Try.prog C30 mtab0) noLoops Try.f82) := fnL_ok (envT_ok (C30_ok) (mtab0_ok _)) mixedO Try.func82 (by kernel_rfl) (c := bodyOf Try.f82) (by kernel_rfl) (loopFree_ok (by kernel_rfl))

theorem sl00In_told : SpecOk Try.prog 82 (toldT A_sl00In R_sl00In (fun x => sl00In x.1 x.2.1 x.2.2) (C30 82)) := toldT_ok (by kernel_rfl) sl00In_ok (rest_ok (C30_ok) _) sl00In_m

noncomputable def C31 : Tab := tab 82 (toldT A_sl00In R_sl00In (fun x => sl00In x.1 x.2.1 x.2.2) (C30 82)) C30
theorem C31_ok : TabOk Try.prog C31 := tab_ok (sl00In_told) (C30_ok)

def S_sl02Finite_l2 : Shp := ⟨[.h, .undef, .h], [], [.sl [.f .f32], .i .i64]⟩
def X_sl02Finite_l2 : List XShp := [(.ret, ⟨[.undef, .lb false, .undef], [], []⟩), (.exit 0, ⟨[.undef, .undef, .undef], [], []⟩)]

noncomputable def L_sl02Finite_l2 : Loops := (⟨16, lvT [(2, [0, 2, 3])], mdT [(2, .normal, [], [2]), (2, .exit 0, [], [0, 2, 3]), (2, .ret, [], [0, 3])], fun k vs bs => .bad⟩ : Loops)

theorem sl02Finite_l2_e (y0 : List Nat) (s : Int) : (loopStep (envT Try.prog C31 mtab0) L_sl02Finite_l2 2 (loopC (bodyOf Try.f94) 2) (S_sl02Finite_l2.enc (y0, s)).1 (S_sl02Finite_l2.enc (y0, s)).2).to (stepD S_sl02Finite_l2 X_sl02Finite_l2) = (sl02Finite_l2_t y0 s).map (Sum.map (fun s : Int => (show DR S_sl02Finite_l2.hs from (y0, s))) id) := by kernel_rfl

theorem sl02Finite_l2_r (x : DR S_sl02Finite_l2.hs) : (sl02Finite_l2 x.1 x.2 : Option (SumD (X_sl02Finite_l2.map (·.2)))) = runL (meanS (envT Try.prog C31 mtab0) L_sl02Finite_l2 2 (loopC (bodyOf Try.f94) 2) S_sl02Finite_l2 X_sl02Finite_l2) x := run_of (fun s : Int => (show DR S_sl02Finite_l2.hs from (x.1, s))) (sl02Finite_l2_e (x.1)) x.2

theorem sl02Finite_l2_k (L : Loops) (hn : L_sl02Finite_l2.n = L.n) (hlv : L_sl02Finite_l2.lv 2 = L.lv 2) (hL : ∀ vs bs, L.loop 2 vs bs = toldL S_sl02Finite_l2 X_sl02Finite_l2 (fun x => sl02Finite_l2 x.1 x.2) vs bs) : LOk Try.prog (envT Try.prog C31 mtab0) L 2 (loopC (bodyOf Try.f94) 2) := toldL_ok (L1 := L_sl02Finite_l2) (envT_ok (C31_ok) (mtab0_ok _)) mixedO hn hlv (loopFree_ok (by kernel_rfl)) sl02Finite_l2_r hL

def A_sl02Finite : Shp := ⟨[.h], [], [.sl [.f .f32]]⟩
def R_sl02Finite : List XShp := [(.ret, ⟨[.h], [], [.b]⟩)]

noncomputable def L_sl02Finite : Loops := (⟨16, lvT [(2, [0, 2, 3])], mdT [(2, .normal, [], [2]), (2, .exit 0, [], [0, 2, 3]), (2, .ret, [], [0, 3])], fun k vs bs => bif Nat.beq k 2 then toldL S_sl02Finite_l2 X_sl02Finite_l2 (fun x => sl02Finite_l2 x.1 x.2) vs bs else .bad⟩ : Loops)

theorem sl02Finite_e (x : DR A_sl02Finite.hs) : (evFn (envT Try.prog C31 mtab0) L_sl02Finite Try.f94 (A_sl02Finite.enc x).1).to (fun q => decX R_sl02Finite .ret [q.1] q.2) = sl02Finite_t x := by kernel_rfl

theorem sl02Finite_m (x : DR A_sl02Finite.hs) : meanF (envT Try.prog C31 mtab0) L_sl02Finite Try.f94 A_sl02Finite R_sl02Finite x = (show Option (SumD (R_sl02Finite.map (·.2))) from sl02Finite x) := meanF_of (sl02Finite_e x)

theorem sl02Finite_ok : SpecOk Try.prog 94 (evFn (envT Try.prog C31 mtab0) L_sl02Finite Try.f94) := fnL_ok (envT_ok (C31_ok) (mtab0_ok _)) mixedO Try.func94 (by kernel_rfl) (c := bodyOf Try.f94) (by kernel_rfl) (loopsL (l := [(2, loopC (bodyOf Try.f94) 2)]) (by kernel_rfl) (lk_cons (sl02Finite_l2_k _ rfl rfl (fun _ _ => rfl)) lk_nil))

theorem sl02Finite_told : SpecOk Try.prog 94 (toldO A_sl02Finite R_sl02Finite (fun x => sl02Finite x) (C31 94)) := toldO_ok (by kernel_rfl) sl02Finite_ok (rest_ok (C31_ok) _) sl02Finite_m

noncomputable def C32 : Tab := tab 94 (toldO A_sl02Finite R_sl02Finite (fun x => sl02Finite x) (C31 94)) C31
theorem C32_ok : TabOk Try.prog C32 := tab_ok (sl02Finite_told) (C31_ok)

def A_sl05Canal : Shp := ⟨[.dpt [.h, .h, .h, .h, .h] 0], [], [.f .f32, .f .f32, .f .f32, .sl [.f .f32], .sl [.f .f32]]⟩
def R_sl05Canal : List XShp := [(.ret, ⟨[.h], [], [.b]⟩)]

theorem sl05Canal_e (x : DR A_sl05Canal.hs) : (evFn (envT Try.prog C32 mtab0) noLoops Try.f77 (A_sl05Canal.enc x).1).to (fun q => decX R_sl05Canal .ret [q.1] q.2) = sl05Canal_t x.1 x.2.1 x.2.2.1 x.2.2.2.1 x.2.2.2.2 := by kernel_rfl

theorem sl05Canal_m (x : DR A_sl05Canal.hs) : meanF (envT Try.prog C32 mtab0) noLoops Try.f77 A_sl05Canal R_sl05Canal x = (show Option (SumD (R_sl05Canal.map (·.2))) from sl05Canal x.1 x.2.1 x.2.2.1 x.2.2.2.1 x.2.2.2.2) := meanF_of (sl05Canal_e x)

theorem sl05Canal_ok : SpecOk Try.prog 77 (evFn (envT Try.prog C32 mtab0) noLoops Try.f77) := fnL_ok (envT_ok (C32_ok) (mtab0_ok _)) mixedO Try.func77 (by kernel_rfl) (c := bodyOf Try.f77) (by kernel_rfl) (loopFree_ok (by kernel_rfl))

theorem sl05Canal_told : SpecOk Try.prog 77 (toldO A_sl05Canal R_sl05Canal (fun x => sl05Canal x.1 x.2.1 x.2.2.1 x.2.2.2.1 x.2.2.2.2) (C32 77)) := toldO_ok (by kernel_rfl) sl05Canal_ok (rest_ok (C32_ok) _) sl05Canal_m

noncomputable def C33 : Tab := tab 77 (toldO A_sl05Canal R_sl05Canal (fun x => sl05Canal x.1 x.2.1 x.2.2.1 x.2.2.2.1 x.2.2.2.2) (C32 77)) C32
theorem C33_ok : TabOk Try.prog C33 := tab_ok (sl05Canal_told) (C32_ok)

def A_sStillCanal : Shp := ⟨[.h, .h, .h, .h], [], [.i .i64, .f .f32, .f .f32, .f .f32]⟩
def R_sStillCanal : List XShp := [(.ret, ⟨[.tup [.agg [.h, .h, .h, .nils, .nils], .lb false]], [], [.f .f32, .f .f32, .f .f32]⟩), (.ret, ⟨[.tup [.agg [.h, .h, .h, .slw 0 1, .slw 1 1], .lb true]], [.arr [.f .f32] false, .arr [.f .f32] false], [.f .f32, .f .f32, .f .f32, .sl [.f .f32], .sl [.f .f32]]⟩)]

theorem sStillCanal_e (x : DR A_sStillCanal.hs) : (evFn (envT Try.prog C33 mtab0) noLoops Try.f48 (A_sStillCanal.enc x).1).to (fun q => decX R_sStillCanal .ret [q.1] q.2) = sStillCanal_t x.1 x.2.1 x.2.2.1 x.2.2.2 := by kernel_rfl

theorem sStillCanal_m (x : DR A_sStillCanal.hs) : meanF (envT Try.prog C33 mtab0) noLoops Try.f48 A_sStillCanal R_sStillCanal x = (show Option (SumD (R_sStillCanal.map (·.2))) from sStillCanal x.1 x.2.1 x.2.2.1 x.2.2.2) := meanF_of (sStillCanal_e x)

theorem sStillCanal_ok : SpecOk Try.prog 48 (evFn (envT Try.prog C33 mtab0) noLoops Try.f48) := fnL_ok (envT_ok (C33_ok) (mtab0_ok _)) mixedO Try.func48 (by kernel_rfl) (c := bodyOf Try.f48) (by kernel_rfl) (loopFree_ok (by kernel_rfl))

theorem sStillCanal_told : SpecOk Try.prog 48 (toldO A_sStillCanal R_sStillCanal (fun x => sStillCanal x.1 x.2.1 x.2.2.1 x.2.2.2) (C33 48)) := toldO_ok (by kernel_rfl) sStillCanal_ok (rest_ok (C33_ok) _) sStillCanal_m

noncomputable def C34 : Tab := tab 48 (toldO A_sStillCanal R_sStillCanal (fun x => sStillCanal x.1 x.2.1 x.2.2.1 x.2.2.2) (C33 48)) C33
theorem C34_ok : TabOk Try.prog C34 := tab_ok (sStillCanal_told) (C33_ok)

def S_iareLengths_l2 : Shp := ⟨[.undef, .h, .h, .h], [], [.sl [.f .f32], .i .i64, .i .i64]⟩
def X_iareLengths_l2 : List XShp := [(.ret, ⟨[.lb false, .undef, .undef, .undef], [], []⟩), (.exit 0, ⟨[.undef, .undef, .undef, .undef], [], []⟩)]

noncomputable def L_iareLengths_l2 : Loops := (⟨15, lvT [(2, [2, 5, 6, 7])], mdT [(2, .normal, [], [2]), (2, .exit 0, [], [2, 5, 6, 7]), (2, .ret, [], [5, 6, 7])], fun k vs bs => .bad⟩ : Loops)

theorem iareLengths_l2_e (y0 : List Nat) (y1 : Int) (s : Int) : (loopStep (envT Try.prog C34 mtab0) L_iareLengths_l2 2 (loopC (bodyOf Try.f78) 2) (S_iareLengths_l2.enc (y0, y1, s)).1 (S_iareLengths_l2.enc (y0, y1, s)).2).to (stepD S_iareLengths_l2 X_iareLengths_l2) = (iareLengths_l2_t y0 y1 s).map (Sum.map (fun s : Int => (show DR S_iareLengths_l2.hs from (y0, y1, s))) id) := by kernel_rfl

theorem iareLengths_l2_r (x : DR S_iareLengths_l2.hs) : (iareLengths_l2 x.1 x.2.1 x.2.2 : Option (SumD (X_iareLengths_l2.map (·.2)))) = runL (meanS (envT Try.prog C34 mtab0) L_iareLengths_l2 2 (loopC (bodyOf Try.f78) 2) S_iareLengths_l2 X_iareLengths_l2) x := run_of (fun s : Int => (show DR S_iareLengths_l2.hs from (x.1, x.2.1, s))) (iareLengths_l2_e (x.1) (x.2.1)) x.2.2

theorem iareLengths_l2_k (L : Loops) (hn : L_iareLengths_l2.n = L.n) (hlv : L_iareLengths_l2.lv 2 = L.lv 2) (hL : ∀ vs bs, L.loop 2 vs bs = toldL S_iareLengths_l2 X_iareLengths_l2 (fun x => iareLengths_l2 x.1 x.2.1 x.2.2) vs bs) : LOk Try.prog (envT Try.prog C34 mtab0) L 2 (loopC (bodyOf Try.f78) 2) := toldL_ok (L1 := L_iareLengths_l2) (envT_ok (C34_ok) (mtab0_ok _)) mixedO hn hlv (loopFree_ok (by kernel_rfl)) iareLengths_l2_r hL

def A_iareLengths : Shp := ⟨[.h], [], [.sl [.f .f32]]⟩
def R_iareLengths : List XShp := [(.ret, ⟨[.h], [], [.b]⟩)]

noncomputable def L_iareLengths : Loops := (⟨15, lvT [(2, [2, 5, 6, 7])], mdT [(2, .normal, [], [2]), (2, .exit 0, [], [2, 5, 6, 7]), (2, .ret, [], [5, 6, 7])], fun k vs bs => bif Nat.beq k 2 then toldL S_iareLengths_l2 X_iareLengths_l2 (fun x => iareLengths_l2 x.1 x.2.1 x.2.2) vs bs else .bad⟩ : Loops)

theorem iareLengths_e (x : DR A_iareLengths.hs) : (evFn (envT Try.prog C34 mtab0) L_iareLengths Try.f78 (A_iareLengths.enc x).1).to (fun q => decX R_iareLengths .ret [q.1] q.2) = iareLengths_t x := by kernel_rfl

theorem iareLengths_m (x : DR A_iareLengths.hs) : meanF (envT Try.prog C34 mtab0) L_iareLengths Try.f78 A_iareLengths R_iareLengths x = (show Option (SumD (R_iareLengths.map (·.2))) from iareLengths x) := meanF_of (iareLengths_e x)

theorem iareLengths_ok : SpecOk Try.prog 78 (evFn (envT Try.prog C34 mtab0) L_iareLengths Try.f78) := fnL_ok (envT_ok (C34_ok) (mtab0_ok _)) mixedO Try.func78 (by kernel_rfl) (c := bodyOf Try.f78) (by kernel_rfl) (loopsL (l := [(2, loopC (bodyOf Try.f78) 2)]) (by kernel_rfl) (lk_cons (iareLengths_l2_k _ rfl rfl (fun _ _ => rfl)) lk_nil))

theorem iareLengths_told : SpecOk Try.prog 78 (toldO A_iareLengths R_iareLengths (fun x => iareLengths x) (C34 78)) := toldO_ok (by kernel_rfl) iareLengths_ok (rest_ok (C34_ok) _) iareLengths_m

noncomputable def C35 : Tab := tab 78 (toldO A_iareLengths R_iareLengths (fun x => iareLengths x) (C34 78)) C34
theorem C35_ok : TabOk Try.prog C35 := tab_ok (iareLengths_told) (C34_ok)

def A_iareFinite_1 : Shp := ⟨[.h], [], [.f .f32]⟩
def R_iareFinite_1 : List XShp := [(.ret, ⟨[.h], [], [.b]⟩)]

theorem iareFinite_1_e (x : DR A_iareFinite_1.hs) : (evFn (envT Try.prog C35 mtab0) noLoops Try.f87 (A_iareFinite_1.enc x).1).to (fun q => decX R_iareFinite_1 .ret [q.1] q.2) = iareFinite_1_t x := by kernel_rfl

theorem iareFinite_1_m (x : DR A_iareFinite_1.hs) : meanF (envT Try.prog C35 mtab0) noLoops Try.f87 A_iareFinite_1 R_iareFinite_1 x = some (show SumD (R_iareFinite_1.map (·.2)) from iareFinite_1 x) := @meanF_tot _ _ _ _ _ _ _ (iareFinite_1_e x) (show Inhabited (Bool) from inferInstance) (by kernel_rfl)

theorem iareFinite_1_ok : SpecOk Try.prog 87 (evFn (envT Try.prog C35 mtab0) noLoops Try.f87) := fnL_ok (envT_ok (C35_ok) (mtab0_ok _)) mixedO Try.func87 (by kernel_rfl) (c := bodyOf Try.f87) (by kernel_rfl) (loopFree_ok (by kernel_rfl))

theorem iareFinite_1_told : SpecOk Try.prog 87 (toldT A_iareFinite_1 R_iareFinite_1 (fun x => iareFinite_1 x) (C35 87)) := toldT_ok (by kernel_rfl) iareFinite_1_ok (rest_ok (C35_ok) _) iareFinite_1_m

noncomputable def C36 : Tab := tab 87 (toldT A_iareFinite_1 R_iareFinite_1 (fun x => iareFinite_1 x) (C35 87)) C35
theorem C36_ok : TabOk Try.prog C36 := tab_ok (iareFinite_1_told) (C35_ok)

def S_lIndexFunc_iareFinite_1_l2 : Shp := ⟨[.h, .fn 87 [], .undef, .h, .h], [], [.sl [.f .f32], .i .i64, .i .i64]⟩
def X_lIndexFunc_iareFinite_1_l2 : List XShp := [(.ret, ⟨[.undef, .undef, .h, .undef, .undef], [], [.i .i64]⟩), (.exit 0, ⟨[.undef, .undef, .undef, .undef, .undef], [], []⟩)]

noncomputable def L_lIndexFunc_iareFinite_1_l2 : Loops := (⟨19, lvT [(2, [0, 1, 4, 7, 8])], mdT [(2, .normal, [], [4]), (2, .exit 0, [], [0, 1, 4, 7, 8]), (2, .ret, [], [0, 1, 7, 8])], fun k vs bs => .bad⟩ : Loops)

theorem lIndexFunc_iareFinite_1_l2_e (y0 : List Nat) (y1 : Int) (s : Int) : (loopStep (envT Try.prog C36 mtab0) L_lIndexFunc_iareFinite_1_l2 2 (loopC (bodyOf Try.f96) 2) (S_lIndexFunc_iareFinite_1_l2.enc (y0, y1, s)).1 (S_lIndexFunc_iareFinite_1_l2.enc (y0, y1, s)).2).to (stepD S_lIndexFunc_iareFinite_1_l2 X_lIndexFunc_iareFinite_1_l2) = (lIndexFunc_iareFinite_1_l2_t y0 y1 s).map (Sum.map (fun s : Int => (show DR S_lIndexFunc_iareFinite_1_l2.hs from (y0, y1, s))) id) := by kernel_rfl

theorem lIndexFunc_iareFinite_1_l2_r (x : DR S_lIndexFunc_iareFinite_1_l2.hs) : (lIndexFunc_iareFinite_1_l2 x.1 x.2.1 x.2.2 : Option (SumD (X_lIndexFunc_iareFinite_1_l2.map (·.2)))) = runL (meanS (envT Try.prog C36 mtab0) L_lIndexFunc_iareFinite_1_l2 2 (loopC (bodyOf Try.f96) 2) S_lIndexFunc_iareFinite_1_l2 X_lIndexFunc_iareFinite_1_l2) x := run_of (fun s : Int => (show DR S_lIndexFunc_iareFinite_1_l2.hs from (x.1, x.2.1, s))) (lIndexFunc_iareFinite_1_l2_e (x.1) (x.2.1)) x.2.2

theorem lIndexFunc_iareFinite_1_l2_k (L : Loops) (hn : L_lIndexFunc_iareFinite_1_l2.n = L.n) (hlv : L_lIndexFunc_iareFinite_1_l2.lv 2 = L.lv 2) (hL : ∀ vs bs, L.loop 2 vs bs = toldL S_lIndexFunc_iareFinite_1_l2 X_lIndexFunc_iareFinite_1_l2 (fun x => lIndexFunc_iareFinite_1_l2 x.1 x.2.1 x.2.2) vs bs) : LOk Try.prog (envT Try.prog C36 mtab0) L 2 (loopC (bodyOf Try.f96) 2) := toldL_ok (L1 := L_lIndexFunc_iareFinite_1_l2) (envT_ok (C36_ok) (mtab0_ok _)) mixedO hn hlv (loopFree_ok (by kernel_rfl)) lIndexFunc_iareFinite_1_l2_r hL

def A_lIndexFunc_iareFinite_1 : Shp := ⟨[.h, .fn 87 []], [], [.sl [.f .f32]]⟩
def R_lIndexFunc_iareFinite_1 : List XShp := [(.ret, ⟨[.h], [], [.i .i64]⟩)]

noncomputable def L_lIndexFunc_iareFinite_1 : Loops := (⟨19, lvT [(2, [0, 1, 4, 7, 8])], mdT [(2, .normal, [], [4]), (2, .exit 0, [], [0, 1, 4, 7, 8]), (2, .ret, [], [0, 1, 7, 8])], fun k vs bs => bif Nat.beq k 2 then toldL S_lIndexFunc_iareFinite_1_l2 X_lIndexFunc_iareFinite_1_l2 (fun x => lIndexFunc_iareFinite_1_l2 x.1 x.2.1 x.2.2) vs bs else .bad⟩ : Loops)

theorem lIndexFunc_iareFinite_1_e (x : DR A_lIndexFunc_iareFinite_1.hs) : (evFn (envT Try.prog C36 mtab0) L_lIndexFunc_iareFinite_1 Try.f96 (A_lIndexFunc_iareFinite_1.enc x).1).to (fun q => decX R_lIndexFunc_iareFinite_1 .ret [q.1] q.2) = lIndexFunc_iareFinite_1_t x := by kernel_rfl

theorem lIndexFunc_iareFinite_1_m (x : DR A_lIndexFunc_iareFinite_1.hs) : meanF (envT Try.prog C36 mtab0) L_lIndexFunc_iareFinite_1 Try.f96 A_lIndexFunc_iareFinite_1 R_lIndexFunc_iareFinite_1 x = (show Option (SumD (R_lIndexFunc_iareFinite_1.map (·.2))) from lIndexFunc_iareFinite_1 x) := meanF_of (lIndexFunc_iareFinite_1_e x)

theorem lIndexFunc_iareFinite_1_ok : SpecOk Try.prog 96 (evFn (envT Try.prog C36 mtab0) L_lIndexFunc_iareFinite_1 Try.f96) := fnL_ok (envT_ok (C36_ok) (mtab0_ok _)) mixedO Try.func96 (by kernel_rfl) (c := bodyOf Try.f96) (by kernel_rfl) (loopsL (l := [(2, loopC (bodyOf Try.f96) 2)]) (by kernel_rfl) (lk_cons (lIndexFunc_iareFinite_1_l2_k _ rfl rfl (fun _ _ => rfl)) lk_nil))

theorem lIndexFunc_iareFinite_1_told : SpecOk Try.prog 96 (toldO A_lIndexFunc_iareFinite_1 R_lIndexFunc_iareFinite_1 (fun x => lIndexFunc_iareFinite_1 x) (C36 96)) := toldO_ok (by kernel_rfl) lIndexFunc_iareFinite_1_ok (rest_ok (C36_ok) _) lIndexFunc_iareFinite_1_m

noncomputable def C37 : Tab := tab 96 (toldO A_lIndexFunc_iareFinite_1 R_lIndexFunc_iareFinite_1 (fun x => lIndexFunc_iareFinite_1 x) (C36 96)) C36
theorem C37_ok : TabOk Try.prog C37 := tab_ok (lIndexFunc_iareFinite_1_told) (C36_ok)

def A_lContainsFunc_iareFinite_1 : Shp := ⟨[.h, .fn 87 []], [], [.sl [.f .f32]]⟩
def R_lContainsFunc_iareFinite_1 : List XShp := [(.ret, ⟨[.h], [], [.b]⟩)]

theorem lContainsFunc_iareFinite_1_e (x : DR A_lContainsFunc_iareFinite_1.hs) : (evFn (envT Try.prog C37 mtab0) noLoops Try.f86 (A_lContainsFunc_iareFinite_1.enc x).1).to (fun q => decX R_lContainsFunc_iareFinite_1 .ret [q.1] q.2) = lContainsFunc_iareFinite_1_t x := by kernel_rfl

theorem lContainsFunc_iareFinite_1_m (x : DR A_lContainsFunc_iareFinite_1.hs) : meanF (envT Try.prog C37 mtab0) noLoops Try.f86 A_lContainsFunc_iareFinite_1 R_lContainsFunc_iareFinite_1 x = (show Option (SumD (R_lContainsFunc_iareFinite_1.map (·.2))) from lContainsFunc_iareFinite_1 x) := meanF_of (lContainsFunc_iareFinite_1_e x)

theorem lContainsFunc_iareFinite_1_ok : SpecOk Try.prog 86 (evFn (envT Try.prog C37 mtab0) noLoops Try.f86) := fnL_ok (envT_ok (C37_ok) (mtab0_ok _)) mixedO Try.func86 (by kernel_rfl) (c := bodyOf Try.f86) (by kernel_rfl) (loopFree_ok (by kernel_rfl))

theorem lContainsFunc_iareFinite_1_told : SpecOk Try.prog 86 (toldO A_lContainsFunc_iareFinite_1 R_lContainsFunc_iareFinite_1 (fun x => lContainsFunc_iareFinite_1 x) (C37 86)) := toldO_ok (by kernel_rfl) lContainsFunc_iareFinite_1_ok (rest_ok (C37_ok) _) lContainsFunc_iareFinite_1_m

noncomputable def C38 : Tab := tab 86 (toldO A_lContainsFunc_iareFinite_1 R_lContainsFunc_iareFinite_1 (fun x => lContainsFunc_iareFinite_1 x) (C37 86)) C37
theorem C38_ok : TabOk Try.prog C38 := tab_ok (lContainsFunc_iareFinite_1_told) (C37_ok)

def A_iareFinite : Shp := ⟨[.h], [], [.sl [.f .f32]]⟩
def R_iareFinite : List XShp := [(.ret, ⟨[.h], [], [.b]⟩)]

theorem iareFinite_e (x : DR A_iareFinite.hs) : (evFn (envT Try.prog C38 mtab0) noLoops Try.f56 (A_iareFinite.enc x).1).to (fun q => decX R_iareFinite .ret [q.1] q.2) = iareFinite_t x := by kernel_rfl

theorem iareFinite_m (x : DR A_iareFinite.hs) : meanF (envT Try.prog C38 mtab0) noLoops Try.f56 A_iareFinite R_iareFinite x = (show Option (SumD (R_iareFinite.map (·.2))) from iareFinite x) := meanF_of (iareFinite_e x)

theorem iareFinite_ok : SpecOk Try.prog 56 (evFn (envT Try.prog C38 mtab0) noLoops Try.f56) := fnL_ok (envT_ok (C38_ok) (mtab0_ok _)) mixedO Try.func56 (by kernel_rfl) (c := bodyOf Try.f56) (by kernel_rfl) (loopFree_ok (by kernel_rfl))

theorem iareFinite_told : SpecOk Try.prog 56 (toldO A_iareFinite R_iareFinite (fun x => iareFinite x) (C38 56)) := toldO_ok (by kernel_rfl) iareFinite_ok (rest_ok (C38_ok) _) iareFinite_m

noncomputable def C39 : Tab := tab 56 (toldO A_iareFinite R_iareFinite (fun x => iareFinite x) (C38 56)) C38
theorem C39_ok : TabOk Try.prog C39 := tab_ok (iareFinite_told) (C38_ok)

def A_iValidCanal : Shp := ⟨[.agg [.h, .h, .h, .h, .h]], [], [.f .f32, .f .f32, .f .f32, .sl [.f .f32], .sl [.f .f32]]⟩
def R_iValidCanal : List XShp := [(.ret, ⟨[.h], [], [.b]⟩)]

theorem iValidCanal_e (x : DR A_iValidCanal.hs) : (evFn (envT Try.prog C39 mtab0) noLoops Try.f43 (A_iValidCanal.enc x).1).to (fun q => decX R_iValidCanal .ret [q.1] q.2) = iValidCanal_t x.1 x.2.1 x.2.2.1 x.2.2.2.1 x.2.2.2.2 := by kernel_rfl

theorem iValidCanal_m (x : DR A_iValidCanal.hs) : meanF (envT Try.prog C39 mtab0) noLoops Try.f43 A_iValidCanal R_iValidCanal x = (show Option (SumD (R_iValidCanal.map (·.2))) from iValidCanal x.1 x.2.1 x.2.2.1 x.2.2.2.1 x.2.2.2.2) := meanF_of (iValidCanal_e x)

theorem iValidCanal_ok : SpecOk Try.prog 43 (evFn (envT Try.prog C39 mtab0) noLoops Try.f43) := fnL_ok (envT_ok (C39_ok) (mtab0_ok _)) mixedO Try.func43 (by kernel_rfl) (c := bodyOf Try.f43) (by kernel_rfl) (loopFree_ok (by kernel_rfl))

theorem iValidCanal_told : SpecOk Try.prog 43 (toldO A_iValidCanal R_iValidCanal (fun x => iValidCanal x.1 x.2.1 x.2.2.1 x.2.2.2.1 x.2.2.2.2) (C39 43)) := toldO_ok (by kernel_rfl) iValidCanal_ok (rest_ok (C39_ok) _) iValidCanal_m

noncomputable def C40 : Tab := tab 43 (toldO A_iValidCanal R_iValidCanal (fun x => iValidCanal x.1 x.2.1 x.2.2.1 x.2.2.2.1 x.2.2.2.2) (C39 43)) C39
theorem C40_ok : TabOk Try.prog C40 := tab_ok (iValidCanal_told) (C39_ok)

def A_itoldCanal : Shp := ⟨[.agg [.h, .h, .h, .slw 0 1, .slw 1 1]], [.arr [.f .f32] false, .arr [.f .f32] false], [.f .f32, .f .f32, .f .f32, .sl [.f .f32], .sl [.f .f32]]⟩
def R_itoldCanal : List XShp := [(.ret, ⟨[.tup [.agg [.h, .h, .h, .nils, .nils], .lb false]], [.arr [.f .f32] false, .arr [.f .f32] false], [.f .f32, .f .f32, .f .f32, .sl [.f .f32], .sl [.f .f32]]⟩), (.ret, ⟨[.tup [.agg [.h, .h, .h, .slw 0 1, .slw 1 1], .lb true]], [.arr [.f .f32] false, .arr [.f .f32] false], [.f .f32, .f .f32, .f .f32, .sl [.f .f32], .sl [.f .f32]]⟩)]

theorem itoldCanal_e (x : DR A_itoldCanal.hs) : (evFnM (envW Try.prog C40 mtab0 2) noLoops Try.f83 (A_itoldCanal.enc x).1 ((A_itoldCanal.enc x).2.map (·.blk))).to (decM R_itoldCanal) = itoldCanal_t x.1 x.2.1 x.2.2.1 x.2.2.2.1 x.2.2.2.2 := by kernel_rfl

theorem itoldCanal_m (x : DR A_itoldCanal.hs) : meanM (envW Try.prog C40 mtab0 2) noLoops Try.f83 A_itoldCanal R_itoldCanal x = (show Option (SumD (R_itoldCanal.map (·.2))) from itoldCanal x.1 x.2.1 x.2.2.1 x.2.2.2.1 x.2.2.2.2) := meanM_of (itoldCanal_e x)

theorem itoldCanal_ok : MSpecOk Try.prog 83 (evFnM (envW Try.prog C40 mtab0 2) noLoops Try.f83) := fnM_ok (envW_ok (C40_ok) (mtab0_ok _)) rfl mixedO Try.func83 (by kernel_rfl) (c := bodyOf Try.f83) (by kernel_rfl) (loopFree_ok (by kernel_rfl))

theorem itoldCanal_told : MSpecOk Try.prog 83 (toldMO A_itoldCanal R_itoldCanal (fun x => itoldCanal x.1 x.2.1 x.2.2.1 x.2.2.2.1 x.2.2.2.2) (mrest mtab0 83)) := toldMO_ok (by kernel_rfl) itoldCanal_ok (mrest_ok (mtab0_ok _) _) itoldCanal_m

noncomputable def M41 : MTab := mtab 83 (toldMO A_itoldCanal R_itoldCanal (fun x => itoldCanal x.1 x.2.1 x.2.2.1 x.2.2.2.1 x.2.2.2.2) (mrest mtab0 83)) mtab0
theorem M41_ok : MTabOk Try.prog M41 := mtab_ok (itoldCanal_told) (mtab0_ok _)

def A_iStillCanal : Shp := ⟨[.h, .h, .h, .h], [], [.i .i64, .f .f32, .f .f32, .f .f32]⟩
def R_iStillCanal : List XShp := [(.ret, ⟨[.tup [.agg [.h, .h, .h, .nils, .nils], .lb false]], [], [.f .f32, .f .f32, .f .f32]⟩), (.ret, ⟨[.tup [.agg [.h, .h, .h, .slw 0 1, .slw 1 1], .lb true]], [.arr [.f .f32] false, .arr [.f .f32] false], [.f .f32, .f .f32, .f .f32, .sl [.f .f32], .sl [.f .f32]]⟩)]

theorem iStillCanal_e (x : DR A_iStillCanal.hs) : (evFn (envT Try.prog C40 M41) noLoops Try.f49 (A_iStillCanal.enc x).1).to (fun q => decX R_iStillCanal .ret [q.1] q.2) = iStillCanal_t x.1 x.2.1 x.2.2.1 x.2.2.2 := by kernel_rfl

theorem iStillCanal_m (x : DR A_iStillCanal.hs) : meanF (envT Try.prog C40 M41) noLoops Try.f49 A_iStillCanal R_iStillCanal x = (show Option (SumD (R_iStillCanal.map (·.2))) from iStillCanal x.1 x.2.1 x.2.2.1 x.2.2.2) := meanF_of (iStillCanal_e x)

theorem iStillCanal_ok : SpecOk Try.prog 49 (evFn (envT Try.prog C40 M41) noLoops Try.f49) := fnL_ok (envT_ok (C40_ok) (M41_ok)) mixedO Try.func49 (by kernel_rfl) (c := bodyOf Try.f49) (by kernel_rfl) (loopFree_ok (by kernel_rfl))

theorem iStillCanal_told : SpecOk Try.prog 49 (toldO A_iStillCanal R_iStillCanal (fun x => iStillCanal x.1 x.2.1 x.2.2.1 x.2.2.2) (C40 49)) := toldO_ok (by kernel_rfl) iStillCanal_ok (rest_ok (C40_ok) _) iStillCanal_m

noncomputable def C42 : Tab := tab 49 (toldO A_iStillCanal R_iStillCanal (fun x => iStillCanal x.1 x.2.1 x.2.2.1 x.2.2.2) (C40 49)) C40
theorem C42_ok : TabOk Try.prog C42 := tab_ok (iStillCanal_told) (C40_ok)

def A_weqCanal : Shp := ⟨[.agg [.h, .h, .h, .h, .h], .agg [.h, .h, .h, .h, .h]], [], [.f .f32, .f .f32, .f .f32, .sl [.f .f32], .sl [.f .f32], .f .f32, .f .f32, .f .f32, .sl [.f .f32], .sl [.f .f32]]⟩
def R_weqCanal : List XShp := [(.ret, ⟨[.h], [], [.b]⟩)]

theorem weqCanal_e (x : DR A_weqCanal.hs) : (evFn (envT Try.prog C42 M41) noLoops Try.f39 (A_weqCanal.enc x).1).to (fun q => decX R_weqCanal .ret [q.1] q.2) = weqCanal_t x.1 x.2.1 x.2.2.1 x.2.2.2.1 x.2.2.2.2.1 x.2.2.2.2.2.1 x.2.2.2.2.2.2.1 x.2.2.2.2.2.2.2.1 x.2.2.2.2.2.2.2.2.1 x.2.2.2.2.2.2.2.2.2 := by kernel_rfl

theorem weqCanal_m (x : DR A_weqCanal.hs) : meanF (envT Try.prog C42 M41) noLoops Try.f39 A_weqCanal R_weqCanal x = (show Option (SumD (R_weqCanal.map (·.2))) from weqCanal x.1 x.2.1 x.2.2.1 x.2.2.2.1 x.2.2.2.2.1 x.2.2.2.2.2.1 x.2.2.2.2.2.2.1 x.2.2.2.2.2.2.2.1 x.2.2.2.2.2.2.2.2.1 x.2.2.2.2.2.2.2.2.2) := meanF_of (weqCanal_e x)

theorem weqCanal_ok : SpecOk Try.prog 39 (evFn (envT Try.prog C42 M41) noLoops Try.f39) := fnL_ok (envT_ok (C42_ok) (M41_ok)) mixedO Try.func39 (by kernel_rfl) (c := bodyOf Try.f39) (by kernel_rfl) (loopFree_ok (by kernel_rfl))

theorem weqCanal_told : SpecOk Try.prog 39 (toldO A_weqCanal R_weqCanal (fun x => weqCanal x.1 x.2.1 x.2.2.1 x.2.2.2.1 x.2.2.2.2.1 x.2.2.2.2.2.1 x.2.2.2.2.2.2.1 x.2.2.2.2.2.2.2.1 x.2.2.2.2.2.2.2.2.1 x.2.2.2.2.2.2.2.2.2) (C42 39)) := toldO_ok (by kernel_rfl) weqCanal_ok (rest_ok (C42_ok) _) weqCanal_m

noncomputable def C43 : Tab := tab 39 (toldO A_weqCanal R_weqCanal (fun x => weqCanal x.1 x.2.1 x.2.2.1 x.2.2.2.1 x.2.2.2.2.1 x.2.2.2.2.2.1 x.2.2.2.2.2.2.1 x.2.2.2.2.2.2.2.1 x.2.2.2.2.2.2.2.2.1 x.2.2.2.2.2.2.2.2.2) (C42 39)) C42
theorem C43_ok : TabOk Try.prog C43 := tab_ok (weqCanal_told) (C42_ok)

def S_wmarkFloat32S_nil_l2 : Shp := ⟨[.nils, .h, .h], [], [.i .i64, .i .i64]⟩
def X_wmarkFloat32S_nil_l2 : List XShp := [(.exit 0, ⟨[.undef, .h, .undef], [], [.i .i64]⟩)]

noncomputable def L_wmarkFloat32S_nil_l2 : Loops := (⟨20, lvT [(2, [0, 1, 5])], mdT [(2, .exit 0, [], [0, 5])], fun k vs bs => .bad⟩ : Loops)

theorem wmarkFloat32S_nil_l2_e (y0 : Int) (y1 : Int) (s : Unit) : (loopStep (envW Try.prog C43 M41 0) L_wmarkFloat32S_nil_l2 2 (loopC (bodyOf Try.f84) 2) (S_wmarkFloat32S_nil_l2.enc (y0, y1)).1 (S_wmarkFloat32S_nil_l2.enc (y0, y1)).2).to (stepD S_wmarkFloat32S_nil_l2 X_wmarkFloat32S_nil_l2) = (wmarkFloat32S_nil_l2_t y0 y1 ).map (Sum.map (fun s : Unit => (show DR S_wmarkFloat32S_nil_l2.hs from (y0, y1))) id) := by kernel_rfl

theorem wmarkFloat32S_nil_l2_r (x : DR S_wmarkFloat32S_nil_l2.hs) : (wmarkFloat32S_nil_l2 x.1 x.2 : Option (SumD (X_wmarkFloat32S_nil_l2.map (·.2)))) = runL (meanS (envW Try.prog C43 M41 0) L_wmarkFloat32S_nil_l2 2 (loopC (bodyOf Try.f84) 2) S_wmarkFloat32S_nil_l2 X_wmarkFloat32S_nil_l2) x := run_of (fun s : Unit => (show DR S_wmarkFloat32S_nil_l2.hs from (x.1, x.2))) (wmarkFloat32S_nil_l2_e (x.1) (x.2)) ()

theorem wmarkFloat32S_nil_l2_k (L : Loops) (hn : L_wmarkFloat32S_nil_l2.n = L.n) (hlv : L_wmarkFloat32S_nil_l2.lv 2 = L.lv 2) (hL : ∀ vs bs, L.loop 2 vs bs = toldL S_wmarkFloat32S_nil_l2 X_wmarkFloat32S_nil_l2 (fun x => wmarkFloat32S_nil_l2 x.1 x.2) vs bs) : LOk Try.prog (envW Try.prog C43 M41 0) L 2 (loopC (bodyOf Try.f84) 2) := toldL_ok (L1 := L_wmarkFloat32S_nil_l2) (envW_ok (C43_ok) (M41_ok)) mixedO hn hlv (loopFree_ok (by kernel_rfl)) wmarkFloat32S_nil_l2_r hL

def A_wmarkFloat32S_nil : Shp := ⟨[.nils, .h], [], [.i .i64]⟩
def R_wmarkFloat32S_nil : List XShp := [(.ret, ⟨[.h], [], [.i .i64]⟩)]

noncomputable def L_wmarkFloat32S_nil : Loops := (⟨20, lvT [(2, [0, 1, 5])], mdT [(2, .exit 0, [], [0, 5])], fun k vs bs => bif Nat.beq k 2 then toldL S_wmarkFloat32S_nil_l2 X_wmarkFloat32S_nil_l2 (fun x => wmarkFloat32S_nil_l2 x.1 x.2) vs bs else .bad⟩ : Loops)

theorem wmarkFloat32S_nil_e (x : DR A_wmarkFloat32S_nil.hs) : (evFnM (envW Try.prog C43 M41 0) L_wmarkFloat32S_nil Try.f84 (A_wmarkFloat32S_nil.enc x).1 ((A_wmarkFloat32S_nil.enc x).2.map (·.blk))).to (decM R_wmarkFloat32S_nil) = wmarkFloat32S_nil_t x := by kernel_rfl

theorem wmarkFloat32S_nil_m (x : DR A_wmarkFloat32S_nil.hs) : meanM (envW Try.prog C43 M41 0) L_wmarkFloat32S_nil Try.f84 A_wmarkFloat32S_nil R_wmarkFloat32S_nil x = (show Option (SumD (R_wmarkFloat32S_nil.map (·.2))) from wmarkFloat32S_nil x) := meanM_of (wmarkFloat32S_nil_e x)

theorem wmarkFloat32S_nil_ok : MSpecOk Try.prog 84 (evFnM (envW Try.prog C43 M41 0) L_wmarkFloat32S_nil Try.f84) := fnM_ok (envW_ok (C43_ok) (M41_ok)) rfl mixedO Try.func84 (by kernel_rfl) (c := bodyOf Try.f84) (by kernel_rfl) (loopsL (l := [(2, loopC (bodyOf Try.f84) 2)]) (by kernel_rfl) (lk_cons (wmarkFloat32S_nil_l2_k _ rfl rfl (fun _ _ => rfl)) lk_nil))

theorem wmarkFloat32S_nil_told : MSpecOk Try.prog 84 (toldMO A_wmarkFloat32S_nil R_wmarkFloat32S_nil (fun x => wmarkFloat32S_nil x) (mrest M41 84)) := toldMO_ok (by kernel_rfl) wmarkFloat32S_nil_ok (mrest_ok (M41_ok) _) wmarkFloat32S_nil_m

noncomputable def M44 : MTab := mtab 84 (toldMO A_wmarkFloat32S_nil R_wmarkFloat32S_nil (fun x => wmarkFloat32S_nil x) (mrest M41 84)) M41
theorem M44_ok : MTabOk Try.prog M44 := mtab_ok (wmarkFloat32S_nil_told) (M41_ok)

def A_wmarkCanal : Shp := ⟨[.agg [.h, .h, .h, .nils, .nils], .h], [], [.f .f32, .f .f32, .f .f32, .i .i64]⟩
def R_wmarkCanal : List XShp := [(.ret, ⟨[.h], [], [.i .i64]⟩)]

theorem wmarkCanal_e (x : DR A_wmarkCanal.hs) : (evFnM (envW Try.prog C43 M44 0) noLoops Try.f50 (A_wmarkCanal.enc x).1 ((A_wmarkCanal.enc x).2.map (·.blk))).to (decM R_wmarkCanal) = wmarkCanal_t x.1 x.2.1 x.2.2.1 x.2.2.2 := by kernel_rfl

theorem wmarkCanal_m (x : DR A_wmarkCanal.hs) : meanM (envW Try.prog C43 M44 0) noLoops Try.f50 A_wmarkCanal R_wmarkCanal x = (show Option (SumD (R_wmarkCanal.map (·.2))) from wmarkCanal x.1 x.2.1 x.2.2.1 x.2.2.2) := meanM_of (wmarkCanal_e x)

theorem wmarkCanal_ok : MSpecOk Try.prog 50 (evFnM (envW Try.prog C43 M44 0) noLoops Try.f50) := fnM_ok (envW_ok (C43_ok) (M44_ok)) rfl mixedO Try.func50 (by kernel_rfl) (c := bodyOf Try.f50) (by kernel_rfl) (loopFree_ok (by kernel_rfl))

theorem wmarkCanal_told : MSpecOk Try.prog 50 (toldMO A_wmarkCanal R_wmarkCanal (fun x => wmarkCanal x.1 x.2.1 x.2.2.1 x.2.2.2) (mrest M44 50)) := toldMO_ok (by kernel_rfl) wmarkCanal_ok (mrest_ok (M44_ok) _) wmarkCanal_m

noncomputable def M45 : MTab := mtab 50 (toldMO A_wmarkCanal R_wmarkCanal (fun x => wmarkCanal x.1 x.2.1 x.2.2.1 x.2.2.2) (mrest M44 50)) M44
theorem M45_ok : MTabOk Try.prog M45 := mtab_ok (wmarkCanal_told) (M44_ok)

def S_wmarkFloat32S_l2 : Shp := ⟨[.slw 0 1, .h, .h], [.arr [.f .f32] false], [.i .i64, .i .i64, .sl [.f .f32]]⟩
def X_wmarkFloat32S_l2 : List XShp := [(.exit 0, ⟨[.undef, .h, .undef], [.arr [.f .f32] false], [.i .i64, .sl [.f .f32]]⟩)]

noncomputable def L_wmarkFloat32S_l2 : Loops := (⟨20, lvT [(2, [0, 1, 5])], mdT [(2, .exit 0, [], [0, 5])], fun k vs bs => .bad⟩ : Loops)

theorem wmarkFloat32S_l2_e (s : Int × Int × List Nat) : (loopStep (envW Try.prog C43 M45 1) L_wmarkFloat32S_l2 2 (loopC (bodyOf Try.f84) 2) (S_wmarkFloat32S_l2.enc (s.1, s.2.1, s.2.2)).1 (S_wmarkFloat32S_l2.enc (s.1, s.2.1, s.2.2)).2).to (stepD S_wmarkFloat32S_l2 X_wmarkFloat32S_l2) = (wmarkFloat32S_l2_t  s.1 s.2.1 s.2.2).map (Sum.map (fun s : Int × Int × List Nat => (show DR S_wmarkFloat32S_l2.hs from (s.1, s.2.1, s.2.2))) id) := by kernel_rfl

theorem wmarkFloat32S_l2_r (x : DR S_wmarkFloat32S_l2.hs) : (wmarkFloat32S_l2 x.1 x.2.1 x.2.2 : Option (SumD (X_wmarkFloat32S_l2.map (·.2)))) = runL (meanS (envW Try.prog C43 M45 1) L_wmarkFloat32S_l2 2 (loopC (bodyOf Try.f84) 2) S_wmarkFloat32S_l2 X_wmarkFloat32S_l2) x := run_of (fun s : Int × Int × List Nat => (show DR S_wmarkFloat32S_l2.hs from (s.1, s.2.1, s.2.2))) (wmarkFloat32S_l2_e ) (x.1, x.2.1, x.2.2)

theorem wmarkFloat32S_l2_k (L : Loops) (hn : L_wmarkFloat32S_l2.n = L.n) (hlv : L_wmarkFloat32S_l2.lv 2 = L.lv 2) (hL : ∀ vs bs, L.loop 2 vs bs = toldL S_wmarkFloat32S_l2 X_wmarkFloat32S_l2 (fun x => wmarkFloat32S_l2 x.1 x.2.1 x.2.2) vs bs) : LOk Try.prog (envW Try.prog C43 M45 1) L 2 (loopC (bodyOf Try.f84) 2) := toldL_ok (L1 := L_wmarkFloat32S_l2) (envW_ok (C43_ok) (M45_ok)) mixedO hn hlv (loopFree_ok (by kernel_rfl)) wmarkFloat32S_l2_r hL

def A_wmarkFloat32S : Shp := ⟨[.slw 0 1, .h], [.arr [.f .f32] false], [.i .i64, .sl [.f .f32]]⟩
def R_wmarkFloat32S : List XShp := [(.ret, ⟨[.h], [.arr [.f .f32] false], [.i .i64, .sl [.f .f32]]⟩)]

noncomputable def L_wmarkFloat32S : Loops := (⟨20, lvT [(2, [0, 1, 5])], mdT [(2, .exit 0, [], [0, 5])], fun k vs bs => bif Nat.beq k 2 then toldL S_wmarkFloat32S_l2 X_wmarkFloat32S_l2 (fun x => wmarkFloat32S_l2 x.1 x.2.1 x.2.2) vs bs else .bad⟩ : Loops)

theorem wmarkFloat32S_e (x : DR A_wmarkFloat32S.hs) : (evFnM (envW Try.prog C43 M45 1) L_wmarkFloat32S Try.f84 (A_wmarkFloat32S.enc x).1 ((A_wmarkFloat32S.enc x).2.map (·.blk))).to (decM R_wmarkFloat32S) = wmarkFloat32S_t x.1 x.2 := by kernel_rfl

theorem wmarkFloat32S_m (x : DR A_wmarkFloat32S.hs) : meanM (envW Try.prog C43 M45 1) L_wmarkFloat32S Try.f84 A_wmarkFloat32S R_wmarkFloat32S x = (show Option (SumD (R_wmarkFloat32S.map (·.2))) from wmarkFloat32S x.1 x.2) := meanM_of (wmarkFloat32S_e x)

theorem wmarkFloat32S_ok : MSpecOk Try.prog 84 (evFnM (envW Try.prog C43 M45 1) L_wmarkFloat32S Try.f84) := fnM_ok (envW_ok (C43_ok) (M45_ok)) rfl mixedO Try.func84 (by kernel_rfl) (c := bodyOf Try.f84) (by kernel_rfl) (loopsL (l := [(2, loopC (bodyOf Try.f84) 2)]) (by kernel_rfl) (lk_cons (wmarkFloat32S_l2_k _ rfl rfl (fun _ _ => rfl)) lk_nil))

theorem wmarkFloat32S_told : MSpecOk Try.prog 84 (toldMO A_wmarkFloat32S R_wmarkFloat32S (fun x => wmarkFloat32S x.1 x.2) (mrest M45 84)) := toldMO_ok (by kernel_rfl) wmarkFloat32S_ok (mrest_ok (M45_ok) _) wmarkFloat32S_m

noncomputable def M46 : MTab := mtab 84 (toldMO A_wmarkFloat32S R_wmarkFloat32S (fun x => wmarkFloat32S x.1 x.2) (mrest M45 84)) M45
theorem M46_ok : MTabOk Try.prog M46 := mtab_ok (wmarkFloat32S_told) (M45_ok)

def A_wmarkCanal_n1 : Shp := ⟨[.agg [.h, .h, .h, .slw 0 1, .slw 1 1], .h], [.arr [.f .f32] false, .arr [.f .f32] false], [.f .f32, .f .f32, .f .f32, .i .i64, .sl [.f .f32], .sl [.f .f32]]⟩
def R_wmarkCanal_n1 : List XShp := [(.ret, ⟨[.h], [.arr [.f .f32] false, .arr [.f .f32] false], [.i .i64, .sl [.f .f32], .sl [.f .f32]]⟩)]

theorem wmarkCanal_n1_e (x : DR A_wmarkCanal_n1.hs) : (evFnM (envW Try.prog C43 M46 2) noLoops Try.f50 (A_wmarkCanal_n1.enc x).1 ((A_wmarkCanal_n1.enc x).2.map (·.blk))).to (decM R_wmarkCanal_n1) = wmarkCanal_n1_t x.1 x.2.1 x.2.2.1 x.2.2.2.1 x.2.2.2.2.1 x.2.2.2.2.2 := by kernel_rfl

theorem wmarkCanal_n1_m (x : DR A_wmarkCanal_n1.hs) : meanM (envW Try.prog C43 M46 2) noLoops Try.f50 A_wmarkCanal_n1 R_wmarkCanal_n1 x = (show Option (SumD (R_wmarkCanal_n1.map (·.2))) from wmarkCanal_n1 x.1 x.2.1 x.2.2.1 x.2.2.2.1 x.2.2.2.2.1 x.2.2.2.2.2) := meanM_of (wmarkCanal_n1_e x)

theorem wmarkCanal_n1_ok : MSpecOk Try.prog 50 (evFnM (envW Try.prog C43 M46 2) noLoops Try.f50) := fnM_ok (envW_ok (C43_ok) (M46_ok)) rfl mixedO Try.func50 (by kernel_rfl) (c := bodyOf Try.f50) (by kernel_rfl) (loopFree_ok (by kernel_rfl))

theorem wmarkCanal_n1_told : MSpecOk Try.prog 50 (toldMO A_wmarkCanal_n1 R_wmarkCanal_n1 (fun x => wmarkCanal_n1 x.1 x.2.1 x.2.2.1 x.2.2.2.1 x.2.2.2.2.1 x.2.2.2.2.2) (mrest M46 50)) := toldMO_ok (by kernel_rfl) wmarkCanal_n1_ok (mrest_ok (M46_ok) _) wmarkCanal_n1_m

noncomputable def M47 : MTab := mtab 50 (toldMO A_wmarkCanal_n1 R_wmarkCanal_n1 (fun x => wmarkCanal_n1 x.1 x.2.1 x.2.2.1 x.2.2.2.1 x.2.2.2.2.1 x.2.2.2.2.2) (mrest M46 50)) M46
theorem M47_ok : MTabOk Try.prog M47 := mtab_ok (wmarkCanal_n1_told) (M46_ok)

def S_wheldFloat32S_l2 : Shp := ⟨[.h, .h, .undef, .h], [], [.sl [.f .f32], .i .i64, .i .i64]⟩
def X_wheldFloat32S_l2 : List XShp := [(.ret, ⟨[.undef, .undef, .h, .undef], [], [.i .i64]⟩), (.exit 0, ⟨[.undef, .h, .undef, .undef], [], [.i .i64]⟩)]

noncomputable def L_wheldFloat32S_l2 : Loops := (⟨22, lvT [(2, [0, 1, 4, 5])], mdT [(2, .normal, [], [4]), (2, .exit 0, [], [0, 4, 5]), (2, .ret, [], [0, 1, 5])], fun k vs bs => .bad⟩ : Loops)

theorem wheldFloat32S_l2_e (y0 : List Nat) (s : Int × Int) : (loopStep (envT Try.prog C43 M47) L_wheldFloat32S_l2 2 (loopC (bodyOf Try.f85) 2) (S_wheldFloat32S_l2.enc (y0, s.1, s.2)).1 (S_wheldFloat32S_l2.enc (y0, s.1, s.2)).2).to (stepD S_wheldFloat32S_l2 X_wheldFloat32S_l2) = (wheldFloat32S_l2_t y0 s.1 s.2).map (Sum.map (fun s : Int × Int => (show DR S_wheldFloat32S_l2.hs from (y0, s.1, s.2))) id) := by kernel_rfl

theorem wheldFloat32S_l2_r (x : DR S_wheldFloat32S_l2.hs) : (wheldFloat32S_l2 x.1 x.2.1 x.2.2 : Option (SumD (X_wheldFloat32S_l2.map (·.2)))) = runL (meanS (envT Try.prog C43 M47) L_wheldFloat32S_l2 2 (loopC (bodyOf Try.f85) 2) S_wheldFloat32S_l2 X_wheldFloat32S_l2) x := run_of (fun s : Int × Int => (show DR S_wheldFloat32S_l2.hs from (x.1, s.1, s.2))) (wheldFloat32S_l2_e (x.1)) (x.2.1, x.2.2)

theorem wheldFloat32S_l2_k (L : Loops) (hn : L_wheldFloat32S_l2.n = L.n) (hlv : L_wheldFloat32S_l2.lv 2 = L.lv 2) (hL : ∀ vs bs, L.loop 2 vs bs = toldL S_wheldFloat32S_l2 X_wheldFloat32S_l2 (fun x => wheldFloat32S_l2 x.1 x.2.1 x.2.2) vs bs) : LOk Try.prog (envT Try.prog C43 M47) L 2 (loopC (bodyOf Try.f85) 2) := toldL_ok (L1 := L_wheldFloat32S_l2) (envT_ok (C43_ok) (M47_ok)) mixedO hn hlv (loopFree_ok (by kernel_rfl)) wheldFloat32S_l2_r hL

def A_wheldFloat32S : Shp := ⟨[.h, .h], [], [.sl [.f .f32], .i .i64]⟩
def R_wheldFloat32S : List XShp := [(.ret, ⟨[.h], [], [.i .i64]⟩)]

noncomputable def L_wheldFloat32S : Loops := (⟨22, lvT [(2, [0, 1, 4, 5])], mdT [(2, .normal, [], [4]), (2, .exit 0, [], [0, 4, 5]), (2, .ret, [], [0, 1, 5])], fun k vs bs => bif Nat.beq k 2 then toldL S_wheldFloat32S_l2 X_wheldFloat32S_l2 (fun x => wheldFloat32S_l2 x.1 x.2.1 x.2.2) vs bs else .bad⟩ : Loops)

theorem wheldFloat32S_e (x : DR A_wheldFloat32S.hs) : (evFn (envT Try.prog C43 M47) L_wheldFloat32S Try.f85 (A_wheldFloat32S.enc x).1).to (fun q => decX R_wheldFloat32S .ret [q.1] q.2) = wheldFloat32S_t x.1 x.2 := by kernel_rfl

theorem wheldFloat32S_m (x : DR A_wheldFloat32S.hs) : meanF (envT Try.prog C43 M47) L_wheldFloat32S Try.f85 A_wheldFloat32S R_wheldFloat32S x = (show Option (SumD (R_wheldFloat32S.map (·.2))) from wheldFloat32S x.1 x.2) := meanF_of (wheldFloat32S_e x)

theorem wheldFloat32S_ok : SpecOk Try.prog 85 (evFn (envT Try.prog C43 M47) L_wheldFloat32S Try.f85) := fnL_ok (envT_ok (C43_ok) (M47_ok)) mixedO Try.func85 (by kernel_rfl) (c := bodyOf Try.f85) (by kernel_rfl) (loopsL (l := [(2, loopC (bodyOf Try.f85) 2)]) (by kernel_rfl) (lk_cons (wheldFloat32S_l2_k _ rfl rfl (fun _ _ => rfl)) lk_nil))

theorem wheldFloat32S_told : SpecOk Try.prog 85 (toldO A_wheldFloat32S R_wheldFloat32S (fun x => wheldFloat32S x.1 x.2) (C43 85)) := toldO_ok (by kernel_rfl) wheldFloat32S_ok (rest_ok (C43_ok) _) wheldFloat32S_m

noncomputable def C48 : Tab := tab 85 (toldO A_wheldFloat32S R_wheldFloat32S (fun x => wheldFloat32S x.1 x.2) (C43 85)) C43
theorem C48_ok : TabOk Try.prog C48 := tab_ok (wheldFloat32S_told) (C43_ok)

def A_wheldCanal : Shp := ⟨[.agg [.h, .h, .h, .h, .h], .h], [], [.f .f32, .f .f32, .f .f32, .sl [.f .f32], .sl [.f .f32], .i .i64]⟩
def R_wheldCanal : List XShp := [(.ret, ⟨[.h], [], [.i .i64]⟩)]

theorem wheldCanal_e (x : DR A_wheldCanal.hs) : (evFn (envT Try.prog C48 M47) noLoops Try.f51 (A_wheldCanal.enc x).1).to (fun q => decX R_wheldCanal .ret [q.1] q.2) = wheldCanal_t x.1 x.2.1 x.2.2.1 x.2.2.2.1 x.2.2.2.2.1 x.2.2.2.2.2 := by kernel_rfl

theorem wheldCanal_m (x : DR A_wheldCanal.hs) : meanF (envT Try.prog C48 M47) noLoops Try.f51 A_wheldCanal R_wheldCanal x = (show Option (SumD (R_wheldCanal.map (·.2))) from wheldCanal x.1 x.2.1 x.2.2.1 x.2.2.2.1 x.2.2.2.2.1 x.2.2.2.2.2) := meanF_of (wheldCanal_e x)

theorem wheldCanal_ok : SpecOk Try.prog 51 (evFn (envT Try.prog C48 M47) noLoops Try.f51) := fnL_ok (envT_ok (C48_ok) (M47_ok)) mixedO Try.func51 (by kernel_rfl) (c := bodyOf Try.f51) (by kernel_rfl) (loopFree_ok (by kernel_rfl))

theorem wheldCanal_told : SpecOk Try.prog 51 (toldO A_wheldCanal R_wheldCanal (fun x => wheldCanal x.1 x.2.1 x.2.2.1 x.2.2.2.1 x.2.2.2.2.1 x.2.2.2.2.2) (C48 51)) := toldO_ok (by kernel_rfl) wheldCanal_ok (rest_ok (C48_ok) _) wheldCanal_m

noncomputable def C49 : Tab := tab 51 (toldO A_wheldCanal R_wheldCanal (fun x => wheldCanal x.1 x.2.1 x.2.2.1 x.2.2.2.1 x.2.2.2.2.1 x.2.2.2.2.2) (C48 51)) C48
theorem C49_ok : TabOk Try.prog C49 := tab_ok (wheldCanal_told) (C48_ok)

def A_wFnExactStillCanal : Shp := ⟨[.h, .h, .h, .h], [], [.i .i64, .f .f32, .f .f32, .f .f32]⟩
def R_wFnExactStillCanal : List XShp := [(.ret, ⟨[.h], [], [.b]⟩)]

theorem wFnExactStillCanal_e (x : DR A_wFnExactStillCanal.hs) : (evFn (envT Try.prog C49 M47) noLoops Try.f14 (A_wFnExactStillCanal.enc x).1).to (fun q => decX R_wFnExactStillCanal .ret [q.1] q.2) = wFnExactStillCanal_t x.1 x.2.1 x.2.2.1 x.2.2.2 := by kernel_rfl

theorem wFnExactStillCanal_m (x : DR A_wFnExactStillCanal.hs) : meanF (envT Try.prog C49 M47) noLoops Try.f14 A_wFnExactStillCanal R_wFnExactStillCanal x = (show Option (SumD (R_wFnExactStillCanal.map (·.2))) from wFnExactStillCanal x.1 x.2.1 x.2.2.1 x.2.2.2) := meanF_of (wFnExactStillCanal_e x)

theorem wFnExactStillCanal_ok : SpecOk Try.prog 14 (evFn (envT Try.prog C49 M47) noLoops Try.f14) := fnL_ok (envT_ok (C49_ok) (M47_ok)) mixedO Try.func14 (by kernel_rfl) (c := bodyOf Try.f14) (by kernel_rfl) (loopFree_ok (by kernel_rfl))

theorem wFnExactStillCanal_told : SpecOk Try.prog 14 (toldO A_wFnExactStillCanal R_wFnExactStillCanal (fun x => wFnExactStillCanal x.1 x.2.1 x.2.2.1 x.2.2.2) (C49 14)) := toldO_ok (by kernel_rfl) wFnExactStillCanal_ok (rest_ok (C49_ok) _) wFnExactStillCanal_m

noncomputable def C50 : Tab := tab 14 (toldO A_wFnExactStillCanal R_wFnExactStillCanal (fun x => wFnExactStillCanal x.1 x.2.1 x.2.2.1 x.2.2.2) (C49 14)) C49
theorem C50_ok : TabOk Try.prog C50 := tab_ok (wFnExactStillCanal_told) (C49_ok)

theorem lawFnExactStillCanal_ok : SpecOk Try.prog 14 (evFn (envT Try.prog C49 M47) noLoops Try.f14) := wFnExactStillCanal_ok
theorem lawFnExactStillCanal_says (x : DR A_wFnExactStillCanal.hs) (h : (show Option (SumD (R_wFnExactStillCanal.map (·.2))) from wFnExactStillCanal x.1 x.2.1 x.2.2.1 x.2.2.2) = some true) : saysTrue (evFn (envT Try.prog C49 M47) noLoops Try.f14 (A_wFnExactStillCanal.enc x).1) = true := law_says (x := x) ((wFnExactStillCanal_m x).trans h)

theorem lawFnExactStillCanal_true (x0 : Int) (x1 : Nat) (x2 : Nat) (x3 : Nat) (h : wFnExactStillCanal x0 x1 x2 x3 = some true) : saysTrue (evFn (envT Try.prog C49 M47) noLoops Try.f14 [.i .i64 x0, .f .f32 x1, .f .f32 x2, .f .f32 x3]) = true := (congrArg (fun l => saysTrue (evFn (envT Try.prog C49 M47) noLoops Try.f14 l)) (by kernel_rfl : ([.i .i64 x0, .f .f32 x1, .f .f32 x2, .f .f32 x3] : List V) = (A_wFnExactStillCanal.enc (x0, x1, x2, x3)).1)).trans (lawFnExactStillCanal_says (x0, x1, x2, x3) h)
end Go.Proofs.Ytihoaflcjkppnaa
