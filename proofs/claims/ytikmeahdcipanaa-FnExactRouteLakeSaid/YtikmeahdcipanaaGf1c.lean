/- Functions, as plain functions. What the program comes to. -/
import Derived.Test.YtikmeahdcipanaaGf1d
import Derived.Test.YtikmeahdcipanaaDb
import Derived.Test.YtikmeahdcipanaaNv
import Derived.KernelRfl
set_option linter.unusedVariables false
set_option linter.unusedSimpArgs false
set_option linter.constructorNameAsVariable false
namespace Go.Proofs.Ytikmeahdcipanaa
open Go.RowKit
set_option maxRecDepth 100000
theorem mixedO : (Try.prog).follows .mixedOrders = true := by kernel_rfl
noncomputable def C0 : Tab := tab 68 (spFB .f32 (isFin .f32)) tab0
theorem C0_ok : TabOk Try.prog C0 := tab_ok (spFB_ok Try.func68 (by kernel_rfl) (fun hx => l01Finite_c hx)) (tab0_ok _)

noncomputable def C1 : Tab := tab 72 (spFB .f32 (isFin .f32)) C0
theorem C1_ok : TabOk Try.prog C1 := tab_ok (spFB_ok Try.func72 (by kernel_rfl) (fun hx => IsFinite_c hx)) (C0_ok)

noncomputable def C2 : Tab := tab 77 (spFB .f32 isLen) C1
theorem C2_ok : TabOk Try.prog C2 := tab_ok (spFB_ok Try.func77 (by kernel_rfl) (fun hx => l02Above_c hx)) (C1_ok)

noncomputable def C3 : Tab := tab 81 (spFB .f32 isLen) C2
theorem C3_ok : TabOk Try.prog C3 := tab_ok (spFB_ok Try.func81 (by kernel_rfl) (fun hx => aLength_c hx)) (C2_ok)

noncomputable def C4 : Tab := tab 76 (spFB .f32 isMass) C3
theorem C4_ok : TabOk Try.prog C4 := tab_ok (spFB_ok Try.func76 (by kernel_rfl) (fun hx => l02Least_c hx)) (C3_ok)

noncomputable def C5 : Tab := tab 106 (spFB .f32 isMass) C4
theorem C5_ok : TabOk Try.prog C5 := tab_ok (spFB_ok Try.func106 (by kernel_rfl) (fun hx => aMass_c hx)) (C4_ok)

noncomputable def C6 : Tab := tab 132 (spFF .f32 .f32 froot) C5
theorem C6_ok : TabOk Try.prog C6 := tab_ok (spFF_ok Try.func132 (by kernel_rfl) (fun hx => l01Sqrt_c hx)) (C5_ok)

noncomputable def C7 : Tab := tab 107 (spFF .f32 .f32 froot) C6
theorem C7_ok : TabOk Try.prog C7 := tab_ok (spFF_ok Try.func107 (by kernel_rfl) (fun hx => RootNumber_c hx)) (C6_ok)

noncomputable def C8 : Tab := tab 19 (spSame .f64) C7
theorem C8_ok : TabOk Try.prog C8 := tab_ok (spSame_ok Try.func19 (by kernel_rfl) (fun hx hy => sameFloat_c hx hy)) (C7_ok)

noncomputable def C9 : Tab := tab 120 (spFB .f64 (isFin .f64)) C8
theorem C9_ok : TabOk Try.prog C9 := tab_ok (spFB_ok Try.func120 (by kernel_rfl) (fun hx => finite_c hx)) (C8_ok)

noncomputable def C10 : Tab := tab 145 (spFB .f64 (isN .f64)) C9
theorem C10_ok : TabOk Try.prog C10 := tab_ok (spFB_ok Try.func145 (by kernel_rfl) (fun hx => isNaN_c hx)) (C9_ok)

noncomputable def C11 : Tab := tab 149 (spFF .f64 .f64 (fabs .f64)) C10
theorem C11_ok : TabOk Try.prog C11 := tab_ok (spFF_ok Try.func149 (by kernel_rfl) (fun hx => abs_c hx)) (C10_ok)

noncomputable def C12 : Tab := tab 134 (spFF .f64 .f64 (fsqrt .f64)) C11
theorem C12_ok : TabOk Try.prog C12 := tab_ok (spFF_ok Try.func134 (by kernel_rfl) (fun hx => Sqrt_c hx)) (C11_ok)

noncomputable def C13 : Tab := tab 150 (spFrom) C12
theorem C13_ok : TabOk Try.prog C13 := tab_ok ((spFrom_ok (fun n w => ext_from64 n w))) (C12_ok)

def A_wszFloat32S : Shp := ⟨[.h, .h], [], [.sl [.f .f32], .i .i64]⟩
def R_wszFloat32S : List XShp := [(.ret, ⟨[.h], [], [.i .i64]⟩)]

theorem wszFloat32S_e (x : DR A_wszFloat32S.hs) : (evFn (envT Try.prog C13 mtab0) noLoops Try.f66 (A_wszFloat32S.enc x).1).to (fun q => decX R_wszFloat32S .ret [q.1] q.2) = wszFloat32S_t x.1 x.2 := by kernel_rfl

theorem wszFloat32S_m (x : DR A_wszFloat32S.hs) : meanF (envT Try.prog C13 mtab0) noLoops Try.f66 A_wszFloat32S R_wszFloat32S x = some (show SumD (R_wszFloat32S.map (·.2)) from wszFloat32S x.1 x.2) := @meanF_tot _ _ _ _ _ _ _ (wszFloat32S_e x) (show Inhabited (Int) from inferInstance) (by kernel_rfl)

theorem wszFloat32S_ok : SpecOk Try.prog 66 (evFn (envT Try.prog C13 mtab0) noLoops Try.f66) := fnL_ok (envT_ok (C13_ok) (mtab0_ok _)) mixedO Try.func66 (by kernel_rfl) (c := bodyOf Try.f66) (by kernel_rfl) (loopFree_ok (by kernel_rfl))

theorem wszFloat32S_told : SpecOk Try.prog 66 (toldT A_wszFloat32S R_wszFloat32S (fun x => wszFloat32S x.1 x.2) (C13 66)) := toldT_ok (by kernel_rfl) wszFloat32S_ok (rest_ok (C13_ok) _) wszFloat32S_m

noncomputable def C14 : Tab := tab 66 (toldT A_wszFloat32S R_wszFloat32S (fun x => wszFloat32S x.1 x.2) (C13 66)) C13
theorem C14_ok : TabOk Try.prog C14 := tab_ok (wszFloat32S_told) (C13_ok)

def A_wszLake : Shp := ⟨[.agg [.h, .h], .h], [], [.sl [.f .f32], .sl [.f .f32], .i .i64]⟩
def R_wszLake : List XShp := [(.ret, ⟨[.h], [], [.i .i64]⟩)]

theorem wszLake_e (x : DR A_wszLake.hs) : (evFn (envT Try.prog C14 mtab0) noLoops Try.f15 (A_wszLake.enc x).1).to (fun q => decX R_wszLake .ret [q.1] q.2) = wszLake_t x.1 x.2.1 x.2.2 := by kernel_rfl

theorem wszLake_m (x : DR A_wszLake.hs) : meanF (envT Try.prog C14 mtab0) noLoops Try.f15 A_wszLake R_wszLake x = some (show SumD (R_wszLake.map (·.2)) from wszLake x.1 x.2.1 x.2.2) := @meanF_tot _ _ _ _ _ _ _ (wszLake_e x) (show Inhabited (Int) from inferInstance) (by kernel_rfl)

theorem wszLake_ok : SpecOk Try.prog 15 (evFn (envT Try.prog C14 mtab0) noLoops Try.f15) := fnL_ok (envT_ok (C14_ok) (mtab0_ok _)) mixedO Try.func15 (by kernel_rfl) (c := bodyOf Try.f15) (by kernel_rfl) (loopFree_ok (by kernel_rfl))

theorem wszLake_told : SpecOk Try.prog 15 (toldT A_wszLake R_wszLake (fun x => wszLake x.1 x.2.1 x.2.2) (C14 15)) := toldT_ok (by kernel_rfl) wszLake_ok (rest_ok (C14_ok) _) wszLake_m

noncomputable def C15 : Tab := tab 15 (toldT A_wszLake R_wszLake (fun x => wszLake x.1 x.2.1 x.2.2) (C14 15)) C14
theorem C15_ok : TabOk Try.prog C15 := tab_ok (wszLake_told) (C14_ok)

def S_wtoFloat32S_l3 : Shp := ⟨[.h, .slw 0 1, .h], [.arr [.f .f32] false], [.sl [.f .f32], .i .i64, .sl [.f .f32]]⟩
def X_wtoFloat32S_l3 : List XShp := [(.exit 0, ⟨[.undef, .slw 0 1, .undef], [.arr [.f .f32] false], [.sl [.f .f32]]⟩)]

noncomputable def L_wtoFloat32S_l3 : Loops := (⟨22, lvT [(3, [0, 3, 4])], mdT [(3, .exit 0, [], [0, 4])], fun k vs bs => .bad⟩ : Loops)

theorem wtoFloat32S_l3_e (y0 : List Nat) (s : Int × List Nat) : (loopStep (envT Try.prog C15 mtab0) L_wtoFloat32S_l3 3 (loopC (bodyOf Try.f24) 3) (S_wtoFloat32S_l3.enc (y0, s.1, s.2)).1 (S_wtoFloat32S_l3.enc (y0, s.1, s.2)).2).to (stepD S_wtoFloat32S_l3 X_wtoFloat32S_l3) = (wtoFloat32S_l3_t y0 s.1 s.2).map (Sum.map (fun s : Int × List Nat => (show DR S_wtoFloat32S_l3.hs from (y0, s.1, s.2))) id) := by kernel_rfl

theorem wtoFloat32S_l3_r (x : DR S_wtoFloat32S_l3.hs) : (wtoFloat32S_l3 x.1 x.2.1 x.2.2 : Option (SumD (X_wtoFloat32S_l3.map (·.2)))) = runL (meanS (envT Try.prog C15 mtab0) L_wtoFloat32S_l3 3 (loopC (bodyOf Try.f24) 3) S_wtoFloat32S_l3 X_wtoFloat32S_l3) x := run_of (fun s : Int × List Nat => (show DR S_wtoFloat32S_l3.hs from (x.1, s.1, s.2))) (wtoFloat32S_l3_e (x.1)) (x.2.1, x.2.2)

theorem wtoFloat32S_l3_k (L : Loops) (hn : L_wtoFloat32S_l3.n = L.n) (hlv : L_wtoFloat32S_l3.lv 3 = L.lv 3) (hL : ∀ vs bs, L.loop 3 vs bs = toldL S_wtoFloat32S_l3 X_wtoFloat32S_l3 (fun x => wtoFloat32S_l3 x.1 x.2.1 x.2.2) vs bs) : LOk Try.prog (envT Try.prog C15 mtab0) L 3 (loopC (bodyOf Try.f24) 3) := toldL_ok (L1 := L_wtoFloat32S_l3) (envT_ok (C15_ok) (mtab0_ok _)) mixedO hn hlv (loopFree_ok (by kernel_rfl)) wtoFloat32S_l3_r hL

def A_wtoFloat32S : Shp := ⟨[.h], [], [.sl [.f .f32]]⟩
def R_wtoFloat32S : List XShp := [(.ret, ⟨[.slw 0 1], [.arr [.f .f32] false], [.sl [.f .f32]]⟩)]

noncomputable def L_wtoFloat32S : Loops := (⟨22, lvT [(3, [0, 3, 4])], mdT [(3, .exit 0, [], [0, 4])], fun k vs bs => bif Nat.beq k 3 then toldL S_wtoFloat32S_l3 X_wtoFloat32S_l3 (fun x => wtoFloat32S_l3 x.1 x.2.1 x.2.2) vs bs else .bad⟩ : Loops)

theorem wtoFloat32S_e (x : DR A_wtoFloat32S.hs) : (evFn (envT Try.prog C15 mtab0) L_wtoFloat32S Try.f24 (A_wtoFloat32S.enc x).1).to (fun q => decX R_wtoFloat32S .ret [q.1] q.2) = wtoFloat32S_t x := by kernel_rfl

theorem wtoFloat32S_m (x : DR A_wtoFloat32S.hs) : meanF (envT Try.prog C15 mtab0) L_wtoFloat32S Try.f24 A_wtoFloat32S R_wtoFloat32S x = (show Option (SumD (R_wtoFloat32S.map (·.2))) from wtoFloat32S x) := meanF_of (wtoFloat32S_e x)

theorem wtoFloat32S_ok : SpecOk Try.prog 24 (evFn (envT Try.prog C15 mtab0) L_wtoFloat32S Try.f24) := fnL_ok (envT_ok (C15_ok) (mtab0_ok _)) mixedO Try.func24 (by kernel_rfl) (c := bodyOf Try.f24) (by kernel_rfl) (loopsL (l := [(3, loopC (bodyOf Try.f24) 3)]) (by kernel_rfl) (lk_cons (wtoFloat32S_l3_k _ rfl rfl (fun _ _ => rfl)) lk_nil))

theorem wtoFloat32S_told : SpecOk Try.prog 24 (toldO A_wtoFloat32S R_wtoFloat32S (fun x => wtoFloat32S x) (C15 24)) := toldO_ok (by kernel_rfl) wtoFloat32S_ok (rest_ok (C15_ok) _) wtoFloat32S_m

noncomputable def C16 : Tab := tab 24 (toldO A_wtoFloat32S R_wtoFloat32S (fun x => wtoFloat32S x) (C15 24)) C15
theorem C16_ok : TabOk Try.prog C16 := tab_ok (wtoFloat32S_told) (C15_ok)

def A_wtoLake : Shp := ⟨[.agg [.h, .h]], [], [.sl [.f .f32], .sl [.f .f32]]⟩
def R_wtoLake : List XShp := [(.ret, ⟨[.agg [.slw 0 1, .slw 1 1]], [.arr [.f .f32] false, .arr [.f .f32] false], [.sl [.f .f32], .sl [.f .f32]]⟩)]

theorem wtoLake_e (x : DR A_wtoLake.hs) : (evFn (envT Try.prog C16 mtab0) noLoops Try.f17 (A_wtoLake.enc x).1).to (fun q => decX R_wtoLake .ret [q.1] q.2) = wtoLake_t x.1 x.2 := by kernel_rfl

theorem wtoLake_m (x : DR A_wtoLake.hs) : meanF (envT Try.prog C16 mtab0) noLoops Try.f17 A_wtoLake R_wtoLake x = (show Option (SumD (R_wtoLake.map (·.2))) from wtoLake x.1 x.2) := meanF_of (wtoLake_e x)

theorem wtoLake_ok : SpecOk Try.prog 17 (evFn (envT Try.prog C16 mtab0) noLoops Try.f17) := fnL_ok (envT_ok (C16_ok) (mtab0_ok _)) mixedO Try.func17 (by kernel_rfl) (c := bodyOf Try.f17) (by kernel_rfl) (loopFree_ok (by kernel_rfl))

theorem wtoLake_told : SpecOk Try.prog 17 (toldO A_wtoLake R_wtoLake (fun x => wtoLake x.1 x.2) (C16 17)) := toldO_ok (by kernel_rfl) wtoLake_ok (rest_ok (C16_ok) _) wtoLake_m

noncomputable def C17 : Tab := tab 17 (toldO A_wtoLake R_wtoLake (fun x => wtoLake x.1 x.2) (C16 17)) C16
theorem C17_ok : TabOk Try.prog C17 := tab_ok (wtoLake_told) (C16_ok)

def S_sl05Lake_l5 : Shp := ⟨[.dpt [.h, .h] 0, .undef, .h, .h], [], [.sl [.f .f32], .sl [.f .f32], .i .i64, .i .i64]⟩
def X_sl05Lake_l5 : List XShp := [(.ret, ⟨[.undef, .lb false, .undef, .undef], [], []⟩), (.exit 0, ⟨[.undef, .undef, .undef, .undef], [], []⟩)]

noncomputable def L_sl05Lake_l5 : Loops := (⟨94, lvT [(5, [0, 2, 29, 30])], mdT [(5, .normal, [], [2]), (5, .exit 0, [], [0, 2, 29, 30]), (5, .ret, [], [0, 29, 30])], fun k vs bs => .bad⟩ : Loops)

theorem sl05Lake_l5_e (y0 : List Nat) (y1 : List Nat) (y2 : Int) (s : Int) : (loopStep (envT Try.prog C17 mtab0) L_sl05Lake_l5 5 (loopC (bodyOf Try.f67) 5) (S_sl05Lake_l5.enc (y0, y1, y2, s)).1 (S_sl05Lake_l5.enc (y0, y1, y2, s)).2).to (stepD S_sl05Lake_l5 X_sl05Lake_l5) = (sl05Lake_l5_t y0 y1 y2 s).map (Sum.map (fun s : Int => (show DR S_sl05Lake_l5.hs from (y0, y1, y2, s))) id) := by kernel_rfl

theorem sl05Lake_l5_r (x : DR S_sl05Lake_l5.hs) : (sl05Lake_l5 x.1 x.2.1 x.2.2.1 x.2.2.2 : Option (SumD (X_sl05Lake_l5.map (·.2)))) = runL (meanS (envT Try.prog C17 mtab0) L_sl05Lake_l5 5 (loopC (bodyOf Try.f67) 5) S_sl05Lake_l5 X_sl05Lake_l5) x := run_of (fun s : Int => (show DR S_sl05Lake_l5.hs from (x.1, x.2.1, x.2.2.1, s))) (sl05Lake_l5_e (x.1) (x.2.1) (x.2.2.1)) x.2.2.2

theorem sl05Lake_l5_k (L : Loops) (hn : L_sl05Lake_l5.n = L.n) (hlv : L_sl05Lake_l5.lv 5 = L.lv 5) (hL : ∀ vs bs, L.loop 5 vs bs = toldL S_sl05Lake_l5 X_sl05Lake_l5 (fun x => sl05Lake_l5 x.1 x.2.1 x.2.2.1 x.2.2.2) vs bs) : LOk Try.prog (envT Try.prog C17 mtab0) L 5 (loopC (bodyOf Try.f67) 5) := toldL_ok (L1 := L_sl05Lake_l5) (envT_ok (C17_ok) (mtab0_ok _)) mixedO hn hlv (loopFree_ok (by kernel_rfl)) sl05Lake_l5_r hL

def A_sl05Lake : Shp := ⟨[.dpt [.h, .h] 0], [], [.sl [.f .f32], .sl [.f .f32]]⟩
def R_sl05Lake : List XShp := [(.ret, ⟨[.h], [], [.b]⟩)]

noncomputable def L_sl05Lake : Loops := (⟨94, lvT [(5, [0, 2, 29, 30])], mdT [(5, .normal, [], [2]), (5, .exit 0, [], [0, 2, 29, 30]), (5, .ret, [], [0, 29, 30])], fun k vs bs => bif Nat.beq k 5 then toldL S_sl05Lake_l5 X_sl05Lake_l5 (fun x => sl05Lake_l5 x.1 x.2.1 x.2.2.1 x.2.2.2) vs bs else .bad⟩ : Loops)

theorem sl05Lake_e (x : DR A_sl05Lake.hs) : (evFn (envT Try.prog C17 mtab0) L_sl05Lake Try.f67 (A_sl05Lake.enc x).1).to (fun q => decX R_sl05Lake .ret [q.1] q.2) = sl05Lake_t x.1 x.2 := by kernel_rfl

theorem sl05Lake_m (x : DR A_sl05Lake.hs) : meanF (envT Try.prog C17 mtab0) L_sl05Lake Try.f67 A_sl05Lake R_sl05Lake x = (show Option (SumD (R_sl05Lake.map (·.2))) from sl05Lake x.1 x.2) := meanF_of (sl05Lake_e x)

theorem sl05Lake_ok : SpecOk Try.prog 67 (evFn (envT Try.prog C17 mtab0) L_sl05Lake Try.f67) := fnL_ok (envT_ok (C17_ok) (mtab0_ok _)) mixedO Try.func67 (by kernel_rfl) (c := bodyOf Try.f67) (by kernel_rfl) (loopsL (l := [(5, loopC (bodyOf Try.f67) 5)]) (by kernel_rfl) (lk_cons (sl05Lake_l5_k _ rfl rfl (fun _ _ => rfl)) lk_nil))

theorem sl05Lake_told : SpecOk Try.prog 67 (toldO A_sl05Lake R_sl05Lake (fun x => sl05Lake x.1 x.2) (C17 67)) := toldO_ok (by kernel_rfl) sl05Lake_ok (rest_ok (C17_ok) _) sl05Lake_m

noncomputable def C18 : Tab := tab 67 (toldO A_sl05Lake R_sl05Lake (fun x => sl05Lake x.1 x.2) (C17 67)) C17
theorem C18_ok : TabOk Try.prog C18 := tab_ok (sl05Lake_told) (C17_ok)

def A_sl05Holds : Shp := ⟨[.dpt [.h, .h] 0, .h], [], [.sl [.f .f32], .sl [.f .f32], .f .f32]⟩
def R_sl05Holds : List XShp := [(.ret, ⟨[.h], [], [.b]⟩)]

theorem sl05Holds_e (x : DR A_sl05Holds.hs) : (evFn (envT Try.prog C18 mtab0) noLoops Try.f75 (A_sl05Holds.enc x).1).to (fun q => decX R_sl05Holds .ret [q.1] q.2) = sl05Holds_t x.1 x.2.1 x.2.2 := by kernel_rfl

theorem sl05Holds_m (x : DR A_sl05Holds.hs) : meanF (envT Try.prog C18 mtab0) noLoops Try.f75 A_sl05Holds R_sl05Holds x = (show Option (SumD (R_sl05Holds.map (·.2))) from sl05Holds x.1 x.2.1 x.2.2) := meanF_of (sl05Holds_e x)

theorem sl05Holds_ok : SpecOk Try.prog 75 (evFn (envT Try.prog C18 mtab0) noLoops Try.f75) := fnL_ok (envT_ok (C18_ok) (mtab0_ok _)) mixedO Try.func75 (by kernel_rfl) (c := bodyOf Try.f75) (by kernel_rfl) (loopFree_ok (by kernel_rfl))

theorem sl05Holds_told : SpecOk Try.prog 75 (toldO A_sl05Holds R_sl05Holds (fun x => sl05Holds x.1 x.2.1 x.2.2) (C18 75)) := toldO_ok (by kernel_rfl) sl05Holds_ok (rest_ok (C18_ok) _) sl05Holds_m

noncomputable def C19 : Tab := tab 75 (toldO A_sl05Holds R_sl05Holds (fun x => sl05Holds x.1 x.2.1 x.2.2) (C18 75)) C18
theorem C19_ok : TabOk Try.prog C19 := tab_ok (sl05Holds_told) (C18_ok)

def S_sl02Finite_l2 : Shp := ⟨[.h, .undef, .h], [], [.sl [.f .f32], .i .i64]⟩
def X_sl02Finite_l2 : List XShp := [(.ret, ⟨[.undef, .lb false, .undef], [], []⟩), (.exit 0, ⟨[.undef, .undef, .undef], [], []⟩)]

noncomputable def L_sl02Finite_l2 : Loops := (⟨16, lvT [(2, [0, 2, 3])], mdT [(2, .normal, [], [2]), (2, .exit 0, [], [0, 2, 3]), (2, .ret, [], [0, 3])], fun k vs bs => .bad⟩ : Loops)

theorem sl02Finite_l2_e (y0 : List Nat) (s : Int) : (loopStep (envT Try.prog C19 mtab0) L_sl02Finite_l2 2 (loopC (bodyOf Try.f85) 2) (S_sl02Finite_l2.enc (y0, s)).1 (S_sl02Finite_l2.enc (y0, s)).2).to (stepD S_sl02Finite_l2 X_sl02Finite_l2) = (sl02Finite_l2_t y0 s).map (Sum.map (fun s : Int => (show DR S_sl02Finite_l2.hs from (y0, s))) id) := by kernel_rfl

theorem sl02Finite_l2_r (x : DR S_sl02Finite_l2.hs) : (sl02Finite_l2 x.1 x.2 : Option (SumD (X_sl02Finite_l2.map (·.2)))) = runL (meanS (envT Try.prog C19 mtab0) L_sl02Finite_l2 2 (loopC (bodyOf Try.f85) 2) S_sl02Finite_l2 X_sl02Finite_l2) x := run_of (fun s : Int => (show DR S_sl02Finite_l2.hs from (x.1, s))) (sl02Finite_l2_e (x.1)) x.2

theorem sl02Finite_l2_k (L : Loops) (hn : L_sl02Finite_l2.n = L.n) (hlv : L_sl02Finite_l2.lv 2 = L.lv 2) (hL : ∀ vs bs, L.loop 2 vs bs = toldL S_sl02Finite_l2 X_sl02Finite_l2 (fun x => sl02Finite_l2 x.1 x.2) vs bs) : LOk Try.prog (envT Try.prog C19 mtab0) L 2 (loopC (bodyOf Try.f85) 2) := toldL_ok (L1 := L_sl02Finite_l2) (envT_ok (C19_ok) (mtab0_ok _)) mixedO hn hlv (loopFree_ok (by kernel_rfl)) sl02Finite_l2_r hL

def A_sl02Finite : Shp := ⟨[.h], [], [.sl [.f .f32]]⟩
def R_sl02Finite : List XShp := [(.ret, ⟨[.h], [], [.b]⟩)]

noncomputable def L_sl02Finite : Loops := (⟨16, lvT [(2, [0, 2, 3])], mdT [(2, .normal, [], [2]), (2, .exit 0, [], [0, 2, 3]), (2, .ret, [], [0, 3])], fun k vs bs => bif Nat.beq k 2 then toldL S_sl02Finite_l2 X_sl02Finite_l2 (fun x => sl02Finite_l2 x.1 x.2) vs bs else .bad⟩ : Loops)

theorem sl02Finite_e (x : DR A_sl02Finite.hs) : (evFn (envT Try.prog C19 mtab0) L_sl02Finite Try.f85 (A_sl02Finite.enc x).1).to (fun q => decX R_sl02Finite .ret [q.1] q.2) = sl02Finite_t x := by kernel_rfl

theorem sl02Finite_m (x : DR A_sl02Finite.hs) : meanF (envT Try.prog C19 mtab0) L_sl02Finite Try.f85 A_sl02Finite R_sl02Finite x = (show Option (SumD (R_sl02Finite.map (·.2))) from sl02Finite x) := meanF_of (sl02Finite_e x)

theorem sl02Finite_ok : SpecOk Try.prog 85 (evFn (envT Try.prog C19 mtab0) L_sl02Finite Try.f85) := fnL_ok (envT_ok (C19_ok) (mtab0_ok _)) mixedO Try.func85 (by kernel_rfl) (c := bodyOf Try.f85) (by kernel_rfl) (loopsL (l := [(2, loopC (bodyOf Try.f85) 2)]) (by kernel_rfl) (lk_cons (sl02Finite_l2_k _ rfl rfl (fun _ _ => rfl)) lk_nil))

theorem sl02Finite_told : SpecOk Try.prog 85 (toldO A_sl02Finite R_sl02Finite (fun x => sl02Finite x) (C19 85)) := toldO_ok (by kernel_rfl) sl02Finite_ok (rest_ok (C19_ok) _) sl02Finite_m

noncomputable def C20 : Tab := tab 85 (toldO A_sl02Finite R_sl02Finite (fun x => sl02Finite x) (C19 85)) C19
theorem C20_ok : TabOk Try.prog C20 := tab_ok (sl02Finite_told) (C19_ok)

def A_sl05Ins : Shp := ⟨[.h], [], [.sl [.f .f32]]⟩
def R_sl05Ins : List XShp := [(.ret, ⟨[.h], [], [.b]⟩)]

theorem sl05Ins_e (x : DR A_sl05Ins.hs) : (evFn (envT Try.prog C20 mtab0) noLoops Try.f84 (A_sl05Ins.enc x).1).to (fun q => decX R_sl05Ins .ret [q.1] q.2) = sl05Ins_t x := by kernel_rfl

theorem sl05Ins_m (x : DR A_sl05Ins.hs) : meanF (envT Try.prog C20 mtab0) noLoops Try.f84 A_sl05Ins R_sl05Ins x = (show Option (SumD (R_sl05Ins.map (·.2))) from sl05Ins x) := meanF_of (sl05Ins_e x)

theorem sl05Ins_ok : SpecOk Try.prog 84 (evFn (envT Try.prog C20 mtab0) noLoops Try.f84) := fnL_ok (envT_ok (C20_ok) (mtab0_ok _)) mixedO Try.func84 (by kernel_rfl) (c := bodyOf Try.f84) (by kernel_rfl) (loopFree_ok (by kernel_rfl))

theorem sl05Ins_told : SpecOk Try.prog 84 (toldO A_sl05Ins R_sl05Ins (fun x => sl05Ins x) (C20 84)) := toldO_ok (by kernel_rfl) sl05Ins_ok (rest_ok (C20_ok) _) sl05Ins_m

noncomputable def C21 : Tab := tab 84 (toldO A_sl05Ins R_sl05Ins (fun x => sl05Ins x) (C20 84)) C20
theorem C21_ok : TabOk Try.prog C21 := tab_ok (sl05Ins_told) (C20_ok)

def S_sl05Out_l7 : Shp := ⟨[.dpt [.h, .h] 0, .h, .h], [], [.sl [.f .f32], .sl [.f .f32], .f .f32, .i .i64]⟩
def X_sl05Out_l7 : List XShp := [(.exit 0, ⟨[.dpt [.h, .h] 0, .h, .h], [], [.sl [.f .f32], .sl [.f .f32], .f .f32, .i .i64]⟩)]

noncomputable def L_sl05Out_l7 : Loops := (⟨110, lvT [(7, [0, 1, 6])], mdT [], fun k vs bs => .bad⟩ : Loops)

theorem sl05Out_l7_e (y0 : List Nat) (y1 : List Nat) (y2 : Nat) (s : Int) : (loopStep (envT Try.prog C21 mtab0) L_sl05Out_l7 7 (loopC (bodyOf Try.f70) 7) (S_sl05Out_l7.enc (y0, y1, y2, s)).1 (S_sl05Out_l7.enc (y0, y1, y2, s)).2).to (stepD S_sl05Out_l7 X_sl05Out_l7) = (sl05Out_l7_t y0 y1 y2 s).map (Sum.map (fun s : Int => (show DR S_sl05Out_l7.hs from (y0, y1, y2, s))) id) := by kernel_rfl

theorem sl05Out_l7_r (x : DR S_sl05Out_l7.hs) : (sl05Out_l7 x.1 x.2.1 x.2.2.1 x.2.2.2 : Option (SumD (X_sl05Out_l7.map (·.2)))) = runL (meanS (envT Try.prog C21 mtab0) L_sl05Out_l7 7 (loopC (bodyOf Try.f70) 7) S_sl05Out_l7 X_sl05Out_l7) x := run_of (fun s : Int => (show DR S_sl05Out_l7.hs from (x.1, x.2.1, x.2.2.1, s))) (sl05Out_l7_e (x.1) (x.2.1) (x.2.2.1)) x.2.2.2

theorem sl05Out_l7_k (L : Loops) (hn : L_sl05Out_l7.n = L.n) (hlv : L_sl05Out_l7.lv 7 = L.lv 7) (hL : ∀ vs bs, L.loop 7 vs bs = toldL S_sl05Out_l7 X_sl05Out_l7 (fun x => sl05Out_l7 x.1 x.2.1 x.2.2.1 x.2.2.2) vs bs) : LOk Try.prog (envT Try.prog C21 mtab0) L 7 (loopC (bodyOf Try.f70) 7) := toldL_ok (L1 := L_sl05Out_l7) (envT_ok (C21_ok) (mtab0_ok _)) mixedO hn hlv (loopFree_ok (by kernel_rfl)) sl05Out_l7_r hL

def A_sl05Out : Shp := ⟨[.dpt [.h, .h] 0, .h], [], [.sl [.f .f32], .sl [.f .f32], .f .f32]⟩
def R_sl05Out : List XShp := [(.ret, ⟨[.h], [], [.f .f32]⟩)]

noncomputable def L_sl05Out : Loops := (⟨110, lvT [(7, [0, 1, 6])], mdT [], fun k vs bs => bif Nat.beq k 7 then toldL S_sl05Out_l7 X_sl05Out_l7 (fun x => sl05Out_l7 x.1 x.2.1 x.2.2.1 x.2.2.2) vs bs else .bad⟩ : Loops)

theorem sl05Out_e (x : DR A_sl05Out.hs) : (evFn (envT Try.prog C21 mtab0) L_sl05Out Try.f70 (A_sl05Out.enc x).1).to (fun q => decX R_sl05Out .ret [q.1] q.2) = sl05Out_t x.1 x.2.1 x.2.2 := by kernel_rfl

theorem sl05Out_m (x : DR A_sl05Out.hs) : meanF (envT Try.prog C21 mtab0) L_sl05Out Try.f70 A_sl05Out R_sl05Out x = (show Option (SumD (R_sl05Out.map (·.2))) from sl05Out x.1 x.2.1 x.2.2) := meanF_of (sl05Out_e x)

theorem sl05Out_ok : SpecOk Try.prog 70 (evFn (envT Try.prog C21 mtab0) L_sl05Out Try.f70) := fnL_ok (envT_ok (C21_ok) (mtab0_ok _)) mixedO Try.func70 (by kernel_rfl) (c := bodyOf Try.f70) (by kernel_rfl) (loopsL (l := [(7, loopC (bodyOf Try.f70) 7)]) (by kernel_rfl) (lk_cons (sl05Out_l7_k _ rfl rfl (fun _ _ => rfl)) lk_nil))

theorem sl05Out_told : SpecOk Try.prog 70 (toldO A_sl05Out R_sl05Out (fun x => sl05Out x.1 x.2.1 x.2.2) (C21 70)) := toldO_ok (by kernel_rfl) sl05Out_ok (rest_ok (C21_ok) _) sl05Out_m

noncomputable def C22 : Tab := tab 70 (toldO A_sl05Out R_sl05Out (fun x => sl05Out x.1 x.2.1 x.2.2) (C21 70)) C21
theorem C22_ok : TabOk Try.prog C22 := tab_ok (sl05Out_told) (C21_ok)

def S_sl05Store_l6 : Shp := ⟨[.dpt [.h, .h] 0, .h, .h, .h, .h, .h], [], [.sl [.f .f32], .sl [.f .f32], .f .f32, .f .f32, .f .f32, .f .f32, .i .i64]⟩
def X_sl05Store_l6 : List XShp := [(.exit 0, ⟨[.undef, .undef, .undef, .h, .undef, .undef], [], [.f .f32]⟩)]

noncomputable def L_sl05Store_l6 : Loops := (⟨70, lvT [(6, [0, 11, 12, 13, 14, 15])], mdT [(6, .exit 0, [], [0, 11, 12, 14, 15])], fun k vs bs => .bad⟩ : Loops)

theorem sl05Store_l6_e (y0 : List Nat) (y1 : List Nat) (y2 : Nat) (y3 : Nat) (s : Nat × Nat × Int) : (loopStep (envT Try.prog C22 mtab0) L_sl05Store_l6 6 (loopC (bodyOf Try.f78) 6) (S_sl05Store_l6.enc (y0, y1, y2, y3, s.1, s.2.1, s.2.2)).1 (S_sl05Store_l6.enc (y0, y1, y2, y3, s.1, s.2.1, s.2.2)).2).to (stepD S_sl05Store_l6 X_sl05Store_l6) = (sl05Store_l6_t y0 y1 y2 y3 s.1 s.2.1 s.2.2).map (Sum.map (fun s : Nat × Nat × Int => (show DR S_sl05Store_l6.hs from (y0, y1, y2, y3, s.1, s.2.1, s.2.2))) id) := by kernel_rfl

theorem sl05Store_l6_r (x : DR S_sl05Store_l6.hs) : (sl05Store_l6 x.1 x.2.1 x.2.2.1 x.2.2.2.1 x.2.2.2.2.1 x.2.2.2.2.2.1 x.2.2.2.2.2.2 : Option (SumD (X_sl05Store_l6.map (·.2)))) = runL (meanS (envT Try.prog C22 mtab0) L_sl05Store_l6 6 (loopC (bodyOf Try.f78) 6) S_sl05Store_l6 X_sl05Store_l6) x := run_of (fun s : Nat × Nat × Int => (show DR S_sl05Store_l6.hs from (x.1, x.2.1, x.2.2.1, x.2.2.2.1, s.1, s.2.1, s.2.2))) (sl05Store_l6_e (x.1) (x.2.1) (x.2.2.1) (x.2.2.2.1)) (x.2.2.2.2.1, x.2.2.2.2.2.1, x.2.2.2.2.2.2)

theorem sl05Store_l6_k (L : Loops) (hn : L_sl05Store_l6.n = L.n) (hlv : L_sl05Store_l6.lv 6 = L.lv 6) (hL : ∀ vs bs, L.loop 6 vs bs = toldL S_sl05Store_l6 X_sl05Store_l6 (fun x => sl05Store_l6 x.1 x.2.1 x.2.2.1 x.2.2.2.1 x.2.2.2.2.1 x.2.2.2.2.2.1 x.2.2.2.2.2.2) vs bs) : LOk Try.prog (envT Try.prog C22 mtab0) L 6 (loopC (bodyOf Try.f78) 6) := toldL_ok (L1 := L_sl05Store_l6) (envT_ok (C22_ok) (mtab0_ok _)) mixedO hn hlv (loopFree_ok (by kernel_rfl)) sl05Store_l6_r hL

def A_sl05Store : Shp := ⟨[.dpt [.h, .h] 0, .h, .h, .h, .h], [], [.sl [.f .f32], .sl [.f .f32], .f .f32, .f .f32, .f .f32, .f .f32]⟩
def R_sl05Store : List XShp := [(.ret, ⟨[.h], [], [.f .f32]⟩)]

noncomputable def L_sl05Store : Loops := (⟨70, lvT [(6, [0, 11, 12, 13, 14, 15])], mdT [(6, .exit 0, [], [0, 11, 12, 14, 15])], fun k vs bs => bif Nat.beq k 6 then toldL S_sl05Store_l6 X_sl05Store_l6 (fun x => sl05Store_l6 x.1 x.2.1 x.2.2.1 x.2.2.2.1 x.2.2.2.2.1 x.2.2.2.2.2.1 x.2.2.2.2.2.2) vs bs else .bad⟩ : Loops)

theorem sl05Store_e (x : DR A_sl05Store.hs) : (evFn (envT Try.prog C22 mtab0) L_sl05Store Try.f78 (A_sl05Store.enc x).1).to (fun q => decX R_sl05Store .ret [q.1] q.2) = sl05Store_t x.1 x.2.1 x.2.2.1 x.2.2.2.1 x.2.2.2.2.1 x.2.2.2.2.2 := by kernel_rfl

theorem sl05Store_m (x : DR A_sl05Store.hs) : meanF (envT Try.prog C22 mtab0) L_sl05Store Try.f78 A_sl05Store R_sl05Store x = (show Option (SumD (R_sl05Store.map (·.2))) from sl05Store x.1 x.2.1 x.2.2.1 x.2.2.2.1 x.2.2.2.2.1 x.2.2.2.2.2) := meanF_of (sl05Store_e x)

theorem sl05Store_ok : SpecOk Try.prog 78 (evFn (envT Try.prog C22 mtab0) L_sl05Store Try.f78) := fnL_ok (envT_ok (C22_ok) (mtab0_ok _)) mixedO Try.func78 (by kernel_rfl) (c := bodyOf Try.f78) (by kernel_rfl) (loopsL (l := [(6, loopC (bodyOf Try.f78) 6)]) (by kernel_rfl) (lk_cons (sl05Store_l6_k _ rfl rfl (fun _ _ => rfl)) lk_nil))

theorem sl05Store_told : SpecOk Try.prog 78 (toldO A_sl05Store R_sl05Store (fun x => sl05Store x.1 x.2.1 x.2.2.1 x.2.2.2.1 x.2.2.2.2.1 x.2.2.2.2.2) (C22 78)) := toldO_ok (by kernel_rfl) sl05Store_ok (rest_ok (C22_ok) _) sl05Store_m

noncomputable def C23 : Tab := tab 78 (toldO A_sl05Store R_sl05Store (fun x => sl05Store x.1 x.2.1 x.2.2.1 x.2.2.2.1 x.2.2.2.2.1 x.2.2.2.2.2) (C22 78)) C22
theorem C23_ok : TabOk Try.prog C23 := tab_ok (sl05Store_told) (C22_ok)

def S_sRouteLake_l6 : Shp := ⟨[.h, .h, .h, .ref 0 0, .undef, .undef, .undef, .slw 1 1, .slw 2 1, .h, .h], [.cells [.h, .h] false, .arr [.f .f32] false, .arr [.f .f32] false], [.f .f32, .sl [.f .f32], .f .f32, .i .i64, .i .i64, .sl [.f .f32], .sl [.f .f32], .sl [.f .f32], .sl [.f .f32]]⟩
def X_sRouteLake_l6 : List XShp := [(.ret, ⟨[.undef, .undef, .undef, .undef, .nils, .nils, .lb false, .undef, .undef, .undef, .undef], [], []⟩), (.exit 0, ⟨[.undef, .undef, .undef, .undef, .undef, .undef, .undef, .slw 0 1, .slw 1 1, .undef, .undef], [.arr [.f .f32] false, .arr [.f .f32] false], [.sl [.f .f32], .sl [.f .f32]]⟩)]

noncomputable def L_sRouteLake_l6 : Loops := (⟨74, lvT [(6, [1, 2, 3, 4, 8, 9, 10, 11, 12, 30, 31])], mdT [(6, .normal, [], [8, 9, 10]), (6, .exit 0, [], [1, 2, 3, 4, 8, 9, 10, 30, 31]), (6, .ret, [], [1, 2, 3, 4, 11, 12, 30, 31])], fun k vs bs => .bad⟩ : Loops)

theorem sRouteLake_l6_e (y1 : List Nat) (y2 : Nat) (y3 : Int) (y5 : List Nat) (y6 : List Nat) (s : Nat × Int × List Nat × List Nat) : (loopStep (envT Try.prog C23 mtab0) L_sRouteLake_l6 6 (loopC (bodyOf Try.f23) 6) (S_sRouteLake_l6.enc (s.1, y1, y2, y3, s.2.1, y5, y6, s.2.2.1, s.2.2.2)).1 (S_sRouteLake_l6.enc (s.1, y1, y2, y3, s.2.1, y5, y6, s.2.2.1, s.2.2.2)).2).to (stepD S_sRouteLake_l6 X_sRouteLake_l6) = (sRouteLake_l6_t y1 y2 y3 y5 y6 s.1 s.2.1 s.2.2.1 s.2.2.2).map (Sum.map (fun s : Nat × Int × List Nat × List Nat => (show DR S_sRouteLake_l6.hs from (s.1, y1, y2, y3, s.2.1, y5, y6, s.2.2.1, s.2.2.2))) id) := by kernel_rfl

theorem sRouteLake_l6_r (x : DR S_sRouteLake_l6.hs) : (sRouteLake_l6 x.1 x.2.1 x.2.2.1 x.2.2.2.1 x.2.2.2.2.1 x.2.2.2.2.2.1 x.2.2.2.2.2.2.1 x.2.2.2.2.2.2.2.1 x.2.2.2.2.2.2.2.2 : Option (SumD (X_sRouteLake_l6.map (·.2)))) = runL (meanS (envT Try.prog C23 mtab0) L_sRouteLake_l6 6 (loopC (bodyOf Try.f23) 6) S_sRouteLake_l6 X_sRouteLake_l6) x := run_of (fun s : Nat × Int × List Nat × List Nat => (show DR S_sRouteLake_l6.hs from (s.1, x.2.1, x.2.2.1, x.2.2.2.1, s.2.1, x.2.2.2.2.2.1, x.2.2.2.2.2.2.1, s.2.2.1, s.2.2.2))) (sRouteLake_l6_e (x.2.1) (x.2.2.1) (x.2.2.2.1) (x.2.2.2.2.2.1) (x.2.2.2.2.2.2.1)) (x.1, x.2.2.2.2.1, x.2.2.2.2.2.2.2.1, x.2.2.2.2.2.2.2.2)

theorem sRouteLake_l6_k (L : Loops) (hn : L_sRouteLake_l6.n = L.n) (hlv : L_sRouteLake_l6.lv 6 = L.lv 6) (hL : ∀ vs bs, L.loop 6 vs bs = toldL S_sRouteLake_l6 X_sRouteLake_l6 (fun x => sRouteLake_l6 x.1 x.2.1 x.2.2.1 x.2.2.2.1 x.2.2.2.2.1 x.2.2.2.2.2.1 x.2.2.2.2.2.2.1 x.2.2.2.2.2.2.2.1 x.2.2.2.2.2.2.2.2) vs bs) : LOk Try.prog (envT Try.prog C23 mtab0) L 6 (loopC (bodyOf Try.f23) 6) := toldL_ok (L1 := L_sRouteLake_l6) (envT_ok (C23_ok) (mtab0_ok _)) mixedO hn hlv (loopFree_ok (by kernel_rfl)) sRouteLake_l6_r hL

def A_sRouteLake : Shp := ⟨[.agg [.h, .h], .h, .h, .h], [], [.sl [.f .f32], .sl [.f .f32], .f .f32, .sl [.f .f32], .f .f32]⟩
def R_sRouteLake : List XShp := [(.ret, ⟨[.tup [.nils, .nils, .lb false]], [], []⟩), (.ret, ⟨[.tup [.slw 0 1, .slw 1 1, .lb true]], [.arr [.f .f32] false, .arr [.f .f32] false], [.sl [.f .f32], .sl [.f .f32]]⟩)]

noncomputable def L_sRouteLake : Loops := (⟨74, lvT [(6, [1, 2, 3, 4, 8, 9, 10, 11, 12, 30, 31])], mdT [(6, .normal, [], [8, 9, 10]), (6, .exit 0, [], [1, 2, 3, 4, 8, 9, 10, 30, 31]), (6, .ret, [], [1, 2, 3, 4, 11, 12, 30, 31])], fun k vs bs => bif Nat.beq k 6 then toldL S_sRouteLake_l6 X_sRouteLake_l6 (fun x => sRouteLake_l6 x.1 x.2.1 x.2.2.1 x.2.2.2.1 x.2.2.2.2.1 x.2.2.2.2.2.1 x.2.2.2.2.2.2.1 x.2.2.2.2.2.2.2.1 x.2.2.2.2.2.2.2.2) vs bs else .bad⟩ : Loops)

theorem sRouteLake_e (x : DR A_sRouteLake.hs) : (evFn (envT Try.prog C23 mtab0) L_sRouteLake Try.f23 (A_sRouteLake.enc x).1).to (fun q => decX R_sRouteLake .ret [q.1] q.2) = sRouteLake_t x.1 x.2.1 x.2.2.1 x.2.2.2.1 x.2.2.2.2 := by kernel_rfl

theorem sRouteLake_m (x : DR A_sRouteLake.hs) : meanF (envT Try.prog C23 mtab0) L_sRouteLake Try.f23 A_sRouteLake R_sRouteLake x = (show Option (SumD (R_sRouteLake.map (·.2))) from sRouteLake x.1 x.2.1 x.2.2.1 x.2.2.2.1 x.2.2.2.2) := meanF_of (sRouteLake_e x)

theorem sRouteLake_ok : SpecOk Try.prog 23 (evFn (envT Try.prog C23 mtab0) L_sRouteLake Try.f23) := fnL_ok (envT_ok (C23_ok) (mtab0_ok _)) mixedO Try.func23 (by kernel_rfl) (c := bodyOf Try.f23) (by kernel_rfl) (loopsL (l := [(6, loopC (bodyOf Try.f23) 6)]) (by kernel_rfl) (lk_cons (sRouteLake_l6_k _ rfl rfl (fun _ _ => rfl)) lk_nil))

theorem sRouteLake_told : SpecOk Try.prog 23 (toldO A_sRouteLake R_sRouteLake (fun x => sRouteLake x.1 x.2.1 x.2.2.1 x.2.2.2.1 x.2.2.2.2) (C23 23)) := toldO_ok (by kernel_rfl) sRouteLake_ok (rest_ok (C23_ok) _) sRouteLake_m

noncomputable def C24 : Tab := tab 23 (toldO A_sRouteLake R_sRouteLake (fun x => sRouteLake x.1 x.2.1 x.2.2.1 x.2.2.2.1 x.2.2.2.2) (C23 23)) C23
theorem C24_ok : TabOk Try.prog C24 := tab_ok (sRouteLake_told) (C23_ok)

def A_iwithin : Shp := ⟨[.h, .h, .h], [], [.i .i64, .i .i64, .i .i64]⟩
def R_iwithin : List XShp := [(.ret, ⟨[.h], [], [.b]⟩)]

theorem iwithin_e (x : DR A_iwithin.hs) : (evFn (envT Try.prog C24 mtab0) noLoops Try.f96 (A_iwithin.enc x).1).to (fun q => decX R_iwithin .ret [q.1] q.2) = iwithin_t x.1 x.2.1 x.2.2 := by kernel_rfl

theorem iwithin_m (x : DR A_iwithin.hs) : meanF (envT Try.prog C24 mtab0) noLoops Try.f96 A_iwithin R_iwithin x = some (show SumD (R_iwithin.map (·.2)) from iwithin x.1 x.2.1 x.2.2) := @meanF_tot _ _ _ _ _ _ _ (iwithin_e x) (show Inhabited (Bool) from inferInstance) (by kernel_rfl)

theorem iwithin_ok : SpecOk Try.prog 96 (evFn (envT Try.prog C24 mtab0) noLoops Try.f96) := fnL_ok (envT_ok (C24_ok) (mtab0_ok _)) mixedO Try.func96 (by kernel_rfl) (c := bodyOf Try.f96) (by kernel_rfl) (loopFree_ok (by kernel_rfl))

theorem iwithin_told : SpecOk Try.prog 96 (toldT A_iwithin R_iwithin (fun x => iwithin x.1 x.2.1 x.2.2) (C24 96)) := toldT_ok (by kernel_rfl) iwithin_ok (rest_ok (C24_ok) _) iwithin_m

noncomputable def C25 : Tab := tab 96 (toldT A_iwithin R_iwithin (fun x => iwithin x.1 x.2.1 x.2.2) (C24 96)) C24
theorem C25_ok : TabOk Try.prog C25 := tab_ok (iwithin_told) (C24_ok)

def A_iareMasses_1 : Shp := ⟨[.h], [], [.f .f32]⟩
def R_iareMasses_1 : List XShp := [(.ret, ⟨[.h], [], [.b]⟩)]

theorem iareMasses_1_e (x : DR A_iareMasses_1.hs) : (evFn (envT Try.prog C25 mtab0) noLoops Try.f124 (A_iareMasses_1.enc x).1).to (fun q => decX R_iareMasses_1 .ret [q.1] q.2) = iareMasses_1_t x := by kernel_rfl

theorem iareMasses_1_m (x : DR A_iareMasses_1.hs) : meanF (envT Try.prog C25 mtab0) noLoops Try.f124 A_iareMasses_1 R_iareMasses_1 x = some (show SumD (R_iareMasses_1.map (·.2)) from iareMasses_1 x) := @meanF_tot _ _ _ _ _ _ _ (iareMasses_1_e x) (show Inhabited (Bool) from inferInstance) (by kernel_rfl)

theorem iareMasses_1_ok : SpecOk Try.prog 124 (evFn (envT Try.prog C25 mtab0) noLoops Try.f124) := fnL_ok (envT_ok (C25_ok) (mtab0_ok _)) mixedO Try.func124 (by kernel_rfl) (c := bodyOf Try.f124) (by kernel_rfl) (loopFree_ok (by kernel_rfl))

theorem iareMasses_1_told : SpecOk Try.prog 124 (toldT A_iareMasses_1 R_iareMasses_1 (fun x => iareMasses_1 x) (C25 124)) := toldT_ok (by kernel_rfl) iareMasses_1_ok (rest_ok (C25_ok) _) iareMasses_1_m

noncomputable def C26 : Tab := tab 124 (toldT A_iareMasses_1 R_iareMasses_1 (fun x => iareMasses_1 x) (C25 124)) C25
theorem C26_ok : TabOk Try.prog C26 := tab_ok (iareMasses_1_told) (C25_ok)

def S_lIndexFunc_iareMasses_1_l2 : Shp := ⟨[.h, .fn 124 [], .undef, .h, .h], [], [.sl [.f .f32], .i .i64, .i .i64]⟩
def X_lIndexFunc_iareMasses_1_l2 : List XShp := [(.ret, ⟨[.undef, .undef, .h, .undef, .undef], [], [.i .i64]⟩), (.exit 0, ⟨[.undef, .undef, .undef, .undef, .undef], [], []⟩)]

noncomputable def L_lIndexFunc_iareMasses_1_l2 : Loops := (⟨19, lvT [(2, [0, 1, 4, 7, 8])], mdT [(2, .normal, [], [4]), (2, .exit 0, [], [0, 1, 4, 7, 8]), (2, .ret, [], [0, 1, 7, 8])], fun k vs bs => .bad⟩ : Loops)

theorem lIndexFunc_iareMasses_1_l2_e (y0 : List Nat) (y1 : Int) (s : Int) : (loopStep (envT Try.prog C26 mtab0) L_lIndexFunc_iareMasses_1_l2 2 (loopC (bodyOf Try.f121) 2) (S_lIndexFunc_iareMasses_1_l2.enc (y0, y1, s)).1 (S_lIndexFunc_iareMasses_1_l2.enc (y0, y1, s)).2).to (stepD S_lIndexFunc_iareMasses_1_l2 X_lIndexFunc_iareMasses_1_l2) = (lIndexFunc_iareMasses_1_l2_t y0 y1 s).map (Sum.map (fun s : Int => (show DR S_lIndexFunc_iareMasses_1_l2.hs from (y0, y1, s))) id) := by kernel_rfl

theorem lIndexFunc_iareMasses_1_l2_r (x : DR S_lIndexFunc_iareMasses_1_l2.hs) : (lIndexFunc_iareMasses_1_l2 x.1 x.2.1 x.2.2 : Option (SumD (X_lIndexFunc_iareMasses_1_l2.map (·.2)))) = runL (meanS (envT Try.prog C26 mtab0) L_lIndexFunc_iareMasses_1_l2 2 (loopC (bodyOf Try.f121) 2) S_lIndexFunc_iareMasses_1_l2 X_lIndexFunc_iareMasses_1_l2) x := run_of (fun s : Int => (show DR S_lIndexFunc_iareMasses_1_l2.hs from (x.1, x.2.1, s))) (lIndexFunc_iareMasses_1_l2_e (x.1) (x.2.1)) x.2.2

theorem lIndexFunc_iareMasses_1_l2_k (L : Loops) (hn : L_lIndexFunc_iareMasses_1_l2.n = L.n) (hlv : L_lIndexFunc_iareMasses_1_l2.lv 2 = L.lv 2) (hL : ∀ vs bs, L.loop 2 vs bs = toldL S_lIndexFunc_iareMasses_1_l2 X_lIndexFunc_iareMasses_1_l2 (fun x => lIndexFunc_iareMasses_1_l2 x.1 x.2.1 x.2.2) vs bs) : LOk Try.prog (envT Try.prog C26 mtab0) L 2 (loopC (bodyOf Try.f121) 2) := toldL_ok (L1 := L_lIndexFunc_iareMasses_1_l2) (envT_ok (C26_ok) (mtab0_ok _)) mixedO hn hlv (loopFree_ok (by kernel_rfl)) lIndexFunc_iareMasses_1_l2_r hL

def A_lIndexFunc_iareMasses_1 : Shp := ⟨[.h, .fn 124 []], [], [.sl [.f .f32]]⟩
def R_lIndexFunc_iareMasses_1 : List XShp := [(.ret, ⟨[.h], [], [.i .i64]⟩)]

noncomputable def L_lIndexFunc_iareMasses_1 : Loops := (⟨19, lvT [(2, [0, 1, 4, 7, 8])], mdT [(2, .normal, [], [4]), (2, .exit 0, [], [0, 1, 4, 7, 8]), (2, .ret, [], [0, 1, 7, 8])], fun k vs bs => bif Nat.beq k 2 then toldL S_lIndexFunc_iareMasses_1_l2 X_lIndexFunc_iareMasses_1_l2 (fun x => lIndexFunc_iareMasses_1_l2 x.1 x.2.1 x.2.2) vs bs else .bad⟩ : Loops)

theorem lIndexFunc_iareMasses_1_e (x : DR A_lIndexFunc_iareMasses_1.hs) : (evFn (envT Try.prog C26 mtab0) L_lIndexFunc_iareMasses_1 Try.f121 (A_lIndexFunc_iareMasses_1.enc x).1).to (fun q => decX R_lIndexFunc_iareMasses_1 .ret [q.1] q.2) = lIndexFunc_iareMasses_1_t x := by kernel_rfl

theorem lIndexFunc_iareMasses_1_m (x : DR A_lIndexFunc_iareMasses_1.hs) : meanF (envT Try.prog C26 mtab0) L_lIndexFunc_iareMasses_1 Try.f121 A_lIndexFunc_iareMasses_1 R_lIndexFunc_iareMasses_1 x = (show Option (SumD (R_lIndexFunc_iareMasses_1.map (·.2))) from lIndexFunc_iareMasses_1 x) := meanF_of (lIndexFunc_iareMasses_1_e x)

theorem lIndexFunc_iareMasses_1_ok : SpecOk Try.prog 121 (evFn (envT Try.prog C26 mtab0) L_lIndexFunc_iareMasses_1 Try.f121) := fnL_ok (envT_ok (C26_ok) (mtab0_ok _)) mixedO Try.func121 (by kernel_rfl) (c := bodyOf Try.f121) (by kernel_rfl) (loopsL (l := [(2, loopC (bodyOf Try.f121) 2)]) (by kernel_rfl) (lk_cons (lIndexFunc_iareMasses_1_l2_k _ rfl rfl (fun _ _ => rfl)) lk_nil))

theorem lIndexFunc_iareMasses_1_told : SpecOk Try.prog 121 (toldO A_lIndexFunc_iareMasses_1 R_lIndexFunc_iareMasses_1 (fun x => lIndexFunc_iareMasses_1 x) (C26 121)) := toldO_ok (by kernel_rfl) lIndexFunc_iareMasses_1_ok (rest_ok (C26_ok) _) lIndexFunc_iareMasses_1_m

noncomputable def C27 : Tab := tab 121 (toldO A_lIndexFunc_iareMasses_1 R_lIndexFunc_iareMasses_1 (fun x => lIndexFunc_iareMasses_1 x) (C26 121)) C26
theorem C27_ok : TabOk Try.prog C27 := tab_ok (lIndexFunc_iareMasses_1_told) (C26_ok)

def A_lContainsFunc_iareMasses_1 : Shp := ⟨[.h, .fn 124 []], [], [.sl [.f .f32]]⟩
def R_lContainsFunc_iareMasses_1 : List XShp := [(.ret, ⟨[.h], [], [.b]⟩)]

theorem lContainsFunc_iareMasses_1_e (x : DR A_lContainsFunc_iareMasses_1.hs) : (evFn (envT Try.prog C27 mtab0) noLoops Try.f123 (A_lContainsFunc_iareMasses_1.enc x).1).to (fun q => decX R_lContainsFunc_iareMasses_1 .ret [q.1] q.2) = lContainsFunc_iareMasses_1_t x := by kernel_rfl

theorem lContainsFunc_iareMasses_1_m (x : DR A_lContainsFunc_iareMasses_1.hs) : meanF (envT Try.prog C27 mtab0) noLoops Try.f123 A_lContainsFunc_iareMasses_1 R_lContainsFunc_iareMasses_1 x = (show Option (SumD (R_lContainsFunc_iareMasses_1.map (·.2))) from lContainsFunc_iareMasses_1 x) := meanF_of (lContainsFunc_iareMasses_1_e x)

theorem lContainsFunc_iareMasses_1_ok : SpecOk Try.prog 123 (evFn (envT Try.prog C27 mtab0) noLoops Try.f123) := fnL_ok (envT_ok (C27_ok) (mtab0_ok _)) mixedO Try.func123 (by kernel_rfl) (c := bodyOf Try.f123) (by kernel_rfl) (loopFree_ok (by kernel_rfl))

theorem lContainsFunc_iareMasses_1_told : SpecOk Try.prog 123 (toldO A_lContainsFunc_iareMasses_1 R_lContainsFunc_iareMasses_1 (fun x => lContainsFunc_iareMasses_1 x) (C27 123)) := toldO_ok (by kernel_rfl) lContainsFunc_iareMasses_1_ok (rest_ok (C27_ok) _) lContainsFunc_iareMasses_1_m

noncomputable def C28 : Tab := tab 123 (toldO A_lContainsFunc_iareMasses_1 R_lContainsFunc_iareMasses_1 (fun x => lContainsFunc_iareMasses_1 x) (C27 123)) C27
theorem C28_ok : TabOk Try.prog C28 := tab_ok (lContainsFunc_iareMasses_1_told) (C27_ok)

def A_iareMasses : Shp := ⟨[.h], [], [.sl [.f .f32]]⟩
def R_iareMasses : List XShp := [(.ret, ⟨[.h], [], [.b]⟩)]

theorem iareMasses_e (x : DR A_iareMasses.hs) : (evFn (envT Try.prog C28 mtab0) noLoops Try.f80 (A_iareMasses.enc x).1).to (fun q => decX R_iareMasses .ret [q.1] q.2) = iareMasses_t x := by kernel_rfl

theorem iareMasses_m (x : DR A_iareMasses.hs) : meanF (envT Try.prog C28 mtab0) noLoops Try.f80 A_iareMasses R_iareMasses x = (show Option (SumD (R_iareMasses.map (·.2))) from iareMasses x) := meanF_of (iareMasses_e x)

theorem iareMasses_ok : SpecOk Try.prog 80 (evFn (envT Try.prog C28 mtab0) noLoops Try.f80) := fnL_ok (envT_ok (C28_ok) (mtab0_ok _)) mixedO Try.func80 (by kernel_rfl) (c := bodyOf Try.f80) (by kernel_rfl) (loopFree_ok (by kernel_rfl))

theorem iareMasses_told : SpecOk Try.prog 80 (toldO A_iareMasses R_iareMasses (fun x => iareMasses x) (C28 80)) := toldO_ok (by kernel_rfl) iareMasses_ok (rest_ok (C28_ok) _) iareMasses_m

noncomputable def C29 : Tab := tab 80 (toldO A_iareMasses R_iareMasses (fun x => iareMasses x) (C28 80)) C28
theorem C29_ok : TabOk Try.prog C29 := tab_ok (iareMasses_told) (C28_ok)

def S_iValidLake_l4 : Shp := ⟨[.ref 0 0, .undef, .h], [.cells [.h, .h] false], [.i .i64, .sl [.f .f32], .sl [.f .f32]]⟩
def X_iValidLake_l4 : List XShp := [(.ret, ⟨[.undef, .lb false, .undef], [], []⟩), (.exit 0, ⟨[.undef, .undef, .undef], [], []⟩)]

noncomputable def L_iValidLake_l4 : Loops := (⟨64, lvT [(4, [1, 2, 3])], mdT [(4, .normal, [], [2]), (4, .exit 0, [], [1, 2, 3]), (4, .ret, [], [1, 3])], fun k vs bs => .bad⟩ : Loops)

theorem iValidLake_l4_e (y1 : List Nat) (y2 : List Nat) (s : Int) : (loopStep (envT Try.prog C29 mtab0) L_iValidLake_l4 4 (loopC (bodyOf Try.f71) 4) (S_iValidLake_l4.enc (s, y1, y2)).1 (S_iValidLake_l4.enc (s, y1, y2)).2).to (stepD S_iValidLake_l4 X_iValidLake_l4) = (iValidLake_l4_t y1 y2 s).map (Sum.map (fun s : Int => (show DR S_iValidLake_l4.hs from (s, y1, y2))) id) := by kernel_rfl

theorem iValidLake_l4_r (x : DR S_iValidLake_l4.hs) : (iValidLake_l4 x.1 x.2.1 x.2.2 : Option (SumD (X_iValidLake_l4.map (·.2)))) = runL (meanS (envT Try.prog C29 mtab0) L_iValidLake_l4 4 (loopC (bodyOf Try.f71) 4) S_iValidLake_l4 X_iValidLake_l4) x := run_of (fun s : Int => (show DR S_iValidLake_l4.hs from (s, x.2.1, x.2.2))) (iValidLake_l4_e (x.2.1) (x.2.2)) x.1

theorem iValidLake_l4_k (L : Loops) (hn : L_iValidLake_l4.n = L.n) (hlv : L_iValidLake_l4.lv 4 = L.lv 4) (hL : ∀ vs bs, L.loop 4 vs bs = toldL S_iValidLake_l4 X_iValidLake_l4 (fun x => iValidLake_l4 x.1 x.2.1 x.2.2) vs bs) : LOk Try.prog (envT Try.prog C29 mtab0) L 4 (loopC (bodyOf Try.f71) 4) := toldL_ok (L1 := L_iValidLake_l4) (envT_ok (C29_ok) (mtab0_ok _)) mixedO hn hlv (loopFree_ok (by kernel_rfl)) iValidLake_l4_r hL

def A_iValidLake : Shp := ⟨[.agg [.h, .h]], [], [.sl [.f .f32], .sl [.f .f32]]⟩
def R_iValidLake : List XShp := [(.ret, ⟨[.h], [], [.b]⟩)]

noncomputable def L_iValidLake : Loops := (⟨64, lvT [(4, [1, 2, 3])], mdT [(4, .normal, [], [2]), (4, .exit 0, [], [1, 2, 3]), (4, .ret, [], [1, 3])], fun k vs bs => bif Nat.beq k 4 then toldL S_iValidLake_l4 X_iValidLake_l4 (fun x => iValidLake_l4 x.1 x.2.1 x.2.2) vs bs else .bad⟩ : Loops)

theorem iValidLake_e (x : DR A_iValidLake.hs) : (evFn (envT Try.prog C29 mtab0) L_iValidLake Try.f71 (A_iValidLake.enc x).1).to (fun q => decX R_iValidLake .ret [q.1] q.2) = iValidLake_t x.1 x.2 := by kernel_rfl

theorem iValidLake_m (x : DR A_iValidLake.hs) : meanF (envT Try.prog C29 mtab0) L_iValidLake Try.f71 A_iValidLake R_iValidLake x = (show Option (SumD (R_iValidLake.map (·.2))) from iValidLake x.1 x.2) := meanF_of (iValidLake_e x)

theorem iValidLake_ok : SpecOk Try.prog 71 (evFn (envT Try.prog C29 mtab0) L_iValidLake Try.f71) := fnL_ok (envT_ok (C29_ok) (mtab0_ok _)) mixedO Try.func71 (by kernel_rfl) (c := bodyOf Try.f71) (by kernel_rfl) (loopsL (l := [(4, loopC (bodyOf Try.f71) 4)]) (by kernel_rfl) (lk_cons (iValidLake_l4_k _ rfl rfl (fun _ _ => rfl)) lk_nil))

theorem iValidLake_told : SpecOk Try.prog 71 (toldO A_iValidLake R_iValidLake (fun x => iValidLake x.1 x.2) (C29 71)) := toldO_ok (by kernel_rfl) iValidLake_ok (rest_ok (C29_ok) _) iValidLake_m

noncomputable def C30 : Tab := tab 71 (toldO A_iValidLake R_iValidLake (fun x => iValidLake x.1 x.2) (C29 71)) C29
theorem C30_ok : TabOk Try.prog C30 := tab_ok (iValidLake_told) (C29_ok)

def A_iLake_isStore : Shp := ⟨[.agg [.h, .h], .h], [], [.sl [.f .f32], .sl [.f .f32], .f .f32]⟩
def R_iLake_isStore : List XShp := [(.ret, ⟨[.h], [], [.b]⟩)]

theorem iLake_isStore_e (x : DR A_iLake_isStore.hs) : (evFn (envT Try.prog C30 mtab0) noLoops Try.f79 (A_iLake_isStore.enc x).1).to (fun q => decX R_iLake_isStore .ret [q.1] q.2) = iLake_isStore_t x.1 x.2.1 x.2.2 := by kernel_rfl

theorem iLake_isStore_m (x : DR A_iLake_isStore.hs) : meanF (envT Try.prog C30 mtab0) noLoops Try.f79 A_iLake_isStore R_iLake_isStore x = (show Option (SumD (R_iLake_isStore.map (·.2))) from iLake_isStore x.1 x.2.1 x.2.2) := meanF_of (iLake_isStore_e x)

theorem iLake_isStore_ok : SpecOk Try.prog 79 (evFn (envT Try.prog C30 mtab0) noLoops Try.f79) := fnL_ok (envT_ok (C30_ok) (mtab0_ok _)) mixedO Try.func79 (by kernel_rfl) (c := bodyOf Try.f79) (by kernel_rfl) (loopFree_ok (by kernel_rfl))

theorem iLake_isStore_told : SpecOk Try.prog 79 (toldO A_iLake_isStore R_iLake_isStore (fun x => iLake_isStore x.1 x.2.1 x.2.2) (C30 79)) := toldO_ok (by kernel_rfl) iLake_isStore_ok (rest_ok (C30_ok) _) iLake_isStore_m

noncomputable def C31 : Tab := tab 79 (toldO A_iLake_isStore R_iLake_isStore (fun x => iLake_isStore x.1 x.2.1 x.2.2) (C30 79)) C30
theorem C31_ok : TabOk Try.prog C31 := tab_ok (iLake_isStore_told) (C30_ok)

def A_iareFinite_1 : Shp := ⟨[.h], [], [.f .f32]⟩
def R_iareFinite_1 : List XShp := [(.ret, ⟨[.h], [], [.b]⟩)]

theorem iareFinite_1_e (x : DR A_iareFinite_1.hs) : (evFn (envT Try.prog C31 mtab0) noLoops Try.f127 (A_iareFinite_1.enc x).1).to (fun q => decX R_iareFinite_1 .ret [q.1] q.2) = iareFinite_1_t x := by kernel_rfl

theorem iareFinite_1_m (x : DR A_iareFinite_1.hs) : meanF (envT Try.prog C31 mtab0) noLoops Try.f127 A_iareFinite_1 R_iareFinite_1 x = some (show SumD (R_iareFinite_1.map (·.2)) from iareFinite_1 x) := @meanF_tot _ _ _ _ _ _ _ (iareFinite_1_e x) (show Inhabited (Bool) from inferInstance) (by kernel_rfl)

theorem iareFinite_1_ok : SpecOk Try.prog 127 (evFn (envT Try.prog C31 mtab0) noLoops Try.f127) := fnL_ok (envT_ok (C31_ok) (mtab0_ok _)) mixedO Try.func127 (by kernel_rfl) (c := bodyOf Try.f127) (by kernel_rfl) (loopFree_ok (by kernel_rfl))

theorem iareFinite_1_told : SpecOk Try.prog 127 (toldT A_iareFinite_1 R_iareFinite_1 (fun x => iareFinite_1 x) (C31 127)) := toldT_ok (by kernel_rfl) iareFinite_1_ok (rest_ok (C31_ok) _) iareFinite_1_m

noncomputable def C32 : Tab := tab 127 (toldT A_iareFinite_1 R_iareFinite_1 (fun x => iareFinite_1 x) (C31 127)) C31
theorem C32_ok : TabOk Try.prog C32 := tab_ok (iareFinite_1_told) (C31_ok)

def S_lIndexFunc_iareFinite_1_l2 : Shp := ⟨[.h, .fn 127 [], .undef, .h, .h], [], [.sl [.f .f32], .i .i64, .i .i64]⟩
def X_lIndexFunc_iareFinite_1_l2 : List XShp := [(.ret, ⟨[.undef, .undef, .h, .undef, .undef], [], [.i .i64]⟩), (.exit 0, ⟨[.undef, .undef, .undef, .undef, .undef], [], []⟩)]

noncomputable def L_lIndexFunc_iareFinite_1_l2 : Loops := (⟨19, lvT [(2, [0, 1, 4, 7, 8])], mdT [(2, .normal, [], [4]), (2, .exit 0, [], [0, 1, 4, 7, 8]), (2, .ret, [], [0, 1, 7, 8])], fun k vs bs => .bad⟩ : Loops)

theorem lIndexFunc_iareFinite_1_l2_e (y0 : List Nat) (y1 : Int) (s : Int) : (loopStep (envT Try.prog C32 mtab0) L_lIndexFunc_iareFinite_1_l2 2 (loopC (bodyOf Try.f121) 2) (S_lIndexFunc_iareFinite_1_l2.enc (y0, y1, s)).1 (S_lIndexFunc_iareFinite_1_l2.enc (y0, y1, s)).2).to (stepD S_lIndexFunc_iareFinite_1_l2 X_lIndexFunc_iareFinite_1_l2) = (lIndexFunc_iareFinite_1_l2_t y0 y1 s).map (Sum.map (fun s : Int => (show DR S_lIndexFunc_iareFinite_1_l2.hs from (y0, y1, s))) id) := by kernel_rfl

theorem lIndexFunc_iareFinite_1_l2_r (x : DR S_lIndexFunc_iareFinite_1_l2.hs) : (lIndexFunc_iareFinite_1_l2 x.1 x.2.1 x.2.2 : Option (SumD (X_lIndexFunc_iareFinite_1_l2.map (·.2)))) = runL (meanS (envT Try.prog C32 mtab0) L_lIndexFunc_iareFinite_1_l2 2 (loopC (bodyOf Try.f121) 2) S_lIndexFunc_iareFinite_1_l2 X_lIndexFunc_iareFinite_1_l2) x := run_of (fun s : Int => (show DR S_lIndexFunc_iareFinite_1_l2.hs from (x.1, x.2.1, s))) (lIndexFunc_iareFinite_1_l2_e (x.1) (x.2.1)) x.2.2

theorem lIndexFunc_iareFinite_1_l2_k (L : Loops) (hn : L_lIndexFunc_iareFinite_1_l2.n = L.n) (hlv : L_lIndexFunc_iareFinite_1_l2.lv 2 = L.lv 2) (hL : ∀ vs bs, L.loop 2 vs bs = toldL S_lIndexFunc_iareFinite_1_l2 X_lIndexFunc_iareFinite_1_l2 (fun x => lIndexFunc_iareFinite_1_l2 x.1 x.2.1 x.2.2) vs bs) : LOk Try.prog (envT Try.prog C32 mtab0) L 2 (loopC (bodyOf Try.f121) 2) := toldL_ok (L1 := L_lIndexFunc_iareFinite_1_l2) (envT_ok (C32_ok) (mtab0_ok _)) mixedO hn hlv (loopFree_ok (by kernel_rfl)) lIndexFunc_iareFinite_1_l2_r hL

def A_lIndexFunc_iareFinite_1 : Shp := ⟨[.h, .fn 127 []], [], [.sl [.f .f32]]⟩
def R_lIndexFunc_iareFinite_1 : List XShp := [(.ret, ⟨[.h], [], [.i .i64]⟩)]

noncomputable def L_lIndexFunc_iareFinite_1 : Loops := (⟨19, lvT [(2, [0, 1, 4, 7, 8])], mdT [(2, .normal, [], [4]), (2, .exit 0, [], [0, 1, 4, 7, 8]), (2, .ret, [], [0, 1, 7, 8])], fun k vs bs => bif Nat.beq k 2 then toldL S_lIndexFunc_iareFinite_1_l2 X_lIndexFunc_iareFinite_1_l2 (fun x => lIndexFunc_iareFinite_1_l2 x.1 x.2.1 x.2.2) vs bs else .bad⟩ : Loops)

theorem lIndexFunc_iareFinite_1_e (x : DR A_lIndexFunc_iareFinite_1.hs) : (evFn (envT Try.prog C32 mtab0) L_lIndexFunc_iareFinite_1 Try.f121 (A_lIndexFunc_iareFinite_1.enc x).1).to (fun q => decX R_lIndexFunc_iareFinite_1 .ret [q.1] q.2) = lIndexFunc_iareFinite_1_t x := by kernel_rfl

theorem lIndexFunc_iareFinite_1_m (x : DR A_lIndexFunc_iareFinite_1.hs) : meanF (envT Try.prog C32 mtab0) L_lIndexFunc_iareFinite_1 Try.f121 A_lIndexFunc_iareFinite_1 R_lIndexFunc_iareFinite_1 x = (show Option (SumD (R_lIndexFunc_iareFinite_1.map (·.2))) from lIndexFunc_iareFinite_1 x) := meanF_of (lIndexFunc_iareFinite_1_e x)

theorem lIndexFunc_iareFinite_1_ok : SpecOk Try.prog 121 (evFn (envT Try.prog C32 mtab0) L_lIndexFunc_iareFinite_1 Try.f121) := fnL_ok (envT_ok (C32_ok) (mtab0_ok _)) mixedO Try.func121 (by kernel_rfl) (c := bodyOf Try.f121) (by kernel_rfl) (loopsL (l := [(2, loopC (bodyOf Try.f121) 2)]) (by kernel_rfl) (lk_cons (lIndexFunc_iareFinite_1_l2_k _ rfl rfl (fun _ _ => rfl)) lk_nil))

theorem lIndexFunc_iareFinite_1_told : SpecOk Try.prog 121 (toldO A_lIndexFunc_iareFinite_1 R_lIndexFunc_iareFinite_1 (fun x => lIndexFunc_iareFinite_1 x) (C32 121)) := toldO_ok (by kernel_rfl) lIndexFunc_iareFinite_1_ok (rest_ok (C32_ok) _) lIndexFunc_iareFinite_1_m

noncomputable def C33 : Tab := tab 121 (toldO A_lIndexFunc_iareFinite_1 R_lIndexFunc_iareFinite_1 (fun x => lIndexFunc_iareFinite_1 x) (C32 121)) C32
theorem C33_ok : TabOk Try.prog C33 := tab_ok (lIndexFunc_iareFinite_1_told) (C32_ok)

def A_lContainsFunc_iareFinite_1 : Shp := ⟨[.h, .fn 127 []], [], [.sl [.f .f32]]⟩
def R_lContainsFunc_iareFinite_1 : List XShp := [(.ret, ⟨[.h], [], [.b]⟩)]

theorem lContainsFunc_iareFinite_1_e (x : DR A_lContainsFunc_iareFinite_1.hs) : (evFn (envT Try.prog C33 mtab0) noLoops Try.f123 (A_lContainsFunc_iareFinite_1.enc x).1).to (fun q => decX R_lContainsFunc_iareFinite_1 .ret [q.1] q.2) = lContainsFunc_iareFinite_1_t x := by kernel_rfl

theorem lContainsFunc_iareFinite_1_m (x : DR A_lContainsFunc_iareFinite_1.hs) : meanF (envT Try.prog C33 mtab0) noLoops Try.f123 A_lContainsFunc_iareFinite_1 R_lContainsFunc_iareFinite_1 x = (show Option (SumD (R_lContainsFunc_iareFinite_1.map (·.2))) from lContainsFunc_iareFinite_1 x) := meanF_of (lContainsFunc_iareFinite_1_e x)

theorem lContainsFunc_iareFinite_1_ok : SpecOk Try.prog 123 (evFn (envT Try.prog C33 mtab0) noLoops Try.f123) := fnL_ok (envT_ok (C33_ok) (mtab0_ok _)) mixedO Try.func123 (by kernel_rfl) (c := bodyOf Try.f123) (by kernel_rfl) (loopFree_ok (by kernel_rfl))

theorem lContainsFunc_iareFinite_1_told : SpecOk Try.prog 123 (toldO A_lContainsFunc_iareFinite_1 R_lContainsFunc_iareFinite_1 (fun x => lContainsFunc_iareFinite_1 x) (C33 123)) := toldO_ok (by kernel_rfl) lContainsFunc_iareFinite_1_ok (rest_ok (C33_ok) _) lContainsFunc_iareFinite_1_m

noncomputable def C34 : Tab := tab 123 (toldO A_lContainsFunc_iareFinite_1 R_lContainsFunc_iareFinite_1 (fun x => lContainsFunc_iareFinite_1 x) (C33 123)) C33
theorem C34_ok : TabOk Try.prog C34 := tab_ok (lContainsFunc_iareFinite_1_told) (C33_ok)

def A_iareFinite : Shp := ⟨[.h], [], [.sl [.f .f32]]⟩
def R_iareFinite : List XShp := [(.ret, ⟨[.h], [], [.b]⟩)]

theorem iareFinite_e (x : DR A_iareFinite.hs) : (evFn (envT Try.prog C34 mtab0) noLoops Try.f90 (A_iareFinite.enc x).1).to (fun q => decX R_iareFinite .ret [q.1] q.2) = iareFinite_t x := by kernel_rfl

theorem iareFinite_m (x : DR A_iareFinite.hs) : meanF (envT Try.prog C34 mtab0) noLoops Try.f90 A_iareFinite R_iareFinite x = (show Option (SumD (R_iareFinite.map (·.2))) from iareFinite x) := meanF_of (iareFinite_e x)

theorem iareFinite_ok : SpecOk Try.prog 90 (evFn (envT Try.prog C34 mtab0) noLoops Try.f90) := fnL_ok (envT_ok (C34_ok) (mtab0_ok _)) mixedO Try.func90 (by kernel_rfl) (c := bodyOf Try.f90) (by kernel_rfl) (loopFree_ok (by kernel_rfl))

theorem iareFinite_told : SpecOk Try.prog 90 (toldO A_iareFinite R_iareFinite (fun x => iareFinite x) (C34 90)) := toldO_ok (by kernel_rfl) iareFinite_ok (rest_ok (C34_ok) _) iareFinite_m

noncomputable def C35 : Tab := tab 90 (toldO A_iareFinite R_iareFinite (fun x => iareFinite x) (C34 90)) C34
theorem C35_ok : TabOk Try.prog C35 := tab_ok (iareFinite_told) (C34_ok)

def A_iareIns : Shp := ⟨[.h], [], [.sl [.f .f32]]⟩
def R_iareIns : List XShp := [(.ret, ⟨[.h], [], [.b]⟩)]

theorem iareIns_e (x : DR A_iareIns.hs) : (evFn (envT Try.prog C35 mtab0) noLoops Try.f86 (A_iareIns.enc x).1).to (fun q => decX R_iareIns .ret [q.1] q.2) = iareIns_t x := by kernel_rfl

theorem iareIns_m (x : DR A_iareIns.hs) : meanF (envT Try.prog C35 mtab0) noLoops Try.f86 A_iareIns R_iareIns x = (show Option (SumD (R_iareIns.map (·.2))) from iareIns x) := meanF_of (iareIns_e x)

theorem iareIns_ok : SpecOk Try.prog 86 (evFn (envT Try.prog C35 mtab0) noLoops Try.f86) := fnL_ok (envT_ok (C35_ok) (mtab0_ok _)) mixedO Try.func86 (by kernel_rfl) (c := bodyOf Try.f86) (by kernel_rfl) (loopFree_ok (by kernel_rfl))

theorem iareIns_told : SpecOk Try.prog 86 (toldO A_iareIns R_iareIns (fun x => iareIns x) (C35 86)) := toldO_ok (by kernel_rfl) iareIns_ok (rest_ok (C35_ok) _) iareIns_m

noncomputable def C36 : Tab := tab 86 (toldO A_iareIns R_iareIns (fun x => iareIns x) (C35 86)) C35
theorem C36_ok : TabOk Try.prog C36 := tab_ok (iareIns_told) (C35_ok)

def A_iLake_out_1 : Shp := ⟨[.h, .dpt [.h] 0], [], [.f .f32, .f .f32]⟩
def R_iLake_out_1 : List XShp := [(.ret, ⟨[.h], [], [.b]⟩)]

theorem iLake_out_1_e (x : DR A_iLake_out_1.hs) : (evFn (envT Try.prog C36 mtab0) noLoops Try.f122 (A_iLake_out_1.enc x).1).to (fun q => decX R_iLake_out_1 .ret [q.1] q.2) = iLake_out_1_t x.1 x.2 := by kernel_rfl

theorem iLake_out_1_m (x : DR A_iLake_out_1.hs) : meanF (envT Try.prog C36 mtab0) noLoops Try.f122 A_iLake_out_1 R_iLake_out_1 x = some (show SumD (R_iLake_out_1.map (·.2)) from iLake_out_1 x.1 x.2) := @meanF_tot _ _ _ _ _ _ _ (iLake_out_1_e x) (show Inhabited (Bool) from inferInstance) (by kernel_rfl)

theorem iLake_out_1_ok : SpecOk Try.prog 122 (evFn (envT Try.prog C36 mtab0) noLoops Try.f122) := fnL_ok (envT_ok (C36_ok) (mtab0_ok _)) mixedO Try.func122 (by kernel_rfl) (c := bodyOf Try.f122) (by kernel_rfl) (loopFree_ok (by kernel_rfl))

theorem iLake_out_1_told : SpecOk Try.prog 122 (toldT A_iLake_out_1 R_iLake_out_1 (fun x => iLake_out_1 x.1 x.2) (C36 122)) := toldT_ok (by kernel_rfl) iLake_out_1_ok (rest_ok (C36_ok) _) iLake_out_1_m

noncomputable def C37 : Tab := tab 122 (toldT A_iLake_out_1 R_iLake_out_1 (fun x => iLake_out_1 x.1 x.2) (C36 122)) C36
theorem C37_ok : TabOk Try.prog C37 := tab_ok (iLake_out_1_told) (C36_ok)

def S_lIndexFunc_iLake_out_1_l2 : Shp := ⟨[.h, .fn 122 [.dpt [.h] 0], .undef, .h, .h], [], [.sl [.f .f32], .f .f32, .i .i64, .i .i64]⟩
def X_lIndexFunc_iLake_out_1_l2 : List XShp := [(.ret, ⟨[.undef, .undef, .h, .undef, .undef], [], [.i .i64]⟩), (.exit 0, ⟨[.undef, .undef, .undef, .undef, .undef], [], []⟩)]

noncomputable def L_lIndexFunc_iLake_out_1_l2 : Loops := (⟨19, lvT [(2, [0, 1, 4, 7, 8])], mdT [(2, .normal, [], [4]), (2, .exit 0, [], [0, 1, 4, 7, 8]), (2, .ret, [], [0, 1, 7, 8])], fun k vs bs => .bad⟩ : Loops)

theorem lIndexFunc_iLake_out_1_l2_e (y0 : List Nat) (y1 : Nat) (y2 : Int) (s : Int) : (loopStep (envT Try.prog C37 mtab0) L_lIndexFunc_iLake_out_1_l2 2 (loopC (bodyOf Try.f121) 2) (S_lIndexFunc_iLake_out_1_l2.enc (y0, y1, y2, s)).1 (S_lIndexFunc_iLake_out_1_l2.enc (y0, y1, y2, s)).2).to (stepD S_lIndexFunc_iLake_out_1_l2 X_lIndexFunc_iLake_out_1_l2) = (lIndexFunc_iLake_out_1_l2_t y0 y1 y2 s).map (Sum.map (fun s : Int => (show DR S_lIndexFunc_iLake_out_1_l2.hs from (y0, y1, y2, s))) id) := by kernel_rfl

theorem lIndexFunc_iLake_out_1_l2_r (x : DR S_lIndexFunc_iLake_out_1_l2.hs) : (lIndexFunc_iLake_out_1_l2 x.1 x.2.1 x.2.2.1 x.2.2.2 : Option (SumD (X_lIndexFunc_iLake_out_1_l2.map (·.2)))) = runL (meanS (envT Try.prog C37 mtab0) L_lIndexFunc_iLake_out_1_l2 2 (loopC (bodyOf Try.f121) 2) S_lIndexFunc_iLake_out_1_l2 X_lIndexFunc_iLake_out_1_l2) x := run_of (fun s : Int => (show DR S_lIndexFunc_iLake_out_1_l2.hs from (x.1, x.2.1, x.2.2.1, s))) (lIndexFunc_iLake_out_1_l2_e (x.1) (x.2.1) (x.2.2.1)) x.2.2.2

theorem lIndexFunc_iLake_out_1_l2_k (L : Loops) (hn : L_lIndexFunc_iLake_out_1_l2.n = L.n) (hlv : L_lIndexFunc_iLake_out_1_l2.lv 2 = L.lv 2) (hL : ∀ vs bs, L.loop 2 vs bs = toldL S_lIndexFunc_iLake_out_1_l2 X_lIndexFunc_iLake_out_1_l2 (fun x => lIndexFunc_iLake_out_1_l2 x.1 x.2.1 x.2.2.1 x.2.2.2) vs bs) : LOk Try.prog (envT Try.prog C37 mtab0) L 2 (loopC (bodyOf Try.f121) 2) := toldL_ok (L1 := L_lIndexFunc_iLake_out_1_l2) (envT_ok (C37_ok) (mtab0_ok _)) mixedO hn hlv (loopFree_ok (by kernel_rfl)) lIndexFunc_iLake_out_1_l2_r hL

def A_lIndexFunc_iLake_out_1 : Shp := ⟨[.h, .fn 122 [.dpt [.h] 0]], [], [.sl [.f .f32], .f .f32]⟩
def R_lIndexFunc_iLake_out_1 : List XShp := [(.ret, ⟨[.h], [], [.i .i64]⟩)]

noncomputable def L_lIndexFunc_iLake_out_1 : Loops := (⟨19, lvT [(2, [0, 1, 4, 7, 8])], mdT [(2, .normal, [], [4]), (2, .exit 0, [], [0, 1, 4, 7, 8]), (2, .ret, [], [0, 1, 7, 8])], fun k vs bs => bif Nat.beq k 2 then toldL S_lIndexFunc_iLake_out_1_l2 X_lIndexFunc_iLake_out_1_l2 (fun x => lIndexFunc_iLake_out_1_l2 x.1 x.2.1 x.2.2.1 x.2.2.2) vs bs else .bad⟩ : Loops)

theorem lIndexFunc_iLake_out_1_e (x : DR A_lIndexFunc_iLake_out_1.hs) : (evFn (envT Try.prog C37 mtab0) L_lIndexFunc_iLake_out_1 Try.f121 (A_lIndexFunc_iLake_out_1.enc x).1).to (fun q => decX R_lIndexFunc_iLake_out_1 .ret [q.1] q.2) = lIndexFunc_iLake_out_1_t x.1 x.2 := by kernel_rfl

theorem lIndexFunc_iLake_out_1_m (x : DR A_lIndexFunc_iLake_out_1.hs) : meanF (envT Try.prog C37 mtab0) L_lIndexFunc_iLake_out_1 Try.f121 A_lIndexFunc_iLake_out_1 R_lIndexFunc_iLake_out_1 x = (show Option (SumD (R_lIndexFunc_iLake_out_1.map (·.2))) from lIndexFunc_iLake_out_1 x.1 x.2) := meanF_of (lIndexFunc_iLake_out_1_e x)

theorem lIndexFunc_iLake_out_1_ok : SpecOk Try.prog 121 (evFn (envT Try.prog C37 mtab0) L_lIndexFunc_iLake_out_1 Try.f121) := fnL_ok (envT_ok (C37_ok) (mtab0_ok _)) mixedO Try.func121 (by kernel_rfl) (c := bodyOf Try.f121) (by kernel_rfl) (loopsL (l := [(2, loopC (bodyOf Try.f121) 2)]) (by kernel_rfl) (lk_cons (lIndexFunc_iLake_out_1_l2_k _ rfl rfl (fun _ _ => rfl)) lk_nil))

theorem lIndexFunc_iLake_out_1_told : SpecOk Try.prog 121 (toldO A_lIndexFunc_iLake_out_1 R_lIndexFunc_iLake_out_1 (fun x => lIndexFunc_iLake_out_1 x.1 x.2) (C37 121)) := toldO_ok (by kernel_rfl) lIndexFunc_iLake_out_1_ok (rest_ok (C37_ok) _) lIndexFunc_iLake_out_1_m

noncomputable def C38 : Tab := tab 121 (toldO A_lIndexFunc_iLake_out_1 R_lIndexFunc_iLake_out_1 (fun x => lIndexFunc_iLake_out_1 x.1 x.2) (C37 121)) C37
theorem C38_ok : TabOk Try.prog C38 := tab_ok (lIndexFunc_iLake_out_1_told) (C37_ok)

def A_iLake_out : Shp := ⟨[.agg [.h, .h], .h], [], [.sl [.f .f32], .sl [.f .f32], .f .f32]⟩
def R_iLake_out : List XShp := [(.ret, ⟨[.h], [], [.f .f32]⟩)]

theorem iLake_out_e (x : DR A_iLake_out.hs) : (evFn (envT Try.prog C38 mtab0) noLoops Try.f74 (A_iLake_out.enc x).1).to (fun q => decX R_iLake_out .ret [q.1] q.2) = iLake_out_t x.1 x.2.1 x.2.2 := by kernel_rfl

theorem iLake_out_m (x : DR A_iLake_out.hs) : meanF (envT Try.prog C38 mtab0) noLoops Try.f74 A_iLake_out R_iLake_out x = (show Option (SumD (R_iLake_out.map (·.2))) from iLake_out x.1 x.2.1 x.2.2) := meanF_of (iLake_out_e x)

theorem iLake_out_ok : SpecOk Try.prog 74 (evFn (envT Try.prog C38 mtab0) noLoops Try.f74) := fnL_ok (envT_ok (C38_ok) (mtab0_ok _)) mixedO Try.func74 (by kernel_rfl) (c := bodyOf Try.f74) (by kernel_rfl) (loopFree_ok (by kernel_rfl))

theorem iLake_out_told : SpecOk Try.prog 74 (toldO A_iLake_out R_iLake_out (fun x => iLake_out x.1 x.2.1 x.2.2) (C38 74)) := toldO_ok (by kernel_rfl) iLake_out_ok (rest_ok (C38_ok) _) iLake_out_m

noncomputable def C39 : Tab := tab 74 (toldO A_iLake_out R_iLake_out (fun x => iLake_out x.1 x.2.1 x.2.2) (C38 74)) C38
theorem C39_ok : TabOk Try.prog C39 := tab_ok (iLake_out_told) (C38_ok)

def A_iStepLake_1 : Shp := ⟨[.h, .dpt [.h] 0, .dpt [.h, .h] 0, .dpt [.h] 0], [], [.f .f32, .f .f32, .sl [.f .f32], .sl [.f .f32], .f .f32]⟩
def R_iStepLake_1 : List XShp := [(.ret, ⟨[.tup [.h, .lb true]], [], [.b]⟩)]

theorem iStepLake_1_e (x : DR A_iStepLake_1.hs) : (evFn (envT Try.prog C39 mtab0) noLoops Try.f83 (A_iStepLake_1.enc x).1).to (fun q => decX R_iStepLake_1 .ret [q.1] q.2) = iStepLake_1_t x.1 x.2.1 x.2.2.1 x.2.2.2.1 x.2.2.2.2 := by kernel_rfl

theorem iStepLake_1_m (x : DR A_iStepLake_1.hs) : meanF (envT Try.prog C39 mtab0) noLoops Try.f83 A_iStepLake_1 R_iStepLake_1 x = (show Option (SumD (R_iStepLake_1.map (·.2))) from iStepLake_1 x.1 x.2.1 x.2.2.1 x.2.2.2.1 x.2.2.2.2) := meanF_of (iStepLake_1_e x)

theorem iStepLake_1_ok : SpecOk Try.prog 83 (evFn (envT Try.prog C39 mtab0) noLoops Try.f83) := fnL_ok (envT_ok (C39_ok) (mtab0_ok _)) mixedO Try.func83 (by kernel_rfl) (c := bodyOf Try.f83) (by kernel_rfl) (loopFree_ok (by kernel_rfl))

theorem iStepLake_1_told : SpecOk Try.prog 83 (toldO A_iStepLake_1 R_iStepLake_1 (fun x => iStepLake_1 x.1 x.2.1 x.2.2.1 x.2.2.2.1 x.2.2.2.2) (C39 83)) := toldO_ok (by kernel_rfl) iStepLake_1_ok (rest_ok (C39_ok) _) iStepLake_1_m

noncomputable def C40 : Tab := tab 83 (toldO A_iStepLake_1 R_iStepLake_1 (fun x => iStepLake_1 x.1 x.2.1 x.2.2.1 x.2.2.2.1 x.2.2.2.2) (C39 83)) C39
theorem C40_ok : TabOk Try.prog C40 := tab_ok (iStepLake_1_told) (C39_ok)

def S_ihalve_iStepLake_1_l2 : Shp := ⟨[.h, .h, .fn 83 [.dpt [.h] 0, .dpt [.h, .h] 0, .dpt [.h] 0], .undef, .undef, .undef, .h], [], [.f .f32, .f .f32, .f .f32, .sl [.f .f32], .sl [.f .f32], .f .f32, .i .i64]⟩
def X_ihalve_iStepLake_1_l2 : List XShp := [(.exit 0, ⟨[.h, .h, .undef, .undef, .undef, .undef, .undef], [], [.f .f32, .f .f32]⟩)]

noncomputable def L_ihalve_iStepLake_1_l2 : Loops := (⟨32, lvT [(2, [0, 1, 2, 6, 7, 8, 12])], mdT [(2, .normal, [], [6, 7, 8]), (2, .exit 0, [], [2, 6, 7, 8, 12]), (2, .ret, [], [0, 1, 2, 12])], fun k vs bs => .bad⟩ : Loops)

theorem ihalve_iStepLake_1_l2_e (y2 : Nat) (y3 : List Nat) (y4 : List Nat) (y5 : Nat) (s : Nat × Nat × Int) : (loopStep (envT Try.prog C40 mtab0) L_ihalve_iStepLake_1_l2 2 (loopC (bodyOf Try.f82) 2) (S_ihalve_iStepLake_1_l2.enc (s.1, s.2.1, y2, y3, y4, y5, s.2.2)).1 (S_ihalve_iStepLake_1_l2.enc (s.1, s.2.1, y2, y3, y4, y5, s.2.2)).2).to (stepD S_ihalve_iStepLake_1_l2 X_ihalve_iStepLake_1_l2) = (ihalve_iStepLake_1_l2_t y2 y3 y4 y5 s.1 s.2.1 s.2.2).map (Sum.map (fun s : Nat × Nat × Int => (show DR S_ihalve_iStepLake_1_l2.hs from (s.1, s.2.1, y2, y3, y4, y5, s.2.2))) id) := by kernel_rfl

theorem ihalve_iStepLake_1_l2_r (x : DR S_ihalve_iStepLake_1_l2.hs) : (ihalve_iStepLake_1_l2 x.1 x.2.1 x.2.2.1 x.2.2.2.1 x.2.2.2.2.1 x.2.2.2.2.2.1 x.2.2.2.2.2.2 : Option (SumD (X_ihalve_iStepLake_1_l2.map (·.2)))) = runL (meanS (envT Try.prog C40 mtab0) L_ihalve_iStepLake_1_l2 2 (loopC (bodyOf Try.f82) 2) S_ihalve_iStepLake_1_l2 X_ihalve_iStepLake_1_l2) x := run_of (fun s : Nat × Nat × Int => (show DR S_ihalve_iStepLake_1_l2.hs from (s.1, s.2.1, x.2.2.1, x.2.2.2.1, x.2.2.2.2.1, x.2.2.2.2.2.1, s.2.2))) (ihalve_iStepLake_1_l2_e (x.2.2.1) (x.2.2.2.1) (x.2.2.2.2.1) (x.2.2.2.2.2.1)) (x.1, x.2.1, x.2.2.2.2.2.2)

theorem ihalve_iStepLake_1_l2_k (L : Loops) (hn : L_ihalve_iStepLake_1_l2.n = L.n) (hlv : L_ihalve_iStepLake_1_l2.lv 2 = L.lv 2) (hL : ∀ vs bs, L.loop 2 vs bs = toldL S_ihalve_iStepLake_1_l2 X_ihalve_iStepLake_1_l2 (fun x => ihalve_iStepLake_1_l2 x.1 x.2.1 x.2.2.1 x.2.2.2.1 x.2.2.2.2.1 x.2.2.2.2.2.1 x.2.2.2.2.2.2) vs bs) : LOk Try.prog (envT Try.prog C40 mtab0) L 2 (loopC (bodyOf Try.f82) 2) := toldL_ok (L1 := L_ihalve_iStepLake_1_l2) (envT_ok (C40_ok) (mtab0_ok _)) mixedO hn hlv (loopFree_ok (by kernel_rfl)) ihalve_iStepLake_1_l2_r hL

def A_ihalve_iStepLake_1 : Shp := ⟨[.h, .h, .fn 83 [.dpt [.h] 0, .dpt [.h, .h] 0, .dpt [.h] 0]], [], [.f .f32, .f .f32, .f .f32, .sl [.f .f32], .sl [.f .f32], .f .f32]⟩
def R_ihalve_iStepLake_1 : List XShp := [(.ret, ⟨[.tup [.h, .h, .lb true]], [], [.f .f32, .f .f32]⟩)]

noncomputable def L_ihalve_iStepLake_1 : Loops := (⟨32, lvT [(2, [0, 1, 2, 6, 7, 8, 12])], mdT [(2, .normal, [], [6, 7, 8]), (2, .exit 0, [], [2, 6, 7, 8, 12]), (2, .ret, [], [0, 1, 2, 12])], fun k vs bs => bif Nat.beq k 2 then toldL S_ihalve_iStepLake_1_l2 X_ihalve_iStepLake_1_l2 (fun x => ihalve_iStepLake_1_l2 x.1 x.2.1 x.2.2.1 x.2.2.2.1 x.2.2.2.2.1 x.2.2.2.2.2.1 x.2.2.2.2.2.2) vs bs else .bad⟩ : Loops)

theorem ihalve_iStepLake_1_e (x : DR A_ihalve_iStepLake_1.hs) : (evFn (envT Try.prog C40 mtab0) L_ihalve_iStepLake_1 Try.f82 (A_ihalve_iStepLake_1.enc x).1).to (fun q => decX R_ihalve_iStepLake_1 .ret [q.1] q.2) = ihalve_iStepLake_1_t x.1 x.2.1 x.2.2.1 x.2.2.2.1 x.2.2.2.2.1 x.2.2.2.2.2 := by kernel_rfl

theorem ihalve_iStepLake_1_m (x : DR A_ihalve_iStepLake_1.hs) : meanF (envT Try.prog C40 mtab0) L_ihalve_iStepLake_1 Try.f82 A_ihalve_iStepLake_1 R_ihalve_iStepLake_1 x = (show Option (SumD (R_ihalve_iStepLake_1.map (·.2))) from ihalve_iStepLake_1 x.1 x.2.1 x.2.2.1 x.2.2.2.1 x.2.2.2.2.1 x.2.2.2.2.2) := meanF_of (ihalve_iStepLake_1_e x)

theorem ihalve_iStepLake_1_ok : SpecOk Try.prog 82 (evFn (envT Try.prog C40 mtab0) L_ihalve_iStepLake_1 Try.f82) := fnL_ok (envT_ok (C40_ok) (mtab0_ok _)) mixedO Try.func82 (by kernel_rfl) (c := bodyOf Try.f82) (by kernel_rfl) (loopsL (l := [(2, loopC (bodyOf Try.f82) 2)]) (by kernel_rfl) (lk_cons (ihalve_iStepLake_1_l2_k _ rfl rfl (fun _ _ => rfl)) lk_nil))

theorem ihalve_iStepLake_1_told : SpecOk Try.prog 82 (toldO A_ihalve_iStepLake_1 R_ihalve_iStepLake_1 (fun x => ihalve_iStepLake_1 x.1 x.2.1 x.2.2.1 x.2.2.2.1 x.2.2.2.2.1 x.2.2.2.2.2) (C40 82)) := toldO_ok (by kernel_rfl) ihalve_iStepLake_1_ok (rest_ok (C40_ok) _) ihalve_iStepLake_1_m

noncomputable def C41 : Tab := tab 82 (toldO A_ihalve_iStepLake_1 R_ihalve_iStepLake_1 (fun x => ihalve_iStepLake_1 x.1 x.2.1 x.2.2.1 x.2.2.2.1 x.2.2.2.2.1 x.2.2.2.2.2) (C40 82)) C40
theorem C41_ok : TabOk Try.prog C41 := tab_ok (ihalve_iStepLake_1_told) (C40_ok)

def A_ifinite32 : Shp := ⟨[.h], [], [.f .f32]⟩
def R_ifinite32 : List XShp := [(.ret, ⟨[.tup [.h, .h]], [], [.f .f32, .b]⟩)]

theorem ifinite32_e (x : DR A_ifinite32.hs) : (evFn (envT Try.prog C41 mtab0) noLoops Try.f73 (A_ifinite32.enc x).1).to (fun q => decX R_ifinite32 .ret [q.1] q.2) = ifinite32_t x := by kernel_rfl

theorem ifinite32_m (x : DR A_ifinite32.hs) : meanF (envT Try.prog C41 mtab0) noLoops Try.f73 A_ifinite32 R_ifinite32 x = some (show SumD (R_ifinite32.map (·.2)) from ifinite32 x) := @meanF_tot _ _ _ _ _ _ _ (ifinite32_e x) (show Inhabited (Nat × Bool) from inferInstance) (by kernel_rfl)

theorem ifinite32_ok : SpecOk Try.prog 73 (evFn (envT Try.prog C41 mtab0) noLoops Try.f73) := fnL_ok (envT_ok (C41_ok) (mtab0_ok _)) mixedO Try.func73 (by kernel_rfl) (c := bodyOf Try.f73) (by kernel_rfl) (loopFree_ok (by kernel_rfl))

theorem ifinite32_told : SpecOk Try.prog 73 (toldT A_ifinite32 R_ifinite32 (fun x => ifinite32 x) (C41 73)) := toldT_ok (by kernel_rfl) ifinite32_ok (rest_ok (C41_ok) _) ifinite32_m

noncomputable def C42 : Tab := tab 73 (toldT A_ifinite32 R_ifinite32 (fun x => ifinite32 x) (C41 73)) C41
theorem C42_ok : TabOk Try.prog C42 := tab_ok (ifinite32_told) (C41_ok)

def A_iStepLake : Shp := ⟨[.agg [.h, .h], .h, .h, .h, .h], [], [.sl [.f .f32], .sl [.f .f32], .f .f32, .f .f32, .f .f32, .f .f32]⟩
def R_iStepLake : List XShp := [(.ret, ⟨[.tup [.h, .h]], [], [.f .f32, .b]⟩)]

theorem iStepLake_e (x : DR A_iStepLake.hs) : (evFn (envT Try.prog C42 mtab0) noLoops Try.f22 (A_iStepLake.enc x).1).to (fun q => decX R_iStepLake .ret [q.1] q.2) = iStepLake_t x.1 x.2.1 x.2.2.1 x.2.2.2.1 x.2.2.2.2.1 x.2.2.2.2.2 := by kernel_rfl

theorem iStepLake_m (x : DR A_iStepLake.hs) : meanF (envT Try.prog C42 mtab0) noLoops Try.f22 A_iStepLake R_iStepLake x = (show Option (SumD (R_iStepLake.map (·.2))) from iStepLake x.1 x.2.1 x.2.2.1 x.2.2.2.1 x.2.2.2.2.1 x.2.2.2.2.2) := meanF_of (iStepLake_e x)

theorem iStepLake_ok : SpecOk Try.prog 22 (evFn (envT Try.prog C42 mtab0) noLoops Try.f22) := fnL_ok (envT_ok (C42_ok) (mtab0_ok _)) mixedO Try.func22 (by kernel_rfl) (c := bodyOf Try.f22) (by kernel_rfl) (loopFree_ok (by kernel_rfl))

theorem iStepLake_told : SpecOk Try.prog 22 (toldO A_iStepLake R_iStepLake (fun x => iStepLake x.1 x.2.1 x.2.2.1 x.2.2.2.1 x.2.2.2.2.1 x.2.2.2.2.2) (C42 22)) := toldO_ok (by kernel_rfl) iStepLake_ok (rest_ok (C42_ok) _) iStepLake_m

noncomputable def C43 : Tab := tab 22 (toldO A_iStepLake R_iStepLake (fun x => iStepLake x.1 x.2.1 x.2.2.1 x.2.2.2.1 x.2.2.2.2.1 x.2.2.2.2.2) (C42 22)) C42
theorem C43_ok : TabOk Try.prog C43 := tab_ok (iStepLake_told) (C42_ok)

def A_iLakeOut : Shp := ⟨[.agg [.h, .h], .h], [], [.sl [.f .f32], .sl [.f .f32], .f .f32]⟩
def R_iLakeOut : List XShp := [(.ret, ⟨[.tup [.h, .h]], [], [.f .f32, .b]⟩)]

theorem iLakeOut_e (x : DR A_iLakeOut.hs) : (evFn (envT Try.prog C43 mtab0) noLoops Try.f18 (A_iLakeOut.enc x).1).to (fun q => decX R_iLakeOut .ret [q.1] q.2) = iLakeOut_t x.1 x.2.1 x.2.2 := by kernel_rfl

theorem iLakeOut_m (x : DR A_iLakeOut.hs) : meanF (envT Try.prog C43 mtab0) noLoops Try.f18 A_iLakeOut R_iLakeOut x = (show Option (SumD (R_iLakeOut.map (·.2))) from iLakeOut x.1 x.2.1 x.2.2) := meanF_of (iLakeOut_e x)

theorem iLakeOut_ok : SpecOk Try.prog 18 (evFn (envT Try.prog C43 mtab0) noLoops Try.f18) := fnL_ok (envT_ok (C43_ok) (mtab0_ok _)) mixedO Try.func18 (by kernel_rfl) (c := bodyOf Try.f18) (by kernel_rfl) (loopFree_ok (by kernel_rfl))

theorem iLakeOut_told : SpecOk Try.prog 18 (toldO A_iLakeOut R_iLakeOut (fun x => iLakeOut x.1 x.2.1 x.2.2) (C43 18)) := toldO_ok (by kernel_rfl) iLakeOut_ok (rest_ok (C43_ok) _) iLakeOut_m

noncomputable def C44 : Tab := tab 18 (toldO A_iLakeOut R_iLakeOut (fun x => iLakeOut x.1 x.2.1 x.2.2) (C43 18)) C43
theorem C44_ok : TabOk Try.prog C44 := tab_ok (iLakeOut_told) (C43_ok)

def S_iRouteLake_l5 : Shp := ⟨[.h, .h, .h, .ref 0 0, .undef, .undef, .undef, .slw 1 1, .slw 2 1, .h, .h], [.cells [.h, .h] false, .arr [.f .f32] false, .arr [.f .f32] false], [.f .f32, .sl [.f .f32], .f .f32, .i .i64, .i .i64, .sl [.f .f32], .sl [.f .f32], .sl [.f .f32], .sl [.f .f32]]⟩
def X_iRouteLake_l5 : List XShp := [(.ret, ⟨[.undef, .undef, .undef, .undef, .nils, .nils, .lb false, .undef, .undef, .undef, .undef], [], []⟩), (.exit 0, ⟨[.undef, .undef, .undef, .undef, .undef, .undef, .undef, .slw 0 1, .slw 1 1, .undef, .undef], [.arr [.f .f32] false, .arr [.f .f32] false], [.sl [.f .f32], .sl [.f .f32]]⟩)]

noncomputable def L_iRouteLake_l5 : Loops := (⟨84, lvT [(5, [1, 2, 3, 4, 8, 9, 10, 11, 12, 40, 41])], mdT [(5, .normal, [], [8, 9, 10]), (5, .exit 0, [], [1, 2, 3, 4, 8, 9, 10, 40, 41]), (5, .ret, [], [1, 2, 3, 4, 11, 12, 40, 41])], fun k vs bs => .bad⟩ : Loops)

theorem iRouteLake_l5_e (y1 : List Nat) (y2 : Nat) (y3 : Int) (y5 : List Nat) (y6 : List Nat) (s : Nat × Int × List Nat × List Nat) : (loopStep (envT Try.prog C44 mtab0) L_iRouteLake_l5 5 (loopC (bodyOf Try.f25) 5) (S_iRouteLake_l5.enc (s.1, y1, y2, y3, s.2.1, y5, y6, s.2.2.1, s.2.2.2)).1 (S_iRouteLake_l5.enc (s.1, y1, y2, y3, s.2.1, y5, y6, s.2.2.1, s.2.2.2)).2).to (stepD S_iRouteLake_l5 X_iRouteLake_l5) = (iRouteLake_l5_t y1 y2 y3 y5 y6 s.1 s.2.1 s.2.2.1 s.2.2.2).map (Sum.map (fun s : Nat × Int × List Nat × List Nat => (show DR S_iRouteLake_l5.hs from (s.1, y1, y2, y3, s.2.1, y5, y6, s.2.2.1, s.2.2.2))) id) := by kernel_rfl

theorem iRouteLake_l5_r (x : DR S_iRouteLake_l5.hs) : (iRouteLake_l5 x.1 x.2.1 x.2.2.1 x.2.2.2.1 x.2.2.2.2.1 x.2.2.2.2.2.1 x.2.2.2.2.2.2.1 x.2.2.2.2.2.2.2.1 x.2.2.2.2.2.2.2.2 : Option (SumD (X_iRouteLake_l5.map (·.2)))) = runL (meanS (envT Try.prog C44 mtab0) L_iRouteLake_l5 5 (loopC (bodyOf Try.f25) 5) S_iRouteLake_l5 X_iRouteLake_l5) x := run_of (fun s : Nat × Int × List Nat × List Nat => (show DR S_iRouteLake_l5.hs from (s.1, x.2.1, x.2.2.1, x.2.2.2.1, s.2.1, x.2.2.2.2.2.1, x.2.2.2.2.2.2.1, s.2.2.1, s.2.2.2))) (iRouteLake_l5_e (x.2.1) (x.2.2.1) (x.2.2.2.1) (x.2.2.2.2.2.1) (x.2.2.2.2.2.2.1)) (x.1, x.2.2.2.2.1, x.2.2.2.2.2.2.2.1, x.2.2.2.2.2.2.2.2)

theorem iRouteLake_l5_k (L : Loops) (hn : L_iRouteLake_l5.n = L.n) (hlv : L_iRouteLake_l5.lv 5 = L.lv 5) (hL : ∀ vs bs, L.loop 5 vs bs = toldL S_iRouteLake_l5 X_iRouteLake_l5 (fun x => iRouteLake_l5 x.1 x.2.1 x.2.2.1 x.2.2.2.1 x.2.2.2.2.1 x.2.2.2.2.2.1 x.2.2.2.2.2.2.1 x.2.2.2.2.2.2.2.1 x.2.2.2.2.2.2.2.2) vs bs) : LOk Try.prog (envT Try.prog C44 mtab0) L 5 (loopC (bodyOf Try.f25) 5) := toldL_ok (L1 := L_iRouteLake_l5) (envT_ok (C44_ok) (mtab0_ok _)) mixedO hn hlv (loopFree_ok (by kernel_rfl)) iRouteLake_l5_r hL

def A_iRouteLake : Shp := ⟨[.agg [.h, .h], .h, .h, .h], [], [.sl [.f .f32], .sl [.f .f32], .f .f32, .sl [.f .f32], .f .f32]⟩
def R_iRouteLake : List XShp := [(.ret, ⟨[.tup [.nils, .nils, .lb false]], [], []⟩), (.ret, ⟨[.tup [.slw 0 1, .slw 1 1, .lb true]], [.arr [.f .f32] false, .arr [.f .f32] false], [.sl [.f .f32], .sl [.f .f32]]⟩)]

noncomputable def L_iRouteLake : Loops := (⟨84, lvT [(5, [1, 2, 3, 4, 8, 9, 10, 11, 12, 40, 41])], mdT [(5, .normal, [], [8, 9, 10]), (5, .exit 0, [], [1, 2, 3, 4, 8, 9, 10, 40, 41]), (5, .ret, [], [1, 2, 3, 4, 11, 12, 40, 41])], fun k vs bs => bif Nat.beq k 5 then toldL S_iRouteLake_l5 X_iRouteLake_l5 (fun x => iRouteLake_l5 x.1 x.2.1 x.2.2.1 x.2.2.2.1 x.2.2.2.2.1 x.2.2.2.2.2.1 x.2.2.2.2.2.2.1 x.2.2.2.2.2.2.2.1 x.2.2.2.2.2.2.2.2) vs bs else .bad⟩ : Loops)

theorem iRouteLake_e (x : DR A_iRouteLake.hs) : (evFn (envT Try.prog C44 mtab0) L_iRouteLake Try.f25 (A_iRouteLake.enc x).1).to (fun q => decX R_iRouteLake .ret [q.1] q.2) = iRouteLake_t x.1 x.2.1 x.2.2.1 x.2.2.2.1 x.2.2.2.2 := by kernel_rfl

theorem iRouteLake_m (x : DR A_iRouteLake.hs) : meanF (envT Try.prog C44 mtab0) L_iRouteLake Try.f25 A_iRouteLake R_iRouteLake x = (show Option (SumD (R_iRouteLake.map (·.2))) from iRouteLake x.1 x.2.1 x.2.2.1 x.2.2.2.1 x.2.2.2.2) := meanF_of (iRouteLake_e x)

theorem iRouteLake_ok : SpecOk Try.prog 25 (evFn (envT Try.prog C44 mtab0) L_iRouteLake Try.f25) := fnL_ok (envT_ok (C44_ok) (mtab0_ok _)) mixedO Try.func25 (by kernel_rfl) (c := bodyOf Try.f25) (by kernel_rfl) (loopsL (l := [(5, loopC (bodyOf Try.f25) 5)]) (by kernel_rfl) (lk_cons (iRouteLake_l5_k _ rfl rfl (fun _ _ => rfl)) lk_nil))

theorem iRouteLake_told : SpecOk Try.prog 25 (toldO A_iRouteLake R_iRouteLake (fun x => iRouteLake x.1 x.2.1 x.2.2.1 x.2.2.2.1 x.2.2.2.2) (C44 25)) := toldO_ok (by kernel_rfl) iRouteLake_ok (rest_ok (C44_ok) _) iRouteLake_m

noncomputable def C45 : Tab := tab 25 (toldO A_iRouteLake R_iRouteLake (fun x => iRouteLake x.1 x.2.1 x.2.2.1 x.2.2.2.1 x.2.2.2.2) (C44 25)) C44
theorem C45_ok : TabOk Try.prog C45 := tab_ok (iRouteLake_told) (C44_ok)

def S_weqFloat32S_l4 : Shp := ⟨[.h, .h, .undef, .h], [], [.sl [.f .f32], .sl [.f .f32], .i .i64]⟩
def X_weqFloat32S_l4 : List XShp := [(.exit 0, ⟨[.undef, .undef, .undef, .undef], [], []⟩)]

noncomputable def L_weqFloat32S_l4 : Loops := (⟨29, lvT [(4, [0, 1, 4, 5])], mdT [(4, .normal, [], [4]), (4, .exit 0, [], [0, 1, 4, 5]), (4, .ret, [], [0, 1, 5])], fun k vs bs => .bad⟩ : Loops)

theorem weqFloat32S_l4_e (y0 : List Nat) (y1 : List Nat) (s : Int) : (loopStep (envT Try.prog C45 mtab0) L_weqFloat32S_l4 4 (loopC (bodyOf Try.f26) 4) (S_weqFloat32S_l4.enc (y0, y1, s)).1 (S_weqFloat32S_l4.enc (y0, y1, s)).2).to (stepD S_weqFloat32S_l4 X_weqFloat32S_l4) = (weqFloat32S_l4_t y0 y1 s).map (Sum.map (fun s : Int => (show DR S_weqFloat32S_l4.hs from (y0, y1, s))) id) := by kernel_rfl

theorem weqFloat32S_l4_r (x : DR S_weqFloat32S_l4.hs) : (weqFloat32S_l4 x.1 x.2.1 x.2.2 : Option (SumD (X_weqFloat32S_l4.map (·.2)))) = runL (meanS (envT Try.prog C45 mtab0) L_weqFloat32S_l4 4 (loopC (bodyOf Try.f26) 4) S_weqFloat32S_l4 X_weqFloat32S_l4) x := run_of (fun s : Int => (show DR S_weqFloat32S_l4.hs from (x.1, x.2.1, s))) (weqFloat32S_l4_e (x.1) (x.2.1)) x.2.2

theorem weqFloat32S_l4_k (L : Loops) (hn : L_weqFloat32S_l4.n = L.n) (hlv : L_weqFloat32S_l4.lv 4 = L.lv 4) (hL : ∀ vs bs, L.loop 4 vs bs = toldL S_weqFloat32S_l4 X_weqFloat32S_l4 (fun x => weqFloat32S_l4 x.1 x.2.1 x.2.2) vs bs) : LOk Try.prog (envT Try.prog C45 mtab0) L 4 (loopC (bodyOf Try.f26) 4) := toldL_ok (L1 := L_weqFloat32S_l4) (envT_ok (C45_ok) (mtab0_ok _)) mixedO hn hlv (loopFree_ok (by kernel_rfl)) weqFloat32S_l4_r hL

def A_weqFloat32S : Shp := ⟨[.h, .h], [], [.sl [.f .f32], .sl [.f .f32]]⟩
def R_weqFloat32S : List XShp := [(.ret, ⟨[.h], [], [.b]⟩)]

noncomputable def L_weqFloat32S : Loops := (⟨29, lvT [(4, [0, 1, 4, 5])], mdT [(4, .normal, [], [4]), (4, .exit 0, [], [0, 1, 4, 5]), (4, .ret, [], [0, 1, 5])], fun k vs bs => bif Nat.beq k 4 then toldL S_weqFloat32S_l4 X_weqFloat32S_l4 (fun x => weqFloat32S_l4 x.1 x.2.1 x.2.2) vs bs else .bad⟩ : Loops)

theorem weqFloat32S_e (x : DR A_weqFloat32S.hs) : (evFn (envT Try.prog C45 mtab0) L_weqFloat32S Try.f26 (A_weqFloat32S.enc x).1).to (fun q => decX R_weqFloat32S .ret [q.1] q.2) = weqFloat32S_t x.1 x.2 := by kernel_rfl

theorem weqFloat32S_m (x : DR A_weqFloat32S.hs) : meanF (envT Try.prog C45 mtab0) L_weqFloat32S Try.f26 A_weqFloat32S R_weqFloat32S x = (show Option (SumD (R_weqFloat32S.map (·.2))) from weqFloat32S x.1 x.2) := meanF_of (weqFloat32S_e x)

theorem weqFloat32S_ok : SpecOk Try.prog 26 (evFn (envT Try.prog C45 mtab0) L_weqFloat32S Try.f26) := fnL_ok (envT_ok (C45_ok) (mtab0_ok _)) mixedO Try.func26 (by kernel_rfl) (c := bodyOf Try.f26) (by kernel_rfl) (loopsL (l := [(4, loopC (bodyOf Try.f26) 4)]) (by kernel_rfl) (lk_cons (weqFloat32S_l4_k _ rfl rfl (fun _ _ => rfl)) lk_nil))

theorem weqFloat32S_told : SpecOk Try.prog 26 (toldO A_weqFloat32S R_weqFloat32S (fun x => weqFloat32S x.1 x.2) (C45 26)) := toldO_ok (by kernel_rfl) weqFloat32S_ok (rest_ok (C45_ok) _) weqFloat32S_m

noncomputable def C46 : Tab := tab 26 (toldO A_weqFloat32S R_weqFloat32S (fun x => weqFloat32S x.1 x.2) (C45 26)) C45
theorem C46_ok : TabOk Try.prog C46 := tab_ok (weqFloat32S_told) (C45_ok)

def A_weqLake : Shp := ⟨[.agg [.h, .h], .agg [.h, .h]], [], [.sl [.f .f32], .sl [.f .f32], .sl [.f .f32], .sl [.f .f32]]⟩
def R_weqLake : List XShp := [(.ret, ⟨[.h], [], [.b]⟩)]

theorem weqLake_e (x : DR A_weqLake.hs) : (evFn (envT Try.prog C46 mtab0) noLoops Try.f20 (A_weqLake.enc x).1).to (fun q => decX R_weqLake .ret [q.1] q.2) = weqLake_t x.1 x.2.1 x.2.2.1 x.2.2.2 := by kernel_rfl

theorem weqLake_m (x : DR A_weqLake.hs) : meanF (envT Try.prog C46 mtab0) noLoops Try.f20 A_weqLake R_weqLake x = (show Option (SumD (R_weqLake.map (·.2))) from weqLake x.1 x.2.1 x.2.2.1 x.2.2.2) := meanF_of (weqLake_e x)

theorem weqLake_ok : SpecOk Try.prog 20 (evFn (envT Try.prog C46 mtab0) noLoops Try.f20) := fnL_ok (envT_ok (C46_ok) (mtab0_ok _)) mixedO Try.func20 (by kernel_rfl) (c := bodyOf Try.f20) (by kernel_rfl) (loopFree_ok (by kernel_rfl))

theorem weqLake_told : SpecOk Try.prog 20 (toldO A_weqLake R_weqLake (fun x => weqLake x.1 x.2.1 x.2.2.1 x.2.2.2) (C46 20)) := toldO_ok (by kernel_rfl) weqLake_ok (rest_ok (C46_ok) _) weqLake_m

noncomputable def C47 : Tab := tab 20 (toldO A_weqLake R_weqLake (fun x => weqLake x.1 x.2.1 x.2.2.1 x.2.2.2) (C46 20)) C46
theorem C47_ok : TabOk Try.prog C47 := tab_ok (weqLake_told) (C46_ok)

def S_wmarkFloat32S_l2 : Shp := ⟨[.slw 0 1, .h, .h], [.arr [.f .f32] false], [.i .i64, .i .i64, .sl [.f .f32]]⟩
def X_wmarkFloat32S_l2 : List XShp := [(.exit 0, ⟨[.undef, .h, .undef], [.arr [.f .f32] false], [.i .i64, .sl [.f .f32]]⟩)]

noncomputable def L_wmarkFloat32S_l2 : Loops := (⟨20, lvT [(2, [0, 1, 5])], mdT [(2, .exit 0, [], [0, 5])], fun k vs bs => .bad⟩ : Loops)

theorem wmarkFloat32S_l2_e (s : Int × Int × List Nat) : (loopStep (envW Try.prog C47 mtab0 1) L_wmarkFloat32S_l2 2 (loopC (bodyOf Try.f28) 2) (S_wmarkFloat32S_l2.enc (s.1, s.2.1, s.2.2)).1 (S_wmarkFloat32S_l2.enc (s.1, s.2.1, s.2.2)).2).to (stepD S_wmarkFloat32S_l2 X_wmarkFloat32S_l2) = (wmarkFloat32S_l2_t  s.1 s.2.1 s.2.2).map (Sum.map (fun s : Int × Int × List Nat => (show DR S_wmarkFloat32S_l2.hs from (s.1, s.2.1, s.2.2))) id) := by kernel_rfl

theorem wmarkFloat32S_l2_r (x : DR S_wmarkFloat32S_l2.hs) : (wmarkFloat32S_l2 x.1 x.2.1 x.2.2 : Option (SumD (X_wmarkFloat32S_l2.map (·.2)))) = runL (meanS (envW Try.prog C47 mtab0 1) L_wmarkFloat32S_l2 2 (loopC (bodyOf Try.f28) 2) S_wmarkFloat32S_l2 X_wmarkFloat32S_l2) x := run_of (fun s : Int × Int × List Nat => (show DR S_wmarkFloat32S_l2.hs from (s.1, s.2.1, s.2.2))) (wmarkFloat32S_l2_e ) (x.1, x.2.1, x.2.2)

theorem wmarkFloat32S_l2_k (L : Loops) (hn : L_wmarkFloat32S_l2.n = L.n) (hlv : L_wmarkFloat32S_l2.lv 2 = L.lv 2) (hL : ∀ vs bs, L.loop 2 vs bs = toldL S_wmarkFloat32S_l2 X_wmarkFloat32S_l2 (fun x => wmarkFloat32S_l2 x.1 x.2.1 x.2.2) vs bs) : LOk Try.prog (envW Try.prog C47 mtab0 1) L 2 (loopC (bodyOf Try.f28) 2) := toldL_ok (L1 := L_wmarkFloat32S_l2) (envW_ok (C47_ok) (mtab0_ok _)) mixedO hn hlv (loopFree_ok (by kernel_rfl)) wmarkFloat32S_l2_r hL

def A_wmarkFloat32S : Shp := ⟨[.slw 0 1, .h], [.arr [.f .f32] false], [.i .i64, .sl [.f .f32]]⟩
def R_wmarkFloat32S : List XShp := [(.ret, ⟨[.h], [.arr [.f .f32] false], [.i .i64, .sl [.f .f32]]⟩)]

noncomputable def L_wmarkFloat32S : Loops := (⟨20, lvT [(2, [0, 1, 5])], mdT [(2, .exit 0, [], [0, 5])], fun k vs bs => bif Nat.beq k 2 then toldL S_wmarkFloat32S_l2 X_wmarkFloat32S_l2 (fun x => wmarkFloat32S_l2 x.1 x.2.1 x.2.2) vs bs else .bad⟩ : Loops)

theorem wmarkFloat32S_e (x : DR A_wmarkFloat32S.hs) : (evFnM (envW Try.prog C47 mtab0 1) L_wmarkFloat32S Try.f28 (A_wmarkFloat32S.enc x).1 ((A_wmarkFloat32S.enc x).2.map (·.blk))).to (decM R_wmarkFloat32S) = wmarkFloat32S_t x.1 x.2 := by kernel_rfl

theorem wmarkFloat32S_m (x : DR A_wmarkFloat32S.hs) : meanM (envW Try.prog C47 mtab0 1) L_wmarkFloat32S Try.f28 A_wmarkFloat32S R_wmarkFloat32S x = (show Option (SumD (R_wmarkFloat32S.map (·.2))) from wmarkFloat32S x.1 x.2) := meanM_of (wmarkFloat32S_e x)

theorem wmarkFloat32S_ok : MSpecOk Try.prog 28 (evFnM (envW Try.prog C47 mtab0 1) L_wmarkFloat32S Try.f28) := fnM_ok (envW_ok (C47_ok) (mtab0_ok _)) rfl mixedO Try.func28 (by kernel_rfl) (c := bodyOf Try.f28) (by kernel_rfl) (loopsL (l := [(2, loopC (bodyOf Try.f28) 2)]) (by kernel_rfl) (lk_cons (wmarkFloat32S_l2_k _ rfl rfl (fun _ _ => rfl)) lk_nil))

theorem wmarkFloat32S_told : MSpecOk Try.prog 28 (toldMO A_wmarkFloat32S R_wmarkFloat32S (fun x => wmarkFloat32S x.1 x.2) (mrest mtab0 28)) := toldMO_ok (by kernel_rfl) wmarkFloat32S_ok (mrest_ok (mtab0_ok _) _) wmarkFloat32S_m

noncomputable def M48 : MTab := mtab 28 (toldMO A_wmarkFloat32S R_wmarkFloat32S (fun x => wmarkFloat32S x.1 x.2) (mrest mtab0 28)) mtab0
theorem M48_ok : MTabOk Try.prog M48 := mtab_ok (wmarkFloat32S_told) (mtab0_ok _)

def A_wmarkLake : Shp := ⟨[.agg [.slw 0 1, .slw 1 1], .h], [.arr [.f .f32] false, .arr [.f .f32] false], [.i .i64, .sl [.f .f32], .sl [.f .f32]]⟩
def R_wmarkLake : List XShp := [(.ret, ⟨[.h], [.arr [.f .f32] false, .arr [.f .f32] false], [.i .i64, .sl [.f .f32], .sl [.f .f32]]⟩)]

theorem wmarkLake_e (x : DR A_wmarkLake.hs) : (evFnM (envW Try.prog C47 M48 2) noLoops Try.f27 (A_wmarkLake.enc x).1 ((A_wmarkLake.enc x).2.map (·.blk))).to (decM R_wmarkLake) = wmarkLake_t x.1 x.2.1 x.2.2 := by kernel_rfl

theorem wmarkLake_m (x : DR A_wmarkLake.hs) : meanM (envW Try.prog C47 M48 2) noLoops Try.f27 A_wmarkLake R_wmarkLake x = (show Option (SumD (R_wmarkLake.map (·.2))) from wmarkLake x.1 x.2.1 x.2.2) := meanM_of (wmarkLake_e x)

theorem wmarkLake_ok : MSpecOk Try.prog 27 (evFnM (envW Try.prog C47 M48 2) noLoops Try.f27) := fnM_ok (envW_ok (C47_ok) (M48_ok)) rfl mixedO Try.func27 (by kernel_rfl) (c := bodyOf Try.f27) (by kernel_rfl) (loopFree_ok (by kernel_rfl))

theorem wmarkLake_told : MSpecOk Try.prog 27 (toldMO A_wmarkLake R_wmarkLake (fun x => wmarkLake x.1 x.2.1 x.2.2) (mrest M48 27)) := toldMO_ok (by kernel_rfl) wmarkLake_ok (mrest_ok (M48_ok) _) wmarkLake_m

noncomputable def M49 : MTab := mtab 27 (toldMO A_wmarkLake R_wmarkLake (fun x => wmarkLake x.1 x.2.1 x.2.2) (mrest M48 27)) M48
theorem M49_ok : MTabOk Try.prog M49 := mtab_ok (wmarkLake_told) (M48_ok)

def S_wheldFloat32S_l2 : Shp := ⟨[.h, .h, .undef, .h], [], [.sl [.f .f32], .i .i64, .i .i64]⟩
def X_wheldFloat32S_l2 : List XShp := [(.ret, ⟨[.undef, .undef, .h, .undef], [], [.i .i64]⟩), (.exit 0, ⟨[.undef, .h, .undef, .undef], [], [.i .i64]⟩)]

noncomputable def L_wheldFloat32S_l2 : Loops := (⟨22, lvT [(2, [0, 1, 4, 5])], mdT [(2, .normal, [], [4]), (2, .exit 0, [], [0, 4, 5]), (2, .ret, [], [0, 1, 5])], fun k vs bs => .bad⟩ : Loops)

theorem wheldFloat32S_l2_e (y0 : List Nat) (s : Int × Int) : (loopStep (envT Try.prog C47 M49) L_wheldFloat32S_l2 2 (loopC (bodyOf Try.f29) 2) (S_wheldFloat32S_l2.enc (y0, s.1, s.2)).1 (S_wheldFloat32S_l2.enc (y0, s.1, s.2)).2).to (stepD S_wheldFloat32S_l2 X_wheldFloat32S_l2) = (wheldFloat32S_l2_t y0 s.1 s.2).map (Sum.map (fun s : Int × Int => (show DR S_wheldFloat32S_l2.hs from (y0, s.1, s.2))) id) := by kernel_rfl

theorem wheldFloat32S_l2_r (x : DR S_wheldFloat32S_l2.hs) : (wheldFloat32S_l2 x.1 x.2.1 x.2.2 : Option (SumD (X_wheldFloat32S_l2.map (·.2)))) = runL (meanS (envT Try.prog C47 M49) L_wheldFloat32S_l2 2 (loopC (bodyOf Try.f29) 2) S_wheldFloat32S_l2 X_wheldFloat32S_l2) x := run_of (fun s : Int × Int => (show DR S_wheldFloat32S_l2.hs from (x.1, s.1, s.2))) (wheldFloat32S_l2_e (x.1)) (x.2.1, x.2.2)

theorem wheldFloat32S_l2_k (L : Loops) (hn : L_wheldFloat32S_l2.n = L.n) (hlv : L_wheldFloat32S_l2.lv 2 = L.lv 2) (hL : ∀ vs bs, L.loop 2 vs bs = toldL S_wheldFloat32S_l2 X_wheldFloat32S_l2 (fun x => wheldFloat32S_l2 x.1 x.2.1 x.2.2) vs bs) : LOk Try.prog (envT Try.prog C47 M49) L 2 (loopC (bodyOf Try.f29) 2) := toldL_ok (L1 := L_wheldFloat32S_l2) (envT_ok (C47_ok) (M49_ok)) mixedO hn hlv (loopFree_ok (by kernel_rfl)) wheldFloat32S_l2_r hL

def A_wheldFloat32S : Shp := ⟨[.h, .h], [], [.sl [.f .f32], .i .i64]⟩
def R_wheldFloat32S : List XShp := [(.ret, ⟨[.h], [], [.i .i64]⟩)]

noncomputable def L_wheldFloat32S : Loops := (⟨22, lvT [(2, [0, 1, 4, 5])], mdT [(2, .normal, [], [4]), (2, .exit 0, [], [0, 4, 5]), (2, .ret, [], [0, 1, 5])], fun k vs bs => bif Nat.beq k 2 then toldL S_wheldFloat32S_l2 X_wheldFloat32S_l2 (fun x => wheldFloat32S_l2 x.1 x.2.1 x.2.2) vs bs else .bad⟩ : Loops)

theorem wheldFloat32S_e (x : DR A_wheldFloat32S.hs) : (evFn (envT Try.prog C47 M49) L_wheldFloat32S Try.f29 (A_wheldFloat32S.enc x).1).to (fun q => decX R_wheldFloat32S .ret [q.1] q.2) = wheldFloat32S_t x.1 x.2 := by kernel_rfl

theorem wheldFloat32S_m (x : DR A_wheldFloat32S.hs) : meanF (envT Try.prog C47 M49) L_wheldFloat32S Try.f29 A_wheldFloat32S R_wheldFloat32S x = (show Option (SumD (R_wheldFloat32S.map (·.2))) from wheldFloat32S x.1 x.2) := meanF_of (wheldFloat32S_e x)

theorem wheldFloat32S_ok : SpecOk Try.prog 29 (evFn (envT Try.prog C47 M49) L_wheldFloat32S Try.f29) := fnL_ok (envT_ok (C47_ok) (M49_ok)) mixedO Try.func29 (by kernel_rfl) (c := bodyOf Try.f29) (by kernel_rfl) (loopsL (l := [(2, loopC (bodyOf Try.f29) 2)]) (by kernel_rfl) (lk_cons (wheldFloat32S_l2_k _ rfl rfl (fun _ _ => rfl)) lk_nil))

theorem wheldFloat32S_told : SpecOk Try.prog 29 (toldO A_wheldFloat32S R_wheldFloat32S (fun x => wheldFloat32S x.1 x.2) (C47 29)) := toldO_ok (by kernel_rfl) wheldFloat32S_ok (rest_ok (C47_ok) _) wheldFloat32S_m

noncomputable def C50 : Tab := tab 29 (toldO A_wheldFloat32S R_wheldFloat32S (fun x => wheldFloat32S x.1 x.2) (C47 29)) C47
theorem C50_ok : TabOk Try.prog C50 := tab_ok (wheldFloat32S_told) (C47_ok)

def S_wmarkFloat32S_nil_l2 : Shp := ⟨[.nils, .h, .h], [], [.i .i64, .i .i64]⟩
def X_wmarkFloat32S_nil_l2 : List XShp := [(.exit 0, ⟨[.undef, .h, .undef], [], [.i .i64]⟩)]

noncomputable def L_wmarkFloat32S_nil_l2 : Loops := (⟨20, lvT [(2, [0, 1, 5])], mdT [(2, .exit 0, [], [0, 5])], fun k vs bs => .bad⟩ : Loops)

theorem wmarkFloat32S_nil_l2_e (y0 : Int) (y1 : Int) (s : Unit) : (loopStep (envW Try.prog C50 M49 0) L_wmarkFloat32S_nil_l2 2 (loopC (bodyOf Try.f28) 2) (S_wmarkFloat32S_nil_l2.enc (y0, y1)).1 (S_wmarkFloat32S_nil_l2.enc (y0, y1)).2).to (stepD S_wmarkFloat32S_nil_l2 X_wmarkFloat32S_nil_l2) = (wmarkFloat32S_nil_l2_t y0 y1 ).map (Sum.map (fun s : Unit => (show DR S_wmarkFloat32S_nil_l2.hs from (y0, y1))) id) := by kernel_rfl

theorem wmarkFloat32S_nil_l2_r (x : DR S_wmarkFloat32S_nil_l2.hs) : (wmarkFloat32S_nil_l2 x.1 x.2 : Option (SumD (X_wmarkFloat32S_nil_l2.map (·.2)))) = runL (meanS (envW Try.prog C50 M49 0) L_wmarkFloat32S_nil_l2 2 (loopC (bodyOf Try.f28) 2) S_wmarkFloat32S_nil_l2 X_wmarkFloat32S_nil_l2) x := run_of (fun s : Unit => (show DR S_wmarkFloat32S_nil_l2.hs from (x.1, x.2))) (wmarkFloat32S_nil_l2_e (x.1) (x.2)) ()

theorem wmarkFloat32S_nil_l2_k (L : Loops) (hn : L_wmarkFloat32S_nil_l2.n = L.n) (hlv : L_wmarkFloat32S_nil_l2.lv 2 = L.lv 2) (hL : ∀ vs bs, L.loop 2 vs bs = toldL S_wmarkFloat32S_nil_l2 X_wmarkFloat32S_nil_l2 (fun x => wmarkFloat32S_nil_l2 x.1 x.2) vs bs) : LOk Try.prog (envW Try.prog C50 M49 0) L 2 (loopC (bodyOf Try.f28) 2) := toldL_ok (L1 := L_wmarkFloat32S_nil_l2) (envW_ok (C50_ok) (M49_ok)) mixedO hn hlv (loopFree_ok (by kernel_rfl)) wmarkFloat32S_nil_l2_r hL

def A_wmarkFloat32S_nil : Shp := ⟨[.nils, .h], [], [.i .i64]⟩
def R_wmarkFloat32S_nil : List XShp := [(.ret, ⟨[.h], [], [.i .i64]⟩)]

noncomputable def L_wmarkFloat32S_nil : Loops := (⟨20, lvT [(2, [0, 1, 5])], mdT [(2, .exit 0, [], [0, 5])], fun k vs bs => bif Nat.beq k 2 then toldL S_wmarkFloat32S_nil_l2 X_wmarkFloat32S_nil_l2 (fun x => wmarkFloat32S_nil_l2 x.1 x.2) vs bs else .bad⟩ : Loops)

theorem wmarkFloat32S_nil_e (x : DR A_wmarkFloat32S_nil.hs) : (evFnM (envW Try.prog C50 M49 0) L_wmarkFloat32S_nil Try.f28 (A_wmarkFloat32S_nil.enc x).1 ((A_wmarkFloat32S_nil.enc x).2.map (·.blk))).to (decM R_wmarkFloat32S_nil) = wmarkFloat32S_nil_t x := by kernel_rfl

theorem wmarkFloat32S_nil_m (x : DR A_wmarkFloat32S_nil.hs) : meanM (envW Try.prog C50 M49 0) L_wmarkFloat32S_nil Try.f28 A_wmarkFloat32S_nil R_wmarkFloat32S_nil x = (show Option (SumD (R_wmarkFloat32S_nil.map (·.2))) from wmarkFloat32S_nil x) := meanM_of (wmarkFloat32S_nil_e x)

theorem wmarkFloat32S_nil_ok : MSpecOk Try.prog 28 (evFnM (envW Try.prog C50 M49 0) L_wmarkFloat32S_nil Try.f28) := fnM_ok (envW_ok (C50_ok) (M49_ok)) rfl mixedO Try.func28 (by kernel_rfl) (c := bodyOf Try.f28) (by kernel_rfl) (loopsL (l := [(2, loopC (bodyOf Try.f28) 2)]) (by kernel_rfl) (lk_cons (wmarkFloat32S_nil_l2_k _ rfl rfl (fun _ _ => rfl)) lk_nil))

theorem wmarkFloat32S_nil_told : MSpecOk Try.prog 28 (toldMO A_wmarkFloat32S_nil R_wmarkFloat32S_nil (fun x => wmarkFloat32S_nil x) (mrest M49 28)) := toldMO_ok (by kernel_rfl) wmarkFloat32S_nil_ok (mrest_ok (M49_ok) _) wmarkFloat32S_nil_m

noncomputable def M51 : MTab := mtab 28 (toldMO A_wmarkFloat32S_nil R_wmarkFloat32S_nil (fun x => wmarkFloat32S_nil x) (mrest M49 28)) M49
theorem M51_ok : MTabOk Try.prog M51 := mtab_ok (wmarkFloat32S_nil_told) (M49_ok)

def A_wFnExactRouteLake : Shp := ⟨[.agg [.h, .h], .h, .h, .h], [], [.sl [.f .f32], .sl [.f .f32], .f .f32, .sl [.f .f32], .f .f32]⟩
def R_wFnExactRouteLake : List XShp := [(.ret, ⟨[.h], [], [.b]⟩)]

theorem wFnExactRouteLake_e (x : DR A_wFnExactRouteLake.hs) : (evFn (envT Try.prog C50 M51) noLoops Try.f5 (A_wFnExactRouteLake.enc x).1).to (fun q => decX R_wFnExactRouteLake .ret [q.1] q.2) = wFnExactRouteLake_t x.1 x.2.1 x.2.2.1 x.2.2.2.1 x.2.2.2.2 := by kernel_rfl

theorem wFnExactRouteLake_m (x : DR A_wFnExactRouteLake.hs) : meanF (envT Try.prog C50 M51) noLoops Try.f5 A_wFnExactRouteLake R_wFnExactRouteLake x = (show Option (SumD (R_wFnExactRouteLake.map (·.2))) from wFnExactRouteLake x.1 x.2.1 x.2.2.1 x.2.2.2.1 x.2.2.2.2) := meanF_of (wFnExactRouteLake_e x)

theorem wFnExactRouteLake_ok : SpecOk Try.prog 5 (evFn (envT Try.prog C50 M51) noLoops Try.f5) := fnL_ok (envT_ok (C50_ok) (M51_ok)) mixedO Try.func5 (by kernel_rfl) (c := bodyOf Try.f5) (by kernel_rfl) (loopFree_ok (by kernel_rfl))

theorem wFnExactRouteLake_told : SpecOk Try.prog 5 (toldO A_wFnExactRouteLake R_wFnExactRouteLake (fun x => wFnExactRouteLake x.1 x.2.1 x.2.2.1 x.2.2.2.1 x.2.2.2.2) (C50 5)) := toldO_ok (by kernel_rfl) wFnExactRouteLake_ok (rest_ok (C50_ok) _) wFnExactRouteLake_m

noncomputable def C52 : Tab := tab 5 (toldO A_wFnExactRouteLake R_wFnExactRouteLake (fun x => wFnExactRouteLake x.1 x.2.1 x.2.2.1 x.2.2.2.1 x.2.2.2.2) (C50 5)) C50
theorem C52_ok : TabOk Try.prog C52 := tab_ok (wFnExactRouteLake_told) (C50_ok)

theorem lawFnExactRouteLake_ok : SpecOk Try.prog 5 (evFn (envT Try.prog C50 M51) noLoops Try.f5) := wFnExactRouteLake_ok
theorem lawFnExactRouteLake_says (x : DR A_wFnExactRouteLake.hs) (h : (show Option (SumD (R_wFnExactRouteLake.map (·.2))) from wFnExactRouteLake x.1 x.2.1 x.2.2.1 x.2.2.2.1 x.2.2.2.2) = some true) : saysTrue (evFn (envT Try.prog C50 M51) noLoops Try.f5 (A_wFnExactRouteLake.enc x).1) = true := law_says (x := x) ((wFnExactRouteLake_m x).trans h)

theorem lawFnExactRouteLake_true (x0 : List Nat) (x1 : List Nat) (x2 : Nat) (x3 : List Nat) (x4 : Nat) (h : wFnExactRouteLake x0 x1 x2 x3 x4 = some true) : saysTrue (evFn (envT Try.prog C50 M51) noLoops Try.f5 [.agg [.ds [.f .f32] x0, .ds [.f .f32] x1], .f .f32 x2, .ds [.f .f32] x3, .f .f32 x4]) = true := (congrArg (fun l => saysTrue (evFn (envT Try.prog C50 M51) noLoops Try.f5 l)) (by kernel_rfl : ([.agg [.ds [.f .f32] x0, .ds [.f .f32] x1], .f .f32 x2, .ds [.f .f32] x3, .f .f32 x4] : List V) = (A_wFnExactRouteLake.enc (x0, x1, x2, x3, x4)).1)).trans (lawFnExactRouteLake_says (x0, x1, x2, x3, x4) h)

def S_sl05Slope_l3 : Shp := ⟨[.h, .h, .h, .h, .undef, .h, .h], [], [.sl [.f .f32], .f .f32, .f .f32, .f .f32, .i .i64, .i .i64]⟩
def X_sl05Slope_l3 : List XShp := [(.ret, ⟨[.undef, .undef, .undef, .undef, .lb false, .undef, .undef], [], []⟩), (.exit 0, ⟨[.undef, .h, .h, .h, .undef, .h, .undef], [], [.f .f32, .f .f32, .f .f32, .i .i64]⟩)]

noncomputable def L_sl05Slope_l3 : Loops := (⟨46, lvT [(3, [0, 1, 2, 3, 8, 9, 10])], mdT [(3, .normal, [], [8]), (3, .exit 0, [], [0, 8, 10]), (3, .ret, [], [0, 1, 2, 3, 9, 10])], fun k vs bs => .bad⟩ : Loops)

theorem sl05Slope_l3_e (y0 : List Nat) (y1 : Nat) (y2 : Nat) (y3 : Nat) (y4 : Int) (s : Int) : (loopStep (envT Try.prog C52 M51) L_sl05Slope_l3 3 (loopC (bodyOf Try.f103) 3) (S_sl05Slope_l3.enc (y0, y1, y2, y3, y4, s)).1 (S_sl05Slope_l3.enc (y0, y1, y2, y3, y4, s)).2).to (stepD S_sl05Slope_l3 X_sl05Slope_l3) = (sl05Slope_l3_t y0 y1 y2 y3 y4 s).map (Sum.map (fun s : Int => (show DR S_sl05Slope_l3.hs from (y0, y1, y2, y3, y4, s))) id) := by kernel_rfl

theorem sl05Slope_l3_r (x : DR S_sl05Slope_l3.hs) : (sl05Slope_l3 x.1 x.2.1 x.2.2.1 x.2.2.2.1 x.2.2.2.2.1 x.2.2.2.2.2 : Option (SumD (X_sl05Slope_l3.map (·.2)))) = runL (meanS (envT Try.prog C52 M51) L_sl05Slope_l3 3 (loopC (bodyOf Try.f103) 3) S_sl05Slope_l3 X_sl05Slope_l3) x := run_of (fun s : Int => (show DR S_sl05Slope_l3.hs from (x.1, x.2.1, x.2.2.1, x.2.2.2.1, x.2.2.2.2.1, s))) (sl05Slope_l3_e (x.1) (x.2.1) (x.2.2.1) (x.2.2.2.1) (x.2.2.2.2.1)) x.2.2.2.2.2

theorem sl05Slope_l3_k (L : Loops) (hn : L_sl05Slope_l3.n = L.n) (hlv : L_sl05Slope_l3.lv 3 = L.lv 3) (hL : ∀ vs bs, L.loop 3 vs bs = toldL S_sl05Slope_l3 X_sl05Slope_l3 (fun x => sl05Slope_l3 x.1 x.2.1 x.2.2.1 x.2.2.2.1 x.2.2.2.2.1 x.2.2.2.2.2) vs bs) : LOk Try.prog (envT Try.prog C52 M51) L 3 (loopC (bodyOf Try.f103) 3) := toldL_ok (L1 := L_sl05Slope_l3) (envT_ok (C52_ok) (M51_ok)) mixedO hn hlv (loopFree_ok (by kernel_rfl)) sl05Slope_l3_r hL

def A_sl05Slope : Shp := ⟨[.h, .h, .h, .h], [], [.sl [.f .f32], .f .f32, .f .f32, .f .f32]⟩
def R_sl05Slope : List XShp := [(.ret, ⟨[.h], [], [.b]⟩)]

noncomputable def L_sl05Slope : Loops := (⟨46, lvT [(3, [0, 1, 2, 3, 8, 9, 10])], mdT [(3, .normal, [], [8]), (3, .exit 0, [], [0, 8, 10]), (3, .ret, [], [0, 1, 2, 3, 9, 10])], fun k vs bs => bif Nat.beq k 3 then toldL S_sl05Slope_l3 X_sl05Slope_l3 (fun x => sl05Slope_l3 x.1 x.2.1 x.2.2.1 x.2.2.2.1 x.2.2.2.2.1 x.2.2.2.2.2) vs bs else .bad⟩ : Loops)

theorem sl05Slope_e (x : DR A_sl05Slope.hs) : (evFn (envT Try.prog C52 M51) L_sl05Slope Try.f103 (A_sl05Slope.enc x).1).to (fun q => decX R_sl05Slope .ret [q.1] q.2) = sl05Slope_t x.1 x.2.1 x.2.2.1 x.2.2.2 := by kernel_rfl

theorem sl05Slope_m (x : DR A_sl05Slope.hs) : meanF (envT Try.prog C52 M51) L_sl05Slope Try.f103 A_sl05Slope R_sl05Slope x = (show Option (SumD (R_sl05Slope.map (·.2))) from sl05Slope x.1 x.2.1 x.2.2.1 x.2.2.2) := meanF_of (sl05Slope_e x)

theorem sl05Slope_ok : SpecOk Try.prog 103 (evFn (envT Try.prog C52 M51) L_sl05Slope Try.f103) := fnL_ok (envT_ok (C52_ok) (M51_ok)) mixedO Try.func103 (by kernel_rfl) (c := bodyOf Try.f103) (by kernel_rfl) (loopsL (l := [(3, loopC (bodyOf Try.f103) 3)]) (by kernel_rfl) (lk_cons (sl05Slope_l3_k _ rfl rfl (fun _ _ => rfl)) lk_nil))

theorem sl05Slope_told : SpecOk Try.prog 103 (toldO A_sl05Slope R_sl05Slope (fun x => sl05Slope x.1 x.2.1 x.2.2.1 x.2.2.2) (C52 103)) := toldO_ok (by kernel_rfl) sl05Slope_ok (rest_ok (C52_ok) _) sl05Slope_m

noncomputable def C53 : Tab := tab 103 (toldO A_sl05Slope R_sl05Slope (fun x => sl05Slope x.1 x.2.1 x.2.2.1 x.2.2.2) (C52 103)) C52
theorem C53_ok : TabOk Try.prog C53 := tab_ok (sl05Slope_told) (C52_ok)

def A_sl05Flow : Shp := ⟨[.h, .h], [], [.f .f32, .f .f32]⟩
def R_sl05Flow : List XShp := [(.ret, ⟨[.h], [], [.f .f32]⟩)]

theorem sl05Flow_e (x : DR A_sl05Flow.hs) : (evFn (envT Try.prog C53 M51) noLoops Try.f133 (A_sl05Flow.enc x).1).to (fun q => decX R_sl05Flow .ret [q.1] q.2) = sl05Flow_t x.1 x.2 := by kernel_rfl

theorem sl05Flow_m (x : DR A_sl05Flow.hs) : meanF (envT Try.prog C53 M51) noLoops Try.f133 A_sl05Flow R_sl05Flow x = some (show SumD (R_sl05Flow.map (·.2)) from sl05Flow x.1 x.2) := @meanF_tot _ _ _ _ _ _ _ (sl05Flow_e x) (show Inhabited (Nat) from inferInstance) (by kernel_rfl)

theorem sl05Flow_ok : SpecOk Try.prog 133 (evFn (envT Try.prog C53 M51) noLoops Try.f133) := fnL_ok (envT_ok (C53_ok) (M51_ok)) mixedO Try.func133 (by kernel_rfl) (c := bodyOf Try.f133) (by kernel_rfl) (loopFree_ok (by kernel_rfl))

theorem sl05Flow_told : SpecOk Try.prog 133 (toldT A_sl05Flow R_sl05Flow (fun x => sl05Flow x.1 x.2) (C53 133)) := toldT_ok (by kernel_rfl) sl05Flow_ok (rest_ok (C53_ok) _) sl05Flow_m

noncomputable def C54 : Tab := tab 133 (toldT A_sl05Flow R_sl05Flow (fun x => sl05Flow x.1 x.2) (C53 133)) C53
theorem C54_ok : TabOk Try.prog C54 := tab_ok (sl05Flow_told) (C53_ok)

def S_sl05Wave_l4 : Shp := ⟨[.h, .h, .h, .h, .h, .undef, .undef, .undef, .h, .slw 0 1, .h, .h], [.arr [.f .f32] false], [.sl [.f .f32], .f .f32, .f .f32, .f .f32, .f .f32, .f .f32, .i .i64, .i .i64, .sl [.f .f32]]⟩
def X_sl05Wave_l4 : List XShp := [(.ret, ⟨[.undef, .undef, .undef, .undef, .undef, .nils, .h, .lb false, .undef, .undef, .undef, .undef], [], [.f .f32]⟩), (.exit 0, ⟨[.h, .h, .undef, .undef, .undef, .undef, .undef, .undef, .h, .slw 0 1, .undef, .undef], [.arr [.f .f32] false], [.sl [.f .f32], .f .f32, .f .f32, .sl [.f .f32]]⟩)]

noncomputable def L_sl05Wave_l4 : Loops := (⟨102, lvT [(12, [0, 1, 13, 14, 16, 54, 55]), (4, [0, 1, 2, 3, 4, 10, 11, 12, 13, 14, 26, 27])], mdT [(12, .exit 2, [], [0, 1, 13, 54, 55]), (4, .normal, [], [10, 11, 12]), (4, .exit 0, [], [2, 3, 4, 10, 11, 12, 26, 27]), (4, .ret, [], [0, 1, 2, 3, 4, 13, 14, 26, 27])], fun k vs bs => .bad⟩ : Loops)

theorem sl05Wave_l4_e (y0 : List Nat) (y1 : Nat) (y2 : Nat) (y3 : Nat) (y4 : Nat) (y5 : Nat) (y6 : Int) (s : Int × List Nat) : (loopStep (envT Try.prog C54 M51) L_sl05Wave_l4 4 (loopC (bodyOf Try.f104) 4) (S_sl05Wave_l4.enc (y0, y1, y2, y3, y4, y5, y6, s.1, s.2)).1 (S_sl05Wave_l4.enc (y0, y1, y2, y3, y4, y5, y6, s.1, s.2)).2).to (stepD S_sl05Wave_l4 X_sl05Wave_l4) = (sl05Wave_l4_t y0 y1 y2 y3 y4 y5 y6 s.1 s.2).map (Sum.map (fun s : Int × List Nat => (show DR S_sl05Wave_l4.hs from (y0, y1, y2, y3, y4, y5, y6, s.1, s.2))) id) := by kernel_rfl

theorem sl05Wave_l4_r (x : DR S_sl05Wave_l4.hs) : (sl05Wave_l4 x.1 x.2.1 x.2.2.1 x.2.2.2.1 x.2.2.2.2.1 x.2.2.2.2.2.1 x.2.2.2.2.2.2.1 x.2.2.2.2.2.2.2.1 x.2.2.2.2.2.2.2.2 : Option (SumD (X_sl05Wave_l4.map (·.2)))) = runL (meanS (envT Try.prog C54 M51) L_sl05Wave_l4 4 (loopC (bodyOf Try.f104) 4) S_sl05Wave_l4 X_sl05Wave_l4) x := run_of (fun s : Int × List Nat => (show DR S_sl05Wave_l4.hs from (x.1, x.2.1, x.2.2.1, x.2.2.2.1, x.2.2.2.2.1, x.2.2.2.2.2.1, x.2.2.2.2.2.2.1, s.1, s.2))) (sl05Wave_l4_e (x.1) (x.2.1) (x.2.2.1) (x.2.2.2.1) (x.2.2.2.2.1) (x.2.2.2.2.2.1) (x.2.2.2.2.2.2.1)) (x.2.2.2.2.2.2.2.1, x.2.2.2.2.2.2.2.2)

theorem sl05Wave_l4_k (L : Loops) (hn : L_sl05Wave_l4.n = L.n) (hlv : L_sl05Wave_l4.lv 4 = L.lv 4) (hL : ∀ vs bs, L.loop 4 vs bs = toldL S_sl05Wave_l4 X_sl05Wave_l4 (fun x => sl05Wave_l4 x.1 x.2.1 x.2.2.1 x.2.2.2.1 x.2.2.2.2.1 x.2.2.2.2.2.1 x.2.2.2.2.2.2.1 x.2.2.2.2.2.2.2.1 x.2.2.2.2.2.2.2.2) vs bs) : LOk Try.prog (envT Try.prog C54 M51) L 4 (loopC (bodyOf Try.f104) 4) := toldL_ok (L1 := L_sl05Wave_l4) (envT_ok (C54_ok) (M51_ok)) mixedO hn hlv (loopFree_ok (by kernel_rfl)) sl05Wave_l4_r hL

def S_sl05Wave_l12 : Shp := ⟨[.h, .h, .h, .slw 0 1, .slw 1 1, .h, .h], [.arr [.f .f32] false, .arr [.f .f32] false], [.sl [.f .f32], .f .f32, .f .f32, .i .i64, .i .i64, .sl [.f .f32], .sl [.f .f32]]⟩
def X_sl05Wave_l12 : List XShp := [(.exit 2, ⟨[.undef, .undef, .undef, .slw 0 1, .slw 1 1, .undef, .undef], [.arr [.f .f32] false, .arr [.f .f32] false], [.sl [.f .f32], .sl [.f .f32]]⟩)]

noncomputable def L_sl05Wave_l12 : Loops := (⟨102, lvT [(12, [0, 1, 13, 14, 16, 54, 55]), (4, [0, 1, 2, 3, 4, 10, 11, 12, 13, 14, 26, 27])], mdT [(12, .exit 2, [], [0, 1, 13, 54, 55]), (4, .normal, [], [10, 11, 12]), (4, .exit 0, [], [2, 3, 4, 10, 11, 12, 26, 27]), (4, .ret, [], [0, 1, 2, 3, 4, 13, 14, 26, 27])], fun k vs bs => .bad⟩ : Loops)

theorem sl05Wave_l12_e (y0 : List Nat) (y1 : Nat) (y2 : Nat) (y3 : Int) (y5 : List Nat) (s : Int × List Nat) : (loopStep (envT Try.prog C54 M51) L_sl05Wave_l12 12 (loopC (bodyOf Try.f104) 12) (S_sl05Wave_l12.enc (y0, y1, y2, y3, s.1, y5, s.2)).1 (S_sl05Wave_l12.enc (y0, y1, y2, y3, s.1, y5, s.2)).2).to (stepD S_sl05Wave_l12 X_sl05Wave_l12) = (sl05Wave_l12_t y0 y1 y2 y3 y5 s.1 s.2).map (Sum.map (fun s : Int × List Nat => (show DR S_sl05Wave_l12.hs from (y0, y1, y2, y3, s.1, y5, s.2))) id) := by kernel_rfl

theorem sl05Wave_l12_r (x : DR S_sl05Wave_l12.hs) : (sl05Wave_l12 x.1 x.2.1 x.2.2.1 x.2.2.2.1 x.2.2.2.2.1 x.2.2.2.2.2.1 x.2.2.2.2.2.2 : Option (SumD (X_sl05Wave_l12.map (·.2)))) = runL (meanS (envT Try.prog C54 M51) L_sl05Wave_l12 12 (loopC (bodyOf Try.f104) 12) S_sl05Wave_l12 X_sl05Wave_l12) x := run_of (fun s : Int × List Nat => (show DR S_sl05Wave_l12.hs from (x.1, x.2.1, x.2.2.1, x.2.2.2.1, s.1, x.2.2.2.2.2.1, s.2))) (sl05Wave_l12_e (x.1) (x.2.1) (x.2.2.1) (x.2.2.2.1) (x.2.2.2.2.2.1)) (x.2.2.2.2.1, x.2.2.2.2.2.2)

theorem sl05Wave_l12_k (L : Loops) (hn : L_sl05Wave_l12.n = L.n) (hlv : L_sl05Wave_l12.lv 12 = L.lv 12) (hL : ∀ vs bs, L.loop 12 vs bs = toldL S_sl05Wave_l12 X_sl05Wave_l12 (fun x => sl05Wave_l12 x.1 x.2.1 x.2.2.1 x.2.2.2.1 x.2.2.2.2.1 x.2.2.2.2.2.1 x.2.2.2.2.2.2) vs bs) : LOk Try.prog (envT Try.prog C54 M51) L 12 (loopC (bodyOf Try.f104) 12) := toldL_ok (L1 := L_sl05Wave_l12) (envT_ok (C54_ok) (M51_ok)) mixedO hn hlv (loopFree_ok (by kernel_rfl)) sl05Wave_l12_r hL

def A_sl05Wave : Shp := ⟨[.h, .h, .h, .h, .h], [], [.sl [.f .f32], .f .f32, .f .f32, .f .f32, .f .f32]⟩
def R_sl05Wave : List XShp := [(.ret, ⟨[.tup [.nils, .h, .lb false]], [], [.f .f32]⟩), (.ret, ⟨[.tup [.slw 0 1, .h, .lb true]], [.arr [.f .f32] false], [.f .f32, .sl [.f .f32]]⟩)]

noncomputable def L_sl05Wave : Loops := (⟨102, lvT [(12, [0, 1, 13, 14, 16, 54, 55]), (4, [0, 1, 2, 3, 4, 10, 11, 12, 13, 14, 26, 27])], mdT [(12, .exit 2, [], [0, 1, 13, 54, 55]), (4, .normal, [], [10, 11, 12]), (4, .exit 0, [], [2, 3, 4, 10, 11, 12, 26, 27]), (4, .ret, [], [0, 1, 2, 3, 4, 13, 14, 26, 27])], fun k vs bs => bif Nat.beq k 12 then toldL S_sl05Wave_l12 X_sl05Wave_l12 (fun x => sl05Wave_l12 x.1 x.2.1 x.2.2.1 x.2.2.2.1 x.2.2.2.2.1 x.2.2.2.2.2.1 x.2.2.2.2.2.2) vs bs else bif Nat.beq k 4 then toldL S_sl05Wave_l4 X_sl05Wave_l4 (fun x => sl05Wave_l4 x.1 x.2.1 x.2.2.1 x.2.2.2.1 x.2.2.2.2.1 x.2.2.2.2.2.1 x.2.2.2.2.2.2.1 x.2.2.2.2.2.2.2.1 x.2.2.2.2.2.2.2.2) vs bs else .bad⟩ : Loops)

theorem sl05Wave_e (x : DR A_sl05Wave.hs) : (evFn (envT Try.prog C54 M51) L_sl05Wave Try.f104 (A_sl05Wave.enc x).1).to (fun q => decX R_sl05Wave .ret [q.1] q.2) = sl05Wave_t x.1 x.2.1 x.2.2.1 x.2.2.2.1 x.2.2.2.2 := by kernel_rfl

theorem sl05Wave_m (x : DR A_sl05Wave.hs) : meanF (envT Try.prog C54 M51) L_sl05Wave Try.f104 A_sl05Wave R_sl05Wave x = (show Option (SumD (R_sl05Wave.map (·.2))) from sl05Wave x.1 x.2.1 x.2.2.1 x.2.2.2.1 x.2.2.2.2) := meanF_of (sl05Wave_e x)

theorem sl05Wave_ok : SpecOk Try.prog 104 (evFn (envT Try.prog C54 M51) L_sl05Wave Try.f104) := fnL_ok (envT_ok (C54_ok) (M51_ok)) mixedO Try.func104 (by kernel_rfl) (c := bodyOf Try.f104) (by kernel_rfl) (loopsL (l := [(4, loopC (bodyOf Try.f104) 4), (12, loopC (bodyOf Try.f104) 12)]) (by kernel_rfl) (lk_cons (sl05Wave_l4_k _ rfl rfl (fun _ _ => rfl)) (lk_cons (sl05Wave_l12_k _ rfl rfl (fun _ _ => rfl)) lk_nil)))

theorem sl05Wave_told : SpecOk Try.prog 104 (toldO A_sl05Wave R_sl05Wave (fun x => sl05Wave x.1 x.2.1 x.2.2.1 x.2.2.2.1 x.2.2.2.2) (C54 104)) := toldO_ok (by kernel_rfl) sl05Wave_ok (rest_ok (C54_ok) _) sl05Wave_m

noncomputable def C55 : Tab := tab 104 (toldO A_sl05Wave R_sl05Wave (fun x => sl05Wave x.1 x.2.1 x.2.2.1 x.2.2.2.1 x.2.2.2.2) (C54 104)) C54
theorem C55_ok : TabOk Try.prog C55 := tab_ok (sl05Wave_told) (C54_ok)

def A_sStepWave : Shp := ⟨[.h, .h, .h, .h, .h], [], [.sl [.f .f32], .f .f32, .f .f32, .f .f32, .f .f32]⟩
def R_sStepWave : List XShp := [(.ret, ⟨[.tup [.nils, .h, .lb false]], [], [.f .f32]⟩), (.ret, ⟨[.tup [.slw 0 1, .h, .lb true]], [.arr [.f .f32] false], [.f .f32, .sl [.f .f32]]⟩)]

theorem sStepWave_e (x : DR A_sStepWave.hs) : (evFn (envT Try.prog C55 M51) noLoops Try.f57 (A_sStepWave.enc x).1).to (fun q => decX R_sStepWave .ret [q.1] q.2) = sStepWave_t x.1 x.2.1 x.2.2.1 x.2.2.2.1 x.2.2.2.2 := by kernel_rfl

theorem sStepWave_m (x : DR A_sStepWave.hs) : meanF (envT Try.prog C55 M51) noLoops Try.f57 A_sStepWave R_sStepWave x = (show Option (SumD (R_sStepWave.map (·.2))) from sStepWave x.1 x.2.1 x.2.2.1 x.2.2.2.1 x.2.2.2.2) := meanF_of (sStepWave_e x)

theorem sStepWave_ok : SpecOk Try.prog 57 (evFn (envT Try.prog C55 M51) noLoops Try.f57) := fnL_ok (envT_ok (C55_ok) (M51_ok)) mixedO Try.func57 (by kernel_rfl) (c := bodyOf Try.f57) (by kernel_rfl) (loopFree_ok (by kernel_rfl))

theorem sStepWave_told : SpecOk Try.prog 57 (toldO A_sStepWave R_sStepWave (fun x => sStepWave x.1 x.2.1 x.2.2.1 x.2.2.2.1 x.2.2.2.2) (C55 57)) := toldO_ok (by kernel_rfl) sStepWave_ok (rest_ok (C55_ok) _) sStepWave_m

noncomputable def C56 : Tab := tab 57 (toldO A_sStepWave R_sStepWave (fun x => sStepWave x.1 x.2.1 x.2.2.1 x.2.2.2.1 x.2.2.2.2) (C55 57)) C55
theorem C56_ok : TabOk Try.prog C56 := tab_ok (sStepWave_told) (C55_ok)

def S_iareLengths_l2 : Shp := ⟨[.undef, .h, .h, .h], [], [.sl [.f .f32], .i .i64, .i .i64]⟩
def X_iareLengths_l2 : List XShp := [(.ret, ⟨[.lb false, .undef, .undef, .undef], [], []⟩), (.exit 0, ⟨[.undef, .undef, .undef, .undef], [], []⟩)]

noncomputable def L_iareLengths_l2 : Loops := (⟨15, lvT [(2, [2, 5, 6, 7])], mdT [(2, .normal, [], [2]), (2, .exit 0, [], [2, 5, 6, 7]), (2, .ret, [], [5, 6, 7])], fun k vs bs => .bad⟩ : Loops)

theorem iareLengths_l2_e (y0 : List Nat) (y1 : Int) (s : Int) : (loopStep (envT Try.prog C56 M51) L_iareLengths_l2 2 (loopC (bodyOf Try.f130) 2) (S_iareLengths_l2.enc (y0, y1, s)).1 (S_iareLengths_l2.enc (y0, y1, s)).2).to (stepD S_iareLengths_l2 X_iareLengths_l2) = (iareLengths_l2_t y0 y1 s).map (Sum.map (fun s : Int => (show DR S_iareLengths_l2.hs from (y0, y1, s))) id) := by kernel_rfl

theorem iareLengths_l2_r (x : DR S_iareLengths_l2.hs) : (iareLengths_l2 x.1 x.2.1 x.2.2 : Option (SumD (X_iareLengths_l2.map (·.2)))) = runL (meanS (envT Try.prog C56 M51) L_iareLengths_l2 2 (loopC (bodyOf Try.f130) 2) S_iareLengths_l2 X_iareLengths_l2) x := run_of (fun s : Int => (show DR S_iareLengths_l2.hs from (x.1, x.2.1, s))) (iareLengths_l2_e (x.1) (x.2.1)) x.2.2

theorem iareLengths_l2_k (L : Loops) (hn : L_iareLengths_l2.n = L.n) (hlv : L_iareLengths_l2.lv 2 = L.lv 2) (hL : ∀ vs bs, L.loop 2 vs bs = toldL S_iareLengths_l2 X_iareLengths_l2 (fun x => iareLengths_l2 x.1 x.2.1 x.2.2) vs bs) : LOk Try.prog (envT Try.prog C56 M51) L 2 (loopC (bodyOf Try.f130) 2) := toldL_ok (L1 := L_iareLengths_l2) (envT_ok (C56_ok) (M51_ok)) mixedO hn hlv (loopFree_ok (by kernel_rfl)) iareLengths_l2_r hL

def A_iareLengths : Shp := ⟨[.h], [], [.sl [.f .f32]]⟩
def R_iareLengths : List XShp := [(.ret, ⟨[.h], [], [.b]⟩)]

noncomputable def L_iareLengths : Loops := (⟨15, lvT [(2, [2, 5, 6, 7])], mdT [(2, .normal, [], [2]), (2, .exit 0, [], [2, 5, 6, 7]), (2, .ret, [], [5, 6, 7])], fun k vs bs => bif Nat.beq k 2 then toldL S_iareLengths_l2 X_iareLengths_l2 (fun x => iareLengths_l2 x.1 x.2.1 x.2.2) vs bs else .bad⟩ : Loops)

theorem iareLengths_e (x : DR A_iareLengths.hs) : (evFn (envT Try.prog C56 M51) L_iareLengths Try.f130 (A_iareLengths.enc x).1).to (fun q => decX R_iareLengths .ret [q.1] q.2) = iareLengths_t x := by kernel_rfl

theorem iareLengths_m (x : DR A_iareLengths.hs) : meanF (envT Try.prog C56 M51) L_iareLengths Try.f130 A_iareLengths R_iareLengths x = (show Option (SumD (R_iareLengths.map (·.2))) from iareLengths x) := meanF_of (iareLengths_e x)

theorem iareLengths_ok : SpecOk Try.prog 130 (evFn (envT Try.prog C56 M51) L_iareLengths Try.f130) := fnL_ok (envT_ok (C56_ok) (M51_ok)) mixedO Try.func130 (by kernel_rfl) (c := bodyOf Try.f130) (by kernel_rfl) (loopsL (l := [(2, loopC (bodyOf Try.f130) 2)]) (by kernel_rfl) (lk_cons (iareLengths_l2_k _ rfl rfl (fun _ _ => rfl)) lk_nil))

theorem iareLengths_told : SpecOk Try.prog 130 (toldO A_iareLengths R_iareLengths (fun x => iareLengths x) (C56 130)) := toldO_ok (by kernel_rfl) iareLengths_ok (rest_ok (C56_ok) _) iareLengths_m

noncomputable def C57 : Tab := tab 130 (toldO A_iareLengths R_iareLengths (fun x => iareLengths x) (C56 130)) C56
theorem C57_ok : TabOk Try.prog C57 := tab_ok (iareLengths_told) (C56_ok)

def A_iisWave : Shp := ⟨[.h, .h, .h, .h], [], [.sl [.f .f32], .f .f32, .f .f32, .f .f32]⟩
def R_iisWave : List XShp := [(.ret, ⟨[.h], [], [.b]⟩)]

theorem iisWave_e (x : DR A_iisWave.hs) : (evFn (envT Try.prog C57 M51) noLoops Try.f105 (A_iisWave.enc x).1).to (fun q => decX R_iisWave .ret [q.1] q.2) = iisWave_t x.1 x.2.1 x.2.2.1 x.2.2.2 := by kernel_rfl

theorem iisWave_m (x : DR A_iisWave.hs) : meanF (envT Try.prog C57 M51) noLoops Try.f105 A_iisWave R_iisWave x = (show Option (SumD (R_iisWave.map (·.2))) from iisWave x.1 x.2.1 x.2.2.1 x.2.2.2) := meanF_of (iisWave_e x)

theorem iisWave_ok : SpecOk Try.prog 105 (evFn (envT Try.prog C57 M51) noLoops Try.f105) := fnL_ok (envT_ok (C57_ok) (M51_ok)) mixedO Try.func105 (by kernel_rfl) (c := bodyOf Try.f105) (by kernel_rfl) (loopFree_ok (by kernel_rfl))

theorem iisWave_told : SpecOk Try.prog 105 (toldO A_iisWave R_iisWave (fun x => iisWave x.1 x.2.1 x.2.2.1 x.2.2.2) (C57 105)) := toldO_ok (by kernel_rfl) iisWave_ok (rest_ok (C57_ok) _) iisWave_m

noncomputable def C58 : Tab := tab 105 (toldO A_iisWave R_iisWave (fun x => iisWave x.1 x.2.1 x.2.2.1 x.2.2.2) (C57 105)) C57
theorem C58_ok : TabOk Try.prog C58 := tab_ok (iisWave_told) (C57_ok)

def A_iwaveFlow : Shp := ⟨[.h, .h], [], [.f .f32, .f .f32]⟩
def R_iwaveFlow : List XShp := [(.ret, ⟨[.h], [], [.f .f32]⟩)]

theorem iwaveFlow_e (x : DR A_iwaveFlow.hs) : (evFn (envT Try.prog C58 M51) noLoops Try.f108 (A_iwaveFlow.enc x).1).to (fun q => decX R_iwaveFlow .ret [q.1] q.2) = iwaveFlow_t x.1 x.2 := by kernel_rfl

theorem iwaveFlow_m (x : DR A_iwaveFlow.hs) : meanF (envT Try.prog C58 M51) noLoops Try.f108 A_iwaveFlow R_iwaveFlow x = some (show SumD (R_iwaveFlow.map (·.2)) from iwaveFlow x.1 x.2) := @meanF_tot _ _ _ _ _ _ _ (iwaveFlow_e x) (show Inhabited (Nat) from inferInstance) (by kernel_rfl)

theorem iwaveFlow_ok : SpecOk Try.prog 108 (evFn (envT Try.prog C58 M51) noLoops Try.f108) := fnL_ok (envT_ok (C58_ok) (M51_ok)) mixedO Try.func108 (by kernel_rfl) (c := bodyOf Try.f108) (by kernel_rfl) (loopFree_ok (by kernel_rfl))

theorem iwaveFlow_told : SpecOk Try.prog 108 (toldT A_iwaveFlow R_iwaveFlow (fun x => iwaveFlow x.1 x.2) (C58 108)) := toldT_ok (by kernel_rfl) iwaveFlow_ok (rest_ok (C58_ok) _) iwaveFlow_m

noncomputable def C59 : Tab := tab 108 (toldT A_iwaveFlow R_iwaveFlow (fun x => iwaveFlow x.1 x.2) (C58 108)) C58
theorem C59_ok : TabOk Try.prog C59 := tab_ok (iwaveFlow_told) (C58_ok)

def S_iStepWave_l5 : Shp := ⟨[.h, .h, .h, .undef, .undef, .undef, .slw 0 1, .h, .h, .h, .h], [.arr [.f .f32] false], [.f .f32, .f .f32, .f .f32, .f .f32, .sl [.f .f32], .i .i64, .i .i64, .sl [.f .f32]]⟩
def X_iStepWave_l5 : List XShp := [(.ret, ⟨[.undef, .undef, .undef, .nils, .h, .lb false, .undef, .undef, .undef, .undef, .undef], [], [.f .f32]⟩), (.exit 0, ⟨[.undef, .undef, .undef, .undef, .undef, .undef, .slw 0 1, .h, .undef, .undef, .undef], [.arr [.f .f32] false], [.f .f32, .sl [.f .f32]]⟩)]

noncomputable def L_iStepWave_l5 : Loops := (⟨77, lvT [(5, [2, 3, 4, 10, 11, 12, 13, 14, 32, 33, 34])], mdT [(5, .normal, [], [10, 11, 12]), (5, .exit 0, [], [2, 3, 4, 10, 11, 12, 32, 33, 34]), (5, .ret, [], [2, 3, 4, 13, 14, 32, 33, 34])], fun k vs bs => .bad⟩ : Loops)

theorem iStepWave_l5_e (y0 : Nat) (y1 : Nat) (y2 : Nat) (y4 : List Nat) (y5 : Int) (s : Nat × Int × List Nat) : (loopStep (envT Try.prog C59 M51) L_iStepWave_l5 5 (loopC (bodyOf Try.f58) 5) (S_iStepWave_l5.enc (y0, y1, y2, s.1, y4, y5, s.2.1, s.2.2)).1 (S_iStepWave_l5.enc (y0, y1, y2, s.1, y4, y5, s.2.1, s.2.2)).2).to (stepD S_iStepWave_l5 X_iStepWave_l5) = (iStepWave_l5_t y0 y1 y2 y4 y5 s.1 s.2.1 s.2.2).map (Sum.map (fun s : Nat × Int × List Nat => (show DR S_iStepWave_l5.hs from (y0, y1, y2, s.1, y4, y5, s.2.1, s.2.2))) id) := by kernel_rfl

theorem iStepWave_l5_r (x : DR S_iStepWave_l5.hs) : (iStepWave_l5 x.1 x.2.1 x.2.2.1 x.2.2.2.1 x.2.2.2.2.1 x.2.2.2.2.2.1 x.2.2.2.2.2.2.1 x.2.2.2.2.2.2.2 : Option (SumD (X_iStepWave_l5.map (·.2)))) = runL (meanS (envT Try.prog C59 M51) L_iStepWave_l5 5 (loopC (bodyOf Try.f58) 5) S_iStepWave_l5 X_iStepWave_l5) x := run_of (fun s : Nat × Int × List Nat => (show DR S_iStepWave_l5.hs from (x.1, x.2.1, x.2.2.1, s.1, x.2.2.2.2.1, x.2.2.2.2.2.1, s.2.1, s.2.2))) (iStepWave_l5_e (x.1) (x.2.1) (x.2.2.1) (x.2.2.2.2.1) (x.2.2.2.2.2.1)) (x.2.2.2.1, x.2.2.2.2.2.2.1, x.2.2.2.2.2.2.2)

theorem iStepWave_l5_k (L : Loops) (hn : L_iStepWave_l5.n = L.n) (hlv : L_iStepWave_l5.lv 5 = L.lv 5) (hL : ∀ vs bs, L.loop 5 vs bs = toldL S_iStepWave_l5 X_iStepWave_l5 (fun x => iStepWave_l5 x.1 x.2.1 x.2.2.1 x.2.2.2.1 x.2.2.2.2.1 x.2.2.2.2.2.1 x.2.2.2.2.2.2.1 x.2.2.2.2.2.2.2) vs bs) : LOk Try.prog (envT Try.prog C59 M51) L 5 (loopC (bodyOf Try.f58) 5) := toldL_ok (L1 := L_iStepWave_l5) (envT_ok (C59_ok) (M51_ok)) mixedO hn hlv (loopFree_ok (by kernel_rfl)) iStepWave_l5_r hL

def A_iStepWave : Shp := ⟨[.h, .h, .h, .h, .h], [], [.sl [.f .f32], .f .f32, .f .f32, .f .f32, .f .f32]⟩
def R_iStepWave : List XShp := [(.ret, ⟨[.tup [.nils, .h, .lb false]], [], [.f .f32]⟩), (.ret, ⟨[.tup [.slw 0 1, .h, .lb true]], [.arr [.f .f32] false], [.f .f32, .sl [.f .f32]]⟩)]

noncomputable def L_iStepWave : Loops := (⟨77, lvT [(5, [2, 3, 4, 10, 11, 12, 13, 14, 32, 33, 34])], mdT [(5, .normal, [], [10, 11, 12]), (5, .exit 0, [], [2, 3, 4, 10, 11, 12, 32, 33, 34]), (5, .ret, [], [2, 3, 4, 13, 14, 32, 33, 34])], fun k vs bs => bif Nat.beq k 5 then toldL S_iStepWave_l5 X_iStepWave_l5 (fun x => iStepWave_l5 x.1 x.2.1 x.2.2.1 x.2.2.2.1 x.2.2.2.2.1 x.2.2.2.2.2.1 x.2.2.2.2.2.2.1 x.2.2.2.2.2.2.2) vs bs else .bad⟩ : Loops)

theorem iStepWave_e (x : DR A_iStepWave.hs) : (evFn (envT Try.prog C59 M51) L_iStepWave Try.f58 (A_iStepWave.enc x).1).to (fun q => decX R_iStepWave .ret [q.1] q.2) = iStepWave_t x.1 x.2.1 x.2.2.1 x.2.2.2.1 x.2.2.2.2 := by kernel_rfl

theorem iStepWave_m (x : DR A_iStepWave.hs) : meanF (envT Try.prog C59 M51) L_iStepWave Try.f58 A_iStepWave R_iStepWave x = (show Option (SumD (R_iStepWave.map (·.2))) from iStepWave x.1 x.2.1 x.2.2.1 x.2.2.2.1 x.2.2.2.2) := meanF_of (iStepWave_e x)

theorem iStepWave_ok : SpecOk Try.prog 58 (evFn (envT Try.prog C59 M51) L_iStepWave Try.f58) := fnL_ok (envT_ok (C59_ok) (M51_ok)) mixedO Try.func58 (by kernel_rfl) (c := bodyOf Try.f58) (by kernel_rfl) (loopsL (l := [(5, loopC (bodyOf Try.f58) 5)]) (by kernel_rfl) (lk_cons (iStepWave_l5_k _ rfl rfl (fun _ _ => rfl)) lk_nil))

theorem iStepWave_told : SpecOk Try.prog 58 (toldO A_iStepWave R_iStepWave (fun x => iStepWave x.1 x.2.1 x.2.2.1 x.2.2.2.1 x.2.2.2.2) (C59 58)) := toldO_ok (by kernel_rfl) iStepWave_ok (rest_ok (C59_ok) _) iStepWave_m

noncomputable def C60 : Tab := tab 58 (toldO A_iStepWave R_iStepWave (fun x => iStepWave x.1 x.2.1 x.2.2.1 x.2.2.2.1 x.2.2.2.2) (C59 58)) C59
theorem C60_ok : TabOk Try.prog C60 := tab_ok (iStepWave_told) (C59_ok)

def A_wFnExactStepWave : Shp := ⟨[.h, .h, .h, .h, .h], [], [.sl [.f .f32], .f .f32, .f .f32, .f .f32, .f .f32]⟩
def R_wFnExactStepWave : List XShp := [(.ret, ⟨[.h], [], [.b]⟩)]

theorem wFnExactStepWave_e (x : DR A_wFnExactStepWave.hs) : (evFn (envT Try.prog C60 M51) noLoops Try.f12 (A_wFnExactStepWave.enc x).1).to (fun q => decX R_wFnExactStepWave .ret [q.1] q.2) = wFnExactStepWave_t x.1 x.2.1 x.2.2.1 x.2.2.2.1 x.2.2.2.2 := by kernel_rfl

theorem wFnExactStepWave_m (x : DR A_wFnExactStepWave.hs) : meanF (envT Try.prog C60 M51) noLoops Try.f12 A_wFnExactStepWave R_wFnExactStepWave x = (show Option (SumD (R_wFnExactStepWave.map (·.2))) from wFnExactStepWave x.1 x.2.1 x.2.2.1 x.2.2.2.1 x.2.2.2.2) := meanF_of (wFnExactStepWave_e x)

theorem wFnExactStepWave_ok : SpecOk Try.prog 12 (evFn (envT Try.prog C60 M51) noLoops Try.f12) := fnL_ok (envT_ok (C60_ok) (M51_ok)) mixedO Try.func12 (by kernel_rfl) (c := bodyOf Try.f12) (by kernel_rfl) (loopFree_ok (by kernel_rfl))

theorem wFnExactStepWave_told : SpecOk Try.prog 12 (toldO A_wFnExactStepWave R_wFnExactStepWave (fun x => wFnExactStepWave x.1 x.2.1 x.2.2.1 x.2.2.2.1 x.2.2.2.2) (C60 12)) := toldO_ok (by kernel_rfl) wFnExactStepWave_ok (rest_ok (C60_ok) _) wFnExactStepWave_m

noncomputable def C61 : Tab := tab 12 (toldO A_wFnExactStepWave R_wFnExactStepWave (fun x => wFnExactStepWave x.1 x.2.1 x.2.2.1 x.2.2.2.1 x.2.2.2.2) (C60 12)) C60
theorem C61_ok : TabOk Try.prog C61 := tab_ok (wFnExactStepWave_told) (C60_ok)

theorem lawFnExactStepWave_ok : SpecOk Try.prog 12 (evFn (envT Try.prog C60 M51) noLoops Try.f12) := wFnExactStepWave_ok
theorem lawFnExactStepWave_says (x : DR A_wFnExactStepWave.hs) (h : (show Option (SumD (R_wFnExactStepWave.map (·.2))) from wFnExactStepWave x.1 x.2.1 x.2.2.1 x.2.2.2.1 x.2.2.2.2) = some true) : saysTrue (evFn (envT Try.prog C60 M51) noLoops Try.f12 (A_wFnExactStepWave.enc x).1) = true := law_says (x := x) ((wFnExactStepWave_m x).trans h)

theorem lawFnExactStepWave_true (x0 : List Nat) (x1 : Nat) (x2 : Nat) (x3 : Nat) (x4 : Nat) (h : wFnExactStepWave x0 x1 x2 x3 x4 = some true) : saysTrue (evFn (envT Try.prog C60 M51) noLoops Try.f12 [.ds [.f .f32] x0, .f .f32 x1, .f .f32 x2, .f .f32 x3, .f .f32 x4]) = true := (congrArg (fun l => saysTrue (evFn (envT Try.prog C60 M51) noLoops Try.f12 l)) (by kernel_rfl : ([.ds [.f .f32] x0, .f .f32 x1, .f .f32 x2, .f .f32 x3, .f .f32 x4] : List V) = (A_wFnExactStepWave.enc (x0, x1, x2, x3, x4)).1)).trans (lawFnExactStepWave_says (x0, x1, x2, x3, x4) h)
end Go.Proofs.Ytikmeahdcipanaa
