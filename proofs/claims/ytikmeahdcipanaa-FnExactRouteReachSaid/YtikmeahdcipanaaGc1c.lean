/- Functions, as plain functions. What the program comes to. -/
import Derived.Test.YtikmeahdcipanaaGc1d
import Derived.Test.YtikmeahdcipanaaDb
import Derived.Test.YtikmeahdcipanaaNv
import Derived.KernelRfl
set_option linter.unusedVariables false
set_option linter.unusedSimpArgs false
set_option linter.constructorNameAsVariable false
namespace Go.Proofs.Ytikmeahdcipanaa
open Go.RowKit
set_option maxRecDepth 100000
theorem mixedO : (Try.prog).follows .mixedOrders = true := by kernel_rfl
noncomputable def C0 : Tab := tab 68 (spFB .f32 (isFin .f32)) tab0
theorem C0_ok : TabOk Try.prog C0 := tab_ok (spFB_ok Try.func68 (by kernel_rfl) (fun hx => l01Finite_c hx)) (tab0_ok _)

noncomputable def C1 : Tab := tab 72 (spFB .f32 (isFin .f32)) C0
theorem C1_ok : TabOk Try.prog C1 := tab_ok (spFB_ok Try.func72 (by kernel_rfl) (fun hx => IsFinite_c hx)) (C0_ok)

noncomputable def C2 : Tab := tab 77 (spFB .f32 isLen) C1
theorem C2_ok : TabOk Try.prog C2 := tab_ok (spFB_ok Try.func77 (by kernel_rfl) (fun hx => l02Above_c hx)) (C1_ok)

noncomputable def C3 : Tab := tab 81 (spFB .f32 isLen) C2
theorem C3_ok : TabOk Try.prog C3 := tab_ok (spFB_ok Try.func81 (by kernel_rfl) (fun hx => aLength_c hx)) (C2_ok)

noncomputable def C4 : Tab := tab 76 (spFB .f32 isMass) C3
theorem C4_ok : TabOk Try.prog C4 := tab_ok (spFB_ok Try.func76 (by kernel_rfl) (fun hx => l02Least_c hx)) (C3_ok)

noncomputable def C5 : Tab := tab 106 (spFB .f32 isMass) C4
theorem C5_ok : TabOk Try.prog C5 := tab_ok (spFB_ok Try.func106 (by kernel_rfl) (fun hx => aMass_c hx)) (C4_ok)

noncomputable def C6 : Tab := tab 132 (spFF .f32 .f32 froot) C5
theorem C6_ok : TabOk Try.prog C6 := tab_ok (spFF_ok Try.func132 (by kernel_rfl) (fun hx => l01Sqrt_c hx)) (C5_ok)

noncomputable def C7 : Tab := tab 107 (spFF .f32 .f32 froot) C6
theorem C7_ok : TabOk Try.prog C7 := tab_ok (spFF_ok Try.func107 (by kernel_rfl) (fun hx => RootNumber_c hx)) (C6_ok)

noncomputable def C8 : Tab := tab 19 (spSame .f64) C7
theorem C8_ok : TabOk Try.prog C8 := tab_ok (spSame_ok Try.func19 (by kernel_rfl) (fun hx hy => sameFloat_c hx hy)) (C7_ok)

noncomputable def C9 : Tab := tab 120 (spFB .f64 (isFin .f64)) C8
theorem C9_ok : TabOk Try.prog C9 := tab_ok (spFB_ok Try.func120 (by kernel_rfl) (fun hx => finite_c hx)) (C8_ok)

noncomputable def C10 : Tab := tab 145 (spFB .f64 (isN .f64)) C9
theorem C10_ok : TabOk Try.prog C10 := tab_ok (spFB_ok Try.func145 (by kernel_rfl) (fun hx => isNaN_c hx)) (C9_ok)

noncomputable def C11 : Tab := tab 149 (spFF .f64 .f64 (fabs .f64)) C10
theorem C11_ok : TabOk Try.prog C11 := tab_ok (spFF_ok Try.func149 (by kernel_rfl) (fun hx => abs_c hx)) (C10_ok)

noncomputable def C12 : Tab := tab 134 (spFF .f64 .f64 (fsqrt .f64)) C11
theorem C12_ok : TabOk Try.prog C12 := tab_ok (spFF_ok Try.func134 (by kernel_rfl) (fun hx => Sqrt_c hx)) (C11_ok)

noncomputable def C13 : Tab := tab 150 (spFrom) C12
theorem C13_ok : TabOk Try.prog C13 := tab_ok ((spFrom_ok (fun n w => ext_from64 n w))) (C12_ok)

def A_wszFloat32S : Shp := ⟨[.h, .h], [], [.sl [.f .f32], .i .i64]⟩
def R_wszFloat32S : List XShp := [(.ret, ⟨[.h], [], [.i .i64]⟩)]

theorem wszFloat32S_e (x : DR A_wszFloat32S.hs) : (evFn (envT Try.prog C13 mtab0) noLoops Try.f66 (A_wszFloat32S.enc x).1).to (fun q => decX R_wszFloat32S .ret [q.1] q.2) = wszFloat32S_t x.1 x.2 := by kernel_rfl

theorem wszFloat32S_m (x : DR A_wszFloat32S.hs) : meanF (envT Try.prog C13 mtab0) noLoops Try.f66 A_wszFloat32S R_wszFloat32S x = some (show SumD (R_wszFloat32S.map (·.2)) from wszFloat32S x.1 x.2) := @meanF_tot _ _ _ _ _ _ _ (wszFloat32S_e x) (show Inhabited (Int) from inferInstance) (by kernel_rfl)

theorem wszFloat32S_ok : SpecOk Try.prog 66 (evFn (envT Try.prog C13 mtab0) noLoops Try.f66) := fnL_ok (envT_ok (C13_ok) (mtab0_ok _)) mixedO Try.func66 (by kernel_rfl) (c := bodyOf Try.f66) (by kernel_rfl) (loopFree_ok (by kernel_rfl))

theorem wszFloat32S_told : SpecOk Try.prog 66 (toldT A_wszFloat32S R_wszFloat32S (fun x => wszFloat32S x.1 x.2) (C13 66)) := toldT_ok (by kernel_rfl) wszFloat32S_ok (rest_ok (C13_ok) _) wszFloat32S_m

noncomputable def C14 : Tab := tab 66 (toldT A_wszFloat32S R_wszFloat32S (fun x => wszFloat32S x.1 x.2) (C13 66)) C13
theorem C14_ok : TabOk Try.prog C14 := tab_ok (wszFloat32S_told) (C13_ok)

def A_wszLake : Shp := ⟨[.agg [.h, .h], .h], [], [.sl [.f .f32], .sl [.f .f32], .i .i64]⟩
def R_wszLake : List XShp := [(.ret, ⟨[.h], [], [.i .i64]⟩)]

theorem wszLake_e (x : DR A_wszLake.hs) : (evFn (envT Try.prog C14 mtab0) noLoops Try.f15 (A_wszLake.enc x).1).to (fun q => decX R_wszLake .ret [q.1] q.2) = wszLake_t x.1 x.2.1 x.2.2 := by kernel_rfl

theorem wszLake_m (x : DR A_wszLake.hs) : meanF (envT Try.prog C14 mtab0) noLoops Try.f15 A_wszLake R_wszLake x = some (show SumD (R_wszLake.map (·.2)) from wszLake x.1 x.2.1 x.2.2) := @meanF_tot _ _ _ _ _ _ _ (wszLake_e x) (show Inhabited (Int) from inferInstance) (by kernel_rfl)

theorem wszLake_ok : SpecOk Try.prog 15 (evFn (envT Try.prog C14 mtab0) noLoops Try.f15) := fnL_ok (envT_ok (C14_ok) (mtab0_ok _)) mixedO Try.func15 (by kernel_rfl) (c := bodyOf Try.f15) (by kernel_rfl) (loopFree_ok (by kernel_rfl))

theorem wszLake_told : SpecOk Try.prog 15 (toldT A_wszLake R_wszLake (fun x => wszLake x.1 x.2.1 x.2.2) (C14 15)) := toldT_ok (by kernel_rfl) wszLake_ok (rest_ok (C14_ok) _) wszLake_m

noncomputable def C15 : Tab := tab 15 (toldT A_wszLake R_wszLake (fun x => wszLake x.1 x.2.1 x.2.2) (C14 15)) C14
theorem C15_ok : TabOk Try.prog C15 := tab_ok (wszLake_told) (C14_ok)

def S_wtoFloat32S_l3 : Shp := ⟨[.h, .slw 0 1, .h], [.arr [.f .f32] false], [.sl [.f .f32], .i .i64, .sl [.f .f32]]⟩
def X_wtoFloat32S_l3 : List XShp := [(.exit 0, ⟨[.undef, .slw 0 1, .undef], [.arr [.f .f32] false], [.sl [.f .f32]]⟩)]

noncomputable def L_wtoFloat32S_l3 : Loops := (⟨22, lvT [(3, [0, 3, 4])], mdT [(3, .exit 0, [], [0, 4])], fun k vs bs => .bad⟩ : Loops)

theorem wtoFloat32S_l3_e (y0 : List Nat) (s : Int × List Nat) : (loopStep (envT Try.prog C15 mtab0) L_wtoFloat32S_l3 3 (loopC (bodyOf Try.f24) 3) (S_wtoFloat32S_l3.enc (y0, s.1, s.2)).1 (S_wtoFloat32S_l3.enc (y0, s.1, s.2)).2).to (stepD S_wtoFloat32S_l3 X_wtoFloat32S_l3) = (wtoFloat32S_l3_t y0 s.1 s.2).map (Sum.map (fun s : Int × List Nat => (show DR S_wtoFloat32S_l3.hs from (y0, s.1, s.2))) id) := by kernel_rfl

theorem wtoFloat32S_l3_r (x : DR S_wtoFloat32S_l3.hs) : (wtoFloat32S_l3 x.1 x.2.1 x.2.2 : Option (SumD (X_wtoFloat32S_l3.map (·.2)))) = runL (meanS (envT Try.prog C15 mtab0) L_wtoFloat32S_l3 3 (loopC (bodyOf Try.f24) 3) S_wtoFloat32S_l3 X_wtoFloat32S_l3) x := run_of (fun s : Int × List Nat => (show DR S_wtoFloat32S_l3.hs from (x.1, s.1, s.2))) (wtoFloat32S_l3_e (x.1)) (x.2.1, x.2.2)

theorem wtoFloat32S_l3_k (L : Loops) (hn : L_wtoFloat32S_l3.n = L.n) (hlv : L_wtoFloat32S_l3.lv 3 = L.lv 3) (hL : ∀ vs bs, L.loop 3 vs bs = toldL S_wtoFloat32S_l3 X_wtoFloat32S_l3 (fun x => wtoFloat32S_l3 x.1 x.2.1 x.2.2) vs bs) : LOk Try.prog (envT Try.prog C15 mtab0) L 3 (loopC (bodyOf Try.f24) 3) := toldL_ok (L1 := L_wtoFloat32S_l3) (envT_ok (C15_ok) (mtab0_ok _)) mixedO hn hlv (loopFree_ok (by kernel_rfl)) wtoFloat32S_l3_r hL

def A_wtoFloat32S : Shp := ⟨[.h], [], [.sl [.f .f32]]⟩
def R_wtoFloat32S : List XShp := [(.ret, ⟨[.slw 0 1], [.arr [.f .f32] false], [.sl [.f .f32]]⟩)]

noncomputable def L_wtoFloat32S : Loops := (⟨22, lvT [(3, [0, 3, 4])], mdT [(3, .exit 0, [], [0, 4])], fun k vs bs => bif Nat.beq k 3 then toldL S_wtoFloat32S_l3 X_wtoFloat32S_l3 (fun x => wtoFloat32S_l3 x.1 x.2.1 x.2.2) vs bs else .bad⟩ : Loops)

theorem wtoFloat32S_e (x : DR A_wtoFloat32S.hs) : (evFn (envT Try.prog C15 mtab0) L_wtoFloat32S Try.f24 (A_wtoFloat32S.enc x).1).to (fun q => decX R_wtoFloat32S .ret [q.1] q.2) = wtoFloat32S_t x := by kernel_rfl

theorem wtoFloat32S_m (x : DR A_wtoFloat32S.hs) : meanF (envT Try.prog C15 mtab0) L_wtoFloat32S Try.f24 A_wtoFloat32S R_wtoFloat32S x = (show Option (SumD (R_wtoFloat32S.map (·.2))) from wtoFloat32S x) := meanF_of (wtoFloat32S_e x)

theorem wtoFloat32S_ok : SpecOk Try.prog 24 (evFn (envT Try.prog C15 mtab0) L_wtoFloat32S Try.f24) := fnL_ok (envT_ok (C15_ok) (mtab0_ok _)) mixedO Try.func24 (by kernel_rfl) (c := bodyOf Try.f24) (by kernel_rfl) (loopsL (l := [(3, loopC (bodyOf Try.f24) 3)]) (by kernel_rfl) (lk_cons (wtoFloat32S_l3_k _ rfl rfl (fun _ _ => rfl)) lk_nil))

theorem wtoFloat32S_told : SpecOk Try.prog 24 (toldO A_wtoFloat32S R_wtoFloat32S (fun x => wtoFloat32S x) (C15 24)) := toldO_ok (by kernel_rfl) wtoFloat32S_ok (rest_ok (C15_ok) _) wtoFloat32S_m

noncomputable def C16 : Tab := tab 24 (toldO A_wtoFloat32S R_wtoFloat32S (fun x => wtoFloat32S x) (C15 24)) C15
theorem C16_ok : TabOk Try.prog C16 := tab_ok (wtoFloat32S_told) (C15_ok)

def A_wtoLake : Shp := ⟨[.agg [.h, .h]], [], [.sl [.f .f32], .sl [.f .f32]]⟩
def R_wtoLake : List XShp := [(.ret, ⟨[.agg [.slw 0 1, .slw 1 1]], [.arr [.f .f32] false, .arr [.f .f32] false], [.sl [.f .f32], .sl [.f .f32]]⟩)]

theorem wtoLake_e (x : DR A_wtoLake.hs) : (evFn (envT Try.prog C16 mtab0) noLoops Try.f17 (A_wtoLake.enc x).1).to (fun q => decX R_wtoLake .ret [q.1] q.2) = wtoLake_t x.1 x.2 := by kernel_rfl

theorem wtoLake_m (x : DR A_wtoLake.hs) : meanF (envT Try.prog C16 mtab0) noLoops Try.f17 A_wtoLake R_wtoLake x = (show Option (SumD (R_wtoLake.map (·.2))) from wtoLake x.1 x.2) := meanF_of (wtoLake_e x)

theorem wtoLake_ok : SpecOk Try.prog 17 (evFn (envT Try.prog C16 mtab0) noLoops Try.f17) := fnL_ok (envT_ok (C16_ok) (mtab0_ok _)) mixedO Try.func17 (by kernel_rfl) (c := bodyOf Try.f17) (by kernel_rfl) (loopFree_ok (by kernel_rfl))

theorem wtoLake_told : SpecOk Try.prog 17 (toldO A_wtoLake R_wtoLake (fun x => wtoLake x.1 x.2) (C16 17)) := toldO_ok (by kernel_rfl) wtoLake_ok (rest_ok (C16_ok) _) wtoLake_m

noncomputable def C17 : Tab := tab 17 (toldO A_wtoLake R_wtoLake (fun x => wtoLake x.1 x.2) (C16 17)) C16
theorem C17_ok : TabOk Try.prog C17 := tab_ok (wtoLake_told) (C16_ok)

def S_sl05Lake_l5 : Shp := ⟨[.dpt [.h, .h] 0, .undef, .h, .h], [], [.sl [.f .f32], .sl [.f .f32], .i .i64, .i .i64]⟩
def X_sl05Lake_l5 : List XShp := [(.ret, ⟨[.undef, .lb false, .undef, .undef], [], []⟩), (.exit 0, ⟨[.undef, .undef, .undef, .undef], [], []⟩)]

noncomputable def L_sl05Lake_l5 : Loops := (⟨94, lvT [(5, [0, 2, 29, 30])], mdT [(5, .normal, [], [2]), (5, .exit 0, [], [0, 2, 29, 30]), (5, .ret, [], [0, 29, 30])], fun k vs bs => .bad⟩ : Loops)

theorem sl05Lake_l5_e (y0 : List Nat) (y1 : List Nat) (y2 : Int) (s : Int) : (loopStep (envT Try.prog C17 mtab0) L_sl05Lake_l5 5 (loopC (bodyOf Try.f67) 5) (S_sl05Lake_l5.enc (y0, y1, y2, s)).1 (S_sl05Lake_l5.enc (y0, y1, y2, s)).2).to (stepD S_sl05Lake_l5 X_sl05Lake_l5) = (sl05Lake_l5_t y0 y1 y2 s).map (Sum.map (fun s : Int => (show DR S_sl05Lake_l5.hs from (y0, y1, y2, s))) id) := by kernel_rfl

theorem sl05Lake_l5_r (x : DR S_sl05Lake_l5.hs) : (sl05Lake_l5 x.1 x.2.1 x.2.2.1 x.2.2.2 : Option (SumD (X_sl05Lake_l5.map (·.2)))) = runL (meanS (envT Try.prog C17 mtab0) L_sl05Lake_l5 5 (loopC (bodyOf Try.f67) 5) S_sl05Lake_l5 X_sl05Lake_l5) x := run_of (fun s : Int => (show DR S_sl05Lake_l5.hs from (x.1, x.2.1, x.2.2.1, s))) (sl05Lake_l5_e (x.1) (x.2.1) (x.2.2.1)) x.2.2.2

theorem sl05Lake_l5_k (L : Loops) (hn : L_sl05Lake_l5.n = L.n) (hlv : L_sl05Lake_l5.lv 5 = L.lv 5) (hL : ∀ vs bs, L.loop 5 vs bs = toldL S_sl05Lake_l5 X_sl05Lake_l5 (fun x => sl05Lake_l5 x.1 x.2.1 x.2.2.1 x.2.2.2) vs bs) : LOk Try.prog (envT Try.prog C17 mtab0) L 5 (loopC (bodyOf Try.f67) 5) := toldL_ok (L1 := L_sl05Lake_l5) (envT_ok (C17_ok) (mtab0_ok _)) mixedO hn hlv (loopFree_ok (by kernel_rfl)) sl05Lake_l5_r hL

def A_sl05Lake : Shp := ⟨[.dpt [.h, .h] 0], [], [.sl [.f .f32], .sl [.f .f32]]⟩
def R_sl05Lake : List XShp := [(.ret, ⟨[.h], [], [.b]⟩)]

noncomputable def L_sl05Lake : Loops := (⟨94, lvT [(5, [0, 2, 29, 30])], mdT [(5, .normal, [], [2]), (5, .exit 0, [], [0, 2, 29, 30]), (5, .ret, [], [0, 29, 30])], fun k vs bs => bif Nat.beq k 5 then toldL S_sl05Lake_l5 X_sl05Lake_l5 (fun x => sl05Lake_l5 x.1 x.2.1 x.2.2.1 x.2.2.2) vs bs else .bad⟩ : Loops)

theorem sl05Lake_e (x : DR A_sl05Lake.hs) : (evFn (envT Try.prog C17 mtab0) L_sl05Lake Try.f67 (A_sl05Lake.enc x).1).to (fun q => decX R_sl05Lake .ret [q.1] q.2) = sl05Lake_t x.1 x.2 := by kernel_rfl

theorem sl05Lake_m (x : DR A_sl05Lake.hs) : meanF (envT Try.prog C17 mtab0) L_sl05Lake Try.f67 A_sl05Lake R_sl05Lake x = (show Option (SumD (R_sl05Lake.map (·.2))) from sl05Lake x.1 x.2) := meanF_of (sl05Lake_e x)

theorem sl05Lake_ok : SpecOk Try.prog 67 (evFn (envT Try.prog C17 mtab0) L_sl05Lake Try.f67) := fnL_ok (envT_ok (C17_ok) (mtab0_ok _)) mixedO Try.func67 (by kernel_rfl) (c := bodyOf Try.f67) (by kernel_rfl) (loopsL (l := [(5, loopC (bodyOf Try.f67) 5)]) (by kernel_rfl) (lk_cons (sl05Lake_l5_k _ rfl rfl (fun _ _ => rfl)) lk_nil))

theorem sl05Lake_told : SpecOk Try.prog 67 (toldO A_sl05Lake R_sl05Lake (fun x => sl05Lake x.1 x.2) (C17 67)) := toldO_ok (by kernel_rfl) sl05Lake_ok (rest_ok (C17_ok) _) sl05Lake_m

noncomputable def C18 : Tab := tab 67 (toldO A_sl05Lake R_sl05Lake (fun x => sl05Lake x.1 x.2) (C17 67)) C17
theorem C18_ok : TabOk Try.prog C18 := tab_ok (sl05Lake_told) (C17_ok)

def S_sl05Out_l7 : Shp := ⟨[.dpt [.h, .h] 0, .h, .h], [], [.sl [.f .f32], .sl [.f .f32], .f .f32, .i .i64]⟩
def X_sl05Out_l7 : List XShp := [(.exit 0, ⟨[.dpt [.h, .h] 0, .h, .h], [], [.sl [.f .f32], .sl [.f .f32], .f .f32, .i .i64]⟩)]

noncomputable def L_sl05Out_l7 : Loops := (⟨110, lvT [(7, [0, 1, 6])], mdT [], fun k vs bs => .bad⟩ : Loops)

theorem sl05Out_l7_e (y0 : List Nat) (y1 : List Nat) (y2 : Nat) (s : Int) : (loopStep (envT Try.prog C18 mtab0) L_sl05Out_l7 7 (loopC (bodyOf Try.f70) 7) (S_sl05Out_l7.enc (y0, y1, y2, s)).1 (S_sl05Out_l7.enc (y0, y1, y2, s)).2).to (stepD S_sl05Out_l7 X_sl05Out_l7) = (sl05Out_l7_t y0 y1 y2 s).map (Sum.map (fun s : Int => (show DR S_sl05Out_l7.hs from (y0, y1, y2, s))) id) := by kernel_rfl

theorem sl05Out_l7_r (x : DR S_sl05Out_l7.hs) : (sl05Out_l7 x.1 x.2.1 x.2.2.1 x.2.2.2 : Option (SumD (X_sl05Out_l7.map (·.2)))) = runL (meanS (envT Try.prog C18 mtab0) L_sl05Out_l7 7 (loopC (bodyOf Try.f70) 7) S_sl05Out_l7 X_sl05Out_l7) x := run_of (fun s : Int => (show DR S_sl05Out_l7.hs from (x.1, x.2.1, x.2.2.1, s))) (sl05Out_l7_e (x.1) (x.2.1) (x.2.2.1)) x.2.2.2

theorem sl05Out_l7_k (L : Loops) (hn : L_sl05Out_l7.n = L.n) (hlv : L_sl05Out_l7.lv 7 = L.lv 7) (hL : ∀ vs bs, L.loop 7 vs bs = toldL S_sl05Out_l7 X_sl05Out_l7 (fun x => sl05Out_l7 x.1 x.2.1 x.2.2.1 x.2.2.2) vs bs) : LOk Try.prog (envT Try.prog C18 mtab0) L 7 (loopC (bodyOf Try.f70) 7) := toldL_ok (L1 := L_sl05Out_l7) (envT_ok (C18_ok) (mtab0_ok _)) mixedO hn hlv (loopFree_ok (by kernel_rfl)) sl05Out_l7_r hL

def A_sl05Out : Shp := ⟨[.dpt [.h, .h] 0, .h], [], [.sl [.f .f32], .sl [.f .f32], .f .f32]⟩
def R_sl05Out : List XShp := [(.ret, ⟨[.h], [], [.f .f32]⟩)]

noncomputable def L_sl05Out : Loops := (⟨110, lvT [(7, [0, 1, 6])], mdT [], fun k vs bs => bif Nat.beq k 7 then toldL S_sl05Out_l7 X_sl05Out_l7 (fun x => sl05Out_l7 x.1 x.2.1 x.2.2.1 x.2.2.2) vs bs else .bad⟩ : Loops)

theorem sl05Out_e (x : DR A_sl05Out.hs) : (evFn (envT Try.prog C18 mtab0) L_sl05Out Try.f70 (A_sl05Out.enc x).1).to (fun q => decX R_sl05Out .ret [q.1] q.2) = sl05Out_t x.1 x.2.1 x.2.2 := by kernel_rfl

theorem sl05Out_m (x : DR A_sl05Out.hs) : meanF (envT Try.prog C18 mtab0) L_sl05Out Try.f70 A_sl05Out R_sl05Out x = (show Option (SumD (R_sl05Out.map (·.2))) from sl05Out x.1 x.2.1 x.2.2) := meanF_of (sl05Out_e x)

theorem sl05Out_ok : SpecOk Try.prog 70 (evFn (envT Try.prog C18 mtab0) L_sl05Out Try.f70) := fnL_ok (envT_ok (C18_ok) (mtab0_ok _)) mixedO Try.func70 (by kernel_rfl) (c := bodyOf Try.f70) (by kernel_rfl) (loopsL (l := [(7, loopC (bodyOf Try.f70) 7)]) (by kernel_rfl) (lk_cons (sl05Out_l7_k _ rfl rfl (fun _ _ => rfl)) lk_nil))

theorem sl05Out_told : SpecOk Try.prog 70 (toldO A_sl05Out R_sl05Out (fun x => sl05Out x.1 x.2.1 x.2.2) (C18 70)) := toldO_ok (by kernel_rfl) sl05Out_ok (rest_ok (C18_ok) _) sl05Out_m

noncomputable def C19 : Tab := tab 70 (toldO A_sl05Out R_sl05Out (fun x => sl05Out x.1 x.2.1 x.2.2) (C18 70)) C18
theorem C19_ok : TabOk Try.prog C19 := tab_ok (sl05Out_told) (C18_ok)

def A_sl02Number : Shp := ⟨[.h], [], [.f .f32]⟩
def R_sl02Number : List XShp := [(.ret, ⟨[.tup [.h, .h]], [], [.f .f32, .b]⟩)]

theorem sl02Number_e (x : DR A_sl02Number.hs) : (evFn (envT Try.prog C19 mtab0) noLoops Try.f69 (A_sl02Number.enc x).1).to (fun q => decX R_sl02Number .ret [q.1] q.2) = sl02Number_t x := by kernel_rfl

theorem sl02Number_m (x : DR A_sl02Number.hs) : meanF (envT Try.prog C19 mtab0) noLoops Try.f69 A_sl02Number R_sl02Number x = some (show SumD (R_sl02Number.map (·.2)) from sl02Number x) := @meanF_tot _ _ _ _ _ _ _ (sl02Number_e x) (show Inhabited (Nat × Bool) from inferInstance) (by kernel_rfl)

theorem sl02Number_ok : SpecOk Try.prog 69 (evFn (envT Try.prog C19 mtab0) noLoops Try.f69) := fnL_ok (envT_ok (C19_ok) (mtab0_ok _)) mixedO Try.func69 (by kernel_rfl) (c := bodyOf Try.f69) (by kernel_rfl) (loopFree_ok (by kernel_rfl))

theorem sl02Number_told : SpecOk Try.prog 69 (toldT A_sl02Number R_sl02Number (fun x => sl02Number x) (C19 69)) := toldT_ok (by kernel_rfl) sl02Number_ok (rest_ok (C19_ok) _) sl02Number_m

noncomputable def C20 : Tab := tab 69 (toldT A_sl02Number R_sl02Number (fun x => sl02Number x) (C19 69)) C19
theorem C20_ok : TabOk Try.prog C20 := tab_ok (sl02Number_told) (C19_ok)

def A_sLakeOut : Shp := ⟨[.agg [.h, .h], .h], [], [.sl [.f .f32], .sl [.f .f32], .f .f32]⟩
def R_sLakeOut : List XShp := [(.ret, ⟨[.tup [.h, .h]], [], [.f .f32, .b]⟩)]

theorem sLakeOut_e (x : DR A_sLakeOut.hs) : (evFn (envT Try.prog C20 mtab0) noLoops Try.f16 (A_sLakeOut.enc x).1).to (fun q => decX R_sLakeOut .ret [q.1] q.2) = sLakeOut_t x.1 x.2.1 x.2.2 := by kernel_rfl

theorem sLakeOut_m (x : DR A_sLakeOut.hs) : meanF (envT Try.prog C20 mtab0) noLoops Try.f16 A_sLakeOut R_sLakeOut x = (show Option (SumD (R_sLakeOut.map (·.2))) from sLakeOut x.1 x.2.1 x.2.2) := meanF_of (sLakeOut_e x)

theorem sLakeOut_ok : SpecOk Try.prog 16 (evFn (envT Try.prog C20 mtab0) noLoops Try.f16) := fnL_ok (envT_ok (C20_ok) (mtab0_ok _)) mixedO Try.func16 (by kernel_rfl) (c := bodyOf Try.f16) (by kernel_rfl) (loopFree_ok (by kernel_rfl))

theorem sLakeOut_told : SpecOk Try.prog 16 (toldO A_sLakeOut R_sLakeOut (fun x => sLakeOut x.1 x.2.1 x.2.2) (C20 16)) := toldO_ok (by kernel_rfl) sLakeOut_ok (rest_ok (C20_ok) _) sLakeOut_m

noncomputable def C21 : Tab := tab 16 (toldO A_sLakeOut R_sLakeOut (fun x => sLakeOut x.1 x.2.1 x.2.2) (C20 16)) C20
theorem C21_ok : TabOk Try.prog C21 := tab_ok (sLakeOut_told) (C20_ok)

def A_iwithin : Shp := ⟨[.h, .h, .h], [], [.i .i64, .i .i64, .i .i64]⟩
def R_iwithin : List XShp := [(.ret, ⟨[.h], [], [.b]⟩)]

theorem iwithin_e (x : DR A_iwithin.hs) : (evFn (envT Try.prog C21 mtab0) noLoops Try.f96 (A_iwithin.enc x).1).to (fun q => decX R_iwithin .ret [q.1] q.2) = iwithin_t x.1 x.2.1 x.2.2 := by kernel_rfl

theorem iwithin_m (x : DR A_iwithin.hs) : meanF (envT Try.prog C21 mtab0) noLoops Try.f96 A_iwithin R_iwithin x = some (show SumD (R_iwithin.map (·.2)) from iwithin x.1 x.2.1 x.2.2) := @meanF_tot _ _ _ _ _ _ _ (iwithin_e x) (show Inhabited (Bool) from inferInstance) (by kernel_rfl)

theorem iwithin_ok : SpecOk Try.prog 96 (evFn (envT Try.prog C21 mtab0) noLoops Try.f96) := fnL_ok (envT_ok (C21_ok) (mtab0_ok _)) mixedO Try.func96 (by kernel_rfl) (c := bodyOf Try.f96) (by kernel_rfl) (loopFree_ok (by kernel_rfl))

theorem iwithin_told : SpecOk Try.prog 96 (toldT A_iwithin R_iwithin (fun x => iwithin x.1 x.2.1 x.2.2) (C21 96)) := toldT_ok (by kernel_rfl) iwithin_ok (rest_ok (C21_ok) _) iwithin_m

noncomputable def C22 : Tab := tab 96 (toldT A_iwithin R_iwithin (fun x => iwithin x.1 x.2.1 x.2.2) (C21 96)) C21
theorem C22_ok : TabOk Try.prog C22 := tab_ok (iwithin_told) (C21_ok)

def A_iareMasses_1 : Shp := ⟨[.h], [], [.f .f32]⟩
def R_iareMasses_1 : List XShp := [(.ret, ⟨[.h], [], [.b]⟩)]

theorem iareMasses_1_e (x : DR A_iareMasses_1.hs) : (evFn (envT Try.prog C22 mtab0) noLoops Try.f124 (A_iareMasses_1.enc x).1).to (fun q => decX R_iareMasses_1 .ret [q.1] q.2) = iareMasses_1_t x := by kernel_rfl

theorem iareMasses_1_m (x : DR A_iareMasses_1.hs) : meanF (envT Try.prog C22 mtab0) noLoops Try.f124 A_iareMasses_1 R_iareMasses_1 x = some (show SumD (R_iareMasses_1.map (·.2)) from iareMasses_1 x) := @meanF_tot _ _ _ _ _ _ _ (iareMasses_1_e x) (show Inhabited (Bool) from inferInstance) (by kernel_rfl)

theorem iareMasses_1_ok : SpecOk Try.prog 124 (evFn (envT Try.prog C22 mtab0) noLoops Try.f124) := fnL_ok (envT_ok (C22_ok) (mtab0_ok _)) mixedO Try.func124 (by kernel_rfl) (c := bodyOf Try.f124) (by kernel_rfl) (loopFree_ok (by kernel_rfl))

theorem iareMasses_1_told : SpecOk Try.prog 124 (toldT A_iareMasses_1 R_iareMasses_1 (fun x => iareMasses_1 x) (C22 124)) := toldT_ok (by kernel_rfl) iareMasses_1_ok (rest_ok (C22_ok) _) iareMasses_1_m

noncomputable def C23 : Tab := tab 124 (toldT A_iareMasses_1 R_iareMasses_1 (fun x => iareMasses_1 x) (C22 124)) C22
theorem C23_ok : TabOk Try.prog C23 := tab_ok (iareMasses_1_told) (C22_ok)

def S_lIndexFunc_iareMasses_1_l2 : Shp := ⟨[.h, .fn 124 [], .undef, .h, .h], [], [.sl [.f .f32], .i .i64, .i .i64]⟩
def X_lIndexFunc_iareMasses_1_l2 : List XShp := [(.ret, ⟨[.undef, .undef, .h, .undef, .undef], [], [.i .i64]⟩), (.exit 0, ⟨[.undef, .undef, .undef, .undef, .undef], [], []⟩)]

noncomputable def L_lIndexFunc_iareMasses_1_l2 : Loops := (⟨19, lvT [(2, [0, 1, 4, 7, 8])], mdT [(2, .normal, [], [4]), (2, .exit 0, [], [0, 1, 4, 7, 8]), (2, .ret, [], [0, 1, 7, 8])], fun k vs bs => .bad⟩ : Loops)

theorem lIndexFunc_iareMasses_1_l2_e (y0 : List Nat) (y1 : Int) (s : Int) : (loopStep (envT Try.prog C23 mtab0) L_lIndexFunc_iareMasses_1_l2 2 (loopC (bodyOf Try.f121) 2) (S_lIndexFunc_iareMasses_1_l2.enc (y0, y1, s)).1 (S_lIndexFunc_iareMasses_1_l2.enc (y0, y1, s)).2).to (stepD S_lIndexFunc_iareMasses_1_l2 X_lIndexFunc_iareMasses_1_l2) = (lIndexFunc_iareMasses_1_l2_t y0 y1 s).map (Sum.map (fun s : Int => (show DR S_lIndexFunc_iareMasses_1_l2.hs from (y0, y1, s))) id) := by kernel_rfl

theorem lIndexFunc_iareMasses_1_l2_r (x : DR S_lIndexFunc_iareMasses_1_l2.hs) : (lIndexFunc_iareMasses_1_l2 x.1 x.2.1 x.2.2 : Option (SumD (X_lIndexFunc_iareMasses_1_l2.map (·.2)))) = runL (meanS (envT Try.prog C23 mtab0) L_lIndexFunc_iareMasses_1_l2 2 (loopC (bodyOf Try.f121) 2) S_lIndexFunc_iareMasses_1_l2 X_lIndexFunc_iareMasses_1_l2) x := run_of (fun s : Int => (show DR S_lIndexFunc_iareMasses_1_l2.hs from (x.1, x.2.1, s))) (lIndexFunc_iareMasses_1_l2_e (x.1) (x.2.1)) x.2.2

theorem lIndexFunc_iareMasses_1_l2_k (L : Loops) (hn : L_lIndexFunc_iareMasses_1_l2.n = L.n) (hlv : L_lIndexFunc_iareMasses_1_l2.lv 2 = L.lv 2) (hL : ∀ vs bs, L.loop 2 vs bs = toldL S_lIndexFunc_iareMasses_1_l2 X_lIndexFunc_iareMasses_1_l2 (fun x => lIndexFunc_iareMasses_1_l2 x.1 x.2.1 x.2.2) vs bs) : LOk Try.prog (envT Try.prog C23 mtab0) L 2 (loopC (bodyOf Try.f121) 2) := toldL_ok (L1 := L_lIndexFunc_iareMasses_1_l2) (envT_ok (C23_ok) (mtab0_ok _)) mixedO hn hlv (loopFree_ok (by kernel_rfl)) lIndexFunc_iareMasses_1_l2_r hL

def A_lIndexFunc_iareMasses_1 : Shp := ⟨[.h, .fn 124 []], [], [.sl [.f .f32]]⟩
def R_lIndexFunc_iareMasses_1 : List XShp := [(.ret, ⟨[.h], [], [.i .i64]⟩)]

noncomputable def L_lIndexFunc_iareMasses_1 : Loops := (⟨19, lvT [(2, [0, 1, 4, 7, 8])], mdT [(2, .normal, [], [4]), (2, .exit 0, [], [0, 1, 4, 7, 8]), (2, .ret, [], [0, 1, 7, 8])], fun k vs bs => bif Nat.beq k 2 then toldL S_lIndexFunc_iareMasses_1_l2 X_lIndexFunc_iareMasses_1_l2 (fun x => lIndexFunc_iareMasses_1_l2 x.1 x.2.1 x.2.2) vs bs else .bad⟩ : Loops)

theorem lIndexFunc_iareMasses_1_e (x : DR A_lIndexFunc_iareMasses_1.hs) : (evFn (envT Try.prog C23 mtab0) L_lIndexFunc_iareMasses_1 Try.f121 (A_lIndexFunc_iareMasses_1.enc x).1).to (fun q => decX R_lIndexFunc_iareMasses_1 .ret [q.1] q.2) = lIndexFunc_iareMasses_1_t x := by kernel_rfl

theorem lIndexFunc_iareMasses_1_m (x : DR A_lIndexFunc_iareMasses_1.hs) : meanF (envT Try.prog C23 mtab0) L_lIndexFunc_iareMasses_1 Try.f121 A_lIndexFunc_iareMasses_1 R_lIndexFunc_iareMasses_1 x = (show Option (SumD (R_lIndexFunc_iareMasses_1.map (·.2))) from lIndexFunc_iareMasses_1 x) := meanF_of (lIndexFunc_iareMasses_1_e x)

theorem lIndexFunc_iareMasses_1_ok : SpecOk Try.prog 121 (evFn (envT Try.prog C23 mtab0) L_lIndexFunc_iareMasses_1 Try.f121) := fnL_ok (envT_ok (C23_ok) (mtab0_ok _)) mixedO Try.func121 (by kernel_rfl) (c := bodyOf Try.f121) (by kernel_rfl) (loopsL (l := [(2, loopC (bodyOf Try.f121) 2)]) (by kernel_rfl) (lk_cons (lIndexFunc_iareMasses_1_l2_k _ rfl rfl (fun _ _ => rfl)) lk_nil))

theorem lIndexFunc_iareMasses_1_told : SpecOk Try.prog 121 (toldO A_lIndexFunc_iareMasses_1 R_lIndexFunc_iareMasses_1 (fun x => lIndexFunc_iareMasses_1 x) (C23 121)) := toldO_ok (by kernel_rfl) lIndexFunc_iareMasses_1_ok (rest_ok (C23_ok) _) lIndexFunc_iareMasses_1_m

noncomputable def C24 : Tab := tab 121 (toldO A_lIndexFunc_iareMasses_1 R_lIndexFunc_iareMasses_1 (fun x => lIndexFunc_iareMasses_1 x) (C23 121)) C23
theorem C24_ok : TabOk Try.prog C24 := tab_ok (lIndexFunc_iareMasses_1_told) (C23_ok)

def A_lContainsFunc_iareMasses_1 : Shp := ⟨[.h, .fn 124 []], [], [.sl [.f .f32]]⟩
def R_lContainsFunc_iareMasses_1 : List XShp := [(.ret, ⟨[.h], [], [.b]⟩)]

theorem lContainsFunc_iareMasses_1_e (x : DR A_lContainsFunc_iareMasses_1.hs) : (evFn (envT Try.prog C24 mtab0) noLoops Try.f123 (A_lContainsFunc_iareMasses_1.enc x).1).to (fun q => decX R_lContainsFunc_iareMasses_1 .ret [q.1] q.2) = lContainsFunc_iareMasses_1_t x := by kernel_rfl

theorem lContainsFunc_iareMasses_1_m (x : DR A_lContainsFunc_iareMasses_1.hs) : meanF (envT Try.prog C24 mtab0) noLoops Try.f123 A_lContainsFunc_iareMasses_1 R_lContainsFunc_iareMasses_1 x = (show Option (SumD (R_lContainsFunc_iareMasses_1.map (·.2))) from lContainsFunc_iareMasses_1 x) := meanF_of (lContainsFunc_iareMasses_1_e x)

theorem lContainsFunc_iareMasses_1_ok : SpecOk Try.prog 123 (evFn (envT Try.prog C24 mtab0) noLoops Try.f123) := fnL_ok (envT_ok (C24_ok) (mtab0_ok _)) mixedO Try.func123 (by kernel_rfl) (c := bodyOf Try.f123) (by kernel_rfl) (loopFree_ok (by kernel_rfl))

theorem lContainsFunc_iareMasses_1_told : SpecOk Try.prog 123 (toldO A_lContainsFunc_iareMasses_1 R_lContainsFunc_iareMasses_1 (fun x => lContainsFunc_iareMasses_1 x) (C24 123)) := toldO_ok (by kernel_rfl) lContainsFunc_iareMasses_1_ok (rest_ok (C24_ok) _) lContainsFunc_iareMasses_1_m

noncomputable def C25 : Tab := tab 123 (toldO A_lContainsFunc_iareMasses_1 R_lContainsFunc_iareMasses_1 (fun x => lContainsFunc_iareMasses_1 x) (C24 123)) C24
theorem C25_ok : TabOk Try.prog C25 := tab_ok (lContainsFunc_iareMasses_1_told) (C24_ok)

def A_iareMasses : Shp := ⟨[.h], [], [.sl [.f .f32]]⟩
def R_iareMasses : List XShp := [(.ret, ⟨[.h], [], [.b]⟩)]

theorem iareMasses_e (x : DR A_iareMasses.hs) : (evFn (envT Try.prog C25 mtab0) noLoops Try.f80 (A_iareMasses.enc x).1).to (fun q => decX R_iareMasses .ret [q.1] q.2) = iareMasses_t x := by kernel_rfl

theorem iareMasses_m (x : DR A_iareMasses.hs) : meanF (envT Try.prog C25 mtab0) noLoops Try.f80 A_iareMasses R_iareMasses x = (show Option (SumD (R_iareMasses.map (·.2))) from iareMasses x) := meanF_of (iareMasses_e x)

theorem iareMasses_ok : SpecOk Try.prog 80 (evFn (envT Try.prog C25 mtab0) noLoops Try.f80) := fnL_ok (envT_ok (C25_ok) (mtab0_ok _)) mixedO Try.func80 (by kernel_rfl) (c := bodyOf Try.f80) (by kernel_rfl) (loopFree_ok (by kernel_rfl))

theorem iareMasses_told : SpecOk Try.prog 80 (toldO A_iareMasses R_iareMasses (fun x => iareMasses x) (C25 80)) := toldO_ok (by kernel_rfl) iareMasses_ok (rest_ok (C25_ok) _) iareMasses_m

noncomputable def C26 : Tab := tab 80 (toldO A_iareMasses R_iareMasses (fun x => iareMasses x) (C25 80)) C25
theorem C26_ok : TabOk Try.prog C26 := tab_ok (iareMasses_told) (C25_ok)

def S_iValidLake_l4 : Shp := ⟨[.ref 0 0, .undef, .h], [.cells [.h, .h] false], [.i .i64, .sl [.f .f32], .sl [.f .f32]]⟩
def X_iValidLake_l4 : List XShp := [(.ret, ⟨[.undef, .lb false, .undef], [], []⟩), (.exit 0, ⟨[.undef, .undef, .undef], [], []⟩)]

noncomputable def L_iValidLake_l4 : Loops := (⟨64, lvT [(4, [1, 2, 3])], mdT [(4, .normal, [], [2]), (4, .exit 0, [], [1, 2, 3]), (4, .ret, [], [1, 3])], fun k vs bs => .bad⟩ : Loops)

theorem iValidLake_l4_e (y1 : List Nat) (y2 : List Nat) (s : Int) : (loopStep (envT Try.prog C26 mtab0) L_iValidLake_l4 4 (loopC (bodyOf Try.f71) 4) (S_iValidLake_l4.enc (s, y1, y2)).1 (S_iValidLake_l4.enc (s, y1, y2)).2).to (stepD S_iValidLake_l4 X_iValidLake_l4) = (iValidLake_l4_t y1 y2 s).map (Sum.map (fun s : Int => (show DR S_iValidLake_l4.hs from (s, y1, y2))) id) := by kernel_rfl

theorem iValidLake_l4_r (x : DR S_iValidLake_l4.hs) : (iValidLake_l4 x.1 x.2.1 x.2.2 : Option (SumD (X_iValidLake_l4.map (·.2)))) = runL (meanS (envT Try.prog C26 mtab0) L_iValidLake_l4 4 (loopC (bodyOf Try.f71) 4) S_iValidLake_l4 X_iValidLake_l4) x := run_of (fun s : Int => (show DR S_iValidLake_l4.hs from (s, x.2.1, x.2.2))) (iValidLake_l4_e (x.2.1) (x.2.2)) x.1

theorem iValidLake_l4_k (L : Loops) (hn : L_iValidLake_l4.n = L.n) (hlv : L_iValidLake_l4.lv 4 = L.lv 4) (hL : ∀ vs bs, L.loop 4 vs bs = toldL S_iValidLake_l4 X_iValidLake_l4 (fun x => iValidLake_l4 x.1 x.2.1 x.2.2) vs bs) : LOk Try.prog (envT Try.prog C26 mtab0) L 4 (loopC (bodyOf Try.f71) 4) := toldL_ok (L1 := L_iValidLake_l4) (envT_ok (C26_ok) (mtab0_ok _)) mixedO hn hlv (loopFree_ok (by kernel_rfl)) iValidLake_l4_r hL

def A_iValidLake : Shp := ⟨[.agg [.h, .h]], [], [.sl [.f .f32], .sl [.f .f32]]⟩
def R_iValidLake : List XShp := [(.ret, ⟨[.h], [], [.b]⟩)]

noncomputable def L_iValidLake : Loops := (⟨64, lvT [(4, [1, 2, 3])], mdT [(4, .normal, [], [2]), (4, .exit 0, [], [1, 2, 3]), (4, .ret, [], [1, 3])], fun k vs bs => bif Nat.beq k 4 then toldL S_iValidLake_l4 X_iValidLake_l4 (fun x => iValidLake_l4 x.1 x.2.1 x.2.2) vs bs else .bad⟩ : Loops)

theorem iValidLake_e (x : DR A_iValidLake.hs) : (evFn (envT Try.prog C26 mtab0) L_iValidLake Try.f71 (A_iValidLake.enc x).1).to (fun q => decX R_iValidLake .ret [q.1] q.2) = iValidLake_t x.1 x.2 := by kernel_rfl

theorem iValidLake_m (x : DR A_iValidLake.hs) : meanF (envT Try.prog C26 mtab0) L_iValidLake Try.f71 A_iValidLake R_iValidLake x = (show Option (SumD (R_iValidLake.map (·.2))) from iValidLake x.1 x.2) := meanF_of (iValidLake_e x)

theorem iValidLake_ok : SpecOk Try.prog 71 (evFn (envT Try.prog C26 mtab0) L_iValidLake Try.f71) := fnL_ok (envT_ok (C26_ok) (mtab0_ok _)) mixedO Try.func71 (by kernel_rfl) (c := bodyOf Try.f71) (by kernel_rfl) (loopsL (l := [(4, loopC (bodyOf Try.f71) 4)]) (by kernel_rfl) (lk_cons (iValidLake_l4_k _ rfl rfl (fun _ _ => rfl)) lk_nil))

theorem iValidLake_told : SpecOk Try.prog 71 (toldO A_iValidLake R_iValidLake (fun x => iValidLake x.1 x.2) (C26 71)) := toldO_ok (by kernel_rfl) iValidLake_ok (rest_ok (C26_ok) _) iValidLake_m

noncomputable def C27 : Tab := tab 71 (toldO A_iValidLake R_iValidLake (fun x => iValidLake x.1 x.2) (C26 71)) C26
theorem C27_ok : TabOk Try.prog C27 := tab_ok (iValidLake_told) (C26_ok)

def A_iLake_out_1 : Shp := ⟨[.h, .dpt [.h] 0], [], [.f .f32, .f .f32]⟩
def R_iLake_out_1 : List XShp := [(.ret, ⟨[.h], [], [.b]⟩)]

theorem iLake_out_1_e (x : DR A_iLake_out_1.hs) : (evFn (envT Try.prog C27 mtab0) noLoops Try.f122 (A_iLake_out_1.enc x).1).to (fun q => decX R_iLake_out_1 .ret [q.1] q.2) = iLake_out_1_t x.1 x.2 := by kernel_rfl

theorem iLake_out_1_m (x : DR A_iLake_out_1.hs) : meanF (envT Try.prog C27 mtab0) noLoops Try.f122 A_iLake_out_1 R_iLake_out_1 x = some (show SumD (R_iLake_out_1.map (·.2)) from iLake_out_1 x.1 x.2) := @meanF_tot _ _ _ _ _ _ _ (iLake_out_1_e x) (show Inhabited (Bool) from inferInstance) (by kernel_rfl)

theorem iLake_out_1_ok : SpecOk Try.prog 122 (evFn (envT Try.prog C27 mtab0) noLoops Try.f122) := fnL_ok (envT_ok (C27_ok) (mtab0_ok _)) mixedO Try.func122 (by kernel_rfl) (c := bodyOf Try.f122) (by kernel_rfl) (loopFree_ok (by kernel_rfl))

theorem iLake_out_1_told : SpecOk Try.prog 122 (toldT A_iLake_out_1 R_iLake_out_1 (fun x => iLake_out_1 x.1 x.2) (C27 122)) := toldT_ok (by kernel_rfl) iLake_out_1_ok (rest_ok (C27_ok) _) iLake_out_1_m

noncomputable def C28 : Tab := tab 122 (toldT A_iLake_out_1 R_iLake_out_1 (fun x => iLake_out_1 x.1 x.2) (C27 122)) C27
theorem C28_ok : TabOk Try.prog C28 := tab_ok (iLake_out_1_told) (C27_ok)

def S_lIndexFunc_iLake_out_1_l2 : Shp := ⟨[.h, .fn 122 [.dpt [.h] 0], .undef, .h, .h], [], [.sl [.f .f32], .f .f32, .i .i64, .i .i64]⟩
def X_lIndexFunc_iLake_out_1_l2 : List XShp := [(.ret, ⟨[.undef, .undef, .h, .undef, .undef], [], [.i .i64]⟩), (.exit 0, ⟨[.undef, .undef, .undef, .undef, .undef], [], []⟩)]

noncomputable def L_lIndexFunc_iLake_out_1_l2 : Loops := (⟨19, lvT [(2, [0, 1, 4, 7, 8])], mdT [(2, .normal, [], [4]), (2, .exit 0, [], [0, 1, 4, 7, 8]), (2, .ret, [], [0, 1, 7, 8])], fun k vs bs => .bad⟩ : Loops)

theorem lIndexFunc_iLake_out_1_l2_e (y0 : List Nat) (y1 : Nat) (y2 : Int) (s : Int) : (loopStep (envT Try.prog C28 mtab0) L_lIndexFunc_iLake_out_1_l2 2 (loopC (bodyOf Try.f121) 2) (S_lIndexFunc_iLake_out_1_l2.enc (y0, y1, y2, s)).1 (S_lIndexFunc_iLake_out_1_l2.enc (y0, y1, y2, s)).2).to (stepD S_lIndexFunc_iLake_out_1_l2 X_lIndexFunc_iLake_out_1_l2) = (lIndexFunc_iLake_out_1_l2_t y0 y1 y2 s).map (Sum.map (fun s : Int => (show DR S_lIndexFunc_iLake_out_1_l2.hs from (y0, y1, y2, s))) id) := by kernel_rfl

theorem lIndexFunc_iLake_out_1_l2_r (x : DR S_lIndexFunc_iLake_out_1_l2.hs) : (lIndexFunc_iLake_out_1_l2 x.1 x.2.1 x.2.2.1 x.2.2.2 : Option (SumD (X_lIndexFunc_iLake_out_1_l2.map (·.2)))) = runL (meanS (envT Try.prog C28 mtab0) L_lIndexFunc_iLake_out_1_l2 2 (loopC (bodyOf Try.f121) 2) S_lIndexFunc_iLake_out_1_l2 X_lIndexFunc_iLake_out_1_l2) x := run_of (fun s : Int => (show DR S_lIndexFunc_iLake_out_1_l2.hs from (x.1, x.2.1, x.2.2.1, s))) (lIndexFunc_iLake_out_1_l2_e (x.1) (x.2.1) (x.2.2.1)) x.2.2.2

theorem lIndexFunc_iLake_out_1_l2_k (L : Loops) (hn : L_lIndexFunc_iLake_out_1_l2.n = L.n) (hlv : L_lIndexFunc_iLake_out_1_l2.lv 2 = L.lv 2) (hL : ∀ vs bs, L.loop 2 vs bs = toldL S_lIndexFunc_iLake_out_1_l2 X_lIndexFunc_iLake_out_1_l2 (fun x => lIndexFunc_iLake_out_1_l2 x.1 x.2.1 x.2.2.1 x.2.2.2) vs bs) : LOk Try.prog (envT Try.prog C28 mtab0) L 2 (loopC (bodyOf Try.f121) 2) := toldL_ok (L1 := L_lIndexFunc_iLake_out_1_l2) (envT_ok (C28_ok) (mtab0_ok _)) mixedO hn hlv (loopFree_ok (by kernel_rfl)) lIndexFunc_iLake_out_1_l2_r hL

def A_lIndexFunc_iLake_out_1 : Shp := ⟨[.h, .fn 122 [.dpt [.h] 0]], [], [.sl [.f .f32], .f .f32]⟩
def R_lIndexFunc_iLake_out_1 : List XShp := [(.ret, ⟨[.h], [], [.i .i64]⟩)]

noncomputable def L_lIndexFunc_iLake_out_1 : Loops := (⟨19, lvT [(2, [0, 1, 4, 7, 8])], mdT [(2, .normal, [], [4]), (2, .exit 0, [], [0, 1, 4, 7, 8]), (2, .ret, [], [0, 1, 7, 8])], fun k vs bs => bif Nat.beq k 2 then toldL S_lIndexFunc_iLake_out_1_l2 X_lIndexFunc_iLake_out_1_l2 (fun x => lIndexFunc_iLake_out_1_l2 x.1 x.2.1 x.2.2.1 x.2.2.2) vs bs else .bad⟩ : Loops)

theorem lIndexFunc_iLake_out_1_e (x : DR A_lIndexFunc_iLake_out_1.hs) : (evFn (envT Try.prog C28 mtab0) L_lIndexFunc_iLake_out_1 Try.f121 (A_lIndexFunc_iLake_out_1.enc x).1).to (fun q => decX R_lIndexFunc_iLake_out_1 .ret [q.1] q.2) = lIndexFunc_iLake_out_1_t x.1 x.2 := by kernel_rfl

theorem lIndexFunc_iLake_out_1_m (x : DR A_lIndexFunc_iLake_out_1.hs) : meanF (envT Try.prog C28 mtab0) L_lIndexFunc_iLake_out_1 Try.f121 A_lIndexFunc_iLake_out_1 R_lIndexFunc_iLake_out_1 x = (show Option (SumD (R_lIndexFunc_iLake_out_1.map (·.2))) from lIndexFunc_iLake_out_1 x.1 x.2) := meanF_of (lIndexFunc_iLake_out_1_e x)

theorem lIndexFunc_iLake_out_1_ok : SpecOk Try.prog 121 (evFn (envT Try.prog C28 mtab0) L_lIndexFunc_iLake_out_1 Try.f121) := fnL_ok (envT_ok (C28_ok) (mtab0_ok _)) mixedO Try.func121 (by kernel_rfl) (c := bodyOf Try.f121) (by kernel_rfl) (loopsL (l := [(2, loopC (bodyOf Try.f121) 2)]) (by kernel_rfl) (lk_cons (lIndexFunc_iLake_out_1_l2_k _ rfl rfl (fun _ _ => rfl)) lk_nil))

theorem lIndexFunc_iLake_out_1_told : SpecOk Try.prog 121 (toldO A_lIndexFunc_iLake_out_1 R_lIndexFunc_iLake_out_1 (fun x => lIndexFunc_iLake_out_1 x.1 x.2) (C28 121)) := toldO_ok (by kernel_rfl) lIndexFunc_iLake_out_1_ok (rest_ok (C28_ok) _) lIndexFunc_iLake_out_1_m

noncomputable def C29 : Tab := tab 121 (toldO A_lIndexFunc_iLake_out_1 R_lIndexFunc_iLake_out_1 (fun x => lIndexFunc_iLake_out_1 x.1 x.2) (C28 121)) C28
theorem C29_ok : TabOk Try.prog C29 := tab_ok (lIndexFunc_iLake_out_1_told) (C28_ok)

def A_iLake_out : Shp := ⟨[.agg [.h, .h], .h], [], [.sl [.f .f32], .sl [.f .f32], .f .f32]⟩
def R_iLake_out : List XShp := [(.ret, ⟨[.h], [], [.f .f32]⟩)]

theorem iLake_out_e (x : DR A_iLake_out.hs) : (evFn (envT Try.prog C29 mtab0) noLoops Try.f74 (A_iLake_out.enc x).1).to (fun q => decX R_iLake_out .ret [q.1] q.2) = iLake_out_t x.1 x.2.1 x.2.2 := by kernel_rfl

theorem iLake_out_m (x : DR A_iLake_out.hs) : meanF (envT Try.prog C29 mtab0) noLoops Try.f74 A_iLake_out R_iLake_out x = (show Option (SumD (R_iLake_out.map (·.2))) from iLake_out x.1 x.2.1 x.2.2) := meanF_of (iLake_out_e x)

theorem iLake_out_ok : SpecOk Try.prog 74 (evFn (envT Try.prog C29 mtab0) noLoops Try.f74) := fnL_ok (envT_ok (C29_ok) (mtab0_ok _)) mixedO Try.func74 (by kernel_rfl) (c := bodyOf Try.f74) (by kernel_rfl) (loopFree_ok (by kernel_rfl))

theorem iLake_out_told : SpecOk Try.prog 74 (toldO A_iLake_out R_iLake_out (fun x => iLake_out x.1 x.2.1 x.2.2) (C29 74)) := toldO_ok (by kernel_rfl) iLake_out_ok (rest_ok (C29_ok) _) iLake_out_m

noncomputable def C30 : Tab := tab 74 (toldO A_iLake_out R_iLake_out (fun x => iLake_out x.1 x.2.1 x.2.2) (C29 74)) C29
theorem C30_ok : TabOk Try.prog C30 := tab_ok (iLake_out_told) (C29_ok)

def A_ifinite32 : Shp := ⟨[.h], [], [.f .f32]⟩
def R_ifinite32 : List XShp := [(.ret, ⟨[.tup [.h, .h]], [], [.f .f32, .b]⟩)]

theorem ifinite32_e (x : DR A_ifinite32.hs) : (evFn (envT Try.prog C30 mtab0) noLoops Try.f73 (A_ifinite32.enc x).1).to (fun q => decX R_ifinite32 .ret [q.1] q.2) = ifinite32_t x := by kernel_rfl

theorem ifinite32_m (x : DR A_ifinite32.hs) : meanF (envT Try.prog C30 mtab0) noLoops Try.f73 A_ifinite32 R_ifinite32 x = some (show SumD (R_ifinite32.map (·.2)) from ifinite32 x) := @meanF_tot _ _ _ _ _ _ _ (ifinite32_e x) (show Inhabited (Nat × Bool) from inferInstance) (by kernel_rfl)

theorem ifinite32_ok : SpecOk Try.prog 73 (evFn (envT Try.prog C30 mtab0) noLoops Try.f73) := fnL_ok (envT_ok (C30_ok) (mtab0_ok _)) mixedO Try.func73 (by kernel_rfl) (c := bodyOf Try.f73) (by kernel_rfl) (loopFree_ok (by kernel_rfl))

theorem ifinite32_told : SpecOk Try.prog 73 (toldT A_ifinite32 R_ifinite32 (fun x => ifinite32 x) (C30 73)) := toldT_ok (by kernel_rfl) ifinite32_ok (rest_ok (C30_ok) _) ifinite32_m

noncomputable def C31 : Tab := tab 73 (toldT A_ifinite32 R_ifinite32 (fun x => ifinite32 x) (C30 73)) C30
theorem C31_ok : TabOk Try.prog C31 := tab_ok (ifinite32_told) (C30_ok)

def A_iLakeOut : Shp := ⟨[.agg [.h, .h], .h], [], [.sl [.f .f32], .sl [.f .f32], .f .f32]⟩
def R_iLakeOut : List XShp := [(.ret, ⟨[.tup [.h, .h]], [], [.f .f32, .b]⟩)]

theorem iLakeOut_e (x : DR A_iLakeOut.hs) : (evFn (envT Try.prog C31 mtab0) noLoops Try.f18 (A_iLakeOut.enc x).1).to (fun q => decX R_iLakeOut .ret [q.1] q.2) = iLakeOut_t x.1 x.2.1 x.2.2 := by kernel_rfl

theorem iLakeOut_m (x : DR A_iLakeOut.hs) : meanF (envT Try.prog C31 mtab0) noLoops Try.f18 A_iLakeOut R_iLakeOut x = (show Option (SumD (R_iLakeOut.map (·.2))) from iLakeOut x.1 x.2.1 x.2.2) := meanF_of (iLakeOut_e x)

theorem iLakeOut_ok : SpecOk Try.prog 18 (evFn (envT Try.prog C31 mtab0) noLoops Try.f18) := fnL_ok (envT_ok (C31_ok) (mtab0_ok _)) mixedO Try.func18 (by kernel_rfl) (c := bodyOf Try.f18) (by kernel_rfl) (loopFree_ok (by kernel_rfl))

theorem iLakeOut_told : SpecOk Try.prog 18 (toldO A_iLakeOut R_iLakeOut (fun x => iLakeOut x.1 x.2.1 x.2.2) (C31 18)) := toldO_ok (by kernel_rfl) iLakeOut_ok (rest_ok (C31_ok) _) iLakeOut_m

noncomputable def C32 : Tab := tab 18 (toldO A_iLakeOut R_iLakeOut (fun x => iLakeOut x.1 x.2.1 x.2.2) (C31 18)) C31
theorem C32_ok : TabOk Try.prog C32 := tab_ok (iLakeOut_told) (C31_ok)

def S_weqFloat32S_l4 : Shp := ⟨[.h, .h, .undef, .h], [], [.sl [.f .f32], .sl [.f .f32], .i .i64]⟩
def X_weqFloat32S_l4 : List XShp := [(.exit 0, ⟨[.undef, .undef, .undef, .undef], [], []⟩)]

noncomputable def L_weqFloat32S_l4 : Loops := (⟨29, lvT [(4, [0, 1, 4, 5])], mdT [(4, .normal, [], [4]), (4, .exit 0, [], [0, 1, 4, 5]), (4, .ret, [], [0, 1, 5])], fun k vs bs => .bad⟩ : Loops)

theorem weqFloat32S_l4_e (y0 : List Nat) (y1 : List Nat) (s : Int) : (loopStep (envT Try.prog C32 mtab0) L_weqFloat32S_l4 4 (loopC (bodyOf Try.f26) 4) (S_weqFloat32S_l4.enc (y0, y1, s)).1 (S_weqFloat32S_l4.enc (y0, y1, s)).2).to (stepD S_weqFloat32S_l4 X_weqFloat32S_l4) = (weqFloat32S_l4_t y0 y1 s).map (Sum.map (fun s : Int => (show DR S_weqFloat32S_l4.hs from (y0, y1, s))) id) := by kernel_rfl

theorem weqFloat32S_l4_r (x : DR S_weqFloat32S_l4.hs) : (weqFloat32S_l4 x.1 x.2.1 x.2.2 : Option (SumD (X_weqFloat32S_l4.map (·.2)))) = runL (meanS (envT Try.prog C32 mtab0) L_weqFloat32S_l4 4 (loopC (bodyOf Try.f26) 4) S_weqFloat32S_l4 X_weqFloat32S_l4) x := run_of (fun s : Int => (show DR S_weqFloat32S_l4.hs from (x.1, x.2.1, s))) (weqFloat32S_l4_e (x.1) (x.2.1)) x.2.2

theorem weqFloat32S_l4_k (L : Loops) (hn : L_weqFloat32S_l4.n = L.n) (hlv : L_weqFloat32S_l4.lv 4 = L.lv 4) (hL : ∀ vs bs, L.loop 4 vs bs = toldL S_weqFloat32S_l4 X_weqFloat32S_l4 (fun x => weqFloat32S_l4 x.1 x.2.1 x.2.2) vs bs) : LOk Try.prog (envT Try.prog C32 mtab0) L 4 (loopC (bodyOf Try.f26) 4) := toldL_ok (L1 := L_weqFloat32S_l4) (envT_ok (C32_ok) (mtab0_ok _)) mixedO hn hlv (loopFree_ok (by kernel_rfl)) weqFloat32S_l4_r hL

def A_weqFloat32S : Shp := ⟨[.h, .h], [], [.sl [.f .f32], .sl [.f .f32]]⟩
def R_weqFloat32S : List XShp := [(.ret, ⟨[.h], [], [.b]⟩)]

noncomputable def L_weqFloat32S : Loops := (⟨29, lvT [(4, [0, 1, 4, 5])], mdT [(4, .normal, [], [4]), (4, .exit 0, [], [0, 1, 4, 5]), (4, .ret, [], [0, 1, 5])], fun k vs bs => bif Nat.beq k 4 then toldL S_weqFloat32S_l4 X_weqFloat32S_l4 (fun x => weqFloat32S_l4 x.1 x.2.1 x.2.2) vs bs else .bad⟩ : Loops)

theorem weqFloat32S_e (x : DR A_weqFloat32S.hs) : (evFn (envT Try.prog C32 mtab0) L_weqFloat32S Try.f26 (A_weqFloat32S.enc x).1).to (fun q => decX R_weqFloat32S .ret [q.1] q.2) = weqFloat32S_t x.1 x.2 := by kernel_rfl

theorem weqFloat32S_m (x : DR A_weqFloat32S.hs) : meanF (envT Try.prog C32 mtab0) L_weqFloat32S Try.f26 A_weqFloat32S R_weqFloat32S x = (show Option (SumD (R_weqFloat32S.map (·.2))) from weqFloat32S x.1 x.2) := meanF_of (weqFloat32S_e x)

theorem weqFloat32S_ok : SpecOk Try.prog 26 (evFn (envT Try.prog C32 mtab0) L_weqFloat32S Try.f26) := fnL_ok (envT_ok (C32_ok) (mtab0_ok _)) mixedO Try.func26 (by kernel_rfl) (c := bodyOf Try.f26) (by kernel_rfl) (loopsL (l := [(4, loopC (bodyOf Try.f26) 4)]) (by kernel_rfl) (lk_cons (weqFloat32S_l4_k _ rfl rfl (fun _ _ => rfl)) lk_nil))

theorem weqFloat32S_told : SpecOk Try.prog 26 (toldO A_weqFloat32S R_weqFloat32S (fun x => weqFloat32S x.1 x.2) (C32 26)) := toldO_ok (by kernel_rfl) weqFloat32S_ok (rest_ok (C32_ok) _) weqFloat32S_m

noncomputable def C33 : Tab := tab 26 (toldO A_weqFloat32S R_weqFloat32S (fun x => weqFloat32S x.1 x.2) (C32 26)) C32
theorem C33_ok : TabOk Try.prog C33 := tab_ok (weqFloat32S_told) (C32_ok)

def A_weqLake : Shp := ⟨[.agg [.h, .h], .agg [.h, .h]], [], [.sl [.f .f32], .sl [.f .f32], .sl [.f .f32], .sl [.f .f32]]⟩
def R_weqLake : List XShp := [(.ret, ⟨[.h], [], [.b]⟩)]

theorem weqLake_e (x : DR A_weqLake.hs) : (evFn (envT Try.prog C33 mtab0) noLoops Try.f20 (A_weqLake.enc x).1).to (fun q => decX R_weqLake .ret [q.1] q.2) = weqLake_t x.1 x.2.1 x.2.2.1 x.2.2.2 := by kernel_rfl

theorem weqLake_m (x : DR A_weqLake.hs) : meanF (envT Try.prog C33 mtab0) noLoops Try.f20 A_weqLake R_weqLake x = (show Option (SumD (R_weqLake.map (·.2))) from weqLake x.1 x.2.1 x.2.2.1 x.2.2.2) := meanF_of (weqLake_e x)

theorem weqLake_ok : SpecOk Try.prog 20 (evFn (envT Try.prog C33 mtab0) noLoops Try.f20) := fnL_ok (envT_ok (C33_ok) (mtab0_ok _)) mixedO Try.func20 (by kernel_rfl) (c := bodyOf Try.f20) (by kernel_rfl) (loopFree_ok (by kernel_rfl))

theorem weqLake_told : SpecOk Try.prog 20 (toldO A_weqLake R_weqLake (fun x => weqLake x.1 x.2.1 x.2.2.1 x.2.2.2) (C33 20)) := toldO_ok (by kernel_rfl) weqLake_ok (rest_ok (C33_ok) _) weqLake_m

noncomputable def C34 : Tab := tab 20 (toldO A_weqLake R_weqLake (fun x => weqLake x.1 x.2.1 x.2.2.1 x.2.2.2) (C33 20)) C33
theorem C34_ok : TabOk Try.prog C34 := tab_ok (weqLake_told) (C33_ok)

def A_wFnExactLakeOut : Shp := ⟨[.agg [.h, .h], .h], [], [.sl [.f .f32], .sl [.f .f32], .f .f32]⟩
def R_wFnExactLakeOut : List XShp := [(.ret, ⟨[.h], [], [.b]⟩)]

theorem wFnExactLakeOut_e (x : DR A_wFnExactLakeOut.hs) : (evFn (envT Try.prog C34 mtab0) noLoops Try.f3 (A_wFnExactLakeOut.enc x).1).to (fun q => decX R_wFnExactLakeOut .ret [q.1] q.2) = wFnExactLakeOut_t x.1 x.2.1 x.2.2 := by kernel_rfl

theorem wFnExactLakeOut_m (x : DR A_wFnExactLakeOut.hs) : meanF (envT Try.prog C34 mtab0) noLoops Try.f3 A_wFnExactLakeOut R_wFnExactLakeOut x = (show Option (SumD (R_wFnExactLakeOut.map (·.2))) from wFnExactLakeOut x.1 x.2.1 x.2.2) := meanF_of (wFnExactLakeOut_e x)

theorem wFnExactLakeOut_ok : SpecOk Try.prog 3 (evFn (envT Try.prog C34 mtab0) noLoops Try.f3) := fnL_ok (envT_ok (C34_ok) (mtab0_ok _)) mixedO Try.func3 (by kernel_rfl) (c := bodyOf Try.f3) (by kernel_rfl) (loopFree_ok (by kernel_rfl))

theorem wFnExactLakeOut_told : SpecOk Try.prog 3 (toldO A_wFnExactLakeOut R_wFnExactLakeOut (fun x => wFnExactLakeOut x.1 x.2.1 x.2.2) (C34 3)) := toldO_ok (by kernel_rfl) wFnExactLakeOut_ok (rest_ok (C34_ok) _) wFnExactLakeOut_m

noncomputable def C35 : Tab := tab 3 (toldO A_wFnExactLakeOut R_wFnExactLakeOut (fun x => wFnExactLakeOut x.1 x.2.1 x.2.2) (C34 3)) C34
theorem C35_ok : TabOk Try.prog C35 := tab_ok (wFnExactLakeOut_told) (C34_ok)

theorem lawFnExactLakeOut_ok : SpecOk Try.prog 3 (evFn (envT Try.prog C34 mtab0) noLoops Try.f3) := wFnExactLakeOut_ok
theorem lawFnExactLakeOut_says (x : DR A_wFnExactLakeOut.hs) (h : (show Option (SumD (R_wFnExactLakeOut.map (·.2))) from wFnExactLakeOut x.1 x.2.1 x.2.2) = some true) : saysTrue (evFn (envT Try.prog C34 mtab0) noLoops Try.f3 (A_wFnExactLakeOut.enc x).1) = true := law_says (x := x) ((wFnExactLakeOut_m x).trans h)

theorem lawFnExactLakeOut_true (x0 : List Nat) (x1 : List Nat) (x2 : Nat) (h : wFnExactLakeOut x0 x1 x2 = some true) : saysTrue (evFn (envT Try.prog C34 mtab0) noLoops Try.f3 [.agg [.ds [.f .f32] x0, .ds [.f .f32] x1], .f .f32 x2]) = true := (congrArg (fun l => saysTrue (evFn (envT Try.prog C34 mtab0) noLoops Try.f3 l)) (by kernel_rfl : ([.agg [.ds [.f .f32] x0, .ds [.f .f32] x1], .f .f32 x2] : List V) = (A_wFnExactLakeOut.enc (x0, x1, x2)).1)).trans (lawFnExactLakeOut_says (x0, x1, x2) h)

def A_sl05Holds : Shp := ⟨[.dpt [.h, .h] 0, .h], [], [.sl [.f .f32], .sl [.f .f32], .f .f32]⟩
def R_sl05Holds : List XShp := [(.ret, ⟨[.h], [], [.b]⟩)]

theorem sl05Holds_e (x : DR A_sl05Holds.hs) : (evFn (envT Try.prog C35 mtab0) noLoops Try.f75 (A_sl05Holds.enc x).1).to (fun q => decX R_sl05Holds .ret [q.1] q.2) = sl05Holds_t x.1 x.2.1 x.2.2 := by kernel_rfl

theorem sl05Holds_m (x : DR A_sl05Holds.hs) : meanF (envT Try.prog C35 mtab0) noLoops Try.f75 A_sl05Holds R_sl05Holds x = (show Option (SumD (R_sl05Holds.map (·.2))) from sl05Holds x.1 x.2.1 x.2.2) := meanF_of (sl05Holds_e x)

theorem sl05Holds_ok : SpecOk Try.prog 75 (evFn (envT Try.prog C35 mtab0) noLoops Try.f75) := fnL_ok (envT_ok (C35_ok) (mtab0_ok _)) mixedO Try.func75 (by kernel_rfl) (c := bodyOf Try.f75) (by kernel_rfl) (loopFree_ok (by kernel_rfl))

theorem sl05Holds_told : SpecOk Try.prog 75 (toldO A_sl05Holds R_sl05Holds (fun x => sl05Holds x.1 x.2.1 x.2.2) (C35 75)) := toldO_ok (by kernel_rfl) sl05Holds_ok (rest_ok (C35_ok) _) sl05Holds_m

noncomputable def C36 : Tab := tab 75 (toldO A_sl05Holds R_sl05Holds (fun x => sl05Holds x.1 x.2.1 x.2.2) (C35 75)) C35
theorem C36_ok : TabOk Try.prog C36 := tab_ok (sl05Holds_told) (C35_ok)

def S_sl05Store_l6 : Shp := ⟨[.dpt [.h, .h] 0, .h, .h, .h, .h, .h], [], [.sl [.f .f32], .sl [.f .f32], .f .f32, .f .f32, .f .f32, .f .f32, .i .i64]⟩
def X_sl05Store_l6 : List XShp := [(.exit 0, ⟨[.undef, .undef, .undef, .h, .undef, .undef], [], [.f .f32]⟩)]

noncomputable def L_sl05Store_l6 : Loops := (⟨70, lvT [(6, [0, 11, 12, 13, 14, 15])], mdT [(6, .exit 0, [], [0, 11, 12, 14, 15])], fun k vs bs => .bad⟩ : Loops)

theorem sl05Store_l6_e (y0 : List Nat) (y1 : List Nat) (y2 : Nat) (y3 : Nat) (s : Nat × Nat × Int) : (loopStep (envT Try.prog C36 mtab0) L_sl05Store_l6 6 (loopC (bodyOf Try.f78) 6) (S_sl05Store_l6.enc (y0, y1, y2, y3, s.1, s.2.1, s.2.2)).1 (S_sl05Store_l6.enc (y0, y1, y2, y3, s.1, s.2.1, s.2.2)).2).to (stepD S_sl05Store_l6 X_sl05Store_l6) = (sl05Store_l6_t y0 y1 y2 y3 s.1 s.2.1 s.2.2).map (Sum.map (fun s : Nat × Nat × Int => (show DR S_sl05Store_l6.hs from (y0, y1, y2, y3, s.1, s.2.1, s.2.2))) id) := by kernel_rfl

theorem sl05Store_l6_r (x : DR S_sl05Store_l6.hs) : (sl05Store_l6 x.1 x.2.1 x.2.2.1 x.2.2.2.1 x.2.2.2.2.1 x.2.2.2.2.2.1 x.2.2.2.2.2.2 : Option (SumD (X_sl05Store_l6.map (·.2)))) = runL (meanS (envT Try.prog C36 mtab0) L_sl05Store_l6 6 (loopC (bodyOf Try.f78) 6) S_sl05Store_l6 X_sl05Store_l6) x := run_of (fun s : Nat × Nat × Int => (show DR S_sl05Store_l6.hs from (x.1, x.2.1, x.2.2.1, x.2.2.2.1, s.1, s.2.1, s.2.2))) (sl05Store_l6_e (x.1) (x.2.1) (x.2.2.1) (x.2.2.2.1)) (x.2.2.2.2.1, x.2.2.2.2.2.1, x.2.2.2.2.2.2)

theorem sl05Store_l6_k (L : Loops) (hn : L_sl05Store_l6.n = L.n) (hlv : L_sl05Store_l6.lv 6 = L.lv 6) (hL : ∀ vs bs, L.loop 6 vs bs = toldL S_sl05Store_l6 X_sl05Store_l6 (fun x => sl05Store_l6 x.1 x.2.1 x.2.2.1 x.2.2.2.1 x.2.2.2.2.1 x.2.2.2.2.2.1 x.2.2.2.2.2.2) vs bs) : LOk Try.prog (envT Try.prog C36 mtab0) L 6 (loopC (bodyOf Try.f78) 6) := toldL_ok (L1 := L_sl05Store_l6) (envT_ok (C36_ok) (mtab0_ok _)) mixedO hn hlv (loopFree_ok (by kernel_rfl)) sl05Store_l6_r hL

def A_sl05Store : Shp := ⟨[.dpt [.h, .h] 0, .h, .h, .h, .h], [], [.sl [.f .f32], .sl [.f .f32], .f .f32, .f .f32, .f .f32, .f .f32]⟩
def R_sl05Store : List XShp := [(.ret, ⟨[.h], [], [.f .f32]⟩)]

noncomputable def L_sl05Store : Loops := (⟨70, lvT [(6, [0, 11, 12, 13, 14, 15])], mdT [(6, .exit 0, [], [0, 11, 12, 14, 15])], fun k vs bs => bif Nat.beq k 6 then toldL S_sl05Store_l6 X_sl05Store_l6 (fun x => sl05Store_l6 x.1 x.2.1 x.2.2.1 x.2.2.2.1 x.2.2.2.2.1 x.2.2.2.2.2.1 x.2.2.2.2.2.2) vs bs else .bad⟩ : Loops)

theorem sl05Store_e (x : DR A_sl05Store.hs) : (evFn (envT Try.prog C36 mtab0) L_sl05Store Try.f78 (A_sl05Store.enc x).1).to (fun q => decX R_sl05Store .ret [q.1] q.2) = sl05Store_t x.1 x.2.1 x.2.2.1 x.2.2.2.1 x.2.2.2.2.1 x.2.2.2.2.2 := by kernel_rfl

theorem sl05Store_m (x : DR A_sl05Store.hs) : meanF (envT Try.prog C36 mtab0) L_sl05Store Try.f78 A_sl05Store R_sl05Store x = (show Option (SumD (R_sl05Store.map (·.2))) from sl05Store x.1 x.2.1 x.2.2.1 x.2.2.2.1 x.2.2.2.2.1 x.2.2.2.2.2) := meanF_of (sl05Store_e x)

theorem sl05Store_ok : SpecOk Try.prog 78 (evFn (envT Try.prog C36 mtab0) L_sl05Store Try.f78) := fnL_ok (envT_ok (C36_ok) (mtab0_ok _)) mixedO Try.func78 (by kernel_rfl) (c := bodyOf Try.f78) (by kernel_rfl) (loopsL (l := [(6, loopC (bodyOf Try.f78) 6)]) (by kernel_rfl) (lk_cons (sl05Store_l6_k _ rfl rfl (fun _ _ => rfl)) lk_nil))

theorem sl05Store_told : SpecOk Try.prog 78 (toldO A_sl05Store R_sl05Store (fun x => sl05Store x.1 x.2.1 x.2.2.1 x.2.2.2.1 x.2.2.2.2.1 x.2.2.2.2.2) (C36 78)) := toldO_ok (by kernel_rfl) sl05Store_ok (rest_ok (C36_ok) _) sl05Store_m

noncomputable def C37 : Tab := tab 78 (toldO A_sl05Store R_sl05Store (fun x => sl05Store x.1 x.2.1 x.2.2.1 x.2.2.2.1 x.2.2.2.2.1 x.2.2.2.2.2) (C36 78)) C36
theorem C37_ok : TabOk Try.prog C37 := tab_ok (sl05Store_told) (C36_ok)

def A_sStepLake : Shp := ⟨[.agg [.h, .h], .h, .h, .h, .h], [], [.sl [.f .f32], .sl [.f .f32], .f .f32, .f .f32, .f .f32, .f .f32]⟩
def R_sStepLake : List XShp := [(.ret, ⟨[.tup [.h, .h]], [], [.f .f32, .b]⟩)]

theorem sStepLake_e (x : DR A_sStepLake.hs) : (evFn (envT Try.prog C37 mtab0) noLoops Try.f21 (A_sStepLake.enc x).1).to (fun q => decX R_sStepLake .ret [q.1] q.2) = sStepLake_t x.1 x.2.1 x.2.2.1 x.2.2.2.1 x.2.2.2.2.1 x.2.2.2.2.2 := by kernel_rfl

theorem sStepLake_m (x : DR A_sStepLake.hs) : meanF (envT Try.prog C37 mtab0) noLoops Try.f21 A_sStepLake R_sStepLake x = (show Option (SumD (R_sStepLake.map (·.2))) from sStepLake x.1 x.2.1 x.2.2.1 x.2.2.2.1 x.2.2.2.2.1 x.2.2.2.2.2) := meanF_of (sStepLake_e x)

theorem sStepLake_ok : SpecOk Try.prog 21 (evFn (envT Try.prog C37 mtab0) noLoops Try.f21) := fnL_ok (envT_ok (C37_ok) (mtab0_ok _)) mixedO Try.func21 (by kernel_rfl) (c := bodyOf Try.f21) (by kernel_rfl) (loopFree_ok (by kernel_rfl))

theorem sStepLake_told : SpecOk Try.prog 21 (toldO A_sStepLake R_sStepLake (fun x => sStepLake x.1 x.2.1 x.2.2.1 x.2.2.2.1 x.2.2.2.2.1 x.2.2.2.2.2) (C37 21)) := toldO_ok (by kernel_rfl) sStepLake_ok (rest_ok (C37_ok) _) sStepLake_m

noncomputable def C38 : Tab := tab 21 (toldO A_sStepLake R_sStepLake (fun x => sStepLake x.1 x.2.1 x.2.2.1 x.2.2.2.1 x.2.2.2.2.1 x.2.2.2.2.2) (C37 21)) C37
theorem C38_ok : TabOk Try.prog C38 := tab_ok (sStepLake_told) (C37_ok)

def A_iLake_isStore : Shp := ⟨[.agg [.h, .h], .h], [], [.sl [.f .f32], .sl [.f .f32], .f .f32]⟩
def R_iLake_isStore : List XShp := [(.ret, ⟨[.h], [], [.b]⟩)]

theorem iLake_isStore_e (x : DR A_iLake_isStore.hs) : (evFn (envT Try.prog C38 mtab0) noLoops Try.f79 (A_iLake_isStore.enc x).1).to (fun q => decX R_iLake_isStore .ret [q.1] q.2) = iLake_isStore_t x.1 x.2.1 x.2.2 := by kernel_rfl

theorem iLake_isStore_m (x : DR A_iLake_isStore.hs) : meanF (envT Try.prog C38 mtab0) noLoops Try.f79 A_iLake_isStore R_iLake_isStore x = (show Option (SumD (R_iLake_isStore.map (·.2))) from iLake_isStore x.1 x.2.1 x.2.2) := meanF_of (iLake_isStore_e x)

theorem iLake_isStore_ok : SpecOk Try.prog 79 (evFn (envT Try.prog C38 mtab0) noLoops Try.f79) := fnL_ok (envT_ok (C38_ok) (mtab0_ok _)) mixedO Try.func79 (by kernel_rfl) (c := bodyOf Try.f79) (by kernel_rfl) (loopFree_ok (by kernel_rfl))

theorem iLake_isStore_told : SpecOk Try.prog 79 (toldO A_iLake_isStore R_iLake_isStore (fun x => iLake_isStore x.1 x.2.1 x.2.2) (C38 79)) := toldO_ok (by kernel_rfl) iLake_isStore_ok (rest_ok (C38_ok) _) iLake_isStore_m

noncomputable def C39 : Tab := tab 79 (toldO A_iLake_isStore R_iLake_isStore (fun x => iLake_isStore x.1 x.2.1 x.2.2) (C38 79)) C38
theorem C39_ok : TabOk Try.prog C39 := tab_ok (iLake_isStore_told) (C38_ok)

def A_iStepLake_1 : Shp := ⟨[.h, .dpt [.h] 0, .dpt [.h, .h] 0, .dpt [.h] 0], [], [.f .f32, .f .f32, .sl [.f .f32], .sl [.f .f32], .f .f32]⟩
def R_iStepLake_1 : List XShp := [(.ret, ⟨[.tup [.h, .lb true]], [], [.b]⟩)]

theorem iStepLake_1_e (x : DR A_iStepLake_1.hs) : (evFn (envT Try.prog C39 mtab0) noLoops Try.f83 (A_iStepLake_1.enc x).1).to (fun q => decX R_iStepLake_1 .ret [q.1] q.2) = iStepLake_1_t x.1 x.2.1 x.2.2.1 x.2.2.2.1 x.2.2.2.2 := by kernel_rfl

theorem iStepLake_1_m (x : DR A_iStepLake_1.hs) : meanF (envT Try.prog C39 mtab0) noLoops Try.f83 A_iStepLake_1 R_iStepLake_1 x = (show Option (SumD (R_iStepLake_1.map (·.2))) from iStepLake_1 x.1 x.2.1 x.2.2.1 x.2.2.2.1 x.2.2.2.2) := meanF_of (iStepLake_1_e x)

theorem iStepLake_1_ok : SpecOk Try.prog 83 (evFn (envT Try.prog C39 mtab0) noLoops Try.f83) := fnL_ok (envT_ok (C39_ok) (mtab0_ok _)) mixedO Try.func83 (by kernel_rfl) (c := bodyOf Try.f83) (by kernel_rfl) (loopFree_ok (by kernel_rfl))

theorem iStepLake_1_told : SpecOk Try.prog 83 (toldO A_iStepLake_1 R_iStepLake_1 (fun x => iStepLake_1 x.1 x.2.1 x.2.2.1 x.2.2.2.1 x.2.2.2.2) (C39 83)) := toldO_ok (by kernel_rfl) iStepLake_1_ok (rest_ok (C39_ok) _) iStepLake_1_m

noncomputable def C40 : Tab := tab 83 (toldO A_iStepLake_1 R_iStepLake_1 (fun x => iStepLake_1 x.1 x.2.1 x.2.2.1 x.2.2.2.1 x.2.2.2.2) (C39 83)) C39
theorem C40_ok : TabOk Try.prog C40 := tab_ok (iStepLake_1_told) (C39_ok)

def S_ihalve_iStepLake_1_l2 : Shp := ⟨[.h, .h, .fn 83 [.dpt [.h] 0, .dpt [.h, .h] 0, .dpt [.h] 0], .undef, .undef, .undef, .h], [], [.f .f32, .f .f32, .f .f32, .sl [.f .f32], .sl [.f .f32], .f .f32, .i .i64]⟩
def X_ihalve_iStepLake_1_l2 : List XShp := [(.exit 0, ⟨[.h, .h, .undef, .undef, .undef, .undef, .undef], [], [.f .f32, .f .f32]⟩)]

noncomputable def L_ihalve_iStepLake_1_l2 : Loops := (⟨32, lvT [(2, [0, 1, 2, 6, 7, 8, 12])], mdT [(2, .normal, [], [6, 7, 8]), (2, .exit 0, [], [2, 6, 7, 8, 12]), (2, .ret, [], [0, 1, 2, 12])], fun k vs bs => .bad⟩ : Loops)

theorem ihalve_iStepLake_1_l2_e (y2 : Nat) (y3 : List Nat) (y4 : List Nat) (y5 : Nat) (s : Nat × Nat × Int) : (loopStep (envT Try.prog C40 mtab0) L_ihalve_iStepLake_1_l2 2 (loopC (bodyOf Try.f82) 2) (S_ihalve_iStepLake_1_l2.enc (s.1, s.2.1, y2, y3, y4, y5, s.2.2)).1 (S_ihalve_iStepLake_1_l2.enc (s.1, s.2.1, y2, y3, y4, y5, s.2.2)).2).to (stepD S_ihalve_iStepLake_1_l2 X_ihalve_iStepLake_1_l2) = (ihalve_iStepLake_1_l2_t y2 y3 y4 y5 s.1 s.2.1 s.2.2).map (Sum.map (fun s : Nat × Nat × Int => (show DR S_ihalve_iStepLake_1_l2.hs from (s.1, s.2.1, y2, y3, y4, y5, s.2.2))) id) := by kernel_rfl

theorem ihalve_iStepLake_1_l2_r (x : DR S_ihalve_iStepLake_1_l2.hs) : (ihalve_iStepLake_1_l2 x.1 x.2.1 x.2.2.1 x.2.2.2.1 x.2.2.2.2.1 x.2.2.2.2.2.1 x.2.2.2.2.2.2 : Option (SumD (X_ihalve_iStepLake_1_l2.map (·.2)))) = runL (meanS (envT Try.prog C40 mtab0) L_ihalve_iStepLake_1_l2 2 (loopC (bodyOf Try.f82) 2) S_ihalve_iStepLake_1_l2 X_ihalve_iStepLake_1_l2) x := run_of (fun s : Nat × Nat × Int => (show DR S_ihalve_iStepLake_1_l2.hs from (s.1, s.2.1, x.2.2.1, x.2.2.2.1, x.2.2.2.2.1, x.2.2.2.2.2.1, s.2.2))) (ihalve_iStepLake_1_l2_e (x.2.2.1) (x.2.2.2.1) (x.2.2.2.2.1) (x.2.2.2.2.2.1)) (x.1, x.2.1, x.2.2.2.2.2.2)

theorem ihalve_iStepLake_1_l2_k (L : Loops) (hn : L_ihalve_iStepLake_1_l2.n = L.n) (hlv : L_ihalve_iStepLake_1_l2.lv 2 = L.lv 2) (hL : ∀ vs bs, L.loop 2 vs bs = toldL S_ihalve_iStepLake_1_l2 X_ihalve_iStepLake_1_l2 (fun x => ihalve_iStepLake_1_l2 x.1 x.2.1 x.2.2.1 x.2.2.2.1 x.2.2.2.2.1 x.2.2.2.2.2.1 x.2.2.2.2.2.2) vs bs) : LOk Try.prog (envT Try.prog C40 mtab0) L 2 (loopC (bodyOf Try.f82) 2) := toldL_ok (L1 := L_ihalve_iStepLake_1_l2) (envT_ok (C40_ok) (mtab0_ok _)) mixedO hn hlv (loopFree_ok (by kernel_rfl)) ihalve_iStepLake_1_l2_r hL

def A_ihalve_iStepLake_1 : Shp := ⟨[.h, .h, .fn 83 [.dpt [.h] 0, .dpt [.h, .h] 0, .dpt [.h] 0]], [], [.f .f32, .f .f32, .f .f32, .sl [.f .f32], .sl [.f .f32], .f .f32]⟩
def R_ihalve_iStepLake_1 : List XShp := [(.ret, ⟨[.tup [.h, .h, .lb true]], [], [.f .f32, .f .f32]⟩)]

noncomputable def L_ihalve_iStepLake_1 : Loops := (⟨32, lvT [(2, [0, 1, 2, 6, 7, 8, 12])], mdT [(2, .normal, [], [6, 7, 8]), (2, .exit 0, [], [2, 6, 7, 8, 12]), (2, .ret, [], [0, 1, 2, 12])], fun k vs bs => bif Nat.beq k 2 then toldL S_ihalve_iStepLake_1_l2 X_ihalve_iStepLake_1_l2 (fun x => ihalve_iStepLake_1_l2 x.1 x.2.1 x.2.2.1 x.2.2.2.1 x.2.2.2.2.1 x.2.2.2.2.2.1 x.2.2.2.2.2.2) vs bs else .bad⟩ : Loops)

theorem ihalve_iStepLake_1_e (x : DR A_ihalve_iStepLake_1.hs) : (evFn (envT Try.prog C40 mtab0) L_ihalve_iStepLake_1 Try.f82 (A_ihalve_iStepLake_1.enc x).1).to (fun q => decX R_ihalve_iStepLake_1 .ret [q.1] q.2) = ihalve_iStepLake_1_t x.1 x.2.1 x.2.2.1 x.2.2.2.1 x.2.2.2.2.1 x.2.2.2.2.2 := by kernel_rfl

theorem ihalve_iStepLake_1_m (x : DR A_ihalve_iStepLake_1.hs) : meanF (envT Try.prog C40 mtab0) L_ihalve_iStepLake_1 Try.f82 A_ihalve_iStepLake_1 R_ihalve_iStepLake_1 x = (show Option (SumD (R_ihalve_iStepLake_1.map (·.2))) from ihalve_iStepLake_1 x.1 x.2.1 x.2.2.1 x.2.2.2.1 x.2.2.2.2.1 x.2.2.2.2.2) := meanF_of (ihalve_iStepLake_1_e x)

theorem ihalve_iStepLake_1_ok : SpecOk Try.prog 82 (evFn (envT Try.prog C40 mtab0) L_ihalve_iStepLake_1 Try.f82) := fnL_ok (envT_ok (C40_ok) (mtab0_ok _)) mixedO Try.func82 (by kernel_rfl) (c := bodyOf Try.f82) (by kernel_rfl) (loopsL (l := [(2, loopC (bodyOf Try.f82) 2)]) (by kernel_rfl) (lk_cons (ihalve_iStepLake_1_l2_k _ rfl rfl (fun _ _ => rfl)) lk_nil))

theorem ihalve_iStepLake_1_told : SpecOk Try.prog 82 (toldO A_ihalve_iStepLake_1 R_ihalve_iStepLake_1 (fun x => ihalve_iStepLake_1 x.1 x.2.1 x.2.2.1 x.2.2.2.1 x.2.2.2.2.1 x.2.2.2.2.2) (C40 82)) := toldO_ok (by kernel_rfl) ihalve_iStepLake_1_ok (rest_ok (C40_ok) _) ihalve_iStepLake_1_m

noncomputable def C41 : Tab := tab 82 (toldO A_ihalve_iStepLake_1 R_ihalve_iStepLake_1 (fun x => ihalve_iStepLake_1 x.1 x.2.1 x.2.2.1 x.2.2.2.1 x.2.2.2.2.1 x.2.2.2.2.2) (C40 82)) C40
theorem C41_ok : TabOk Try.prog C41 := tab_ok (ihalve_iStepLake_1_told) (C40_ok)

def A_iStepLake : Shp := ⟨[.agg [.h, .h], .h, .h, .h, .h], [], [.sl [.f .f32], .sl [.f .f32], .f .f32, .f .f32, .f .f32, .f .f32]⟩
def R_iStepLake : List XShp := [(.ret, ⟨[.tup [.h, .h]], [], [.f .f32, .b]⟩)]

theorem iStepLake_e (x : DR A_iStepLake.hs) : (evFn (envT Try.prog C41 mtab0) noLoops Try.f22 (A_iStepLake.enc x).1).to (fun q => decX R_iStepLake .ret [q.1] q.2) = iStepLake_t x.1 x.2.1 x.2.2.1 x.2.2.2.1 x.2.2.2.2.1 x.2.2.2.2.2 := by kernel_rfl

theorem iStepLake_m (x : DR A_iStepLake.hs) : meanF (envT Try.prog C41 mtab0) noLoops Try.f22 A_iStepLake R_iStepLake x = (show Option (SumD (R_iStepLake.map (·.2))) from iStepLake x.1 x.2.1 x.2.2.1 x.2.2.2.1 x.2.2.2.2.1 x.2.2.2.2.2) := meanF_of (iStepLake_e x)

theorem iStepLake_ok : SpecOk Try.prog 22 (evFn (envT Try.prog C41 mtab0) noLoops Try.f22) := fnL_ok (envT_ok (C41_ok) (mtab0_ok _)) mixedO Try.func22 (by kernel_rfl) (c := bodyOf Try.f22) (by kernel_rfl) (loopFree_ok (by kernel_rfl))

theorem iStepLake_told : SpecOk Try.prog 22 (toldO A_iStepLake R_iStepLake (fun x => iStepLake x.1 x.2.1 x.2.2.1 x.2.2.2.1 x.2.2.2.2.1 x.2.2.2.2.2) (C41 22)) := toldO_ok (by kernel_rfl) iStepLake_ok (rest_ok (C41_ok) _) iStepLake_m

noncomputable def C42 : Tab := tab 22 (toldO A_iStepLake R_iStepLake (fun x => iStepLake x.1 x.2.1 x.2.2.1 x.2.2.2.1 x.2.2.2.2.1 x.2.2.2.2.2) (C41 22)) C41
theorem C42_ok : TabOk Try.prog C42 := tab_ok (iStepLake_told) (C41_ok)

def A_wFnExactStepLake : Shp := ⟨[.agg [.h, .h], .h, .h, .h, .h], [], [.sl [.f .f32], .sl [.f .f32], .f .f32, .f .f32, .f .f32, .f .f32]⟩
def R_wFnExactStepLake : List XShp := [(.ret, ⟨[.h], [], [.b]⟩)]

theorem wFnExactStepLake_e (x : DR A_wFnExactStepLake.hs) : (evFn (envT Try.prog C42 mtab0) noLoops Try.f4 (A_wFnExactStepLake.enc x).1).to (fun q => decX R_wFnExactStepLake .ret [q.1] q.2) = wFnExactStepLake_t x.1 x.2.1 x.2.2.1 x.2.2.2.1 x.2.2.2.2.1 x.2.2.2.2.2 := by kernel_rfl

theorem wFnExactStepLake_m (x : DR A_wFnExactStepLake.hs) : meanF (envT Try.prog C42 mtab0) noLoops Try.f4 A_wFnExactStepLake R_wFnExactStepLake x = (show Option (SumD (R_wFnExactStepLake.map (·.2))) from wFnExactStepLake x.1 x.2.1 x.2.2.1 x.2.2.2.1 x.2.2.2.2.1 x.2.2.2.2.2) := meanF_of (wFnExactStepLake_e x)

theorem wFnExactStepLake_ok : SpecOk Try.prog 4 (evFn (envT Try.prog C42 mtab0) noLoops Try.f4) := fnL_ok (envT_ok (C42_ok) (mtab0_ok _)) mixedO Try.func4 (by kernel_rfl) (c := bodyOf Try.f4) (by kernel_rfl) (loopFree_ok (by kernel_rfl))

theorem wFnExactStepLake_told : SpecOk Try.prog 4 (toldO A_wFnExactStepLake R_wFnExactStepLake (fun x => wFnExactStepLake x.1 x.2.1 x.2.2.1 x.2.2.2.1 x.2.2.2.2.1 x.2.2.2.2.2) (C42 4)) := toldO_ok (by kernel_rfl) wFnExactStepLake_ok (rest_ok (C42_ok) _) wFnExactStepLake_m

noncomputable def C43 : Tab := tab 4 (toldO A_wFnExactStepLake R_wFnExactStepLake (fun x => wFnExactStepLake x.1 x.2.1 x.2.2.1 x.2.2.2.1 x.2.2.2.2.1 x.2.2.2.2.2) (C42 4)) C42
theorem C43_ok : TabOk Try.prog C43 := tab_ok (wFnExactStepLake_told) (C42_ok)

theorem lawFnExactStepLake_ok : SpecOk Try.prog 4 (evFn (envT Try.prog C42 mtab0) noLoops Try.f4) := wFnExactStepLake_ok
theorem lawFnExactStepLake_says (x : DR A_wFnExactStepLake.hs) (h : (show Option (SumD (R_wFnExactStepLake.map (·.2))) from wFnExactStepLake x.1 x.2.1 x.2.2.1 x.2.2.2.1 x.2.2.2.2.1 x.2.2.2.2.2) = some true) : saysTrue (evFn (envT Try.prog C42 mtab0) noLoops Try.f4 (A_wFnExactStepLake.enc x).1) = true := law_says (x := x) ((wFnExactStepLake_m x).trans h)

theorem lawFnExactStepLake_true (x0 : List Nat) (x1 : List Nat) (x2 : Nat) (x3 : Nat) (x4 : Nat) (x5 : Nat) (h : wFnExactStepLake x0 x1 x2 x3 x4 x5 = some true) : saysTrue (evFn (envT Try.prog C42 mtab0) noLoops Try.f4 [.agg [.ds [.f .f32] x0, .ds [.f .f32] x1], .f .f32 x2, .f .f32 x3, .f .f32 x4, .f .f32 x5]) = true := (congrArg (fun l => saysTrue (evFn (envT Try.prog C42 mtab0) noLoops Try.f4 l)) (by kernel_rfl : ([.agg [.ds [.f .f32] x0, .ds [.f .f32] x1], .f .f32 x2, .f .f32 x3, .f .f32 x4, .f .f32 x5] : List V) = (A_wFnExactStepLake.enc (x0, x1, x2, x3, x4, x5)).1)).trans (lawFnExactStepLake_says (x0, x1, x2, x3, x4, x5) h)

def A_wtoReach : Shp := ⟨[.agg [.h, .h]], [], [.f .f32, .f .f32]⟩
def R_wtoReach : List XShp := [(.ret, ⟨[.agg [.h, .h]], [], [.f .f32, .f .f32]⟩)]

theorem wtoReach_e (x : DR A_wtoReach.hs) : (evFn (envT Try.prog C43 mtab0) noLoops Try.f31 (A_wtoReach.enc x).1).to (fun q => decX R_wtoReach .ret [q.1] q.2) = wtoReach_t x.1 x.2 := by kernel_rfl

theorem wtoReach_m (x : DR A_wtoReach.hs) : meanF (envT Try.prog C43 mtab0) noLoops Try.f31 A_wtoReach R_wtoReach x = some (show SumD (R_wtoReach.map (·.2)) from wtoReach x.1 x.2) := @meanF_tot _ _ _ _ _ _ _ (wtoReach_e x) (show Inhabited (Nat × Nat) from inferInstance) (by kernel_rfl)

theorem wtoReach_ok : SpecOk Try.prog 31 (evFn (envT Try.prog C43 mtab0) noLoops Try.f31) := fnL_ok (envT_ok (C43_ok) (mtab0_ok _)) mixedO Try.func31 (by kernel_rfl) (c := bodyOf Try.f31) (by kernel_rfl) (loopFree_ok (by kernel_rfl))

theorem wtoReach_told : SpecOk Try.prog 31 (toldT A_wtoReach R_wtoReach (fun x => wtoReach x.1 x.2) (C43 31)) := toldT_ok (by kernel_rfl) wtoReach_ok (rest_ok (C43_ok) _) wtoReach_m

noncomputable def C44 : Tab := tab 31 (toldT A_wtoReach R_wtoReach (fun x => wtoReach x.1 x.2) (C43 31)) C43
theorem C44_ok : TabOk Try.prog C44 := tab_ok (wtoReach_told) (C43_ok)

def A_sl05Reach : Shp := ⟨[.dpt [.h, .h] 0], [], [.f .f32, .f .f32]⟩
def R_sl05Reach : List XShp := [(.ret, ⟨[.h], [], [.b]⟩)]

theorem sl05Reach_e (x : DR A_sl05Reach.hs) : (evFn (envT Try.prog C44 mtab0) noLoops Try.f87 (A_sl05Reach.enc x).1).to (fun q => decX R_sl05Reach .ret [q.1] q.2) = sl05Reach_t x.1 x.2 := by kernel_rfl

theorem sl05Reach_m (x : DR A_sl05Reach.hs) : meanF (envT Try.prog C44 mtab0) noLoops Try.f87 A_sl05Reach R_sl05Reach x = some (show SumD (R_sl05Reach.map (·.2)) from sl05Reach x.1 x.2) := @meanF_tot _ _ _ _ _ _ _ (sl05Reach_e x) (show Inhabited (Bool) from inferInstance) (by kernel_rfl)

theorem sl05Reach_ok : SpecOk Try.prog 87 (evFn (envT Try.prog C44 mtab0) noLoops Try.f87) := fnL_ok (envT_ok (C44_ok) (mtab0_ok _)) mixedO Try.func87 (by kernel_rfl) (c := bodyOf Try.f87) (by kernel_rfl) (loopFree_ok (by kernel_rfl))

theorem sl05Reach_told : SpecOk Try.prog 87 (toldT A_sl05Reach R_sl05Reach (fun x => sl05Reach x.1 x.2) (C44 87)) := toldT_ok (by kernel_rfl) sl05Reach_ok (rest_ok (C44_ok) _) sl05Reach_m

noncomputable def C45 : Tab := tab 87 (toldT A_sl05Reach R_sl05Reach (fun x => sl05Reach x.1 x.2) (C44 87)) C44
theorem C45_ok : TabOk Try.prog C45 := tab_ok (sl05Reach_told) (C44_ok)

def S_sl02Finite_l2 : Shp := ⟨[.h, .undef, .h], [], [.sl [.f .f32], .i .i64]⟩
def X_sl02Finite_l2 : List XShp := [(.ret, ⟨[.undef, .lb false, .undef], [], []⟩), (.exit 0, ⟨[.undef, .undef, .undef], [], []⟩)]

noncomputable def L_sl02Finite_l2 : Loops := (⟨16, lvT [(2, [0, 2, 3])], mdT [(2, .normal, [], [2]), (2, .exit 0, [], [0, 2, 3]), (2, .ret, [], [0, 3])], fun k vs bs => .bad⟩ : Loops)

theorem sl02Finite_l2_e (y0 : List Nat) (s : Int) : (loopStep (envT Try.prog C45 mtab0) L_sl02Finite_l2 2 (loopC (bodyOf Try.f85) 2) (S_sl02Finite_l2.enc (y0, s)).1 (S_sl02Finite_l2.enc (y0, s)).2).to (stepD S_sl02Finite_l2 X_sl02Finite_l2) = (sl02Finite_l2_t y0 s).map (Sum.map (fun s : Int => (show DR S_sl02Finite_l2.hs from (y0, s))) id) := by kernel_rfl

theorem sl02Finite_l2_r (x : DR S_sl02Finite_l2.hs) : (sl02Finite_l2 x.1 x.2 : Option (SumD (X_sl02Finite_l2.map (·.2)))) = runL (meanS (envT Try.prog C45 mtab0) L_sl02Finite_l2 2 (loopC (bodyOf Try.f85) 2) S_sl02Finite_l2 X_sl02Finite_l2) x := run_of (fun s : Int => (show DR S_sl02Finite_l2.hs from (x.1, s))) (sl02Finite_l2_e (x.1)) x.2

theorem sl02Finite_l2_k (L : Loops) (hn : L_sl02Finite_l2.n = L.n) (hlv : L_sl02Finite_l2.lv 2 = L.lv 2) (hL : ∀ vs bs, L.loop 2 vs bs = toldL S_sl02Finite_l2 X_sl02Finite_l2 (fun x => sl02Finite_l2 x.1 x.2) vs bs) : LOk Try.prog (envT Try.prog C45 mtab0) L 2 (loopC (bodyOf Try.f85) 2) := toldL_ok (L1 := L_sl02Finite_l2) (envT_ok (C45_ok) (mtab0_ok _)) mixedO hn hlv (loopFree_ok (by kernel_rfl)) sl02Finite_l2_r hL

def A_sl02Finite : Shp := ⟨[.h], [], [.sl [.f .f32]]⟩
def R_sl02Finite : List XShp := [(.ret, ⟨[.h], [], [.b]⟩)]

noncomputable def L_sl02Finite : Loops := (⟨16, lvT [(2, [0, 2, 3])], mdT [(2, .normal, [], [2]), (2, .exit 0, [], [0, 2, 3]), (2, .ret, [], [0, 3])], fun k vs bs => bif Nat.beq k 2 then toldL S_sl02Finite_l2 X_sl02Finite_l2 (fun x => sl02Finite_l2 x.1 x.2) vs bs else .bad⟩ : Loops)

theorem sl02Finite_e (x : DR A_sl02Finite.hs) : (evFn (envT Try.prog C45 mtab0) L_sl02Finite Try.f85 (A_sl02Finite.enc x).1).to (fun q => decX R_sl02Finite .ret [q.1] q.2) = sl02Finite_t x := by kernel_rfl

theorem sl02Finite_m (x : DR A_sl02Finite.hs) : meanF (envT Try.prog C45 mtab0) L_sl02Finite Try.f85 A_sl02Finite R_sl02Finite x = (show Option (SumD (R_sl02Finite.map (·.2))) from sl02Finite x) := meanF_of (sl02Finite_e x)

theorem sl02Finite_ok : SpecOk Try.prog 85 (evFn (envT Try.prog C45 mtab0) L_sl02Finite Try.f85) := fnL_ok (envT_ok (C45_ok) (mtab0_ok _)) mixedO Try.func85 (by kernel_rfl) (c := bodyOf Try.f85) (by kernel_rfl) (loopsL (l := [(2, loopC (bodyOf Try.f85) 2)]) (by kernel_rfl) (lk_cons (sl02Finite_l2_k _ rfl rfl (fun _ _ => rfl)) lk_nil))

theorem sl02Finite_told : SpecOk Try.prog 85 (toldO A_sl02Finite R_sl02Finite (fun x => sl02Finite x) (C45 85)) := toldO_ok (by kernel_rfl) sl02Finite_ok (rest_ok (C45_ok) _) sl02Finite_m

noncomputable def C46 : Tab := tab 85 (toldO A_sl02Finite R_sl02Finite (fun x => sl02Finite x) (C45 85)) C45
theorem C46_ok : TabOk Try.prog C46 := tab_ok (sl02Finite_told) (C45_ok)

def A_sl05Ins : Shp := ⟨[.h], [], [.sl [.f .f32]]⟩
def R_sl05Ins : List XShp := [(.ret, ⟨[.h], [], [.b]⟩)]

theorem sl05Ins_e (x : DR A_sl05Ins.hs) : (evFn (envT Try.prog C46 mtab0) noLoops Try.f84 (A_sl05Ins.enc x).1).to (fun q => decX R_sl05Ins .ret [q.1] q.2) = sl05Ins_t x := by kernel_rfl

theorem sl05Ins_m (x : DR A_sl05Ins.hs) : meanF (envT Try.prog C46 mtab0) noLoops Try.f84 A_sl05Ins R_sl05Ins x = (show Option (SumD (R_sl05Ins.map (·.2))) from sl05Ins x) := meanF_of (sl05Ins_e x)

theorem sl05Ins_ok : SpecOk Try.prog 84 (evFn (envT Try.prog C46 mtab0) noLoops Try.f84) := fnL_ok (envT_ok (C46_ok) (mtab0_ok _)) mixedO Try.func84 (by kernel_rfl) (c := bodyOf Try.f84) (by kernel_rfl) (loopFree_ok (by kernel_rfl))

theorem sl05Ins_told : SpecOk Try.prog 84 (toldO A_sl05Ins R_sl05Ins (fun x => sl05Ins x) (C46 84)) := toldO_ok (by kernel_rfl) sl05Ins_ok (rest_ok (C46_ok) _) sl05Ins_m

noncomputable def C47 : Tab := tab 84 (toldO A_sl05Ins R_sl05Ins (fun x => sl05Ins x) (C46 84)) C46
theorem C47_ok : TabOk Try.prog C47 := tab_ok (sl05Ins_told) (C46_ok)

def A_sl05Shares : Shp := ⟨[.dpt [.h, .h] 0, .h], [], [.f .f32, .f .f32, .f .f32]⟩
def R_sl05Shares : List XShp := [(.ret, ⟨[.tup [.h, .h, .h, .h]], [], [.f .f32, .f .f32, .f .f32, .b]⟩)]

theorem sl05Shares_e (x : DR A_sl05Shares.hs) : (evFn (envT Try.prog C47 mtab0) noLoops Try.f125 (A_sl05Shares.enc x).1).to (fun q => decX R_sl05Shares .ret [q.1] q.2) = sl05Shares_t x.1 x.2.1 x.2.2 := by kernel_rfl

theorem sl05Shares_m (x : DR A_sl05Shares.hs) : meanF (envT Try.prog C47 mtab0) noLoops Try.f125 A_sl05Shares R_sl05Shares x = some (show SumD (R_sl05Shares.map (·.2)) from sl05Shares x.1 x.2.1 x.2.2) := @meanF_tot _ _ _ _ _ _ _ (sl05Shares_e x) (show Inhabited (Nat × Nat × Nat × Bool) from inferInstance) (by kernel_rfl)

theorem sl05Shares_ok : SpecOk Try.prog 125 (evFn (envT Try.prog C47 mtab0) noLoops Try.f125) := fnL_ok (envT_ok (C47_ok) (mtab0_ok _)) mixedO Try.func125 (by kernel_rfl) (c := bodyOf Try.f125) (by kernel_rfl) (loopFree_ok (by kernel_rfl))

theorem sl05Shares_told : SpecOk Try.prog 125 (toldT A_sl05Shares R_sl05Shares (fun x => sl05Shares x.1 x.2.1 x.2.2) (C47 125)) := toldT_ok (by kernel_rfl) sl05Shares_ok (rest_ok (C47_ok) _) sl05Shares_m

noncomputable def C48 : Tab := tab 125 (toldT A_sl05Shares R_sl05Shares (fun x => sl05Shares x.1 x.2.1 x.2.2) (C47 125)) C47
theorem C48_ok : TabOk Try.prog C48 := tab_ok (sl05Shares_told) (C47_ok)

def S_sl05Route_l6 : Shp := ⟨[.h, .h, .h, .h, .slw 0 1, .h], [.arr [.f .f32] false], [.sl [.f .f32], .f .f32, .f .f32, .f .f32, .i .i64, .sl [.f .f32]]⟩
def X_sl05Route_l6 : List XShp := [(.exit 0, ⟨[.undef, .undef, .undef, .undef, .slw 0 1, .undef], [.arr [.f .f32] false], [.sl [.f .f32]]⟩)]

noncomputable def L_sl05Route_l6 : Loops := (⟨63, lvT [(6, [1, 10, 11, 12, 14, 15])], mdT [(6, .exit 0, [], [1, 10, 11, 12, 15])], fun k vs bs => .bad⟩ : Loops)

theorem sl05Route_l6_e (y0 : List Nat) (y1 : Nat) (y2 : Nat) (y3 : Nat) (s : Int × List Nat) : (loopStep (envT Try.prog C48 mtab0) L_sl05Route_l6 6 (loopC (bodyOf Try.f88) 6) (S_sl05Route_l6.enc (y0, y1, y2, y3, s.1, s.2)).1 (S_sl05Route_l6.enc (y0, y1, y2, y3, s.1, s.2)).2).to (stepD S_sl05Route_l6 X_sl05Route_l6) = (sl05Route_l6_t y0 y1 y2 y3 s.1 s.2).map (Sum.map (fun s : Int × List Nat => (show DR S_sl05Route_l6.hs from (y0, y1, y2, y3, s.1, s.2))) id) := by kernel_rfl

theorem sl05Route_l6_r (x : DR S_sl05Route_l6.hs) : (sl05Route_l6 x.1 x.2.1 x.2.2.1 x.2.2.2.1 x.2.2.2.2.1 x.2.2.2.2.2 : Option (SumD (X_sl05Route_l6.map (·.2)))) = runL (meanS (envT Try.prog C48 mtab0) L_sl05Route_l6 6 (loopC (bodyOf Try.f88) 6) S_sl05Route_l6 X_sl05Route_l6) x := run_of (fun s : Int × List Nat => (show DR S_sl05Route_l6.hs from (x.1, x.2.1, x.2.2.1, x.2.2.2.1, s.1, s.2))) (sl05Route_l6_e (x.1) (x.2.1) (x.2.2.1) (x.2.2.2.1)) (x.2.2.2.2.1, x.2.2.2.2.2)

theorem sl05Route_l6_k (L : Loops) (hn : L_sl05Route_l6.n = L.n) (hlv : L_sl05Route_l6.lv 6 = L.lv 6) (hL : ∀ vs bs, L.loop 6 vs bs = toldL S_sl05Route_l6 X_sl05Route_l6 (fun x => sl05Route_l6 x.1 x.2.1 x.2.2.1 x.2.2.2.1 x.2.2.2.2.1 x.2.2.2.2.2) vs bs) : LOk Try.prog (envT Try.prog C48 mtab0) L 6 (loopC (bodyOf Try.f88) 6) := toldL_ok (L1 := L_sl05Route_l6) (envT_ok (C48_ok) (mtab0_ok _)) mixedO hn hlv (loopFree_ok (by kernel_rfl)) sl05Route_l6_r hL

def A_sl05Route : Shp := ⟨[.dpt [.h, .h] 0, .h, .h, .h], [], [.f .f32, .f .f32, .sl [.f .f32], .f .f32, .f .f32]⟩
def R_sl05Route : List XShp := [(.ret, ⟨[.tup [.nils, .lb false]], [], []⟩), (.ret, ⟨[.tup [.slw 0 1, .lb true]], [.arr [.f .f32] false], [.sl [.f .f32]]⟩)]

noncomputable def L_sl05Route : Loops := (⟨63, lvT [(6, [1, 10, 11, 12, 14, 15])], mdT [(6, .exit 0, [], [1, 10, 11, 12, 15])], fun k vs bs => bif Nat.beq k 6 then toldL S_sl05Route_l6 X_sl05Route_l6 (fun x => sl05Route_l6 x.1 x.2.1 x.2.2.1 x.2.2.2.1 x.2.2.2.2.1 x.2.2.2.2.2) vs bs else .bad⟩ : Loops)

theorem sl05Route_e (x : DR A_sl05Route.hs) : (evFn (envT Try.prog C48 mtab0) L_sl05Route Try.f88 (A_sl05Route.enc x).1).to (fun q => decX R_sl05Route .ret [q.1] q.2) = sl05Route_t x.1 x.2.1 x.2.2.1 x.2.2.2.1 x.2.2.2.2 := by kernel_rfl

theorem sl05Route_m (x : DR A_sl05Route.hs) : meanF (envT Try.prog C48 mtab0) L_sl05Route Try.f88 A_sl05Route R_sl05Route x = (show Option (SumD (R_sl05Route.map (·.2))) from sl05Route x.1 x.2.1 x.2.2.1 x.2.2.2.1 x.2.2.2.2) := meanF_of (sl05Route_e x)

theorem sl05Route_ok : SpecOk Try.prog 88 (evFn (envT Try.prog C48 mtab0) L_sl05Route Try.f88) := fnL_ok (envT_ok (C48_ok) (mtab0_ok _)) mixedO Try.func88 (by kernel_rfl) (c := bodyOf Try.f88) (by kernel_rfl) (loopsL (l := [(6, loopC (bodyOf Try.f88) 6)]) (by kernel_rfl) (lk_cons (sl05Route_l6_k _ rfl rfl (fun _ _ => rfl)) lk_nil))

theorem sl05Route_told : SpecOk Try.prog 88 (toldO A_sl05Route R_sl05Route (fun x => sl05Route x.1 x.2.1 x.2.2.1 x.2.2.2.1 x.2.2.2.2) (C48 88)) := toldO_ok (by kernel_rfl) sl05Route_ok (rest_ok (C48_ok) _) sl05Route_m

noncomputable def C49 : Tab := tab 88 (toldO A_sl05Route R_sl05Route (fun x => sl05Route x.1 x.2.1 x.2.2.1 x.2.2.2.1 x.2.2.2.2) (C48 88)) C48
theorem C49_ok : TabOk Try.prog C49 := tab_ok (sl05Route_told) (C48_ok)

def A_sRouteReach : Shp := ⟨[.agg [.h, .h], .h, .h, .h], [], [.f .f32, .f .f32, .sl [.f .f32], .f .f32, .f .f32]⟩
def R_sRouteReach : List XShp := [(.ret, ⟨[.tup [.nils, .lb false]], [], []⟩), (.ret, ⟨[.tup [.slw 0 1, .lb true]], [.arr [.f .f32] false], [.sl [.f .f32]]⟩)]

theorem sRouteReach_e (x : DR A_sRouteReach.hs) : (evFn (envT Try.prog C49 mtab0) noLoops Try.f30 (A_sRouteReach.enc x).1).to (fun q => decX R_sRouteReach .ret [q.1] q.2) = sRouteReach_t x.1 x.2.1 x.2.2.1 x.2.2.2.1 x.2.2.2.2 := by kernel_rfl

theorem sRouteReach_m (x : DR A_sRouteReach.hs) : meanF (envT Try.prog C49 mtab0) noLoops Try.f30 A_sRouteReach R_sRouteReach x = (show Option (SumD (R_sRouteReach.map (·.2))) from sRouteReach x.1 x.2.1 x.2.2.1 x.2.2.2.1 x.2.2.2.2) := meanF_of (sRouteReach_e x)

theorem sRouteReach_ok : SpecOk Try.prog 30 (evFn (envT Try.prog C49 mtab0) noLoops Try.f30) := fnL_ok (envT_ok (C49_ok) (mtab0_ok _)) mixedO Try.func30 (by kernel_rfl) (c := bodyOf Try.f30) (by kernel_rfl) (loopFree_ok (by kernel_rfl))

theorem sRouteReach_told : SpecOk Try.prog 30 (toldO A_sRouteReach R_sRouteReach (fun x => sRouteReach x.1 x.2.1 x.2.2.1 x.2.2.2.1 x.2.2.2.2) (C49 30)) := toldO_ok (by kernel_rfl) sRouteReach_ok (rest_ok (C49_ok) _) sRouteReach_m

noncomputable def C50 : Tab := tab 30 (toldO A_sRouteReach R_sRouteReach (fun x => sRouteReach x.1 x.2.1 x.2.2.1 x.2.2.2.1 x.2.2.2.2) (C49 30)) C49
theorem C50_ok : TabOk Try.prog C50 := tab_ok (sRouteReach_told) (C49_ok)

def A_iValidReach : Shp := ⟨[.agg [.h, .h]], [], [.f .f32, .f .f32]⟩
def R_iValidReach : List XShp := [(.ret, ⟨[.h], [], [.b]⟩)]

theorem iValidReach_e (x : DR A_iValidReach.hs) : (evFn (envT Try.prog C50 mtab0) noLoops Try.f126 (A_iValidReach.enc x).1).to (fun q => decX R_iValidReach .ret [q.1] q.2) = iValidReach_t x.1 x.2 := by kernel_rfl

theorem iValidReach_m (x : DR A_iValidReach.hs) : meanF (envT Try.prog C50 mtab0) noLoops Try.f126 A_iValidReach R_iValidReach x = some (show SumD (R_iValidReach.map (·.2)) from iValidReach x.1 x.2) := @meanF_tot _ _ _ _ _ _ _ (iValidReach_e x) (show Inhabited (Bool) from inferInstance) (by kernel_rfl)

theorem iValidReach_ok : SpecOk Try.prog 126 (evFn (envT Try.prog C50 mtab0) noLoops Try.f126) := fnL_ok (envT_ok (C50_ok) (mtab0_ok _)) mixedO Try.func126 (by kernel_rfl) (c := bodyOf Try.f126) (by kernel_rfl) (loopFree_ok (by kernel_rfl))

theorem iValidReach_told : SpecOk Try.prog 126 (toldT A_iValidReach R_iValidReach (fun x => iValidReach x.1 x.2) (C50 126)) := toldT_ok (by kernel_rfl) iValidReach_ok (rest_ok (C50_ok) _) iValidReach_m

noncomputable def C51 : Tab := tab 126 (toldT A_iValidReach R_iValidReach (fun x => iValidReach x.1 x.2) (C50 126)) C50
theorem C51_ok : TabOk Try.prog C51 := tab_ok (iValidReach_told) (C50_ok)

def A_iareFinite_1 : Shp := ⟨[.h], [], [.f .f32]⟩
def R_iareFinite_1 : List XShp := [(.ret, ⟨[.h], [], [.b]⟩)]

theorem iareFinite_1_e (x : DR A_iareFinite_1.hs) : (evFn (envT Try.prog C51 mtab0) noLoops Try.f127 (A_iareFinite_1.enc x).1).to (fun q => decX R_iareFinite_1 .ret [q.1] q.2) = iareFinite_1_t x := by kernel_rfl

theorem iareFinite_1_m (x : DR A_iareFinite_1.hs) : meanF (envT Try.prog C51 mtab0) noLoops Try.f127 A_iareFinite_1 R_iareFinite_1 x = some (show SumD (R_iareFinite_1.map (·.2)) from iareFinite_1 x) := @meanF_tot _ _ _ _ _ _ _ (iareFinite_1_e x) (show Inhabited (Bool) from inferInstance) (by kernel_rfl)

theorem iareFinite_1_ok : SpecOk Try.prog 127 (evFn (envT Try.prog C51 mtab0) noLoops Try.f127) := fnL_ok (envT_ok (C51_ok) (mtab0_ok _)) mixedO Try.func127 (by kernel_rfl) (c := bodyOf Try.f127) (by kernel_rfl) (loopFree_ok (by kernel_rfl))

theorem iareFinite_1_told : SpecOk Try.prog 127 (toldT A_iareFinite_1 R_iareFinite_1 (fun x => iareFinite_1 x) (C51 127)) := toldT_ok (by kernel_rfl) iareFinite_1_ok (rest_ok (C51_ok) _) iareFinite_1_m

noncomputable def C52 : Tab := tab 127 (toldT A_iareFinite_1 R_iareFinite_1 (fun x => iareFinite_1 x) (C51 127)) C51
theorem C52_ok : TabOk Try.prog C52 := tab_ok (iareFinite_1_told) (C51_ok)

def S_lIndexFunc_iareFinite_1_l2 : Shp := ⟨[.h, .fn 127 [], .undef, .h, .h], [], [.sl [.f .f32], .i .i64, .i .i64]⟩
def X_lIndexFunc_iareFinite_1_l2 : List XShp := [(.ret, ⟨[.undef, .undef, .h, .undef, .undef], [], [.i .i64]⟩), (.exit 0, ⟨[.undef, .undef, .undef, .undef, .undef], [], []⟩)]

noncomputable def L_lIndexFunc_iareFinite_1_l2 : Loops := (⟨19, lvT [(2, [0, 1, 4, 7, 8])], mdT [(2, .normal, [], [4]), (2, .exit 0, [], [0, 1, 4, 7, 8]), (2, .ret, [], [0, 1, 7, 8])], fun k vs bs => .bad⟩ : Loops)

theorem lIndexFunc_iareFinite_1_l2_e (y0 : List Nat) (y1 : Int) (s : Int) : (loopStep (envT Try.prog C52 mtab0) L_lIndexFunc_iareFinite_1_l2 2 (loopC (bodyOf Try.f121) 2) (S_lIndexFunc_iareFinite_1_l2.enc (y0, y1, s)).1 (S_lIndexFunc_iareFinite_1_l2.enc (y0, y1, s)).2).to (stepD S_lIndexFunc_iareFinite_1_l2 X_lIndexFunc_iareFinite_1_l2) = (lIndexFunc_iareFinite_1_l2_t y0 y1 s).map (Sum.map (fun s : Int => (show DR S_lIndexFunc_iareFinite_1_l2.hs from (y0, y1, s))) id) := by kernel_rfl

theorem lIndexFunc_iareFinite_1_l2_r (x : DR S_lIndexFunc_iareFinite_1_l2.hs) : (lIndexFunc_iareFinite_1_l2 x.1 x.2.1 x.2.2 : Option (SumD (X_lIndexFunc_iareFinite_1_l2.map (·.2)))) = runL (meanS (envT Try.prog C52 mtab0) L_lIndexFunc_iareFinite_1_l2 2 (loopC (bodyOf Try.f121) 2) S_lIndexFunc_iareFinite_1_l2 X_lIndexFunc_iareFinite_1_l2) x := run_of (fun s : Int => (show DR S_lIndexFunc_iareFinite_1_l2.hs from (x.1, x.2.1, s))) (lIndexFunc_iareFinite_1_l2_e (x.1) (x.2.1)) x.2.2

theorem lIndexFunc_iareFinite_1_l2_k (L : Loops) (hn : L_lIndexFunc_iareFinite_1_l2.n = L.n) (hlv : L_lIndexFunc_iareFinite_1_l2.lv 2 = L.lv 2) (hL : ∀ vs bs, L.loop 2 vs bs = toldL S_lIndexFunc_iareFinite_1_l2 X_lIndexFunc_iareFinite_1_l2 (fun x => lIndexFunc_iareFinite_1_l2 x.1 x.2.1 x.2.2) vs bs) : LOk Try.prog (envT Try.prog C52 mtab0) L 2 (loopC (bodyOf Try.f121) 2) := toldL_ok (L1 := L_lIndexFunc_iareFinite_1_l2) (envT_ok (C52_ok) (mtab0_ok _)) mixedO hn hlv (loopFree_ok (by kernel_rfl)) lIndexFunc_iareFinite_1_l2_r hL

def A_lIndexFunc_iareFinite_1 : Shp := ⟨[.h, .fn 127 []], [], [.sl [.f .f32]]⟩
def R_lIndexFunc_iareFinite_1 : List XShp := [(.ret, ⟨[.h], [], [.i .i64]⟩)]

noncomputable def L_lIndexFunc_iareFinite_1 : Loops := (⟨19, lvT [(2, [0, 1, 4, 7, 8])], mdT [(2, .normal, [], [4]), (2, .exit 0, [], [0, 1, 4, 7, 8]), (2, .ret, [], [0, 1, 7, 8])], fun k vs bs => bif Nat.beq k 2 then toldL S_lIndexFunc_iareFinite_1_l2 X_lIndexFunc_iareFinite_1_l2 (fun x => lIndexFunc_iareFinite_1_l2 x.1 x.2.1 x.2.2) vs bs else .bad⟩ : Loops)

theorem lIndexFunc_iareFinite_1_e (x : DR A_lIndexFunc_iareFinite_1.hs) : (evFn (envT Try.prog C52 mtab0) L_lIndexFunc_iareFinite_1 Try.f121 (A_lIndexFunc_iareFinite_1.enc x).1).to (fun q => decX R_lIndexFunc_iareFinite_1 .ret [q.1] q.2) = lIndexFunc_iareFinite_1_t x := by kernel_rfl

theorem lIndexFunc_iareFinite_1_m (x : DR A_lIndexFunc_iareFinite_1.hs) : meanF (envT Try.prog C52 mtab0) L_lIndexFunc_iareFinite_1 Try.f121 A_lIndexFunc_iareFinite_1 R_lIndexFunc_iareFinite_1 x = (show Option (SumD (R_lIndexFunc_iareFinite_1.map (·.2))) from lIndexFunc_iareFinite_1 x) := meanF_of (lIndexFunc_iareFinite_1_e x)

theorem lIndexFunc_iareFinite_1_ok : SpecOk Try.prog 121 (evFn (envT Try.prog C52 mtab0) L_lIndexFunc_iareFinite_1 Try.f121) := fnL_ok (envT_ok (C52_ok) (mtab0_ok _)) mixedO Try.func121 (by kernel_rfl) (c := bodyOf Try.f121) (by kernel_rfl) (loopsL (l := [(2, loopC (bodyOf Try.f121) 2)]) (by kernel_rfl) (lk_cons (lIndexFunc_iareFinite_1_l2_k _ rfl rfl (fun _ _ => rfl)) lk_nil))

theorem lIndexFunc_iareFinite_1_told : SpecOk Try.prog 121 (toldO A_lIndexFunc_iareFinite_1 R_lIndexFunc_iareFinite_1 (fun x => lIndexFunc_iareFinite_1 x) (C52 121)) := toldO_ok (by kernel_rfl) lIndexFunc_iareFinite_1_ok (rest_ok (C52_ok) _) lIndexFunc_iareFinite_1_m

noncomputable def C53 : Tab := tab 121 (toldO A_lIndexFunc_iareFinite_1 R_lIndexFunc_iareFinite_1 (fun x => lIndexFunc_iareFinite_1 x) (C52 121)) C52
theorem C53_ok : TabOk Try.prog C53 := tab_ok (lIndexFunc_iareFinite_1_told) (C52_ok)

def A_lContainsFunc_iareFinite_1 : Shp := ⟨[.h, .fn 127 []], [], [.sl [.f .f32]]⟩
def R_lContainsFunc_iareFinite_1 : List XShp := [(.ret, ⟨[.h], [], [.b]⟩)]

theorem lContainsFunc_iareFinite_1_e (x : DR A_lContainsFunc_iareFinite_1.hs) : (evFn (envT Try.prog C53 mtab0) noLoops Try.f123 (A_lContainsFunc_iareFinite_1.enc x).1).to (fun q => decX R_lContainsFunc_iareFinite_1 .ret [q.1] q.2) = lContainsFunc_iareFinite_1_t x := by kernel_rfl

theorem lContainsFunc_iareFinite_1_m (x : DR A_lContainsFunc_iareFinite_1.hs) : meanF (envT Try.prog C53 mtab0) noLoops Try.f123 A_lContainsFunc_iareFinite_1 R_lContainsFunc_iareFinite_1 x = (show Option (SumD (R_lContainsFunc_iareFinite_1.map (·.2))) from lContainsFunc_iareFinite_1 x) := meanF_of (lContainsFunc_iareFinite_1_e x)

theorem lContainsFunc_iareFinite_1_ok : SpecOk Try.prog 123 (evFn (envT Try.prog C53 mtab0) noLoops Try.f123) := fnL_ok (envT_ok (C53_ok) (mtab0_ok _)) mixedO Try.func123 (by kernel_rfl) (c := bodyOf Try.f123) (by kernel_rfl) (loopFree_ok (by kernel_rfl))

theorem lContainsFunc_iareFinite_1_told : SpecOk Try.prog 123 (toldO A_lContainsFunc_iareFinite_1 R_lContainsFunc_iareFinite_1 (fun x => lContainsFunc_iareFinite_1 x) (C53 123)) := toldO_ok (by kernel_rfl) lContainsFunc_iareFinite_1_ok (rest_ok (C53_ok) _) lContainsFunc_iareFinite_1_m

noncomputable def C54 : Tab := tab 123 (toldO A_lContainsFunc_iareFinite_1 R_lContainsFunc_iareFinite_1 (fun x => lContainsFunc_iareFinite_1 x) (C53 123)) C53
theorem C54_ok : TabOk Try.prog C54 := tab_ok (lContainsFunc_iareFinite_1_told) (C53_ok)

def A_iareFinite : Shp := ⟨[.h], [], [.sl [.f .f32]]⟩
def R_iareFinite : List XShp := [(.ret, ⟨[.h], [], [.b]⟩)]

theorem iareFinite_e (x : DR A_iareFinite.hs) : (evFn (envT Try.prog C54 mtab0) noLoops Try.f90 (A_iareFinite.enc x).1).to (fun q => decX R_iareFinite .ret [q.1] q.2) = iareFinite_t x := by kernel_rfl

theorem iareFinite_m (x : DR A_iareFinite.hs) : meanF (envT Try.prog C54 mtab0) noLoops Try.f90 A_iareFinite R_iareFinite x = (show Option (SumD (R_iareFinite.map (·.2))) from iareFinite x) := meanF_of (iareFinite_e x)

theorem iareFinite_ok : SpecOk Try.prog 90 (evFn (envT Try.prog C54 mtab0) noLoops Try.f90) := fnL_ok (envT_ok (C54_ok) (mtab0_ok _)) mixedO Try.func90 (by kernel_rfl) (c := bodyOf Try.f90) (by kernel_rfl) (loopFree_ok (by kernel_rfl))

theorem iareFinite_told : SpecOk Try.prog 90 (toldO A_iareFinite R_iareFinite (fun x => iareFinite x) (C54 90)) := toldO_ok (by kernel_rfl) iareFinite_ok (rest_ok (C54_ok) _) iareFinite_m

noncomputable def C55 : Tab := tab 90 (toldO A_iareFinite R_iareFinite (fun x => iareFinite x) (C54 90)) C54
theorem C55_ok : TabOk Try.prog C55 := tab_ok (iareFinite_told) (C54_ok)

def A_iReachShares : Shp := ⟨[.agg [.h, .h], .h], [], [.f .f32, .f .f32, .f .f32]⟩
def R_iReachShares : List XShp := [(.ret, ⟨[.tup [.h, .h, .h, .h]], [], [.f .f32, .f .f32, .f .f32, .b]⟩)]

theorem iReachShares_e (x : DR A_iReachShares.hs) : (evFn (envT Try.prog C55 mtab0) noLoops Try.f89 (A_iReachShares.enc x).1).to (fun q => decX R_iReachShares .ret [q.1] q.2) = iReachShares_t x.1 x.2.1 x.2.2 := by kernel_rfl

theorem iReachShares_m (x : DR A_iReachShares.hs) : meanF (envT Try.prog C55 mtab0) noLoops Try.f89 A_iReachShares R_iReachShares x = (show Option (SumD (R_iReachShares.map (·.2))) from iReachShares x.1 x.2.1 x.2.2) := meanF_of (iReachShares_e x)

theorem iReachShares_ok : SpecOk Try.prog 89 (evFn (envT Try.prog C55 mtab0) noLoops Try.f89) := fnL_ok (envT_ok (C55_ok) (mtab0_ok _)) mixedO Try.func89 (by kernel_rfl) (c := bodyOf Try.f89) (by kernel_rfl) (loopFree_ok (by kernel_rfl))

theorem iReachShares_told : SpecOk Try.prog 89 (toldO A_iReachShares R_iReachShares (fun x => iReachShares x.1 x.2.1 x.2.2) (C55 89)) := toldO_ok (by kernel_rfl) iReachShares_ok (rest_ok (C55_ok) _) iReachShares_m

noncomputable def C56 : Tab := tab 89 (toldO A_iReachShares R_iReachShares (fun x => iReachShares x.1 x.2.1 x.2.2) (C55 89)) C55
theorem C56_ok : TabOk Try.prog C56 := tab_ok (iReachShares_told) (C55_ok)

def A_iareIns : Shp := ⟨[.h], [], [.sl [.f .f32]]⟩
def R_iareIns : List XShp := [(.ret, ⟨[.h], [], [.b]⟩)]

theorem iareIns_e (x : DR A_iareIns.hs) : (evFn (envT Try.prog C56 mtab0) noLoops Try.f86 (A_iareIns.enc x).1).to (fun q => decX R_iareIns .ret [q.1] q.2) = iareIns_t x := by kernel_rfl

theorem iareIns_m (x : DR A_iareIns.hs) : meanF (envT Try.prog C56 mtab0) noLoops Try.f86 A_iareIns R_iareIns x = (show Option (SumD (R_iareIns.map (·.2))) from iareIns x) := meanF_of (iareIns_e x)

theorem iareIns_ok : SpecOk Try.prog 86 (evFn (envT Try.prog C56 mtab0) noLoops Try.f86) := fnL_ok (envT_ok (C56_ok) (mtab0_ok _)) mixedO Try.func86 (by kernel_rfl) (c := bodyOf Try.f86) (by kernel_rfl) (loopFree_ok (by kernel_rfl))

theorem iareIns_told : SpecOk Try.prog 86 (toldO A_iareIns R_iareIns (fun x => iareIns x) (C56 86)) := toldO_ok (by kernel_rfl) iareIns_ok (rest_ok (C56_ok) _) iareIns_m

noncomputable def C57 : Tab := tab 86 (toldO A_iareIns R_iareIns (fun x => iareIns x) (C56 86)) C56
theorem C57_ok : TabOk Try.prog C57 := tab_ok (iareIns_told) (C56_ok)

def S_iRouteReach_l6 : Shp := ⟨[.h, .h, .h, .h, .slw 0 1, .h], [.arr [.f .f32] false], [.sl [.f .f32], .f .f32, .f .f32, .f .f32, .i .i64, .sl [.f .f32]]⟩
def X_iRouteReach_l6 : List XShp := [(.exit 0, ⟨[.undef, .undef, .undef, .undef, .slw 0 1, .undef], [.arr [.f .f32] false], [.sl [.f .f32]]⟩)]

noncomputable def L_iRouteReach_l6 : Loops := (⟨73, lvT [(6, [1, 10, 11, 12, 14, 15])], mdT [(6, .exit 0, [], [1, 10, 11, 12, 15])], fun k vs bs => .bad⟩ : Loops)

theorem iRouteReach_l6_e (y0 : List Nat) (y1 : Nat) (y2 : Nat) (y3 : Nat) (s : Int × List Nat) : (loopStep (envT Try.prog C57 mtab0) L_iRouteReach_l6 6 (loopC (bodyOf Try.f32) 6) (S_iRouteReach_l6.enc (y0, y1, y2, y3, s.1, s.2)).1 (S_iRouteReach_l6.enc (y0, y1, y2, y3, s.1, s.2)).2).to (stepD S_iRouteReach_l6 X_iRouteReach_l6) = (iRouteReach_l6_t y0 y1 y2 y3 s.1 s.2).map (Sum.map (fun s : Int × List Nat => (show DR S_iRouteReach_l6.hs from (y0, y1, y2, y3, s.1, s.2))) id) := by kernel_rfl

theorem iRouteReach_l6_r (x : DR S_iRouteReach_l6.hs) : (iRouteReach_l6 x.1 x.2.1 x.2.2.1 x.2.2.2.1 x.2.2.2.2.1 x.2.2.2.2.2 : Option (SumD (X_iRouteReach_l6.map (·.2)))) = runL (meanS (envT Try.prog C57 mtab0) L_iRouteReach_l6 6 (loopC (bodyOf Try.f32) 6) S_iRouteReach_l6 X_iRouteReach_l6) x := run_of (fun s : Int × List Nat => (show DR S_iRouteReach_l6.hs from (x.1, x.2.1, x.2.2.1, x.2.2.2.1, s.1, s.2))) (iRouteReach_l6_e (x.1) (x.2.1) (x.2.2.1) (x.2.2.2.1)) (x.2.2.2.2.1, x.2.2.2.2.2)

theorem iRouteReach_l6_k (L : Loops) (hn : L_iRouteReach_l6.n = L.n) (hlv : L_iRouteReach_l6.lv 6 = L.lv 6) (hL : ∀ vs bs, L.loop 6 vs bs = toldL S_iRouteReach_l6 X_iRouteReach_l6 (fun x => iRouteReach_l6 x.1 x.2.1 x.2.2.1 x.2.2.2.1 x.2.2.2.2.1 x.2.2.2.2.2) vs bs) : LOk Try.prog (envT Try.prog C57 mtab0) L 6 (loopC (bodyOf Try.f32) 6) := toldL_ok (L1 := L_iRouteReach_l6) (envT_ok (C57_ok) (mtab0_ok _)) mixedO hn hlv (loopFree_ok (by kernel_rfl)) iRouteReach_l6_r hL

def A_iRouteReach : Shp := ⟨[.agg [.h, .h], .h, .h, .h], [], [.f .f32, .f .f32, .sl [.f .f32], .f .f32, .f .f32]⟩
def R_iRouteReach : List XShp := [(.ret, ⟨[.tup [.nils, .lb false]], [], []⟩), (.ret, ⟨[.tup [.slw 0 1, .lb true]], [.arr [.f .f32] false], [.sl [.f .f32]]⟩)]

noncomputable def L_iRouteReach : Loops := (⟨73, lvT [(6, [1, 10, 11, 12, 14, 15])], mdT [(6, .exit 0, [], [1, 10, 11, 12, 15])], fun k vs bs => bif Nat.beq k 6 then toldL S_iRouteReach_l6 X_iRouteReach_l6 (fun x => iRouteReach_l6 x.1 x.2.1 x.2.2.1 x.2.2.2.1 x.2.2.2.2.1 x.2.2.2.2.2) vs bs else .bad⟩ : Loops)

theorem iRouteReach_e (x : DR A_iRouteReach.hs) : (evFn (envT Try.prog C57 mtab0) L_iRouteReach Try.f32 (A_iRouteReach.enc x).1).to (fun q => decX R_iRouteReach .ret [q.1] q.2) = iRouteReach_t x.1 x.2.1 x.2.2.1 x.2.2.2.1 x.2.2.2.2 := by kernel_rfl

theorem iRouteReach_m (x : DR A_iRouteReach.hs) : meanF (envT Try.prog C57 mtab0) L_iRouteReach Try.f32 A_iRouteReach R_iRouteReach x = (show Option (SumD (R_iRouteReach.map (·.2))) from iRouteReach x.1 x.2.1 x.2.2.1 x.2.2.2.1 x.2.2.2.2) := meanF_of (iRouteReach_e x)

theorem iRouteReach_ok : SpecOk Try.prog 32 (evFn (envT Try.prog C57 mtab0) L_iRouteReach Try.f32) := fnL_ok (envT_ok (C57_ok) (mtab0_ok _)) mixedO Try.func32 (by kernel_rfl) (c := bodyOf Try.f32) (by kernel_rfl) (loopsL (l := [(6, loopC (bodyOf Try.f32) 6)]) (by kernel_rfl) (lk_cons (iRouteReach_l6_k _ rfl rfl (fun _ _ => rfl)) lk_nil))

theorem iRouteReach_told : SpecOk Try.prog 32 (toldO A_iRouteReach R_iRouteReach (fun x => iRouteReach x.1 x.2.1 x.2.2.1 x.2.2.2.1 x.2.2.2.2) (C57 32)) := toldO_ok (by kernel_rfl) iRouteReach_ok (rest_ok (C57_ok) _) iRouteReach_m

noncomputable def C58 : Tab := tab 32 (toldO A_iRouteReach R_iRouteReach (fun x => iRouteReach x.1 x.2.1 x.2.2.1 x.2.2.2.1 x.2.2.2.2) (C57 32)) C57
theorem C58_ok : TabOk Try.prog C58 := tab_ok (iRouteReach_told) (C57_ok)

def S_wmarkFloat32S_l2 : Shp := ⟨[.slw 0 1, .h, .h], [.arr [.f .f32] false], [.i .i64, .i .i64, .sl [.f .f32]]⟩
def X_wmarkFloat32S_l2 : List XShp := [(.exit 0, ⟨[.undef, .h, .undef], [.arr [.f .f32] false], [.i .i64, .sl [.f .f32]]⟩)]

noncomputable def L_wmarkFloat32S_l2 : Loops := (⟨20, lvT [(2, [0, 1, 5])], mdT [(2, .exit 0, [], [0, 5])], fun k vs bs => .bad⟩ : Loops)

theorem wmarkFloat32S_l2_e (s : Int × Int × List Nat) : (loopStep (envW Try.prog C58 mtab0 1) L_wmarkFloat32S_l2 2 (loopC (bodyOf Try.f28) 2) (S_wmarkFloat32S_l2.enc (s.1, s.2.1, s.2.2)).1 (S_wmarkFloat32S_l2.enc (s.1, s.2.1, s.2.2)).2).to (stepD S_wmarkFloat32S_l2 X_wmarkFloat32S_l2) = (wmarkFloat32S_l2_t  s.1 s.2.1 s.2.2).map (Sum.map (fun s : Int × Int × List Nat => (show DR S_wmarkFloat32S_l2.hs from (s.1, s.2.1, s.2.2))) id) := by kernel_rfl

theorem wmarkFloat32S_l2_r (x : DR S_wmarkFloat32S_l2.hs) : (wmarkFloat32S_l2 x.1 x.2.1 x.2.2 : Option (SumD (X_wmarkFloat32S_l2.map (·.2)))) = runL (meanS (envW Try.prog C58 mtab0 1) L_wmarkFloat32S_l2 2 (loopC (bodyOf Try.f28) 2) S_wmarkFloat32S_l2 X_wmarkFloat32S_l2) x := run_of (fun s : Int × Int × List Nat => (show DR S_wmarkFloat32S_l2.hs from (s.1, s.2.1, s.2.2))) (wmarkFloat32S_l2_e ) (x.1, x.2.1, x.2.2)

theorem wmarkFloat32S_l2_k (L : Loops) (hn : L_wmarkFloat32S_l2.n = L.n) (hlv : L_wmarkFloat32S_l2.lv 2 = L.lv 2) (hL : ∀ vs bs, L.loop 2 vs bs = toldL S_wmarkFloat32S_l2 X_wmarkFloat32S_l2 (fun x => wmarkFloat32S_l2 x.1 x.2.1 x.2.2) vs bs) : LOk Try.prog (envW Try.prog C58 mtab0 1) L 2 (loopC (bodyOf Try.f28) 2) := toldL_ok (L1 := L_wmarkFloat32S_l2) (envW_ok (C58_ok) (mtab0_ok _)) mixedO hn hlv (loopFree_ok (by kernel_rfl)) wmarkFloat32S_l2_r hL

def A_wmarkFloat32S : Shp := ⟨[.slw 0 1, .h], [.arr [.f .f32] false], [.i .i64, .sl [.f .f32]]⟩
def R_wmarkFloat32S : List XShp := [(.ret, ⟨[.h], [.arr [.f .f32] false], [.i .i64, .sl [.f .f32]]⟩)]

noncomputable def L_wmarkFloat32S : Loops := (⟨20, lvT [(2, [0, 1, 5])], mdT [(2, .exit 0, [], [0, 5])], fun k vs bs => bif Nat.beq k 2 then toldL S_wmarkFloat32S_l2 X_wmarkFloat32S_l2 (fun x => wmarkFloat32S_l2 x.1 x.2.1 x.2.2) vs bs else .bad⟩ : Loops)

theorem wmarkFloat32S_e (x : DR A_wmarkFloat32S.hs) : (evFnM (envW Try.prog C58 mtab0 1) L_wmarkFloat32S Try.f28 (A_wmarkFloat32S.enc x).1 ((A_wmarkFloat32S.enc x).2.map (·.blk))).to (decM R_wmarkFloat32S) = wmarkFloat32S_t x.1 x.2 := by kernel_rfl

theorem wmarkFloat32S_m (x : DR A_wmarkFloat32S.hs) : meanM (envW Try.prog C58 mtab0 1) L_wmarkFloat32S Try.f28 A_wmarkFloat32S R_wmarkFloat32S x = (show Option (SumD (R_wmarkFloat32S.map (·.2))) from wmarkFloat32S x.1 x.2) := meanM_of (wmarkFloat32S_e x)

theorem wmarkFloat32S_ok : MSpecOk Try.prog 28 (evFnM (envW Try.prog C58 mtab0 1) L_wmarkFloat32S Try.f28) := fnM_ok (envW_ok (C58_ok) (mtab0_ok _)) rfl mixedO Try.func28 (by kernel_rfl) (c := bodyOf Try.f28) (by kernel_rfl) (loopsL (l := [(2, loopC (bodyOf Try.f28) 2)]) (by kernel_rfl) (lk_cons (wmarkFloat32S_l2_k _ rfl rfl (fun _ _ => rfl)) lk_nil))

theorem wmarkFloat32S_told : MSpecOk Try.prog 28 (toldMO A_wmarkFloat32S R_wmarkFloat32S (fun x => wmarkFloat32S x.1 x.2) (mrest mtab0 28)) := toldMO_ok (by kernel_rfl) wmarkFloat32S_ok (mrest_ok (mtab0_ok _) _) wmarkFloat32S_m

noncomputable def M59 : MTab := mtab 28 (toldMO A_wmarkFloat32S R_wmarkFloat32S (fun x => wmarkFloat32S x.1 x.2) (mrest mtab0 28)) mtab0
theorem M59_ok : MTabOk Try.prog M59 := mtab_ok (wmarkFloat32S_told) (mtab0_ok _)

def S_wheldFloat32S_l2 : Shp := ⟨[.h, .h, .undef, .h], [], [.sl [.f .f32], .i .i64, .i .i64]⟩
def X_wheldFloat32S_l2 : List XShp := [(.ret, ⟨[.undef, .undef, .h, .undef], [], [.i .i64]⟩), (.exit 0, ⟨[.undef, .h, .undef, .undef], [], [.i .i64]⟩)]

noncomputable def L_wheldFloat32S_l2 : Loops := (⟨22, lvT [(2, [0, 1, 4, 5])], mdT [(2, .normal, [], [4]), (2, .exit 0, [], [0, 4, 5]), (2, .ret, [], [0, 1, 5])], fun k vs bs => .bad⟩ : Loops)

theorem wheldFloat32S_l2_e (y0 : List Nat) (s : Int × Int) : (loopStep (envT Try.prog C58 M59) L_wheldFloat32S_l2 2 (loopC (bodyOf Try.f29) 2) (S_wheldFloat32S_l2.enc (y0, s.1, s.2)).1 (S_wheldFloat32S_l2.enc (y0, s.1, s.2)).2).to (stepD S_wheldFloat32S_l2 X_wheldFloat32S_l2) = (wheldFloat32S_l2_t y0 s.1 s.2).map (Sum.map (fun s : Int × Int => (show DR S_wheldFloat32S_l2.hs from (y0, s.1, s.2))) id) := by kernel_rfl

theorem wheldFloat32S_l2_r (x : DR S_wheldFloat32S_l2.hs) : (wheldFloat32S_l2 x.1 x.2.1 x.2.2 : Option (SumD (X_wheldFloat32S_l2.map (·.2)))) = runL (meanS (envT Try.prog C58 M59) L_wheldFloat32S_l2 2 (loopC (bodyOf Try.f29) 2) S_wheldFloat32S_l2 X_wheldFloat32S_l2) x := run_of (fun s : Int × Int => (show DR S_wheldFloat32S_l2.hs from (x.1, s.1, s.2))) (wheldFloat32S_l2_e (x.1)) (x.2.1, x.2.2)

theorem wheldFloat32S_l2_k (L : Loops) (hn : L_wheldFloat32S_l2.n = L.n) (hlv : L_wheldFloat32S_l2.lv 2 = L.lv 2) (hL : ∀ vs bs, L.loop 2 vs bs = toldL S_wheldFloat32S_l2 X_wheldFloat32S_l2 (fun x => wheldFloat32S_l2 x.1 x.2.1 x.2.2) vs bs) : LOk Try.prog (envT Try.prog C58 M59) L 2 (loopC (bodyOf Try.f29) 2) := toldL_ok (L1 := L_wheldFloat32S_l2) (envT_ok (C58_ok) (M59_ok)) mixedO hn hlv (loopFree_ok (by kernel_rfl)) wheldFloat32S_l2_r hL

def A_wheldFloat32S : Shp := ⟨[.h, .h], [], [.sl [.f .f32], .i .i64]⟩
def R_wheldFloat32S : List XShp := [(.ret, ⟨[.h], [], [.i .i64]⟩)]

noncomputable def L_wheldFloat32S : Loops := (⟨22, lvT [(2, [0, 1, 4, 5])], mdT [(2, .normal, [], [4]), (2, .exit 0, [], [0, 4, 5]), (2, .ret, [], [0, 1, 5])], fun k vs bs => bif Nat.beq k 2 then toldL S_wheldFloat32S_l2 X_wheldFloat32S_l2 (fun x => wheldFloat32S_l2 x.1 x.2.1 x.2.2) vs bs else .bad⟩ : Loops)

theorem wheldFloat32S_e (x : DR A_wheldFloat32S.hs) : (evFn (envT Try.prog C58 M59) L_wheldFloat32S Try.f29 (A_wheldFloat32S.enc x).1).to (fun q => decX R_wheldFloat32S .ret [q.1] q.2) = wheldFloat32S_t x.1 x.2 := by kernel_rfl

theorem wheldFloat32S_m (x : DR A_wheldFloat32S.hs) : meanF (envT Try.prog C58 M59) L_wheldFloat32S Try.f29 A_wheldFloat32S R_wheldFloat32S x = (show Option (SumD (R_wheldFloat32S.map (·.2))) from wheldFloat32S x.1 x.2) := meanF_of (wheldFloat32S_e x)

theorem wheldFloat32S_ok : SpecOk Try.prog 29 (evFn (envT Try.prog C58 M59) L_wheldFloat32S Try.f29) := fnL_ok (envT_ok (C58_ok) (M59_ok)) mixedO Try.func29 (by kernel_rfl) (c := bodyOf Try.f29) (by kernel_rfl) (loopsL (l := [(2, loopC (bodyOf Try.f29) 2)]) (by kernel_rfl) (lk_cons (wheldFloat32S_l2_k _ rfl rfl (fun _ _ => rfl)) lk_nil))

theorem wheldFloat32S_told : SpecOk Try.prog 29 (toldO A_wheldFloat32S R_wheldFloat32S (fun x => wheldFloat32S x.1 x.2) (C58 29)) := toldO_ok (by kernel_rfl) wheldFloat32S_ok (rest_ok (C58_ok) _) wheldFloat32S_m

noncomputable def C60 : Tab := tab 29 (toldO A_wheldFloat32S R_wheldFloat32S (fun x => wheldFloat32S x.1 x.2) (C58 29)) C58
theorem C60_ok : TabOk Try.prog C60 := tab_ok (wheldFloat32S_told) (C58_ok)

def S_wmarkFloat32S_nil_l2 : Shp := ⟨[.nils, .h, .h], [], [.i .i64, .i .i64]⟩
def X_wmarkFloat32S_nil_l2 : List XShp := [(.exit 0, ⟨[.undef, .h, .undef], [], [.i .i64]⟩)]

noncomputable def L_wmarkFloat32S_nil_l2 : Loops := (⟨20, lvT [(2, [0, 1, 5])], mdT [(2, .exit 0, [], [0, 5])], fun k vs bs => .bad⟩ : Loops)

theorem wmarkFloat32S_nil_l2_e (y0 : Int) (y1 : Int) (s : Unit) : (loopStep (envW Try.prog C60 M59 0) L_wmarkFloat32S_nil_l2 2 (loopC (bodyOf Try.f28) 2) (S_wmarkFloat32S_nil_l2.enc (y0, y1)).1 (S_wmarkFloat32S_nil_l2.enc (y0, y1)).2).to (stepD S_wmarkFloat32S_nil_l2 X_wmarkFloat32S_nil_l2) = (wmarkFloat32S_nil_l2_t y0 y1 ).map (Sum.map (fun s : Unit => (show DR S_wmarkFloat32S_nil_l2.hs from (y0, y1))) id) := by kernel_rfl

theorem wmarkFloat32S_nil_l2_r (x : DR S_wmarkFloat32S_nil_l2.hs) : (wmarkFloat32S_nil_l2 x.1 x.2 : Option (SumD (X_wmarkFloat32S_nil_l2.map (·.2)))) = runL (meanS (envW Try.prog C60 M59 0) L_wmarkFloat32S_nil_l2 2 (loopC (bodyOf Try.f28) 2) S_wmarkFloat32S_nil_l2 X_wmarkFloat32S_nil_l2) x := run_of (fun s : Unit => (show DR S_wmarkFloat32S_nil_l2.hs from (x.1, x.2))) (wmarkFloat32S_nil_l2_e (x.1) (x.2)) ()

theorem wmarkFloat32S_nil_l2_k (L : Loops) (hn : L_wmarkFloat32S_nil_l2.n = L.n) (hlv : L_wmarkFloat32S_nil_l2.lv 2 = L.lv 2) (hL : ∀ vs bs, L.loop 2 vs bs = toldL S_wmarkFloat32S_nil_l2 X_wmarkFloat32S_nil_l2 (fun x => wmarkFloat32S_nil_l2 x.1 x.2) vs bs) : LOk Try.prog (envW Try.prog C60 M59 0) L 2 (loopC (bodyOf Try.f28) 2) := toldL_ok (L1 := L_wmarkFloat32S_nil_l2) (envW_ok (C60_ok) (M59_ok)) mixedO hn hlv (loopFree_ok (by kernel_rfl)) wmarkFloat32S_nil_l2_r hL

def A_wmarkFloat32S_nil : Shp := ⟨[.nils, .h], [], [.i .i64]⟩
def R_wmarkFloat32S_nil : List XShp := [(.ret, ⟨[.h], [], [.i .i64]⟩)]

noncomputable def L_wmarkFloat32S_nil : Loops := (⟨20, lvT [(2, [0, 1, 5])], mdT [(2, .exit 0, [], [0, 5])], fun k vs bs => bif Nat.beq k 2 then toldL S_wmarkFloat32S_nil_l2 X_wmarkFloat32S_nil_l2 (fun x => wmarkFloat32S_nil_l2 x.1 x.2) vs bs else .bad⟩ : Loops)

theorem wmarkFloat32S_nil_e (x : DR A_wmarkFloat32S_nil.hs) : (evFnM (envW Try.prog C60 M59 0) L_wmarkFloat32S_nil Try.f28 (A_wmarkFloat32S_nil.enc x).1 ((A_wmarkFloat32S_nil.enc x).2.map (·.blk))).to (decM R_wmarkFloat32S_nil) = wmarkFloat32S_nil_t x := by kernel_rfl

theorem wmarkFloat32S_nil_m (x : DR A_wmarkFloat32S_nil.hs) : meanM (envW Try.prog C60 M59 0) L_wmarkFloat32S_nil Try.f28 A_wmarkFloat32S_nil R_wmarkFloat32S_nil x = (show Option (SumD (R_wmarkFloat32S_nil.map (·.2))) from wmarkFloat32S_nil x) := meanM_of (wmarkFloat32S_nil_e x)

theorem wmarkFloat32S_nil_ok : MSpecOk Try.prog 28 (evFnM (envW Try.prog C60 M59 0) L_wmarkFloat32S_nil Try.f28) := fnM_ok (envW_ok (C60_ok) (M59_ok)) rfl mixedO Try.func28 (by kernel_rfl) (c := bodyOf Try.f28) (by kernel_rfl) (loopsL (l := [(2, loopC (bodyOf Try.f28) 2)]) (by kernel_rfl) (lk_cons (wmarkFloat32S_nil_l2_k _ rfl rfl (fun _ _ => rfl)) lk_nil))

theorem wmarkFloat32S_nil_told : MSpecOk Try.prog 28 (toldMO A_wmarkFloat32S_nil R_wmarkFloat32S_nil (fun x => wmarkFloat32S_nil x) (mrest M59 28)) := toldMO_ok (by kernel_rfl) wmarkFloat32S_nil_ok (mrest_ok (M59_ok) _) wmarkFloat32S_nil_m

noncomputable def M61 : MTab := mtab 28 (toldMO A_wmarkFloat32S_nil R_wmarkFloat32S_nil (fun x => wmarkFloat32S_nil x) (mrest M59 28)) M59
theorem M61_ok : MTabOk Try.prog M61 := mtab_ok (wmarkFloat32S_nil_told) (M59_ok)

def A_wFnExactRouteReach : Shp := ⟨[.agg [.h, .h], .h, .h, .h], [], [.f .f32, .f .f32, .sl [.f .f32], .f .f32, .f .f32]⟩
def R_wFnExactRouteReach : List XShp := [(.ret, ⟨[.h], [], [.b]⟩)]

theorem wFnExactRouteReach_e (x : DR A_wFnExactRouteReach.hs) : (evFn (envT Try.prog C60 M61) noLoops Try.f6 (A_wFnExactRouteReach.enc x).1).to (fun q => decX R_wFnExactRouteReach .ret [q.1] q.2) = wFnExactRouteReach_t x.1 x.2.1 x.2.2.1 x.2.2.2.1 x.2.2.2.2 := by kernel_rfl

theorem wFnExactRouteReach_m (x : DR A_wFnExactRouteReach.hs) : meanF (envT Try.prog C60 M61) noLoops Try.f6 A_wFnExactRouteReach R_wFnExactRouteReach x = (show Option (SumD (R_wFnExactRouteReach.map (·.2))) from wFnExactRouteReach x.1 x.2.1 x.2.2.1 x.2.2.2.1 x.2.2.2.2) := meanF_of (wFnExactRouteReach_e x)

theorem wFnExactRouteReach_ok : SpecOk Try.prog 6 (evFn (envT Try.prog C60 M61) noLoops Try.f6) := fnL_ok (envT_ok (C60_ok) (M61_ok)) mixedO Try.func6 (by kernel_rfl) (c := bodyOf Try.f6) (by kernel_rfl) (loopFree_ok (by kernel_rfl))

theorem wFnExactRouteReach_told : SpecOk Try.prog 6 (toldO A_wFnExactRouteReach R_wFnExactRouteReach (fun x => wFnExactRouteReach x.1 x.2.1 x.2.2.1 x.2.2.2.1 x.2.2.2.2) (C60 6)) := toldO_ok (by kernel_rfl) wFnExactRouteReach_ok (rest_ok (C60_ok) _) wFnExactRouteReach_m

noncomputable def C62 : Tab := tab 6 (toldO A_wFnExactRouteReach R_wFnExactRouteReach (fun x => wFnExactRouteReach x.1 x.2.1 x.2.2.1 x.2.2.2.1 x.2.2.2.2) (C60 6)) C60
theorem C62_ok : TabOk Try.prog C62 := tab_ok (wFnExactRouteReach_told) (C60_ok)

theorem lawFnExactRouteReach_ok : SpecOk Try.prog 6 (evFn (envT Try.prog C60 M61) noLoops Try.f6) := wFnExactRouteReach_ok
theorem lawFnExactRouteReach_says (x : DR A_wFnExactRouteReach.hs) (h : (show Option (SumD (R_wFnExactRouteReach.map (·.2))) from wFnExactRouteReach x.1 x.2.1 x.2.2.1 x.2.2.2.1 x.2.2.2.2) = some true) : saysTrue (evFn (envT Try.prog C60 M61) noLoops Try.f6 (A_wFnExactRouteReach.enc x).1) = true := law_says (x := x) ((wFnExactRouteReach_m x).trans h)

theorem lawFnExactRouteReach_true (x0 : Nat) (x1 : Nat) (x2 : List Nat) (x3 : Nat) (x4 : Nat) (h : wFnExactRouteReach x0 x1 x2 x3 x4 = some true) : saysTrue (evFn (envT Try.prog C60 M61) noLoops Try.f6 [.agg [.f .f32 x0, .f .f32 x1], .ds [.f .f32] x2, .f .f32 x3, .f .f32 x4]) = true := (congrArg (fun l => saysTrue (evFn (envT Try.prog C60 M61) noLoops Try.f6 l)) (by kernel_rfl : ([.agg [.f .f32 x0, .f .f32 x1], .ds [.f .f32] x2, .f .f32 x3, .f .f32 x4] : List V) = (A_wFnExactRouteReach.enc (x0, x1, x2, x3, x4)).1)).trans (lawFnExactRouteReach_says (x0, x1, x2, x3, x4) h)

def A_wszCanal : Shp := ⟨[.agg [.h, .h, .h, .h, .h], .h], [], [.f .f32, .f .f32, .f .f32, .sl [.f .f32], .sl [.f .f32], .i .i64]⟩
def R_wszCanal : List XShp := [(.ret, ⟨[.h], [], [.i .i64]⟩)]

theorem wszCanal_e (x : DR A_wszCanal.hs) : (evFn (envT Try.prog C62 M61) noLoops Try.f46 (A_wszCanal.enc x).1).to (fun q => decX R_wszCanal .ret [q.1] q.2) = wszCanal_t x.1 x.2.1 x.2.2.1 x.2.2.2.1 x.2.2.2.2.1 x.2.2.2.2.2 := by kernel_rfl

theorem wszCanal_m (x : DR A_wszCanal.hs) : meanF (envT Try.prog C62 M61) noLoops Try.f46 A_wszCanal R_wszCanal x = some (show SumD (R_wszCanal.map (·.2)) from wszCanal x.1 x.2.1 x.2.2.1 x.2.2.2.1 x.2.2.2.2.1 x.2.2.2.2.2) := @meanF_tot _ _ _ _ _ _ _ (wszCanal_e x) (show Inhabited (Int) from inferInstance) (by kernel_rfl)

theorem wszCanal_ok : SpecOk Try.prog 46 (evFn (envT Try.prog C62 M61) noLoops Try.f46) := fnL_ok (envT_ok (C62_ok) (M61_ok)) mixedO Try.func46 (by kernel_rfl) (c := bodyOf Try.f46) (by kernel_rfl) (loopFree_ok (by kernel_rfl))

theorem wszCanal_told : SpecOk Try.prog 46 (toldT A_wszCanal R_wszCanal (fun x => wszCanal x.1 x.2.1 x.2.2.1 x.2.2.2.1 x.2.2.2.2.1 x.2.2.2.2.2) (C62 46)) := toldT_ok (by kernel_rfl) wszCanal_ok (rest_ok (C62_ok) _) wszCanal_m

noncomputable def C63 : Tab := tab 46 (toldT A_wszCanal R_wszCanal (fun x => wszCanal x.1 x.2.1 x.2.2.1 x.2.2.2.1 x.2.2.2.2.1 x.2.2.2.2.2) (C62 46)) C62
theorem C63_ok : TabOk Try.prog C63 := tab_ok (wszCanal_told) (C62_ok)

def A_wtoCanal : Shp := ⟨[.agg [.h, .h, .h, .h, .h]], [], [.f .f32, .f .f32, .f .f32, .sl [.f .f32], .sl [.f .f32]]⟩
def R_wtoCanal : List XShp := [(.ret, ⟨[.agg [.h, .h, .h, .slw 0 1, .slw 1 1]], [.arr [.f .f32] false, .arr [.f .f32] false], [.f .f32, .f .f32, .f .f32, .sl [.f .f32], .sl [.f .f32]]⟩)]

theorem wtoCanal_e (x : DR A_wtoCanal.hs) : (evFn (envT Try.prog C63 M61) noLoops Try.f48 (A_wtoCanal.enc x).1).to (fun q => decX R_wtoCanal .ret [q.1] q.2) = wtoCanal_t x.1 x.2.1 x.2.2.1 x.2.2.2.1 x.2.2.2.2 := by kernel_rfl

theorem wtoCanal_m (x : DR A_wtoCanal.hs) : meanF (envT Try.prog C63 M61) noLoops Try.f48 A_wtoCanal R_wtoCanal x = (show Option (SumD (R_wtoCanal.map (·.2))) from wtoCanal x.1 x.2.1 x.2.2.1 x.2.2.2.1 x.2.2.2.2) := meanF_of (wtoCanal_e x)

theorem wtoCanal_ok : SpecOk Try.prog 48 (evFn (envT Try.prog C63 M61) noLoops Try.f48) := fnL_ok (envT_ok (C63_ok) (M61_ok)) mixedO Try.func48 (by kernel_rfl) (c := bodyOf Try.f48) (by kernel_rfl) (loopFree_ok (by kernel_rfl))

theorem wtoCanal_told : SpecOk Try.prog 48 (toldO A_wtoCanal R_wtoCanal (fun x => wtoCanal x.1 x.2.1 x.2.2.1 x.2.2.2.1 x.2.2.2.2) (C63 48)) := toldO_ok (by kernel_rfl) wtoCanal_ok (rest_ok (C63_ok) _) wtoCanal_m

noncomputable def C64 : Tab := tab 48 (toldO A_wtoCanal R_wtoCanal (fun x => wtoCanal x.1 x.2.1 x.2.2.1 x.2.2.2.1 x.2.2.2.2) (C63 48)) C63
theorem C64_ok : TabOk Try.prog C64 := tab_ok (wtoCanal_told) (C63_ok)

def A_sl05Canal : Shp := ⟨[.dpt [.h, .h, .h, .h, .h] 0], [], [.f .f32, .f .f32, .f .f32, .sl [.f .f32], .sl [.f .f32]]⟩
def R_sl05Canal : List XShp := [(.ret, ⟨[.h], [], [.b]⟩)]

theorem sl05Canal_e (x : DR A_sl05Canal.hs) : (evFn (envT Try.prog C64 M61) noLoops Try.f97 (A_sl05Canal.enc x).1).to (fun q => decX R_sl05Canal .ret [q.1] q.2) = sl05Canal_t x.1 x.2.1 x.2.2.1 x.2.2.2.1 x.2.2.2.2 := by kernel_rfl

theorem sl05Canal_m (x : DR A_sl05Canal.hs) : meanF (envT Try.prog C64 M61) noLoops Try.f97 A_sl05Canal R_sl05Canal x = (show Option (SumD (R_sl05Canal.map (·.2))) from sl05Canal x.1 x.2.1 x.2.2.1 x.2.2.2.1 x.2.2.2.2) := meanF_of (sl05Canal_e x)

theorem sl05Canal_ok : SpecOk Try.prog 97 (evFn (envT Try.prog C64 M61) noLoops Try.f97) := fnL_ok (envT_ok (C64_ok) (M61_ok)) mixedO Try.func97 (by kernel_rfl) (c := bodyOf Try.f97) (by kernel_rfl) (loopFree_ok (by kernel_rfl))

theorem sl05Canal_told : SpecOk Try.prog 97 (toldO A_sl05Canal R_sl05Canal (fun x => sl05Canal x.1 x.2.1 x.2.2.1 x.2.2.2.1 x.2.2.2.2) (C64 97)) := toldO_ok (by kernel_rfl) sl05Canal_ok (rest_ok (C64_ok) _) sl05Canal_m

noncomputable def C65 : Tab := tab 97 (toldO A_sl05Canal R_sl05Canal (fun x => sl05Canal x.1 x.2.1 x.2.2.1 x.2.2.2.1 x.2.2.2.2) (C64 97)) C64
theorem C65_ok : TabOk Try.prog C65 := tab_ok (sl05Canal_told) (C64_ok)

def S_sEnergyOfCanal_l5 : Shp := ⟨[.ref 0 0, .h, .h, .h], [.cells [.h, .h, .h, .h, .h] false], [.f .f32, .i .i64, .i .i64, .f .f32, .f .f32, .f .f32, .sl [.f .f32], .sl [.f .f32]]⟩
def X_sEnergyOfCanal_l5 : List XShp := [(.exit 0, ⟨[.undef, .h, .undef, .undef], [], [.f .f32]⟩)]

noncomputable def L_sEnergyOfCanal_l5 : Loops := (⟨56, lvT [(5, [1, 4, 12, 13])], mdT [(5, .exit 0, [], [1, 12, 13])], fun k vs bs => .bad⟩ : Loops)

theorem sEnergyOfCanal_l5_e (y1 : Int) (y3 : Nat) (y4 : Nat) (y5 : Nat) (y6 : List Nat) (y7 : List Nat) (s : Nat × Int) : (loopStep (envT Try.prog C65 M61) L_sEnergyOfCanal_l5 5 (loopC (bodyOf Try.f47) 5) (S_sEnergyOfCanal_l5.enc (s.1, y1, s.2, y3, y4, y5, y6, y7)).1 (S_sEnergyOfCanal_l5.enc (s.1, y1, s.2, y3, y4, y5, y6, y7)).2).to (stepD S_sEnergyOfCanal_l5 X_sEnergyOfCanal_l5) = (sEnergyOfCanal_l5_t y1 y3 y4 y5 y6 y7 s.1 s.2).map (Sum.map (fun s : Nat × Int => (show DR S_sEnergyOfCanal_l5.hs from (s.1, y1, s.2, y3, y4, y5, y6, y7))) id) := by kernel_rfl

theorem sEnergyOfCanal_l5_r (x : DR S_sEnergyOfCanal_l5.hs) : (sEnergyOfCanal_l5 x.1 x.2.1 x.2.2.1 x.2.2.2.1 x.2.2.2.2.1 x.2.2.2.2.2.1 x.2.2.2.2.2.2.1 x.2.2.2.2.2.2.2 : Option (SumD (X_sEnergyOfCanal_l5.map (·.2)))) = runL (meanS (envT Try.prog C65 M61) L_sEnergyOfCanal_l5 5 (loopC (bodyOf Try.f47) 5) S_sEnergyOfCanal_l5 X_sEnergyOfCanal_l5) x := run_of (fun s : Nat × Int => (show DR S_sEnergyOfCanal_l5.hs from (s.1, x.2.1, s.2, x.2.2.2.1, x.2.2.2.2.1, x.2.2.2.2.2.1, x.2.2.2.2.2.2.1, x.2.2.2.2.2.2.2))) (sEnergyOfCanal_l5_e (x.2.1) (x.2.2.2.1) (x.2.2.2.2.1) (x.2.2.2.2.2.1) (x.2.2.2.2.2.2.1) (x.2.2.2.2.2.2.2)) (x.1, x.2.2.1)

theorem sEnergyOfCanal_l5_k (L : Loops) (hn : L_sEnergyOfCanal_l5.n = L.n) (hlv : L_sEnergyOfCanal_l5.lv 5 = L.lv 5) (hL : ∀ vs bs, L.loop 5 vs bs = toldL S_sEnergyOfCanal_l5 X_sEnergyOfCanal_l5 (fun x => sEnergyOfCanal_l5 x.1 x.2.1 x.2.2.1 x.2.2.2.1 x.2.2.2.2.1 x.2.2.2.2.2.1 x.2.2.2.2.2.2.1 x.2.2.2.2.2.2.2) vs bs) : LOk Try.prog (envT Try.prog C65 M61) L 5 (loopC (bodyOf Try.f47) 5) := toldL_ok (L1 := L_sEnergyOfCanal_l5) (envT_ok (C65_ok) (M61_ok)) mixedO hn hlv (loopFree_ok (by kernel_rfl)) sEnergyOfCanal_l5_r hL

def A_sEnergyOfCanal : Shp := ⟨[.agg [.h, .h, .h, .h, .h]], [], [.f .f32, .f .f32, .f .f32, .sl [.f .f32], .sl [.f .f32]]⟩
def R_sEnergyOfCanal : List XShp := [(.ret, ⟨[.tup [.h, .h]], [], [.f .f32, .b]⟩)]

noncomputable def L_sEnergyOfCanal : Loops := (⟨56, lvT [(5, [1, 4, 12, 13])], mdT [(5, .exit 0, [], [1, 12, 13])], fun k vs bs => bif Nat.beq k 5 then toldL S_sEnergyOfCanal_l5 X_sEnergyOfCanal_l5 (fun x => sEnergyOfCanal_l5 x.1 x.2.1 x.2.2.1 x.2.2.2.1 x.2.2.2.2.1 x.2.2.2.2.2.1 x.2.2.2.2.2.2.1 x.2.2.2.2.2.2.2) vs bs else .bad⟩ : Loops)

theorem sEnergyOfCanal_e (x : DR A_sEnergyOfCanal.hs) : (evFn (envT Try.prog C65 M61) L_sEnergyOfCanal Try.f47 (A_sEnergyOfCanal.enc x).1).to (fun q => decX R_sEnergyOfCanal .ret [q.1] q.2) = sEnergyOfCanal_t x.1 x.2.1 x.2.2.1 x.2.2.2.1 x.2.2.2.2 := by kernel_rfl

theorem sEnergyOfCanal_m (x : DR A_sEnergyOfCanal.hs) : meanF (envT Try.prog C65 M61) L_sEnergyOfCanal Try.f47 A_sEnergyOfCanal R_sEnergyOfCanal x = (show Option (SumD (R_sEnergyOfCanal.map (·.2))) from sEnergyOfCanal x.1 x.2.1 x.2.2.1 x.2.2.2.1 x.2.2.2.2) := meanF_of (sEnergyOfCanal_e x)

theorem sEnergyOfCanal_ok : SpecOk Try.prog 47 (evFn (envT Try.prog C65 M61) L_sEnergyOfCanal Try.f47) := fnL_ok (envT_ok (C65_ok) (M61_ok)) mixedO Try.func47 (by kernel_rfl) (c := bodyOf Try.f47) (by kernel_rfl) (loopsL (l := [(5, loopC (bodyOf Try.f47) 5)]) (by kernel_rfl) (lk_cons (sEnergyOfCanal_l5_k _ rfl rfl (fun _ _ => rfl)) lk_nil))

theorem sEnergyOfCanal_told : SpecOk Try.prog 47 (toldO A_sEnergyOfCanal R_sEnergyOfCanal (fun x => sEnergyOfCanal x.1 x.2.1 x.2.2.1 x.2.2.2.1 x.2.2.2.2) (C65 47)) := toldO_ok (by kernel_rfl) sEnergyOfCanal_ok (rest_ok (C65_ok) _) sEnergyOfCanal_m

noncomputable def C66 : Tab := tab 47 (toldO A_sEnergyOfCanal R_sEnergyOfCanal (fun x => sEnergyOfCanal x.1 x.2.1 x.2.2.1 x.2.2.2.1 x.2.2.2.2) (C65 47)) C65
theorem C66_ok : TabOk Try.prog C66 := tab_ok (sEnergyOfCanal_told) (C65_ok)

def S_iareLengths_l2 : Shp := ⟨[.undef, .h, .h, .h], [], [.sl [.f .f32], .i .i64, .i .i64]⟩
def X_iareLengths_l2 : List XShp := [(.ret, ⟨[.lb false, .undef, .undef, .undef], [], []⟩), (.exit 0, ⟨[.undef, .undef, .undef, .undef], [], []⟩)]

noncomputable def L_iareLengths_l2 : Loops := (⟨15, lvT [(2, [2, 5, 6, 7])], mdT [(2, .normal, [], [2]), (2, .exit 0, [], [2, 5, 6, 7]), (2, .ret, [], [5, 6, 7])], fun k vs bs => .bad⟩ : Loops)

theorem iareLengths_l2_e (y0 : List Nat) (y1 : Int) (s : Int) : (loopStep (envT Try.prog C66 M61) L_iareLengths_l2 2 (loopC (bodyOf Try.f130) 2) (S_iareLengths_l2.enc (y0, y1, s)).1 (S_iareLengths_l2.enc (y0, y1, s)).2).to (stepD S_iareLengths_l2 X_iareLengths_l2) = (iareLengths_l2_t y0 y1 s).map (Sum.map (fun s : Int => (show DR S_iareLengths_l2.hs from (y0, y1, s))) id) := by kernel_rfl

theorem iareLengths_l2_r (x : DR S_iareLengths_l2.hs) : (iareLengths_l2 x.1 x.2.1 x.2.2 : Option (SumD (X_iareLengths_l2.map (·.2)))) = runL (meanS (envT Try.prog C66 M61) L_iareLengths_l2 2 (loopC (bodyOf Try.f130) 2) S_iareLengths_l2 X_iareLengths_l2) x := run_of (fun s : Int => (show DR S_iareLengths_l2.hs from (x.1, x.2.1, s))) (iareLengths_l2_e (x.1) (x.2.1)) x.2.2

theorem iareLengths_l2_k (L : Loops) (hn : L_iareLengths_l2.n = L.n) (hlv : L_iareLengths_l2.lv 2 = L.lv 2) (hL : ∀ vs bs, L.loop 2 vs bs = toldL S_iareLengths_l2 X_iareLengths_l2 (fun x => iareLengths_l2 x.1 x.2.1 x.2.2) vs bs) : LOk Try.prog (envT Try.prog C66 M61) L 2 (loopC (bodyOf Try.f130) 2) := toldL_ok (L1 := L_iareLengths_l2) (envT_ok (C66_ok) (M61_ok)) mixedO hn hlv (loopFree_ok (by kernel_rfl)) iareLengths_l2_r hL

def A_iareLengths : Shp := ⟨[.h], [], [.sl [.f .f32]]⟩
def R_iareLengths : List XShp := [(.ret, ⟨[.h], [], [.b]⟩)]

noncomputable def L_iareLengths : Loops := (⟨15, lvT [(2, [2, 5, 6, 7])], mdT [(2, .normal, [], [2]), (2, .exit 0, [], [2, 5, 6, 7]), (2, .ret, [], [5, 6, 7])], fun k vs bs => bif Nat.beq k 2 then toldL S_iareLengths_l2 X_iareLengths_l2 (fun x => iareLengths_l2 x.1 x.2.1 x.2.2) vs bs else .bad⟩ : Loops)

theorem iareLengths_e (x : DR A_iareLengths.hs) : (evFn (envT Try.prog C66 M61) L_iareLengths Try.f130 (A_iareLengths.enc x).1).to (fun q => decX R_iareLengths .ret [q.1] q.2) = iareLengths_t x := by kernel_rfl

theorem iareLengths_m (x : DR A_iareLengths.hs) : meanF (envT Try.prog C66 M61) L_iareLengths Try.f130 A_iareLengths R_iareLengths x = (show Option (SumD (R_iareLengths.map (·.2))) from iareLengths x) := meanF_of (iareLengths_e x)

theorem iareLengths_ok : SpecOk Try.prog 130 (evFn (envT Try.prog C66 M61) L_iareLengths Try.f130) := fnL_ok (envT_ok (C66_ok) (M61_ok)) mixedO Try.func130 (by kernel_rfl) (c := bodyOf Try.f130) (by kernel_rfl) (loopsL (l := [(2, loopC (bodyOf Try.f130) 2)]) (by kernel_rfl) (lk_cons (iareLengths_l2_k _ rfl rfl (fun _ _ => rfl)) lk_nil))

theorem iareLengths_told : SpecOk Try.prog 130 (toldO A_iareLengths R_iareLengths (fun x => iareLengths x) (C66 130)) := toldO_ok (by kernel_rfl) iareLengths_ok (rest_ok (C66_ok) _) iareLengths_m

noncomputable def C67 : Tab := tab 130 (toldO A_iareLengths R_iareLengths (fun x => iareLengths x) (C66 130)) C66
theorem C67_ok : TabOk Try.prog C67 := tab_ok (iareLengths_told) (C66_ok)

def A_iValidCanal : Shp := ⟨[.agg [.h, .h, .h, .h, .h]], [], [.f .f32, .f .f32, .f .f32, .sl [.f .f32], .sl [.f .f32]]⟩
def R_iValidCanal : List XShp := [(.ret, ⟨[.h], [], [.b]⟩)]

theorem iValidCanal_e (x : DR A_iValidCanal.hs) : (evFn (envT Try.prog C67 M61) noLoops Try.f98 (A_iValidCanal.enc x).1).to (fun q => decX R_iValidCanal .ret [q.1] q.2) = iValidCanal_t x.1 x.2.1 x.2.2.1 x.2.2.2.1 x.2.2.2.2 := by kernel_rfl

theorem iValidCanal_m (x : DR A_iValidCanal.hs) : meanF (envT Try.prog C67 M61) noLoops Try.f98 A_iValidCanal R_iValidCanal x = (show Option (SumD (R_iValidCanal.map (·.2))) from iValidCanal x.1 x.2.1 x.2.2.1 x.2.2.2.1 x.2.2.2.2) := meanF_of (iValidCanal_e x)

theorem iValidCanal_ok : SpecOk Try.prog 98 (evFn (envT Try.prog C67 M61) noLoops Try.f98) := fnL_ok (envT_ok (C67_ok) (M61_ok)) mixedO Try.func98 (by kernel_rfl) (c := bodyOf Try.f98) (by kernel_rfl) (loopFree_ok (by kernel_rfl))

theorem iValidCanal_told : SpecOk Try.prog 98 (toldO A_iValidCanal R_iValidCanal (fun x => iValidCanal x.1 x.2.1 x.2.2.1 x.2.2.2.1 x.2.2.2.2) (C67 98)) := toldO_ok (by kernel_rfl) iValidCanal_ok (rest_ok (C67_ok) _) iValidCanal_m

noncomputable def C68 : Tab := tab 98 (toldO A_iValidCanal R_iValidCanal (fun x => iValidCanal x.1 x.2.1 x.2.2.1 x.2.2.2.1 x.2.2.2.2) (C67 98)) C67
theorem C68_ok : TabOk Try.prog C68 := tab_ok (iValidCanal_told) (C67_ok)

def S_iEnergyOfCanal_l6 : Shp := ⟨[.ref 0 0, .h, .h, .h, .h, .h], [.cells [.h, .h, .h, .h, .h] false], [.f .f32, .f .f32, .sl [.f .f32], .i .i64, .i .i64, .f .f32, .f .f32, .f .f32, .sl [.f .f32], .sl [.f .f32]]⟩
def X_iEnergyOfCanal_l6 : List XShp := [(.exit 0, ⟨[.undef, .h, .undef, .undef, .undef, .undef], [], [.f .f32]⟩)]

noncomputable def L_iEnergyOfCanal_l6 : Loops := (⟨52, lvT [(6, [1, 4, 5, 14, 15, 16])], mdT [(6, .exit 0, [], [1, 5, 14, 15, 16])], fun k vs bs => .bad⟩ : Loops)

theorem iEnergyOfCanal_l6_e (y1 : Nat) (y2 : List Nat) (y3 : Int) (y5 : Nat) (y6 : Nat) (y7 : Nat) (y8 : List Nat) (y9 : List Nat) (s : Nat × Int) : (loopStep (envT Try.prog C68 M61) L_iEnergyOfCanal_l6 6 (loopC (bodyOf Try.f49) 6) (S_iEnergyOfCanal_l6.enc (s.1, y1, y2, y3, s.2, y5, y6, y7, y8, y9)).1 (S_iEnergyOfCanal_l6.enc (s.1, y1, y2, y3, s.2, y5, y6, y7, y8, y9)).2).to (stepD S_iEnergyOfCanal_l6 X_iEnergyOfCanal_l6) = (iEnergyOfCanal_l6_t y1 y2 y3 y5 y6 y7 y8 y9 s.1 s.2).map (Sum.map (fun s : Nat × Int => (show DR S_iEnergyOfCanal_l6.hs from (s.1, y1, y2, y3, s.2, y5, y6, y7, y8, y9))) id) := by kernel_rfl

theorem iEnergyOfCanal_l6_r (x : DR S_iEnergyOfCanal_l6.hs) : (iEnergyOfCanal_l6 x.1 x.2.1 x.2.2.1 x.2.2.2.1 x.2.2.2.2.1 x.2.2.2.2.2.1 x.2.2.2.2.2.2.1 x.2.2.2.2.2.2.2.1 x.2.2.2.2.2.2.2.2.1 x.2.2.2.2.2.2.2.2.2 : Option (SumD (X_iEnergyOfCanal_l6.map (·.2)))) = runL (meanS (envT Try.prog C68 M61) L_iEnergyOfCanal_l6 6 (loopC (bodyOf Try.f49) 6) S_iEnergyOfCanal_l6 X_iEnergyOfCanal_l6) x := run_of (fun s : Nat × Int => (show DR S_iEnergyOfCanal_l6.hs from (s.1, x.2.1, x.2.2.1, x.2.2.2.1, s.2, x.2.2.2.2.2.1, x.2.2.2.2.2.2.1, x.2.2.2.2.2.2.2.1, x.2.2.2.2.2.2.2.2.1, x.2.2.2.2.2.2.2.2.2))) (iEnergyOfCanal_l6_e (x.2.1) (x.2.2.1) (x.2.2.2.1) (x.2.2.2.2.2.1) (x.2.2.2.2.2.2.1) (x.2.2.2.2.2.2.2.1) (x.2.2.2.2.2.2.2.2.1) (x.2.2.2.2.2.2.2.2.2)) (x.1, x.2.2.2.2.1)

theorem iEnergyOfCanal_l6_k (L : Loops) (hn : L_iEnergyOfCanal_l6.n = L.n) (hlv : L_iEnergyOfCanal_l6.lv 6 = L.lv 6) (hL : ∀ vs bs, L.loop 6 vs bs = toldL S_iEnergyOfCanal_l6 X_iEnergyOfCanal_l6 (fun x => iEnergyOfCanal_l6 x.1 x.2.1 x.2.2.1 x.2.2.2.1 x.2.2.2.2.1 x.2.2.2.2.2.1 x.2.2.2.2.2.2.1 x.2.2.2.2.2.2.2.1 x.2.2.2.2.2.2.2.2.1 x.2.2.2.2.2.2.2.2.2) vs bs) : LOk Try.prog (envT Try.prog C68 M61) L 6 (loopC (bodyOf Try.f49) 6) := toldL_ok (L1 := L_iEnergyOfCanal_l6) (envT_ok (C68_ok) (M61_ok)) mixedO hn hlv (loopFree_ok (by kernel_rfl)) iEnergyOfCanal_l6_r hL

def A_iEnergyOfCanal : Shp := ⟨[.agg [.h, .h, .h, .h, .h]], [], [.f .f32, .f .f32, .f .f32, .sl [.f .f32], .sl [.f .f32]]⟩
def R_iEnergyOfCanal : List XShp := [(.ret, ⟨[.tup [.h, .h]], [], [.f .f32, .b]⟩)]

noncomputable def L_iEnergyOfCanal : Loops := (⟨52, lvT [(6, [1, 4, 5, 14, 15, 16])], mdT [(6, .exit 0, [], [1, 5, 14, 15, 16])], fun k vs bs => bif Nat.beq k 6 then toldL S_iEnergyOfCanal_l6 X_iEnergyOfCanal_l6 (fun x => iEnergyOfCanal_l6 x.1 x.2.1 x.2.2.1 x.2.2.2.1 x.2.2.2.2.1 x.2.2.2.2.2.1 x.2.2.2.2.2.2.1 x.2.2.2.2.2.2.2.1 x.2.2.2.2.2.2.2.2.1 x.2.2.2.2.2.2.2.2.2) vs bs else .bad⟩ : Loops)

theorem iEnergyOfCanal_e (x : DR A_iEnergyOfCanal.hs) : (evFn (envT Try.prog C68 M61) L_iEnergyOfCanal Try.f49 (A_iEnergyOfCanal.enc x).1).to (fun q => decX R_iEnergyOfCanal .ret [q.1] q.2) = iEnergyOfCanal_t x.1 x.2.1 x.2.2.1 x.2.2.2.1 x.2.2.2.2 := by kernel_rfl

theorem iEnergyOfCanal_m (x : DR A_iEnergyOfCanal.hs) : meanF (envT Try.prog C68 M61) L_iEnergyOfCanal Try.f49 A_iEnergyOfCanal R_iEnergyOfCanal x = (show Option (SumD (R_iEnergyOfCanal.map (·.2))) from iEnergyOfCanal x.1 x.2.1 x.2.2.1 x.2.2.2.1 x.2.2.2.2) := meanF_of (iEnergyOfCanal_e x)

theorem iEnergyOfCanal_ok : SpecOk Try.prog 49 (evFn (envT Try.prog C68 M61) L_iEnergyOfCanal Try.f49) := fnL_ok (envT_ok (C68_ok) (M61_ok)) mixedO Try.func49 (by kernel_rfl) (c := bodyOf Try.f49) (by kernel_rfl) (loopsL (l := [(6, loopC (bodyOf Try.f49) 6)]) (by kernel_rfl) (lk_cons (iEnergyOfCanal_l6_k _ rfl rfl (fun _ _ => rfl)) lk_nil))

theorem iEnergyOfCanal_told : SpecOk Try.prog 49 (toldO A_iEnergyOfCanal R_iEnergyOfCanal (fun x => iEnergyOfCanal x.1 x.2.1 x.2.2.1 x.2.2.2.1 x.2.2.2.2) (C68 49)) := toldO_ok (by kernel_rfl) iEnergyOfCanal_ok (rest_ok (C68_ok) _) iEnergyOfCanal_m

noncomputable def C69 : Tab := tab 49 (toldO A_iEnergyOfCanal R_iEnergyOfCanal (fun x => iEnergyOfCanal x.1 x.2.1 x.2.2.1 x.2.2.2.1 x.2.2.2.2) (C68 49)) C68
theorem C69_ok : TabOk Try.prog C69 := tab_ok (iEnergyOfCanal_told) (C68_ok)

def A_weqCanal : Shp := ⟨[.agg [.h, .h, .h, .h, .h], .agg [.h, .h, .h, .h, .h]], [], [.f .f32, .f .f32, .f .f32, .sl [.f .f32], .sl [.f .f32], .f .f32, .f .f32, .f .f32, .sl [.f .f32], .sl [.f .f32]]⟩
def R_weqCanal : List XShp := [(.ret, ⟨[.h], [], [.b]⟩)]

theorem weqCanal_e (x : DR A_weqCanal.hs) : (evFn (envT Try.prog C69 M61) noLoops Try.f50 (A_weqCanal.enc x).1).to (fun q => decX R_weqCanal .ret [q.1] q.2) = weqCanal_t x.1 x.2.1 x.2.2.1 x.2.2.2.1 x.2.2.2.2.1 x.2.2.2.2.2.1 x.2.2.2.2.2.2.1 x.2.2.2.2.2.2.2.1 x.2.2.2.2.2.2.2.2.1 x.2.2.2.2.2.2.2.2.2 := by kernel_rfl

theorem weqCanal_m (x : DR A_weqCanal.hs) : meanF (envT Try.prog C69 M61) noLoops Try.f50 A_weqCanal R_weqCanal x = (show Option (SumD (R_weqCanal.map (·.2))) from weqCanal x.1 x.2.1 x.2.2.1 x.2.2.2.1 x.2.2.2.2.1 x.2.2.2.2.2.1 x.2.2.2.2.2.2.1 x.2.2.2.2.2.2.2.1 x.2.2.2.2.2.2.2.2.1 x.2.2.2.2.2.2.2.2.2) := meanF_of (weqCanal_e x)

theorem weqCanal_ok : SpecOk Try.prog 50 (evFn (envT Try.prog C69 M61) noLoops Try.f50) := fnL_ok (envT_ok (C69_ok) (M61_ok)) mixedO Try.func50 (by kernel_rfl) (c := bodyOf Try.f50) (by kernel_rfl) (loopFree_ok (by kernel_rfl))

theorem weqCanal_told : SpecOk Try.prog 50 (toldO A_weqCanal R_weqCanal (fun x => weqCanal x.1 x.2.1 x.2.2.1 x.2.2.2.1 x.2.2.2.2.1 x.2.2.2.2.2.1 x.2.2.2.2.2.2.1 x.2.2.2.2.2.2.2.1 x.2.2.2.2.2.2.2.2.1 x.2.2.2.2.2.2.2.2.2) (C69 50)) := toldO_ok (by kernel_rfl) weqCanal_ok (rest_ok (C69_ok) _) weqCanal_m

noncomputable def C70 : Tab := tab 50 (toldO A_weqCanal R_weqCanal (fun x => weqCanal x.1 x.2.1 x.2.2.1 x.2.2.2.1 x.2.2.2.2.1 x.2.2.2.2.2.1 x.2.2.2.2.2.2.1 x.2.2.2.2.2.2.2.1 x.2.2.2.2.2.2.2.2.1 x.2.2.2.2.2.2.2.2.2) (C69 50)) C69
theorem C70_ok : TabOk Try.prog C70 := tab_ok (weqCanal_told) (C69_ok)

def A_wFnExactEnergyOfCanal : Shp := ⟨[.agg [.h, .h, .h, .h, .h]], [], [.f .f32, .f .f32, .f .f32, .sl [.f .f32], .sl [.f .f32]]⟩
def R_wFnExactEnergyOfCanal : List XShp := [(.ret, ⟨[.h], [], [.b]⟩)]

theorem wFnExactEnergyOfCanal_e (x : DR A_wFnExactEnergyOfCanal.hs) : (evFn (envT Try.prog C70 M61) noLoops Try.f9 (A_wFnExactEnergyOfCanal.enc x).1).to (fun q => decX R_wFnExactEnergyOfCanal .ret [q.1] q.2) = wFnExactEnergyOfCanal_t x.1 x.2.1 x.2.2.1 x.2.2.2.1 x.2.2.2.2 := by kernel_rfl

theorem wFnExactEnergyOfCanal_m (x : DR A_wFnExactEnergyOfCanal.hs) : meanF (envT Try.prog C70 M61) noLoops Try.f9 A_wFnExactEnergyOfCanal R_wFnExactEnergyOfCanal x = (show Option (SumD (R_wFnExactEnergyOfCanal.map (·.2))) from wFnExactEnergyOfCanal x.1 x.2.1 x.2.2.1 x.2.2.2.1 x.2.2.2.2) := meanF_of (wFnExactEnergyOfCanal_e x)

theorem wFnExactEnergyOfCanal_ok : SpecOk Try.prog 9 (evFn (envT Try.prog C70 M61) noLoops Try.f9) := fnL_ok (envT_ok (C70_ok) (M61_ok)) mixedO Try.func9 (by kernel_rfl) (c := bodyOf Try.f9) (by kernel_rfl) (loopFree_ok (by kernel_rfl))

theorem wFnExactEnergyOfCanal_told : SpecOk Try.prog 9 (toldO A_wFnExactEnergyOfCanal R_wFnExactEnergyOfCanal (fun x => wFnExactEnergyOfCanal x.1 x.2.1 x.2.2.1 x.2.2.2.1 x.2.2.2.2) (C70 9)) := toldO_ok (by kernel_rfl) wFnExactEnergyOfCanal_ok (rest_ok (C70_ok) _) wFnExactEnergyOfCanal_m

noncomputable def C71 : Tab := tab 9 (toldO A_wFnExactEnergyOfCanal R_wFnExactEnergyOfCanal (fun x => wFnExactEnergyOfCanal x.1 x.2.1 x.2.2.1 x.2.2.2.1 x.2.2.2.2) (C70 9)) C70
theorem C71_ok : TabOk Try.prog C71 := tab_ok (wFnExactEnergyOfCanal_told) (C70_ok)

theorem lawFnExactEnergyOfCanal_ok : SpecOk Try.prog 9 (evFn (envT Try.prog C70 M61) noLoops Try.f9) := wFnExactEnergyOfCanal_ok
theorem lawFnExactEnergyOfCanal_says (x : DR A_wFnExactEnergyOfCanal.hs) (h : (show Option (SumD (R_wFnExactEnergyOfCanal.map (·.2))) from wFnExactEnergyOfCanal x.1 x.2.1 x.2.2.1 x.2.2.2.1 x.2.2.2.2) = some true) : saysTrue (evFn (envT Try.prog C70 M61) noLoops Try.f9 (A_wFnExactEnergyOfCanal.enc x).1) = true := law_says (x := x) ((wFnExactEnergyOfCanal_m x).trans h)

theorem lawFnExactEnergyOfCanal_true (x0 : Nat) (x1 : Nat) (x2 : Nat) (x3 : List Nat) (x4 : List Nat) (h : wFnExactEnergyOfCanal x0 x1 x2 x3 x4 = some true) : saysTrue (evFn (envT Try.prog C70 M61) noLoops Try.f9 [.agg [.f .f32 x0, .f .f32 x1, .f .f32 x2, .ds [.f .f32] x3, .ds [.f .f32] x4]]) = true := (congrArg (fun l => saysTrue (evFn (envT Try.prog C70 M61) noLoops Try.f9 l)) (by kernel_rfl : ([.agg [.f .f32 x0, .f .f32 x1, .f .f32 x2, .ds [.f .f32] x3, .ds [.f .f32] x4]] : List V) = (A_wFnExactEnergyOfCanal.enc (x0, x1, x2, x3, x4)).1)).trans (lawFnExactEnergyOfCanal_says (x0, x1, x2, x3, x4) h)
end Go.Proofs.Ytikmeahdcipanaa
