/- Functions, as plain functions. What the program comes to. -/
import Derived.Test.YtikmeahdcipanaaHb1d
import Derived.Test.YtikmeahdcipanaaDc
import Derived.Test.YtikmeahdcipanaaNv
import Derived.KernelRfl
set_option linter.unusedVariables false
set_option linter.unusedSimpArgs false
set_option linter.constructorNameAsVariable false
namespace Go.Proofs.Ytikmeahdcipanaa
open Go.RowKit
set_option maxRecDepth 100000
theorem mixedO : (Try.prog).follows .mixedOrders = true := by kernel_rfl
noncomputable def C0 : Tab := tab 68 (spFB .f32 (isFin .f32)) tab0
theorem C0_ok : TabOk Try.prog C0 := tab_ok (spFB_ok Try.func68 (by kernel_rfl) (fun hx => l01Finite_c hx)) (tab0_ok _)

noncomputable def C1 : Tab := tab 72 (spFB .f32 (isFin .f32)) C0
theorem C1_ok : TabOk Try.prog C1 := tab_ok (spFB_ok Try.func72 (by kernel_rfl) (fun hx => IsFinite_c hx)) (C0_ok)

noncomputable def C2 : Tab := tab 77 (spFB .f32 isLen) C1
theorem C2_ok : TabOk Try.prog C2 := tab_ok (spFB_ok Try.func77 (by kernel_rfl) (fun hx => l02Above_c hx)) (C1_ok)

noncomputable def C3 : Tab := tab 81 (spFB .f32 isLen) C2
theorem C3_ok : TabOk Try.prog C3 := tab_ok (spFB_ok Try.func81 (by kernel_rfl) (fun hx => aLength_c hx)) (C2_ok)

noncomputable def C4 : Tab := tab 76 (spFB .f32 isMass) C3
theorem C4_ok : TabOk Try.prog C4 := tab_ok (spFB_ok Try.func76 (by kernel_rfl) (fun hx => l02Least_c hx)) (C3_ok)

noncomputable def C5 : Tab := tab 106 (spFB .f32 isMass) C4
theorem C5_ok : TabOk Try.prog C5 := tab_ok (spFB_ok Try.func106 (by kernel_rfl) (fun hx => aMass_c hx)) (C4_ok)

noncomputable def C6 : Tab := tab 132 (spFF .f32 .f32 froot) C5
theorem C6_ok : TabOk Try.prog C6 := tab_ok (spFF_ok Try.func132 (by kernel_rfl) (fun hx => l01Sqrt_c hx)) (C5_ok)

noncomputable def C7 : Tab := tab 107 (spFF .f32 .f32 froot) C6
theorem C7_ok : TabOk Try.prog C7 := tab_ok (spFF_ok Try.func107 (by kernel_rfl) (fun hx => RootNumber_c hx)) (C6_ok)

noncomputable def C8 : Tab := tab 19 (spSame .f64) C7
theorem C8_ok : TabOk Try.prog C8 := tab_ok (spSame_ok Try.func19 (by kernel_rfl) (fun hx hy => sameFloat_c hx hy)) (C7_ok)

noncomputable def C9 : Tab := tab 120 (spFB .f64 (isFin .f64)) C8
theorem C9_ok : TabOk Try.prog C9 := tab_ok (spFB_ok Try.func120 (by kernel_rfl) (fun hx => finite_c hx)) (C8_ok)

noncomputable def C10 : Tab := tab 145 (spFB .f64 (isN .f64)) C9
theorem C10_ok : TabOk Try.prog C10 := tab_ok (spFB_ok Try.func145 (by kernel_rfl) (fun hx => isNaN_c hx)) (C9_ok)

noncomputable def C11 : Tab := tab 149 (spFF .f64 .f64 (fabs .f64)) C10
theorem C11_ok : TabOk Try.prog C11 := tab_ok (spFF_ok Try.func149 (by kernel_rfl) (fun hx => abs_c hx)) (C10_ok)

noncomputable def C12 : Tab := tab 134 (spFF .f64 .f64 (fsqrt .f64)) C11
theorem C12_ok : TabOk Try.prog C12 := tab_ok (spFF_ok Try.func134 (by kernel_rfl) (fun hx => Sqrt_c hx)) (C11_ok)

noncomputable def C13 : Tab := tab 150 (spFrom) C12
theorem C13_ok : TabOk Try.prog C13 := tab_ok ((spFrom_ok (fun n w => ext_from64 n w))) (C12_ok)

def A_wszReachS : Shp := ⟨[.h, .h], [], [.sl [.f .f32, .f .f32], .i .i64]⟩
def R_wszReachS : List XShp := [(.ret, ⟨[.h], [], [.i .i64]⟩)]

theorem wszReachS_e (x : DR A_wszReachS.hs) : (evFn (envTo Try.prog C13 mtab0) noLoops Try.f33 (A_wszReachS.enc x).1).to (fun q => decX R_wszReachS .ret [q.1] q.2) = wszReachS_t x.1 x.2 := by kernel_rfl

theorem wszReachS_m (x : DR A_wszReachS.hs) : meanF (envTo Try.prog C13 mtab0) noLoops Try.f33 A_wszReachS R_wszReachS x = some (show SumD (R_wszReachS.map (·.2)) from wszReachS x.1 x.2) := @meanF_tot _ _ _ _ _ _ _ (wszReachS_e x) (show Inhabited (Int) from inferInstance) (by kernel_rfl)

theorem wszReachS_ok : SpecOk Try.prog 33 (evFn (envTo Try.prog C13 mtab0) noLoops Try.f33) := fnL_ok (envTo_ok (C13_ok) (mtab0_ok _)) mixedO Try.func33 (by kernel_rfl) (c := bodyOf Try.f33) (by kernel_rfl) (loopFree_ok (by kernel_rfl))

theorem wszReachS_told : SpecOk Try.prog 33 (toldT A_wszReachS R_wszReachS (fun x => wszReachS x.1 x.2) (C13 33)) := toldT_ok (by kernel_rfl) wszReachS_ok (rest_ok (C13_ok) _) wszReachS_m

noncomputable def C14 : Tab := tab 33 (toldT A_wszReachS R_wszReachS (fun x => wszReachS x.1 x.2) (C13 33)) C13
theorem C14_ok : TabOk Try.prog C14 := tab_ok (wszReachS_told) (C13_ok)

def A_wszFloat32S : Shp := ⟨[.h, .h], [], [.sl [.f .f32], .i .i64]⟩
def R_wszFloat32S : List XShp := [(.ret, ⟨[.h], [], [.i .i64]⟩)]

theorem wszFloat32S_e (x : DR A_wszFloat32S.hs) : (evFn (envTo Try.prog C14 mtab0) noLoops Try.f66 (A_wszFloat32S.enc x).1).to (fun q => decX R_wszFloat32S .ret [q.1] q.2) = wszFloat32S_t x.1 x.2 := by kernel_rfl

theorem wszFloat32S_m (x : DR A_wszFloat32S.hs) : meanF (envTo Try.prog C14 mtab0) noLoops Try.f66 A_wszFloat32S R_wszFloat32S x = some (show SumD (R_wszFloat32S.map (·.2)) from wszFloat32S x.1 x.2) := @meanF_tot _ _ _ _ _ _ _ (wszFloat32S_e x) (show Inhabited (Int) from inferInstance) (by kernel_rfl)

theorem wszFloat32S_ok : SpecOk Try.prog 66 (evFn (envTo Try.prog C14 mtab0) noLoops Try.f66) := fnL_ok (envTo_ok (C14_ok) (mtab0_ok _)) mixedO Try.func66 (by kernel_rfl) (c := bodyOf Try.f66) (by kernel_rfl) (loopFree_ok (by kernel_rfl))

theorem wszFloat32S_told : SpecOk Try.prog 66 (toldT A_wszFloat32S R_wszFloat32S (fun x => wszFloat32S x.1 x.2) (C14 66)) := toldT_ok (by kernel_rfl) wszFloat32S_ok (rest_ok (C14_ok) _) wszFloat32S_m

noncomputable def C15 : Tab := tab 66 (toldT A_wszFloat32S R_wszFloat32S (fun x => wszFloat32S x.1 x.2) (C14 66)) C14
theorem C15_ok : TabOk Try.prog C15 := tab_ok (wszFloat32S_told) (C14_ok)

def S_wszFloat32SS_l5 : Shp := ⟨[.h, .h, .undef, .h], [], [.sl [.sl [.f .f32]], .i .i64, .i .i64]⟩
def X_wszFloat32SS_l5 : List XShp := [(.ret, ⟨[.undef, .undef, .h, .undef], [], [.i .i64]⟩), (.exit 0, ⟨[.undef, .h, .undef, .undef], [], [.i .i64]⟩)]

noncomputable def L_wszFloat32SS_l5 : Loops := (⟨27, lvT [(5, [0, 1, 4, 5])], mdT [(5, .normal, [], [4]), (5, .exit 0, [], [0, 4, 5]), (5, .ret, [], [0, 1, 5])], fun k vs bs => .bad⟩ : Loops)

theorem wszFloat32SS_l5_e (y0 : List (List Nat)) (s : Int × Int) : (loopStep (envTo Try.prog C15 mtab0) L_wszFloat32SS_l5 5 (loopC (bodyOf Try.f39) 5) (S_wszFloat32SS_l5.enc (y0, s.1, s.2)).1 (S_wszFloat32SS_l5.enc (y0, s.1, s.2)).2).to (stepD S_wszFloat32SS_l5 X_wszFloat32SS_l5) = (wszFloat32SS_l5_t y0 s.1 s.2).map (Sum.map (fun s : Int × Int => (show DR S_wszFloat32SS_l5.hs from (y0, s.1, s.2))) id) := by kernel_rfl

theorem wszFloat32SS_l5_r (x : DR S_wszFloat32SS_l5.hs) : (wszFloat32SS_l5 x.1 x.2.1 x.2.2 : Option (SumD (X_wszFloat32SS_l5.map (·.2)))) = runL (meanS (envTo Try.prog C15 mtab0) L_wszFloat32SS_l5 5 (loopC (bodyOf Try.f39) 5) S_wszFloat32SS_l5 X_wszFloat32SS_l5) x := run_of (fun s : Int × Int => (show DR S_wszFloat32SS_l5.hs from (x.1, s.1, s.2))) (wszFloat32SS_l5_e (x.1)) (x.2.1, x.2.2)

theorem wszFloat32SS_l5_k (L : Loops) (hn : L_wszFloat32SS_l5.n = L.n) (hlv : L_wszFloat32SS_l5.lv 5 = L.lv 5) (hL : ∀ vs bs, L.loop 5 vs bs = toldL S_wszFloat32SS_l5 X_wszFloat32SS_l5 (fun x => wszFloat32SS_l5 x.1 x.2.1 x.2.2) vs bs) : LOk Try.prog (envTo Try.prog C15 mtab0) L 5 (loopC (bodyOf Try.f39) 5) := toldL_ok (L1 := L_wszFloat32SS_l5) (envTo_ok (C15_ok) (mtab0_ok _)) mixedO hn hlv (loopFree_ok (by kernel_rfl)) wszFloat32SS_l5_r hL

def A_wszFloat32SS : Shp := ⟨[.h, .h], [], [.sl [.sl [.f .f32]], .i .i64]⟩
def R_wszFloat32SS : List XShp := [(.ret, ⟨[.h], [], [.i .i64]⟩)]

noncomputable def L_wszFloat32SS : Loops := (⟨27, lvT [(5, [0, 1, 4, 5])], mdT [(5, .normal, [], [4]), (5, .exit 0, [], [0, 4, 5]), (5, .ret, [], [0, 1, 5])], fun k vs bs => bif Nat.beq k 5 then toldL S_wszFloat32SS_l5 X_wszFloat32SS_l5 (fun x => wszFloat32SS_l5 x.1 x.2.1 x.2.2) vs bs else .bad⟩ : Loops)

theorem wszFloat32SS_e (x : DR A_wszFloat32SS.hs) : (evFn (envTo Try.prog C15 mtab0) L_wszFloat32SS Try.f39 (A_wszFloat32SS.enc x).1).to (fun q => decX R_wszFloat32SS .ret [q.1] q.2) = wszFloat32SS_t x.1 x.2 := by kernel_rfl

theorem wszFloat32SS_m (x : DR A_wszFloat32SS.hs) : meanF (envTo Try.prog C15 mtab0) L_wszFloat32SS Try.f39 A_wszFloat32SS R_wszFloat32SS x = (show Option (SumD (R_wszFloat32SS.map (·.2))) from wszFloat32SS x.1 x.2) := meanF_of (wszFloat32SS_e x)

theorem wszFloat32SS_ok : SpecOk Try.prog 39 (evFn (envTo Try.prog C15 mtab0) L_wszFloat32SS Try.f39) := fnL_ok (envTo_ok (C15_ok) (mtab0_ok _)) mixedO Try.func39 (by kernel_rfl) (c := bodyOf Try.f39) (by kernel_rfl) (loopsL (l := [(5, loopC (bodyOf Try.f39) 5)]) (by kernel_rfl) (lk_cons (wszFloat32SS_l5_k _ rfl rfl (fun _ _ => rfl)) lk_nil))

theorem wszFloat32SS_told : SpecOk Try.prog 39 (toldO A_wszFloat32SS R_wszFloat32SS (fun x => wszFloat32SS x.1 x.2) (C15 39)) := toldO_ok (by kernel_rfl) wszFloat32SS_ok (rest_ok (C15_ok) _) wszFloat32SS_m

noncomputable def C16 : Tab := tab 39 (toldO A_wszFloat32SS R_wszFloat32SS (fun x => wszFloat32SS x.1 x.2) (C15 39)) C15
theorem C16_ok : TabOk Try.prog C16 := tab_ok (wszFloat32SS_told) (C15_ok)

def A_wtoReach : Shp := ⟨[.agg [.h, .h]], [], [.f .f32, .f .f32]⟩
def R_wtoReach : List XShp := [(.ret, ⟨[.agg [.h, .h]], [], [.f .f32, .f .f32]⟩)]

theorem wtoReach_e (x : DR A_wtoReach.hs) : (evFn (envTo Try.prog C16 mtab0) noLoops Try.f31 (A_wtoReach.enc x).1).to (fun q => decX R_wtoReach .ret [q.1] q.2) = wtoReach_t x.1 x.2 := by kernel_rfl

theorem wtoReach_m (x : DR A_wtoReach.hs) : meanF (envTo Try.prog C16 mtab0) noLoops Try.f31 A_wtoReach R_wtoReach x = some (show SumD (R_wtoReach.map (·.2)) from wtoReach x.1 x.2) := @meanF_tot _ _ _ _ _ _ _ (wtoReach_e x) (show Inhabited (Nat × Nat) from inferInstance) (by kernel_rfl)

theorem wtoReach_ok : SpecOk Try.prog 31 (evFn (envTo Try.prog C16 mtab0) noLoops Try.f31) := fnL_ok (envTo_ok (C16_ok) (mtab0_ok _)) mixedO Try.func31 (by kernel_rfl) (c := bodyOf Try.f31) (by kernel_rfl) (loopFree_ok (by kernel_rfl))

theorem wtoReach_told : SpecOk Try.prog 31 (toldT A_wtoReach R_wtoReach (fun x => wtoReach x.1 x.2) (C16 31)) := toldT_ok (by kernel_rfl) wtoReach_ok (rest_ok (C16_ok) _) wtoReach_m

noncomputable def C17 : Tab := tab 31 (toldT A_wtoReach R_wtoReach (fun x => wtoReach x.1 x.2) (C16 31)) C16
theorem C17_ok : TabOk Try.prog C17 := tab_ok (wtoReach_told) (C16_ok)

def S_wtoReachS_l3 : Shp := ⟨[.h, .slw 0 2, .h], [.arr [.f .f32, .f .f32] false], [.sl [.f .f32, .f .f32], .i .i64, .sl [.f .f32, .f .f32]]⟩
def X_wtoReachS_l3 : List XShp := [(.exit 0, ⟨[.undef, .slw 0 2, .undef], [.arr [.f .f32, .f .f32] false], [.sl [.f .f32, .f .f32]]⟩)]

noncomputable def L_wtoReachS_l3 : Loops := (⟨23, lvT [(3, [0, 3, 4])], mdT [(3, .exit 0, [], [0, 4])], fun k vs bs => .bad⟩ : Loops)

theorem wtoReachS_l3_e (y0 : List (Nat × Nat)) (s : Int × (List (Nat × Nat))) : (loopStep (envTo Try.prog C17 mtab0) L_wtoReachS_l3 3 (loopC (bodyOf Try.f35) 3) (S_wtoReachS_l3.enc (y0, s.1, s.2)).1 (S_wtoReachS_l3.enc (y0, s.1, s.2)).2).to (stepD S_wtoReachS_l3 X_wtoReachS_l3) = (wtoReachS_l3_t y0 s.1 s.2).map (Sum.map (fun s : Int × (List (Nat × Nat)) => (show DR S_wtoReachS_l3.hs from (y0, s.1, s.2))) id) := by kernel_rfl

theorem wtoReachS_l3_r (x : DR S_wtoReachS_l3.hs) : (wtoReachS_l3 x.1 x.2.1 x.2.2 : Option (SumD (X_wtoReachS_l3.map (·.2)))) = runL (meanS (envTo Try.prog C17 mtab0) L_wtoReachS_l3 3 (loopC (bodyOf Try.f35) 3) S_wtoReachS_l3 X_wtoReachS_l3) x := run_of (fun s : Int × (List (Nat × Nat)) => (show DR S_wtoReachS_l3.hs from (x.1, s.1, s.2))) (wtoReachS_l3_e (x.1)) (x.2.1, x.2.2)

theorem wtoReachS_l3_k (L : Loops) (hn : L_wtoReachS_l3.n = L.n) (hlv : L_wtoReachS_l3.lv 3 = L.lv 3) (hL : ∀ vs bs, L.loop 3 vs bs = toldL S_wtoReachS_l3 X_wtoReachS_l3 (fun x => wtoReachS_l3 x.1 x.2.1 x.2.2) vs bs) : LOk Try.prog (envTo Try.prog C17 mtab0) L 3 (loopC (bodyOf Try.f35) 3) := toldL_ok (L1 := L_wtoReachS_l3) (envTo_ok (C17_ok) (mtab0_ok _)) mixedO hn hlv (loopFree_ok (by kernel_rfl)) wtoReachS_l3_r hL

def A_wtoReachS : Shp := ⟨[.h], [], [.sl [.f .f32, .f .f32]]⟩
def R_wtoReachS : List XShp := [(.ret, ⟨[.slw 0 2], [.arr [.f .f32, .f .f32] false], [.sl [.f .f32, .f .f32]]⟩)]

noncomputable def L_wtoReachS : Loops := (⟨23, lvT [(3, [0, 3, 4])], mdT [(3, .exit 0, [], [0, 4])], fun k vs bs => bif Nat.beq k 3 then toldL S_wtoReachS_l3 X_wtoReachS_l3 (fun x => wtoReachS_l3 x.1 x.2.1 x.2.2) vs bs else .bad⟩ : Loops)

theorem wtoReachS_e (x : DR A_wtoReachS.hs) : (evFn (envTo Try.prog C17 mtab0) L_wtoReachS Try.f35 (A_wtoReachS.enc x).1).to (fun q => decX R_wtoReachS .ret [q.1] q.2) = wtoReachS_t x := by kernel_rfl

theorem wtoReachS_m (x : DR A_wtoReachS.hs) : meanF (envTo Try.prog C17 mtab0) L_wtoReachS Try.f35 A_wtoReachS R_wtoReachS x = (show Option (SumD (R_wtoReachS.map (·.2))) from wtoReachS x) := meanF_of (wtoReachS_e x)

theorem wtoReachS_ok : SpecOk Try.prog 35 (evFn (envTo Try.prog C17 mtab0) L_wtoReachS Try.f35) := fnL_ok (envTo_ok (C17_ok) (mtab0_ok _)) mixedO Try.func35 (by kernel_rfl) (c := bodyOf Try.f35) (by kernel_rfl) (loopsL (l := [(3, loopC (bodyOf Try.f35) 3)]) (by kernel_rfl) (lk_cons (wtoReachS_l3_k _ rfl rfl (fun _ _ => rfl)) lk_nil))

theorem wtoReachS_told : SpecOk Try.prog 35 (toldO A_wtoReachS R_wtoReachS (fun x => wtoReachS x) (C17 35)) := toldO_ok (by kernel_rfl) wtoReachS_ok (rest_ok (C17_ok) _) wtoReachS_m

noncomputable def C18 : Tab := tab 35 (toldO A_wtoReachS R_wtoReachS (fun x => wtoReachS x) (C17 35)) C17
theorem C18_ok : TabOk Try.prog C18 := tab_ok (wtoReachS_told) (C17_ok)

def S_wtoFloat32S_l3 : Shp := ⟨[.h, .slw 0 1, .h], [.arr [.f .f32] false], [.sl [.f .f32], .i .i64, .sl [.f .f32]]⟩
def X_wtoFloat32S_l3 : List XShp := [(.exit 0, ⟨[.undef, .slw 0 1, .undef], [.arr [.f .f32] false], [.sl [.f .f32]]⟩)]

noncomputable def L_wtoFloat32S_l3 : Loops := (⟨22, lvT [(3, [0, 3, 4])], mdT [(3, .exit 0, [], [0, 4])], fun k vs bs => .bad⟩ : Loops)

theorem wtoFloat32S_l3_e (y0 : List Nat) (s : Int × List Nat) : (loopStep (envTo Try.prog C18 mtab0) L_wtoFloat32S_l3 3 (loopC (bodyOf Try.f24) 3) (S_wtoFloat32S_l3.enc (y0, s.1, s.2)).1 (S_wtoFloat32S_l3.enc (y0, s.1, s.2)).2).to (stepD S_wtoFloat32S_l3 X_wtoFloat32S_l3) = (wtoFloat32S_l3_t y0 s.1 s.2).map (Sum.map (fun s : Int × List Nat => (show DR S_wtoFloat32S_l3.hs from (y0, s.1, s.2))) id) := by kernel_rfl

theorem wtoFloat32S_l3_r (x : DR S_wtoFloat32S_l3.hs) : (wtoFloat32S_l3 x.1 x.2.1 x.2.2 : Option (SumD (X_wtoFloat32S_l3.map (·.2)))) = runL (meanS (envTo Try.prog C18 mtab0) L_wtoFloat32S_l3 3 (loopC (bodyOf Try.f24) 3) S_wtoFloat32S_l3 X_wtoFloat32S_l3) x := run_of (fun s : Int × List Nat => (show DR S_wtoFloat32S_l3.hs from (x.1, s.1, s.2))) (wtoFloat32S_l3_e (x.1)) (x.2.1, x.2.2)

theorem wtoFloat32S_l3_k (L : Loops) (hn : L_wtoFloat32S_l3.n = L.n) (hlv : L_wtoFloat32S_l3.lv 3 = L.lv 3) (hL : ∀ vs bs, L.loop 3 vs bs = toldL S_wtoFloat32S_l3 X_wtoFloat32S_l3 (fun x => wtoFloat32S_l3 x.1 x.2.1 x.2.2) vs bs) : LOk Try.prog (envTo Try.prog C18 mtab0) L 3 (loopC (bodyOf Try.f24) 3) := toldL_ok (L1 := L_wtoFloat32S_l3) (envTo_ok (C18_ok) (mtab0_ok _)) mixedO hn hlv (loopFree_ok (by kernel_rfl)) wtoFloat32S_l3_r hL

def A_wtoFloat32S : Shp := ⟨[.h], [], [.sl [.f .f32]]⟩
def R_wtoFloat32S : List XShp := [(.ret, ⟨[.slw 0 1], [.arr [.f .f32] false], [.sl [.f .f32]]⟩)]

noncomputable def L_wtoFloat32S : Loops := (⟨22, lvT [(3, [0, 3, 4])], mdT [(3, .exit 0, [], [0, 4])], fun k vs bs => bif Nat.beq k 3 then toldL S_wtoFloat32S_l3 X_wtoFloat32S_l3 (fun x => wtoFloat32S_l3 x.1 x.2.1 x.2.2) vs bs else .bad⟩ : Loops)

theorem wtoFloat32S_e (x : DR A_wtoFloat32S.hs) : (evFn (envTo Try.prog C18 mtab0) L_wtoFloat32S Try.f24 (A_wtoFloat32S.enc x).1).to (fun q => decX R_wtoFloat32S .ret [q.1] q.2) = wtoFloat32S_t x := by kernel_rfl

theorem wtoFloat32S_m (x : DR A_wtoFloat32S.hs) : meanF (envTo Try.prog C18 mtab0) L_wtoFloat32S Try.f24 A_wtoFloat32S R_wtoFloat32S x = (show Option (SumD (R_wtoFloat32S.map (·.2))) from wtoFloat32S x) := meanF_of (wtoFloat32S_e x)

theorem wtoFloat32S_ok : SpecOk Try.prog 24 (evFn (envTo Try.prog C18 mtab0) L_wtoFloat32S Try.f24) := fnL_ok (envTo_ok (C18_ok) (mtab0_ok _)) mixedO Try.func24 (by kernel_rfl) (c := bodyOf Try.f24) (by kernel_rfl) (loopsL (l := [(3, loopC (bodyOf Try.f24) 3)]) (by kernel_rfl) (lk_cons (wtoFloat32S_l3_k _ rfl rfl (fun _ _ => rfl)) lk_nil))

theorem wtoFloat32S_told : SpecOk Try.prog 24 (toldO A_wtoFloat32S R_wtoFloat32S (fun x => wtoFloat32S x) (C18 24)) := toldO_ok (by kernel_rfl) wtoFloat32S_ok (rest_ok (C18_ok) _) wtoFloat32S_m

noncomputable def C19 : Tab := tab 24 (toldO A_wtoFloat32S R_wtoFloat32S (fun x => wtoFloat32S x) (C18 24)) C18
theorem C19_ok : TabOk Try.prog C19 := tab_ok (wtoFloat32S_told) (C18_ok)

def S_wtoFloat32SS_l3 : Shp := ⟨[.h, .slw 0 1, .h], [.arr [.osl [.f .f32]] false], [.sl [.sl [.f .f32]], .i .i64, .sl [.osl [.f .f32]]]⟩
def X_wtoFloat32SS_l3 : List XShp := [(.exit 0, ⟨[.undef, .slw 0 1, .undef], [.arr [.osl [.f .f32]] false], [.sl [.osl [.f .f32]]]⟩)]

noncomputable def L_wtoFloat32SS_l3 : Loops := (⟨23, lvT [(3, [0, 3, 4])], mdT [(3, .exit 0, [], [0, 4])], fun k vs bs => .bad⟩ : Loops)

theorem wtoFloat32SS_l3_e (y0 : List (List Nat)) (s : Int × List (List Nat)) : (loopStep (envTo Try.prog C19 mtab0) L_wtoFloat32SS_l3 3 (loopC (bodyOf Try.f41) 3) (S_wtoFloat32SS_l3.enc (y0, s.1, s.2)).1 (S_wtoFloat32SS_l3.enc (y0, s.1, s.2)).2).to (stepD S_wtoFloat32SS_l3 X_wtoFloat32SS_l3) = (wtoFloat32SS_l3_t y0 s.1 s.2).map (Sum.map (fun s : Int × List (List Nat) => (show DR S_wtoFloat32SS_l3.hs from (y0, s.1, s.2))) id) := by kernel_rfl

theorem wtoFloat32SS_l3_r (x : DR S_wtoFloat32SS_l3.hs) : (wtoFloat32SS_l3 x.1 x.2.1 x.2.2 : Option (SumD (X_wtoFloat32SS_l3.map (·.2)))) = runL (meanS (envTo Try.prog C19 mtab0) L_wtoFloat32SS_l3 3 (loopC (bodyOf Try.f41) 3) S_wtoFloat32SS_l3 X_wtoFloat32SS_l3) x := run_of (fun s : Int × List (List Nat) => (show DR S_wtoFloat32SS_l3.hs from (x.1, s.1, s.2))) (wtoFloat32SS_l3_e (x.1)) (x.2.1, x.2.2)

theorem wtoFloat32SS_l3_k (L : Loops) (hn : L_wtoFloat32SS_l3.n = L.n) (hlv : L_wtoFloat32SS_l3.lv 3 = L.lv 3) (hL : ∀ vs bs, L.loop 3 vs bs = toldL S_wtoFloat32SS_l3 X_wtoFloat32SS_l3 (fun x => wtoFloat32SS_l3 x.1 x.2.1 x.2.2) vs bs) : LOk Try.prog (envTo Try.prog C19 mtab0) L 3 (loopC (bodyOf Try.f41) 3) := toldL_ok (L1 := L_wtoFloat32SS_l3) (envTo_ok (C19_ok) (mtab0_ok _)) mixedO hn hlv (loopFree_ok (by kernel_rfl)) wtoFloat32SS_l3_r hL

def A_wtoFloat32SS : Shp := ⟨[.h], [], [.sl [.sl [.f .f32]]]⟩
def R_wtoFloat32SS : List XShp := [(.ret, ⟨[.slw 0 1], [.arr [.osl [.f .f32]] false], [.sl [.osl [.f .f32]]]⟩)]

noncomputable def L_wtoFloat32SS : Loops := (⟨23, lvT [(3, [0, 3, 4])], mdT [(3, .exit 0, [], [0, 4])], fun k vs bs => bif Nat.beq k 3 then toldL S_wtoFloat32SS_l3 X_wtoFloat32SS_l3 (fun x => wtoFloat32SS_l3 x.1 x.2.1 x.2.2) vs bs else .bad⟩ : Loops)

theorem wtoFloat32SS_e (x : DR A_wtoFloat32SS.hs) : (evFn (envTo Try.prog C19 mtab0) L_wtoFloat32SS Try.f41 (A_wtoFloat32SS.enc x).1).to (fun q => decX R_wtoFloat32SS .ret [q.1] q.2) = wtoFloat32SS_t x := by kernel_rfl

theorem wtoFloat32SS_m (x : DR A_wtoFloat32SS.hs) : meanF (envTo Try.prog C19 mtab0) L_wtoFloat32SS Try.f41 A_wtoFloat32SS R_wtoFloat32SS x = (show Option (SumD (R_wtoFloat32SS.map (·.2))) from wtoFloat32SS x) := meanF_of (wtoFloat32SS_e x)

theorem wtoFloat32SS_ok : SpecOk Try.prog 41 (evFn (envTo Try.prog C19 mtab0) L_wtoFloat32SS Try.f41) := fnL_ok (envTo_ok (C19_ok) (mtab0_ok _)) mixedO Try.func41 (by kernel_rfl) (c := bodyOf Try.f41) (by kernel_rfl) (loopsL (l := [(3, loopC (bodyOf Try.f41) 3)]) (by kernel_rfl) (lk_cons (wtoFloat32SS_l3_k _ rfl rfl (fun _ _ => rfl)) lk_nil))

theorem wtoFloat32SS_told : SpecOk Try.prog 41 (toldO A_wtoFloat32SS R_wtoFloat32SS (fun x => wtoFloat32SS x) (C19 41)) := toldO_ok (by kernel_rfl) wtoFloat32SS_ok (rest_ok (C19_ok) _) wtoFloat32SS_m

noncomputable def C20 : Tab := tab 41 (toldO A_wtoFloat32SS R_wtoFloat32SS (fun x => wtoFloat32SS x) (C19 41)) C19
theorem C20_ok : TabOk Try.prog C20 := tab_ok (wtoFloat32SS_told) (C19_ok)

def A_sl05Reach : Shp := ⟨[.dpt [.h, .h] 0], [], [.f .f32, .f .f32]⟩
def R_sl05Reach : List XShp := [(.ret, ⟨[.h], [], [.b]⟩)]

theorem sl05Reach_e (x : DR A_sl05Reach.hs) : (evFn (envTo Try.prog C20 mtab0) noLoops Try.f87 (A_sl05Reach.enc x).1).to (fun q => decX R_sl05Reach .ret [q.1] q.2) = sl05Reach_t x.1 x.2 := by kernel_rfl

theorem sl05Reach_m (x : DR A_sl05Reach.hs) : meanF (envTo Try.prog C20 mtab0) noLoops Try.f87 A_sl05Reach R_sl05Reach x = some (show SumD (R_sl05Reach.map (·.2)) from sl05Reach x.1 x.2) := @meanF_tot _ _ _ _ _ _ _ (sl05Reach_e x) (show Inhabited (Bool) from inferInstance) (by kernel_rfl)

theorem sl05Reach_ok : SpecOk Try.prog 87 (evFn (envTo Try.prog C20 mtab0) noLoops Try.f87) := fnL_ok (envTo_ok (C20_ok) (mtab0_ok _)) mixedO Try.func87 (by kernel_rfl) (c := bodyOf Try.f87) (by kernel_rfl) (loopFree_ok (by kernel_rfl))

theorem sl05Reach_told : SpecOk Try.prog 87 (toldT A_sl05Reach R_sl05Reach (fun x => sl05Reach x.1 x.2) (C20 87)) := toldT_ok (by kernel_rfl) sl05Reach_ok (rest_ok (C20_ok) _) sl05Reach_m

noncomputable def C21 : Tab := tab 87 (toldT A_sl05Reach R_sl05Reach (fun x => sl05Reach x.1 x.2) (C20 87)) C20
theorem C21_ok : TabOk Try.prog C21 := tab_ok (sl05Reach_told) (C20_ok)

def S_sl05List_l3 : Shp := ⟨[.h, .undef, .h, .h], [], [.sl [.f .f32, .f .f32], .i .i64, .i .i64]⟩
def X_sl05List_l3 : List XShp := [(.ret, ⟨[.undef, .lb false, .undef, .undef], [], []⟩), (.exit 0, ⟨[.undef, .undef, .h, .undef], [], [.i .i64]⟩)]

noncomputable def L_sl05List_l3 : Loops := (⟨27, lvT [(3, [0, 2, 3, 4])], mdT [(3, .normal, [], [2]), (3, .exit 0, [], [0, 2, 4]), (3, .ret, [], [0, 3, 4])], fun k vs bs => .bad⟩ : Loops)

theorem sl05List_l3_e (y0 : List (Nat × Nat)) (y1 : Int) (s : Int) : (loopStep (envTo Try.prog C21 mtab0) L_sl05List_l3 3 (loopC (bodyOf Try.f91) 3) (S_sl05List_l3.enc (y0, y1, s)).1 (S_sl05List_l3.enc (y0, y1, s)).2).to (stepD S_sl05List_l3 X_sl05List_l3) = (sl05List_l3_t y0 y1 s).map (Sum.map (fun s : Int => (show DR S_sl05List_l3.hs from (y0, y1, s))) id) := by kernel_rfl

theorem sl05List_l3_r (x : DR S_sl05List_l3.hs) : (sl05List_l3 x.1 x.2.1 x.2.2 : Option (SumD (X_sl05List_l3.map (·.2)))) = runL (meanS (envTo Try.prog C21 mtab0) L_sl05List_l3 3 (loopC (bodyOf Try.f91) 3) S_sl05List_l3 X_sl05List_l3) x := run_of (fun s : Int => (show DR S_sl05List_l3.hs from (x.1, x.2.1, s))) (sl05List_l3_e (x.1) (x.2.1)) x.2.2

theorem sl05List_l3_k (L : Loops) (hn : L_sl05List_l3.n = L.n) (hlv : L_sl05List_l3.lv 3 = L.lv 3) (hL : ∀ vs bs, L.loop 3 vs bs = toldL S_sl05List_l3 X_sl05List_l3 (fun x => sl05List_l3 x.1 x.2.1 x.2.2) vs bs) : LOk Try.prog (envTo Try.prog C21 mtab0) L 3 (loopC (bodyOf Try.f91) 3) := toldL_ok (L1 := L_sl05List_l3) (envTo_ok (C21_ok) (mtab0_ok _)) mixedO hn hlv (loopFree_ok (by kernel_rfl)) sl05List_l3_r hL

def A_sl05List : Shp := ⟨[.h], [], [.sl [.f .f32, .f .f32]]⟩
def R_sl05List : List XShp := [(.ret, ⟨[.h], [], [.b]⟩)]

noncomputable def L_sl05List : Loops := (⟨27, lvT [(3, [0, 2, 3, 4])], mdT [(3, .normal, [], [2]), (3, .exit 0, [], [0, 2, 4]), (3, .ret, [], [0, 3, 4])], fun k vs bs => bif Nat.beq k 3 then toldL S_sl05List_l3 X_sl05List_l3 (fun x => sl05List_l3 x.1 x.2.1 x.2.2) vs bs else .bad⟩ : Loops)

theorem sl05List_e (x : DR A_sl05List.hs) : (evFn (envTo Try.prog C21 mtab0) L_sl05List Try.f91 (A_sl05List.enc x).1).to (fun q => decX R_sl05List .ret [q.1] q.2) = sl05List_t x := by kernel_rfl

theorem sl05List_m (x : DR A_sl05List.hs) : meanF (envTo Try.prog C21 mtab0) L_sl05List Try.f91 A_sl05List R_sl05List x = (show Option (SumD (R_sl05List.map (·.2))) from sl05List x) := meanF_of (sl05List_e x)

theorem sl05List_ok : SpecOk Try.prog 91 (evFn (envTo Try.prog C21 mtab0) L_sl05List Try.f91) := fnL_ok (envTo_ok (C21_ok) (mtab0_ok _)) mixedO Try.func91 (by kernel_rfl) (c := bodyOf Try.f91) (by kernel_rfl) (loopsL (l := [(3, loopC (bodyOf Try.f91) 3)]) (by kernel_rfl) (lk_cons (sl05List_l3_k _ rfl rfl (fun _ _ => rfl)) lk_nil))

theorem sl05List_told : SpecOk Try.prog 91 (toldO A_sl05List R_sl05List (fun x => sl05List x) (C21 91)) := toldO_ok (by kernel_rfl) sl05List_ok (rest_ok (C21_ok) _) sl05List_m

noncomputable def C22 : Tab := tab 91 (toldO A_sl05List R_sl05List (fun x => sl05List x) (C21 91)) C21
theorem C22_ok : TabOk Try.prog C22 := tab_ok (sl05List_told) (C21_ok)

def A_sl00In : Shp := ⟨[.h, .h, .h], [], [.i .i64, .i .i64, .i .i64]⟩
def R_sl00In : List XShp := [(.ret, ⟨[.h], [], [.b]⟩)]

theorem sl00In_e (x : DR A_sl00In.hs) : (evFn (envTo Try.prog C22 mtab0) noLoops Try.f95 (A_sl00In.enc x).1).to (fun q => decX R_sl00In .ret [q.1] q.2) = sl00In_t x.1 x.2.1 x.2.2 := by kernel_rfl

theorem sl00In_m (x : DR A_sl00In.hs) : meanF (envTo Try.prog C22 mtab0) noLoops Try.f95 A_sl00In R_sl00In x = some (show SumD (R_sl00In.map (·.2)) from sl00In x.1 x.2.1 x.2.2) := @meanF_tot _ _ _ _ _ _ _ (sl00In_e x) (show Inhabited (Bool) from inferInstance) (by kernel_rfl)

theorem sl00In_ok : SpecOk Try.prog 95 (evFn (envTo Try.prog C22 mtab0) noLoops Try.f95) := fnL_ok (envTo_ok (C22_ok) (mtab0_ok _)) mixedO Try.func95 (by kernel_rfl) (c := bodyOf Try.f95) (by kernel_rfl) (loopFree_ok (by kernel_rfl))

theorem sl00In_told : SpecOk Try.prog 95 (toldT A_sl00In R_sl00In (fun x => sl00In x.1 x.2.1 x.2.2) (C22 95)) := toldT_ok (by kernel_rfl) sl00In_ok (rest_ok (C22_ok) _) sl00In_m

noncomputable def C23 : Tab := tab 95 (toldT A_sl00In R_sl00In (fun x => sl00In x.1 x.2.1 x.2.2) (C22 95)) C22
theorem C23_ok : TabOk Try.prog C23 := tab_ok (sl00In_told) (C22_ok)

def S_sl02Finite_l2 : Shp := ⟨[.h, .undef, .h], [], [.sl [.f .f32], .i .i64]⟩
def X_sl02Finite_l2 : List XShp := [(.ret, ⟨[.undef, .lb false, .undef], [], []⟩), (.exit 0, ⟨[.undef, .undef, .undef], [], []⟩)]

noncomputable def L_sl02Finite_l2 : Loops := (⟨16, lvT [(2, [0, 2, 3])], mdT [(2, .normal, [], [2]), (2, .exit 0, [], [0, 2, 3]), (2, .ret, [], [0, 3])], fun k vs bs => .bad⟩ : Loops)

theorem sl02Finite_l2_e (y0 : List Nat) (s : Int) : (loopStep (envTo Try.prog C23 mtab0) L_sl02Finite_l2 2 (loopC (bodyOf Try.f85) 2) (S_sl02Finite_l2.enc (y0, s)).1 (S_sl02Finite_l2.enc (y0, s)).2).to (stepD S_sl02Finite_l2 X_sl02Finite_l2) = (sl02Finite_l2_t y0 s).map (Sum.map (fun s : Int => (show DR S_sl02Finite_l2.hs from (y0, s))) id) := by kernel_rfl

theorem sl02Finite_l2_r (x : DR S_sl02Finite_l2.hs) : (sl02Finite_l2 x.1 x.2 : Option (SumD (X_sl02Finite_l2.map (·.2)))) = runL (meanS (envTo Try.prog C23 mtab0) L_sl02Finite_l2 2 (loopC (bodyOf Try.f85) 2) S_sl02Finite_l2 X_sl02Finite_l2) x := run_of (fun s : Int => (show DR S_sl02Finite_l2.hs from (x.1, s))) (sl02Finite_l2_e (x.1)) x.2

theorem sl02Finite_l2_k (L : Loops) (hn : L_sl02Finite_l2.n = L.n) (hlv : L_sl02Finite_l2.lv 2 = L.lv 2) (hL : ∀ vs bs, L.loop 2 vs bs = toldL S_sl02Finite_l2 X_sl02Finite_l2 (fun x => sl02Finite_l2 x.1 x.2) vs bs) : LOk Try.prog (envTo Try.prog C23 mtab0) L 2 (loopC (bodyOf Try.f85) 2) := toldL_ok (L1 := L_sl02Finite_l2) (envTo_ok (C23_ok) (mtab0_ok _)) mixedO hn hlv (loopFree_ok (by kernel_rfl)) sl02Finite_l2_r hL

def A_sl02Finite : Shp := ⟨[.h], [], [.sl [.f .f32]]⟩
def R_sl02Finite : List XShp := [(.ret, ⟨[.h], [], [.b]⟩)]

noncomputable def L_sl02Finite : Loops := (⟨16, lvT [(2, [0, 2, 3])], mdT [(2, .normal, [], [2]), (2, .exit 0, [], [0, 2, 3]), (2, .ret, [], [0, 3])], fun k vs bs => bif Nat.beq k 2 then toldL S_sl02Finite_l2 X_sl02Finite_l2 (fun x => sl02Finite_l2 x.1 x.2) vs bs else .bad⟩ : Loops)

theorem sl02Finite_e (x : DR A_sl02Finite.hs) : (evFn (envTo Try.prog C23 mtab0) L_sl02Finite Try.f85 (A_sl02Finite.enc x).1).to (fun q => decX R_sl02Finite .ret [q.1] q.2) = sl02Finite_t x := by kernel_rfl

theorem sl02Finite_m (x : DR A_sl02Finite.hs) : meanF (envTo Try.prog C23 mtab0) L_sl02Finite Try.f85 A_sl02Finite R_sl02Finite x = (show Option (SumD (R_sl02Finite.map (·.2))) from sl02Finite x) := meanF_of (sl02Finite_e x)

theorem sl02Finite_ok : SpecOk Try.prog 85 (evFn (envTo Try.prog C23 mtab0) L_sl02Finite Try.f85) := fnL_ok (envTo_ok (C23_ok) (mtab0_ok _)) mixedO Try.func85 (by kernel_rfl) (c := bodyOf Try.f85) (by kernel_rfl) (loopsL (l := [(2, loopC (bodyOf Try.f85) 2)]) (by kernel_rfl) (lk_cons (sl02Finite_l2_k _ rfl rfl (fun _ _ => rfl)) lk_nil))

theorem sl02Finite_told : SpecOk Try.prog 85 (toldO A_sl02Finite R_sl02Finite (fun x => sl02Finite x) (C23 85)) := toldO_ok (by kernel_rfl) sl02Finite_ok (rest_ok (C23_ok) _) sl02Finite_m

noncomputable def C24 : Tab := tab 85 (toldO A_sl02Finite R_sl02Finite (fun x => sl02Finite x) (C23 85)) C23
theorem C24_ok : TabOk Try.prog C24 := tab_ok (sl02Finite_told) (C23_ok)

def A_sl05Ins : Shp := ⟨[.h], [], [.sl [.f .f32]]⟩
def R_sl05Ins : List XShp := [(.ret, ⟨[.h], [], [.b]⟩)]

theorem sl05Ins_e (x : DR A_sl05Ins.hs) : (evFn (envTo Try.prog C24 mtab0) noLoops Try.f84 (A_sl05Ins.enc x).1).to (fun q => decX R_sl05Ins .ret [q.1] q.2) = sl05Ins_t x := by kernel_rfl

theorem sl05Ins_m (x : DR A_sl05Ins.hs) : meanF (envTo Try.prog C24 mtab0) noLoops Try.f84 A_sl05Ins R_sl05Ins x = (show Option (SumD (R_sl05Ins.map (·.2))) from sl05Ins x) := meanF_of (sl05Ins_e x)

theorem sl05Ins_ok : SpecOk Try.prog 84 (evFn (envTo Try.prog C24 mtab0) noLoops Try.f84) := fnL_ok (envTo_ok (C24_ok) (mtab0_ok _)) mixedO Try.func84 (by kernel_rfl) (c := bodyOf Try.f84) (by kernel_rfl) (loopFree_ok (by kernel_rfl))

theorem sl05Ins_told : SpecOk Try.prog 84 (toldO A_sl05Ins R_sl05Ins (fun x => sl05Ins x) (C24 84)) := toldO_ok (by kernel_rfl) sl05Ins_ok (rest_ok (C24_ok) _) sl05Ins_m

noncomputable def C25 : Tab := tab 84 (toldO A_sl05Ins R_sl05Ins (fun x => sl05Ins x) (C24 84)) C24
theorem C25_ok : TabOk Try.prog C25 := tab_ok (sl05Ins_told) (C24_ok)

def A_sl05Shares : Shp := ⟨[.dpt [.h, .h] 0, .h], [], [.f .f32, .f .f32, .f .f32]⟩
def R_sl05Shares : List XShp := [(.ret, ⟨[.tup [.h, .h, .h, .h]], [], [.f .f32, .f .f32, .f .f32, .b]⟩)]

theorem sl05Shares_e (x : DR A_sl05Shares.hs) : (evFn (envTo Try.prog C25 mtab0) noLoops Try.f125 (A_sl05Shares.enc x).1).to (fun q => decX R_sl05Shares .ret [q.1] q.2) = sl05Shares_t x.1 x.2.1 x.2.2 := by kernel_rfl

theorem sl05Shares_m (x : DR A_sl05Shares.hs) : meanF (envTo Try.prog C25 mtab0) noLoops Try.f125 A_sl05Shares R_sl05Shares x = some (show SumD (R_sl05Shares.map (·.2)) from sl05Shares x.1 x.2.1 x.2.2) := @meanF_tot _ _ _ _ _ _ _ (sl05Shares_e x) (show Inhabited (Nat × Nat × Nat × Bool) from inferInstance) (by kernel_rfl)

theorem sl05Shares_ok : SpecOk Try.prog 125 (evFn (envTo Try.prog C25 mtab0) noLoops Try.f125) := fnL_ok (envTo_ok (C25_ok) (mtab0_ok _)) mixedO Try.func125 (by kernel_rfl) (c := bodyOf Try.f125) (by kernel_rfl) (loopFree_ok (by kernel_rfl))

theorem sl05Shares_told : SpecOk Try.prog 125 (toldT A_sl05Shares R_sl05Shares (fun x => sl05Shares x.1 x.2.1 x.2.2) (C25 125)) := toldT_ok (by kernel_rfl) sl05Shares_ok (rest_ok (C25_ok) _) sl05Shares_m

noncomputable def C26 : Tab := tab 125 (toldT A_sl05Shares R_sl05Shares (fun x => sl05Shares x.1 x.2.1 x.2.2) (C25 125)) C25
theorem C26_ok : TabOk Try.prog C26 := tab_ok (sl05Shares_told) (C25_ok)

def S_sl05Route_l6 : Shp := ⟨[.h, .h, .h, .h, .slw 0 1, .h], [.arr [.f .f32] false], [.sl [.f .f32], .f .f32, .f .f32, .f .f32, .i .i64, .sl [.f .f32]]⟩
def X_sl05Route_l6 : List XShp := [(.exit 0, ⟨[.undef, .undef, .undef, .undef, .slw 0 1, .undef], [.arr [.f .f32] false], [.sl [.f .f32]]⟩)]

noncomputable def L_sl05Route_l6 : Loops := (⟨63, lvT [(6, [1, 10, 11, 12, 14, 15])], mdT [(6, .exit 0, [], [1, 10, 11, 12, 15])], fun k vs bs => .bad⟩ : Loops)

theorem sl05Route_l6_e (y0 : List Nat) (y1 : Nat) (y2 : Nat) (y3 : Nat) (s : Int × List Nat) : (loopStep (envTo Try.prog C26 mtab0) L_sl05Route_l6 6 (loopC (bodyOf Try.f88) 6) (S_sl05Route_l6.enc (y0, y1, y2, y3, s.1, s.2)).1 (S_sl05Route_l6.enc (y0, y1, y2, y3, s.1, s.2)).2).to (stepD S_sl05Route_l6 X_sl05Route_l6) = (sl05Route_l6_t y0 y1 y2 y3 s.1 s.2).map (Sum.map (fun s : Int × List Nat => (show DR S_sl05Route_l6.hs from (y0, y1, y2, y3, s.1, s.2))) id) := by kernel_rfl

theorem sl05Route_l6_r (x : DR S_sl05Route_l6.hs) : (sl05Route_l6 x.1 x.2.1 x.2.2.1 x.2.2.2.1 x.2.2.2.2.1 x.2.2.2.2.2 : Option (SumD (X_sl05Route_l6.map (·.2)))) = runL (meanS (envTo Try.prog C26 mtab0) L_sl05Route_l6 6 (loopC (bodyOf Try.f88) 6) S_sl05Route_l6 X_sl05Route_l6) x := run_of (fun s : Int × List Nat => (show DR S_sl05Route_l6.hs from (x.1, x.2.1, x.2.2.1, x.2.2.2.1, s.1, s.2))) (sl05Route_l6_e (x.1) (x.2.1) (x.2.2.1) (x.2.2.2.1)) (x.2.2.2.2.1, x.2.2.2.2.2)

theorem sl05Route_l6_k (L : Loops) (hn : L_sl05Route_l6.n = L.n) (hlv : L_sl05Route_l6.lv 6 = L.lv 6) (hL : ∀ vs bs, L.loop 6 vs bs = toldL S_sl05Route_l6 X_sl05Route_l6 (fun x => sl05Route_l6 x.1 x.2.1 x.2.2.1 x.2.2.2.1 x.2.2.2.2.1 x.2.2.2.2.2) vs bs) : LOk Try.prog (envTo Try.prog C26 mtab0) L 6 (loopC (bodyOf Try.f88) 6) := toldL_ok (L1 := L_sl05Route_l6) (envTo_ok (C26_ok) (mtab0_ok _)) mixedO hn hlv (loopFree_ok (by kernel_rfl)) sl05Route_l6_r hL

def A_sl05Route : Shp := ⟨[.dpt [.h, .h] 0, .h, .h, .h], [], [.f .f32, .f .f32, .sl [.f .f32], .f .f32, .f .f32]⟩
def R_sl05Route : List XShp := [(.ret, ⟨[.tup [.nils, .lb false]], [], []⟩), (.ret, ⟨[.tup [.slw 0 1, .lb true]], [.arr [.f .f32] false], [.sl [.f .f32]]⟩)]

noncomputable def L_sl05Route : Loops := (⟨63, lvT [(6, [1, 10, 11, 12, 14, 15])], mdT [(6, .exit 0, [], [1, 10, 11, 12, 15])], fun k vs bs => bif Nat.beq k 6 then toldL S_sl05Route_l6 X_sl05Route_l6 (fun x => sl05Route_l6 x.1 x.2.1 x.2.2.1 x.2.2.2.1 x.2.2.2.2.1 x.2.2.2.2.2) vs bs else .bad⟩ : Loops)

theorem sl05Route_e (x : DR A_sl05Route.hs) : (evFn (envTo Try.prog C26 mtab0) L_sl05Route Try.f88 (A_sl05Route.enc x).1).to (fun q => decX R_sl05Route .ret [q.1] q.2) = sl05Route_t x.1 x.2.1 x.2.2.1 x.2.2.2.1 x.2.2.2.2 := by kernel_rfl

theorem sl05Route_m (x : DR A_sl05Route.hs) : meanF (envTo Try.prog C26 mtab0) L_sl05Route Try.f88 A_sl05Route R_sl05Route x = (show Option (SumD (R_sl05Route.map (·.2))) from sl05Route x.1 x.2.1 x.2.2.1 x.2.2.2.1 x.2.2.2.2) := meanF_of (sl05Route_e x)

theorem sl05Route_ok : SpecOk Try.prog 88 (evFn (envTo Try.prog C26 mtab0) L_sl05Route Try.f88) := fnL_ok (envTo_ok (C26_ok) (mtab0_ok _)) mixedO Try.func88 (by kernel_rfl) (c := bodyOf Try.f88) (by kernel_rfl) (loopsL (l := [(6, loopC (bodyOf Try.f88) 6)]) (by kernel_rfl) (lk_cons (sl05Route_l6_k _ rfl rfl (fun _ _ => rfl)) lk_nil))

theorem sl05Route_told : SpecOk Try.prog 88 (toldO A_sl05Route R_sl05Route (fun x => sl05Route x.1 x.2.1 x.2.2.1 x.2.2.2.1 x.2.2.2.2) (C26 88)) := toldO_ok (by kernel_rfl) sl05Route_ok (rest_ok (C26_ok) _) sl05Route_m

noncomputable def C27 : Tab := tab 88 (toldO A_sl05Route R_sl05Route (fun x => sl05Route x.1 x.2.1 x.2.2.1 x.2.2.2.1 x.2.2.2.2) (C26 88)) C26
theorem C27_ok : TabOk Try.prog C27 := tab_ok (sl05Route_told) (C26_ok)

def S_sl05Chain_l3 : Shp := ⟨[.h, .h, .undef, .undef, .slw 0 1, .h, .h], [.arr [.f .f32] false], [.sl [.f .f32, .f .f32], .f .f32, .i .i64, .i .i64, .sl [.f .f32]]⟩
def X_sl05Chain_l3 : List XShp := [(.ret, ⟨[.undef, .undef, .nils, .lb false, .undef, .undef, .undef], [], []⟩), (.exit 0, ⟨[.undef, .undef, .undef, .undef, .slw 0 1, .undef, .undef], [.arr [.f .f32] false], [.sl [.f .f32]]⟩)]

noncomputable def L_sl05Chain_l3 : Loops := (⟨37, lvT [(3, [0, 2, 6, 7, 8, 16, 17])], mdT [(3, .normal, [], [6, 7]), (3, .exit 0, [], [0, 2, 6, 7, 16, 17]), (3, .ret, [], [0, 2, 8, 16, 17])], fun k vs bs => .bad⟩ : Loops)

theorem sl05Chain_l3_e (y0 : List (Nat × Nat)) (y1 : Nat) (y2 : Int) (s : Int × List Nat) : (loopStep (envTo Try.prog C27 mtab0) L_sl05Chain_l3 3 (loopC (bodyOf Try.f92) 3) (S_sl05Chain_l3.enc (y0, y1, y2, s.1, s.2)).1 (S_sl05Chain_l3.enc (y0, y1, y2, s.1, s.2)).2).to (stepD S_sl05Chain_l3 X_sl05Chain_l3) = (sl05Chain_l3_t y0 y1 y2 s.1 s.2).map (Sum.map (fun s : Int × List Nat => (show DR S_sl05Chain_l3.hs from (y0, y1, y2, s.1, s.2))) id) := by kernel_rfl

theorem sl05Chain_l3_r (x : DR S_sl05Chain_l3.hs) : (sl05Chain_l3 x.1 x.2.1 x.2.2.1 x.2.2.2.1 x.2.2.2.2 : Option (SumD (X_sl05Chain_l3.map (·.2)))) = runL (meanS (envTo Try.prog C27 mtab0) L_sl05Chain_l3 3 (loopC (bodyOf Try.f92) 3) S_sl05Chain_l3 X_sl05Chain_l3) x := run_of (fun s : Int × List Nat => (show DR S_sl05Chain_l3.hs from (x.1, x.2.1, x.2.2.1, s.1, s.2))) (sl05Chain_l3_e (x.1) (x.2.1) (x.2.2.1)) (x.2.2.2.1, x.2.2.2.2)

theorem sl05Chain_l3_k (L : Loops) (hn : L_sl05Chain_l3.n = L.n) (hlv : L_sl05Chain_l3.lv 3 = L.lv 3) (hL : ∀ vs bs, L.loop 3 vs bs = toldL S_sl05Chain_l3 X_sl05Chain_l3 (fun x => sl05Chain_l3 x.1 x.2.1 x.2.2.1 x.2.2.2.1 x.2.2.2.2) vs bs) : LOk Try.prog (envTo Try.prog C27 mtab0) L 3 (loopC (bodyOf Try.f92) 3) := toldL_ok (L1 := L_sl05Chain_l3) (envTo_ok (C27_ok) (mtab0_ok _)) mixedO hn hlv (loopFree_ok (by kernel_rfl)) sl05Chain_l3_r hL

def A_sl05Chain : Shp := ⟨[.h, .h, .h], [], [.sl [.f .f32, .f .f32], .sl [.f .f32], .f .f32]⟩
def R_sl05Chain : List XShp := [(.ret, ⟨[.tup [.nils, .lb false]], [], []⟩), (.ret, ⟨[.tup [.slw 0 1, .lb true]], [.arr [.f .f32] false], [.sl [.f .f32]]⟩)]

noncomputable def L_sl05Chain : Loops := (⟨37, lvT [(3, [0, 2, 6, 7, 8, 16, 17])], mdT [(3, .normal, [], [6, 7]), (3, .exit 0, [], [0, 2, 6, 7, 16, 17]), (3, .ret, [], [0, 2, 8, 16, 17])], fun k vs bs => bif Nat.beq k 3 then toldL S_sl05Chain_l3 X_sl05Chain_l3 (fun x => sl05Chain_l3 x.1 x.2.1 x.2.2.1 x.2.2.2.1 x.2.2.2.2) vs bs else .bad⟩ : Loops)

theorem sl05Chain_e (x : DR A_sl05Chain.hs) : (evFn (envTo Try.prog C27 mtab0) L_sl05Chain Try.f92 (A_sl05Chain.enc x).1).to (fun q => decX R_sl05Chain .ret [q.1] q.2) = sl05Chain_t x.1 x.2.1 x.2.2 := by kernel_rfl

theorem sl05Chain_m (x : DR A_sl05Chain.hs) : meanF (envTo Try.prog C27 mtab0) L_sl05Chain Try.f92 A_sl05Chain R_sl05Chain x = (show Option (SumD (R_sl05Chain.map (·.2))) from sl05Chain x.1 x.2.1 x.2.2) := meanF_of (sl05Chain_e x)

theorem sl05Chain_ok : SpecOk Try.prog 92 (evFn (envTo Try.prog C27 mtab0) L_sl05Chain Try.f92) := fnL_ok (envTo_ok (C27_ok) (mtab0_ok _)) mixedO Try.func92 (by kernel_rfl) (c := bodyOf Try.f92) (by kernel_rfl) (loopsL (l := [(3, loopC (bodyOf Try.f92) 3)]) (by kernel_rfl) (lk_cons (sl05Chain_l3_k _ rfl rfl (fun _ _ => rfl)) lk_nil))

theorem sl05Chain_told : SpecOk Try.prog 92 (toldO A_sl05Chain R_sl05Chain (fun x => sl05Chain x.1 x.2.1 x.2.2) (C27 92)) := toldO_ok (by kernel_rfl) sl05Chain_ok (rest_ok (C27_ok) _) sl05Chain_m

noncomputable def C28 : Tab := tab 92 (toldO A_sl05Chain R_sl05Chain (fun x => sl05Chain x.1 x.2.1 x.2.2) (C27 92)) C27
theorem C28_ok : TabOk Try.prog C28 := tab_ok (sl05Chain_told) (C27_ok)

def S_sRouteShared_l5 : Shp := ⟨[.h, .h, .h, .undef, .undef, .slw 0 1, .h, .h], [.arr [.osl [.f .f32]] false], [.sl [.f .f32, .f .f32], .sl [.sl [.f .f32]], .f .f32, .i .i64, .i .i64, .sl [.osl [.f .f32]]]⟩
def X_sRouteShared_l5 : List XShp := [(.ret, ⟨[.undef, .undef, .undef, .nils, .lb false, .undef, .undef, .undef], [], []⟩), (.exit 0, ⟨[.undef, .undef, .undef, .undef, .undef, .slw 0 1, .undef, .undef], [.arr [.osl [.f .f32]] false], [.sl [.osl [.f .f32]]]⟩)]

noncomputable def L_sRouteShared_l5 : Loops := (⟨62, lvT [(5, [0, 1, 2, 8, 9, 10, 34, 35])], mdT [(5, .normal, [], [8, 9]), (5, .exit 0, [], [0, 1, 2, 8, 9, 34, 35]), (5, .ret, [], [0, 1, 2, 10, 34, 35])], fun k vs bs => .bad⟩ : Loops)

theorem sRouteShared_l5_e (y0 : List (Nat × Nat)) (y1 : List (List Nat)) (y2 : Nat) (y3 : Int) (s : Int × List (List Nat)) : (loopStep (envTo Try.prog C28 mtab0) L_sRouteShared_l5 5 (loopC (bodyOf Try.f40) 5) (S_sRouteShared_l5.enc (y0, y1, y2, y3, s.1, s.2)).1 (S_sRouteShared_l5.enc (y0, y1, y2, y3, s.1, s.2)).2).to (stepD S_sRouteShared_l5 X_sRouteShared_l5) = (sRouteShared_l5_t y0 y1 y2 y3 s.1 s.2).map (Sum.map (fun s : Int × List (List Nat) => (show DR S_sRouteShared_l5.hs from (y0, y1, y2, y3, s.1, s.2))) id) := by kernel_rfl

theorem sRouteShared_l5_r (x : DR S_sRouteShared_l5.hs) : (sRouteShared_l5 x.1 x.2.1 x.2.2.1 x.2.2.2.1 x.2.2.2.2.1 x.2.2.2.2.2 : Option (SumD (X_sRouteShared_l5.map (·.2)))) = runL (meanS (envTo Try.prog C28 mtab0) L_sRouteShared_l5 5 (loopC (bodyOf Try.f40) 5) S_sRouteShared_l5 X_sRouteShared_l5) x := run_of (fun s : Int × List (List Nat) => (show DR S_sRouteShared_l5.hs from (x.1, x.2.1, x.2.2.1, x.2.2.2.1, s.1, s.2))) (sRouteShared_l5_e (x.1) (x.2.1) (x.2.2.1) (x.2.2.2.1)) (x.2.2.2.2.1, x.2.2.2.2.2)

theorem sRouteShared_l5_k (L : Loops) (hn : L_sRouteShared_l5.n = L.n) (hlv : L_sRouteShared_l5.lv 5 = L.lv 5) (hL : ∀ vs bs, L.loop 5 vs bs = toldL S_sRouteShared_l5 X_sRouteShared_l5 (fun x => sRouteShared_l5 x.1 x.2.1 x.2.2.1 x.2.2.2.1 x.2.2.2.2.1 x.2.2.2.2.2) vs bs) : LOk Try.prog (envTo Try.prog C28 mtab0) L 5 (loopC (bodyOf Try.f40) 5) := toldL_ok (L1 := L_sRouteShared_l5) (envTo_ok (C28_ok) (mtab0_ok _)) mixedO hn hlv (loopFree_ok (by kernel_rfl)) sRouteShared_l5_r hL

def A_sRouteShared : Shp := ⟨[.h, .h, .h, .h], [], [.sl [.f .f32, .f .f32], .sl [.sl [.f .f32]], .f .f32, .i .i64]⟩
def R_sRouteShared : List XShp := [(.ret, ⟨[.tup [.nils, .lb false]], [], []⟩), (.ret, ⟨[.tup [.slw 0 1, .lb true]], [.arr [.osl [.f .f32]] false], [.sl [.osl [.f .f32]]]⟩)]

noncomputable def L_sRouteShared : Loops := (⟨62, lvT [(5, [0, 1, 2, 8, 9, 10, 34, 35])], mdT [(5, .normal, [], [8, 9]), (5, .exit 0, [], [0, 1, 2, 8, 9, 34, 35]), (5, .ret, [], [0, 1, 2, 10, 34, 35])], fun k vs bs => bif Nat.beq k 5 then toldL S_sRouteShared_l5 X_sRouteShared_l5 (fun x => sRouteShared_l5 x.1 x.2.1 x.2.2.1 x.2.2.2.1 x.2.2.2.2.1 x.2.2.2.2.2) vs bs else .bad⟩ : Loops)

theorem sRouteShared_e (x : DR A_sRouteShared.hs) : (evFn (envTo Try.prog C28 mtab0) L_sRouteShared Try.f40 (A_sRouteShared.enc x).1).to (fun q => decX R_sRouteShared .ret [q.1] q.2) = sRouteShared_t x.1 x.2.1 x.2.2.1 x.2.2.2 := by kernel_rfl

theorem sRouteShared_m (x : DR A_sRouteShared.hs) : meanF (envTo Try.prog C28 mtab0) L_sRouteShared Try.f40 A_sRouteShared R_sRouteShared x = (show Option (SumD (R_sRouteShared.map (·.2))) from sRouteShared x.1 x.2.1 x.2.2.1 x.2.2.2) := meanF_of (sRouteShared_e x)

theorem sRouteShared_ok : SpecOk Try.prog 40 (evFn (envTo Try.prog C28 mtab0) L_sRouteShared Try.f40) := fnL_ok (envTo_ok (C28_ok) (mtab0_ok _)) mixedO Try.func40 (by kernel_rfl) (c := bodyOf Try.f40) (by kernel_rfl) (loopsL (l := [(5, loopC (bodyOf Try.f40) 5)]) (by kernel_rfl) (lk_cons (sRouteShared_l5_k _ rfl rfl (fun _ _ => rfl)) lk_nil))

theorem sRouteShared_told : SpecOk Try.prog 40 (toldO A_sRouteShared R_sRouteShared (fun x => sRouteShared x.1 x.2.1 x.2.2.1 x.2.2.2) (C28 40)) := toldO_ok (by kernel_rfl) sRouteShared_ok (rest_ok (C28_ok) _) sRouteShared_m

noncomputable def C29 : Tab := tab 40 (toldO A_sRouteShared R_sRouteShared (fun x => sRouteShared x.1 x.2.1 x.2.2.1 x.2.2.2) (C28 40)) C28
theorem C29_ok : TabOk Try.prog C29 := tab_ok (sRouteShared_told) (C28_ok)

def A_iwithin : Shp := ⟨[.h, .h, .h], [], [.i .i64, .i .i64, .i .i64]⟩
def R_iwithin : List XShp := [(.ret, ⟨[.h], [], [.b]⟩)]

theorem iwithin_e (x : DR A_iwithin.hs) : (evFn (envTo Try.prog C29 mtab0) noLoops Try.f96 (A_iwithin.enc x).1).to (fun q => decX R_iwithin .ret [q.1] q.2) = iwithin_t x.1 x.2.1 x.2.2 := by kernel_rfl

theorem iwithin_m (x : DR A_iwithin.hs) : meanF (envTo Try.prog C29 mtab0) noLoops Try.f96 A_iwithin R_iwithin x = some (show SumD (R_iwithin.map (·.2)) from iwithin x.1 x.2.1 x.2.2) := @meanF_tot _ _ _ _ _ _ _ (iwithin_e x) (show Inhabited (Bool) from inferInstance) (by kernel_rfl)

theorem iwithin_ok : SpecOk Try.prog 96 (evFn (envTo Try.prog C29 mtab0) noLoops Try.f96) := fnL_ok (envTo_ok (C29_ok) (mtab0_ok _)) mixedO Try.func96 (by kernel_rfl) (c := bodyOf Try.f96) (by kernel_rfl) (loopFree_ok (by kernel_rfl))

theorem iwithin_told : SpecOk Try.prog 96 (toldT A_iwithin R_iwithin (fun x => iwithin x.1 x.2.1 x.2.2) (C29 96)) := toldT_ok (by kernel_rfl) iwithin_ok (rest_ok (C29_ok) _) iwithin_m

noncomputable def C30 : Tab := tab 96 (toldT A_iwithin R_iwithin (fun x => iwithin x.1 x.2.1 x.2.2) (C29 96)) C29
theorem C30_ok : TabOk Try.prog C30 := tab_ok (iwithin_told) (C29_ok)

def A_iValidReach : Shp := ⟨[.agg [.h, .h]], [], [.f .f32, .f .f32]⟩
def R_iValidReach : List XShp := [(.ret, ⟨[.h], [], [.b]⟩)]

theorem iValidReach_e (x : DR A_iValidReach.hs) : (evFn (envTo Try.prog C30 mtab0) noLoops Try.f126 (A_iValidReach.enc x).1).to (fun q => decX R_iValidReach .ret [q.1] q.2) = iValidReach_t x.1 x.2 := by kernel_rfl

theorem iValidReach_m (x : DR A_iValidReach.hs) : meanF (envTo Try.prog C30 mtab0) noLoops Try.f126 A_iValidReach R_iValidReach x = some (show SumD (R_iValidReach.map (·.2)) from iValidReach x.1 x.2) := @meanF_tot _ _ _ _ _ _ _ (iValidReach_e x) (show Inhabited (Bool) from inferInstance) (by kernel_rfl)

theorem iValidReach_ok : SpecOk Try.prog 126 (evFn (envTo Try.prog C30 mtab0) noLoops Try.f126) := fnL_ok (envTo_ok (C30_ok) (mtab0_ok _)) mixedO Try.func126 (by kernel_rfl) (c := bodyOf Try.f126) (by kernel_rfl) (loopFree_ok (by kernel_rfl))

theorem iValidReach_told : SpecOk Try.prog 126 (toldT A_iValidReach R_iValidReach (fun x => iValidReach x.1 x.2) (C30 126)) := toldT_ok (by kernel_rfl) iValidReach_ok (rest_ok (C30_ok) _) iValidReach_m

noncomputable def C31 : Tab := tab 126 (toldT A_iValidReach R_iValidReach (fun x => iValidReach x.1 x.2) (C30 126)) C30
theorem C31_ok : TabOk Try.prog C31 := tab_ok (iValidReach_told) (C30_ok)

def A_iareReaches_1 : Shp := ⟨[.agg [.h, .h]], [], [.f .f32, .f .f32]⟩
def R_iareReaches_1 : List XShp := [(.ret, ⟨[.h], [], [.b]⟩)]

theorem iareReaches_1_e (x : DR A_iareReaches_1.hs) : (evFn (envTo Try.prog C31 mtab0) noLoops Try.f129 (A_iareReaches_1.enc x).1).to (fun q => decX R_iareReaches_1 .ret [q.1] q.2) = iareReaches_1_t x.1 x.2 := by kernel_rfl

theorem iareReaches_1_m (x : DR A_iareReaches_1.hs) : meanF (envTo Try.prog C31 mtab0) noLoops Try.f129 A_iareReaches_1 R_iareReaches_1 x = some (show SumD (R_iareReaches_1.map (·.2)) from iareReaches_1 x.1 x.2) := @meanF_tot _ _ _ _ _ _ _ (iareReaches_1_e x) (show Inhabited (Bool) from inferInstance) (by kernel_rfl)

theorem iareReaches_1_ok : SpecOk Try.prog 129 (evFn (envTo Try.prog C31 mtab0) noLoops Try.f129) := fnL_ok (envTo_ok (C31_ok) (mtab0_ok _)) mixedO Try.func129 (by kernel_rfl) (c := bodyOf Try.f129) (by kernel_rfl) (loopFree_ok (by kernel_rfl))

theorem iareReaches_1_told : SpecOk Try.prog 129 (toldT A_iareReaches_1 R_iareReaches_1 (fun x => iareReaches_1 x.1 x.2) (C31 129)) := toldT_ok (by kernel_rfl) iareReaches_1_ok (rest_ok (C31_ok) _) iareReaches_1_m

noncomputable def C32 : Tab := tab 129 (toldT A_iareReaches_1 R_iareReaches_1 (fun x => iareReaches_1 x.1 x.2) (C31 129)) C31
theorem C32_ok : TabOk Try.prog C32 := tab_ok (iareReaches_1_told) (C31_ok)

def S_lIndexFunc_iareReaches_1_l2 : Shp := ⟨[.h, .fn 129 [], .undef, .h, .h], [], [.sl [.f .f32, .f .f32], .i .i64, .i .i64]⟩
def X_lIndexFunc_iareReaches_1_l2 : List XShp := [(.ret, ⟨[.undef, .undef, .h, .undef, .undef], [], [.i .i64]⟩), (.exit 0, ⟨[.undef, .undef, .undef, .undef, .undef], [], []⟩)]

noncomputable def L_lIndexFunc_iareReaches_1_l2 : Loops := (⟨19, lvT [(2, [0, 1, 4, 7, 8])], mdT [(2, .normal, [], [4]), (2, .exit 0, [], [0, 1, 4, 7, 8]), (2, .ret, [], [0, 1, 7, 8])], fun k vs bs => .bad⟩ : Loops)

theorem lIndexFunc_iareReaches_1_l2_e (y0 : List (Nat × Nat)) (y1 : Int) (s : Int) : (loopStep (envTo Try.prog C32 mtab0) L_lIndexFunc_iareReaches_1_l2 2 (loopC (bodyOf Try.f147) 2) (S_lIndexFunc_iareReaches_1_l2.enc (y0, y1, s)).1 (S_lIndexFunc_iareReaches_1_l2.enc (y0, y1, s)).2).to (stepD S_lIndexFunc_iareReaches_1_l2 X_lIndexFunc_iareReaches_1_l2) = (lIndexFunc_iareReaches_1_l2_t y0 y1 s).map (Sum.map (fun s : Int => (show DR S_lIndexFunc_iareReaches_1_l2.hs from (y0, y1, s))) id) := by kernel_rfl

theorem lIndexFunc_iareReaches_1_l2_r (x : DR S_lIndexFunc_iareReaches_1_l2.hs) : (lIndexFunc_iareReaches_1_l2 x.1 x.2.1 x.2.2 : Option (SumD (X_lIndexFunc_iareReaches_1_l2.map (·.2)))) = runL (meanS (envTo Try.prog C32 mtab0) L_lIndexFunc_iareReaches_1_l2 2 (loopC (bodyOf Try.f147) 2) S_lIndexFunc_iareReaches_1_l2 X_lIndexFunc_iareReaches_1_l2) x := run_of (fun s : Int => (show DR S_lIndexFunc_iareReaches_1_l2.hs from (x.1, x.2.1, s))) (lIndexFunc_iareReaches_1_l2_e (x.1) (x.2.1)) x.2.2

theorem lIndexFunc_iareReaches_1_l2_k (L : Loops) (hn : L_lIndexFunc_iareReaches_1_l2.n = L.n) (hlv : L_lIndexFunc_iareReaches_1_l2.lv 2 = L.lv 2) (hL : ∀ vs bs, L.loop 2 vs bs = toldL S_lIndexFunc_iareReaches_1_l2 X_lIndexFunc_iareReaches_1_l2 (fun x => lIndexFunc_iareReaches_1_l2 x.1 x.2.1 x.2.2) vs bs) : LOk Try.prog (envTo Try.prog C32 mtab0) L 2 (loopC (bodyOf Try.f147) 2) := toldL_ok (L1 := L_lIndexFunc_iareReaches_1_l2) (envTo_ok (C32_ok) (mtab0_ok _)) mixedO hn hlv (loopFree_ok (by kernel_rfl)) lIndexFunc_iareReaches_1_l2_r hL

def A_lIndexFunc_iareReaches_1 : Shp := ⟨[.h, .fn 129 []], [], [.sl [.f .f32, .f .f32]]⟩
def R_lIndexFunc_iareReaches_1 : List XShp := [(.ret, ⟨[.h], [], [.i .i64]⟩)]

noncomputable def L_lIndexFunc_iareReaches_1 : Loops := (⟨19, lvT [(2, [0, 1, 4, 7, 8])], mdT [(2, .normal, [], [4]), (2, .exit 0, [], [0, 1, 4, 7, 8]), (2, .ret, [], [0, 1, 7, 8])], fun k vs bs => bif Nat.beq k 2 then toldL S_lIndexFunc_iareReaches_1_l2 X_lIndexFunc_iareReaches_1_l2 (fun x => lIndexFunc_iareReaches_1_l2 x.1 x.2.1 x.2.2) vs bs else .bad⟩ : Loops)

theorem lIndexFunc_iareReaches_1_e (x : DR A_lIndexFunc_iareReaches_1.hs) : (evFn (envTo Try.prog C32 mtab0) L_lIndexFunc_iareReaches_1 Try.f147 (A_lIndexFunc_iareReaches_1.enc x).1).to (fun q => decX R_lIndexFunc_iareReaches_1 .ret [q.1] q.2) = lIndexFunc_iareReaches_1_t x := by kernel_rfl

theorem lIndexFunc_iareReaches_1_m (x : DR A_lIndexFunc_iareReaches_1.hs) : meanF (envTo Try.prog C32 mtab0) L_lIndexFunc_iareReaches_1 Try.f147 A_lIndexFunc_iareReaches_1 R_lIndexFunc_iareReaches_1 x = (show Option (SumD (R_lIndexFunc_iareReaches_1.map (·.2))) from lIndexFunc_iareReaches_1 x) := meanF_of (lIndexFunc_iareReaches_1_e x)

theorem lIndexFunc_iareReaches_1_ok : SpecOk Try.prog 147 (evFn (envTo Try.prog C32 mtab0) L_lIndexFunc_iareReaches_1 Try.f147) := fnL_ok (envTo_ok (C32_ok) (mtab0_ok _)) mixedO Try.func147 (by kernel_rfl) (c := bodyOf Try.f147) (by kernel_rfl) (loopsL (l := [(2, loopC (bodyOf Try.f147) 2)]) (by kernel_rfl) (lk_cons (lIndexFunc_iareReaches_1_l2_k _ rfl rfl (fun _ _ => rfl)) lk_nil))

theorem lIndexFunc_iareReaches_1_told : SpecOk Try.prog 147 (toldO A_lIndexFunc_iareReaches_1 R_lIndexFunc_iareReaches_1 (fun x => lIndexFunc_iareReaches_1 x) (C32 147)) := toldO_ok (by kernel_rfl) lIndexFunc_iareReaches_1_ok (rest_ok (C32_ok) _) lIndexFunc_iareReaches_1_m

noncomputable def C33 : Tab := tab 147 (toldO A_lIndexFunc_iareReaches_1 R_lIndexFunc_iareReaches_1 (fun x => lIndexFunc_iareReaches_1 x) (C32 147)) C32
theorem C33_ok : TabOk Try.prog C33 := tab_ok (lIndexFunc_iareReaches_1_told) (C32_ok)

def A_lContainsFunc_iareReaches_1 : Shp := ⟨[.h, .fn 129 []], [], [.sl [.f .f32, .f .f32]]⟩
def R_lContainsFunc_iareReaches_1 : List XShp := [(.ret, ⟨[.h], [], [.b]⟩)]

theorem lContainsFunc_iareReaches_1_e (x : DR A_lContainsFunc_iareReaches_1.hs) : (evFn (envTo Try.prog C33 mtab0) noLoops Try.f128 (A_lContainsFunc_iareReaches_1.enc x).1).to (fun q => decX R_lContainsFunc_iareReaches_1 .ret [q.1] q.2) = lContainsFunc_iareReaches_1_t x := by kernel_rfl

theorem lContainsFunc_iareReaches_1_m (x : DR A_lContainsFunc_iareReaches_1.hs) : meanF (envTo Try.prog C33 mtab0) noLoops Try.f128 A_lContainsFunc_iareReaches_1 R_lContainsFunc_iareReaches_1 x = (show Option (SumD (R_lContainsFunc_iareReaches_1.map (·.2))) from lContainsFunc_iareReaches_1 x) := meanF_of (lContainsFunc_iareReaches_1_e x)

theorem lContainsFunc_iareReaches_1_ok : SpecOk Try.prog 128 (evFn (envTo Try.prog C33 mtab0) noLoops Try.f128) := fnL_ok (envTo_ok (C33_ok) (mtab0_ok _)) mixedO Try.func128 (by kernel_rfl) (c := bodyOf Try.f128) (by kernel_rfl) (loopFree_ok (by kernel_rfl))

theorem lContainsFunc_iareReaches_1_told : SpecOk Try.prog 128 (toldO A_lContainsFunc_iareReaches_1 R_lContainsFunc_iareReaches_1 (fun x => lContainsFunc_iareReaches_1 x) (C33 128)) := toldO_ok (by kernel_rfl) lContainsFunc_iareReaches_1_ok (rest_ok (C33_ok) _) lContainsFunc_iareReaches_1_m

noncomputable def C34 : Tab := tab 128 (toldO A_lContainsFunc_iareReaches_1 R_lContainsFunc_iareReaches_1 (fun x => lContainsFunc_iareReaches_1 x) (C33 128)) C33
theorem C34_ok : TabOk Try.prog C34 := tab_ok (lContainsFunc_iareReaches_1_told) (C33_ok)

def A_iareReaches : Shp := ⟨[.h], [], [.sl [.f .f32, .f .f32]]⟩
def R_iareReaches : List XShp := [(.ret, ⟨[.h], [], [.b]⟩)]

theorem iareReaches_e (x : DR A_iareReaches.hs) : (evFn (envTo Try.prog C34 mtab0) noLoops Try.f93 (A_iareReaches.enc x).1).to (fun q => decX R_iareReaches .ret [q.1] q.2) = iareReaches_t x := by kernel_rfl

theorem iareReaches_m (x : DR A_iareReaches.hs) : meanF (envTo Try.prog C34 mtab0) noLoops Try.f93 A_iareReaches R_iareReaches x = (show Option (SumD (R_iareReaches.map (·.2))) from iareReaches x) := meanF_of (iareReaches_e x)

theorem iareReaches_ok : SpecOk Try.prog 93 (evFn (envTo Try.prog C34 mtab0) noLoops Try.f93) := fnL_ok (envTo_ok (C34_ok) (mtab0_ok _)) mixedO Try.func93 (by kernel_rfl) (c := bodyOf Try.f93) (by kernel_rfl) (loopFree_ok (by kernel_rfl))

theorem iareReaches_told : SpecOk Try.prog 93 (toldO A_iareReaches R_iareReaches (fun x => iareReaches x) (C34 93)) := toldO_ok (by kernel_rfl) iareReaches_ok (rest_ok (C34_ok) _) iareReaches_m

noncomputable def C35 : Tab := tab 93 (toldO A_iareReaches R_iareReaches (fun x => iareReaches x) (C34 93)) C34
theorem C35_ok : TabOk Try.prog C35 := tab_ok (iareReaches_told) (C34_ok)

def A_iareFinite_1 : Shp := ⟨[.h], [], [.f .f32]⟩
def R_iareFinite_1 : List XShp := [(.ret, ⟨[.h], [], [.b]⟩)]

theorem iareFinite_1_e (x : DR A_iareFinite_1.hs) : (evFn (envTo Try.prog C35 mtab0) noLoops Try.f127 (A_iareFinite_1.enc x).1).to (fun q => decX R_iareFinite_1 .ret [q.1] q.2) = iareFinite_1_t x := by kernel_rfl

theorem iareFinite_1_m (x : DR A_iareFinite_1.hs) : meanF (envTo Try.prog C35 mtab0) noLoops Try.f127 A_iareFinite_1 R_iareFinite_1 x = some (show SumD (R_iareFinite_1.map (·.2)) from iareFinite_1 x) := @meanF_tot _ _ _ _ _ _ _ (iareFinite_1_e x) (show Inhabited (Bool) from inferInstance) (by kernel_rfl)

theorem iareFinite_1_ok : SpecOk Try.prog 127 (evFn (envTo Try.prog C35 mtab0) noLoops Try.f127) := fnL_ok (envTo_ok (C35_ok) (mtab0_ok _)) mixedO Try.func127 (by kernel_rfl) (c := bodyOf Try.f127) (by kernel_rfl) (loopFree_ok (by kernel_rfl))

theorem iareFinite_1_told : SpecOk Try.prog 127 (toldT A_iareFinite_1 R_iareFinite_1 (fun x => iareFinite_1 x) (C35 127)) := toldT_ok (by kernel_rfl) iareFinite_1_ok (rest_ok (C35_ok) _) iareFinite_1_m

noncomputable def C36 : Tab := tab 127 (toldT A_iareFinite_1 R_iareFinite_1 (fun x => iareFinite_1 x) (C35 127)) C35
theorem C36_ok : TabOk Try.prog C36 := tab_ok (iareFinite_1_told) (C35_ok)

def S_lIndexFunc_iareFinite_1_l2 : Shp := ⟨[.h, .fn 127 [], .undef, .h, .h], [], [.sl [.f .f32], .i .i64, .i .i64]⟩
def X_lIndexFunc_iareFinite_1_l2 : List XShp := [(.ret, ⟨[.undef, .undef, .h, .undef, .undef], [], [.i .i64]⟩), (.exit 0, ⟨[.undef, .undef, .undef, .undef, .undef], [], []⟩)]

noncomputable def L_lIndexFunc_iareFinite_1_l2 : Loops := (⟨19, lvT [(2, [0, 1, 4, 7, 8])], mdT [(2, .normal, [], [4]), (2, .exit 0, [], [0, 1, 4, 7, 8]), (2, .ret, [], [0, 1, 7, 8])], fun k vs bs => .bad⟩ : Loops)

theorem lIndexFunc_iareFinite_1_l2_e (y0 : List Nat) (y1 : Int) (s : Int) : (loopStep (envTo Try.prog C36 mtab0) L_lIndexFunc_iareFinite_1_l2 2 (loopC (bodyOf Try.f121) 2) (S_lIndexFunc_iareFinite_1_l2.enc (y0, y1, s)).1 (S_lIndexFunc_iareFinite_1_l2.enc (y0, y1, s)).2).to (stepD S_lIndexFunc_iareFinite_1_l2 X_lIndexFunc_iareFinite_1_l2) = (lIndexFunc_iareFinite_1_l2_t y0 y1 s).map (Sum.map (fun s : Int => (show DR S_lIndexFunc_iareFinite_1_l2.hs from (y0, y1, s))) id) := by kernel_rfl

theorem lIndexFunc_iareFinite_1_l2_r (x : DR S_lIndexFunc_iareFinite_1_l2.hs) : (lIndexFunc_iareFinite_1_l2 x.1 x.2.1 x.2.2 : Option (SumD (X_lIndexFunc_iareFinite_1_l2.map (·.2)))) = runL (meanS (envTo Try.prog C36 mtab0) L_lIndexFunc_iareFinite_1_l2 2 (loopC (bodyOf Try.f121) 2) S_lIndexFunc_iareFinite_1_l2 X_lIndexFunc_iareFinite_1_l2) x := run_of (fun s : Int => (show DR S_lIndexFunc_iareFinite_1_l2.hs from (x.1, x.2.1, s))) (lIndexFunc_iareFinite_1_l2_e (x.1) (x.2.1)) x.2.2

theorem lIndexFunc_iareFinite_1_l2_k (L : Loops) (hn : L_lIndexFunc_iareFinite_1_l2.n = L.n) (hlv : L_lIndexFunc_iareFinite_1_l2.lv 2 = L.lv 2) (hL : ∀ vs bs, L.loop 2 vs bs = toldL S_lIndexFunc_iareFinite_1_l2 X_lIndexFunc_iareFinite_1_l2 (fun x => lIndexFunc_iareFinite_1_l2 x.1 x.2.1 x.2.2) vs bs) : LOk Try.prog (envTo Try.prog C36 mtab0) L 2 (loopC (bodyOf Try.f121) 2) := toldL_ok (L1 := L_lIndexFunc_iareFinite_1_l2) (envTo_ok (C36_ok) (mtab0_ok _)) mixedO hn hlv (loopFree_ok (by kernel_rfl)) lIndexFunc_iareFinite_1_l2_r hL

def A_lIndexFunc_iareFinite_1 : Shp := ⟨[.h, .fn 127 []], [], [.sl [.f .f32]]⟩
def R_lIndexFunc_iareFinite_1 : List XShp := [(.ret, ⟨[.h], [], [.i .i64]⟩)]

noncomputable def L_lIndexFunc_iareFinite_1 : Loops := (⟨19, lvT [(2, [0, 1, 4, 7, 8])], mdT [(2, .normal, [], [4]), (2, .exit 0, [], [0, 1, 4, 7, 8]), (2, .ret, [], [0, 1, 7, 8])], fun k vs bs => bif Nat.beq k 2 then toldL S_lIndexFunc_iareFinite_1_l2 X_lIndexFunc_iareFinite_1_l2 (fun x => lIndexFunc_iareFinite_1_l2 x.1 x.2.1 x.2.2) vs bs else .bad⟩ : Loops)

theorem lIndexFunc_iareFinite_1_e (x : DR A_lIndexFunc_iareFinite_1.hs) : (evFn (envTo Try.prog C36 mtab0) L_lIndexFunc_iareFinite_1 Try.f121 (A_lIndexFunc_iareFinite_1.enc x).1).to (fun q => decX R_lIndexFunc_iareFinite_1 .ret [q.1] q.2) = lIndexFunc_iareFinite_1_t x := by kernel_rfl

theorem lIndexFunc_iareFinite_1_m (x : DR A_lIndexFunc_iareFinite_1.hs) : meanF (envTo Try.prog C36 mtab0) L_lIndexFunc_iareFinite_1 Try.f121 A_lIndexFunc_iareFinite_1 R_lIndexFunc_iareFinite_1 x = (show Option (SumD (R_lIndexFunc_iareFinite_1.map (·.2))) from lIndexFunc_iareFinite_1 x) := meanF_of (lIndexFunc_iareFinite_1_e x)

theorem lIndexFunc_iareFinite_1_ok : SpecOk Try.prog 121 (evFn (envTo Try.prog C36 mtab0) L_lIndexFunc_iareFinite_1 Try.f121) := fnL_ok (envTo_ok (C36_ok) (mtab0_ok _)) mixedO Try.func121 (by kernel_rfl) (c := bodyOf Try.f121) (by kernel_rfl) (loopsL (l := [(2, loopC (bodyOf Try.f121) 2)]) (by kernel_rfl) (lk_cons (lIndexFunc_iareFinite_1_l2_k _ rfl rfl (fun _ _ => rfl)) lk_nil))

theorem lIndexFunc_iareFinite_1_told : SpecOk Try.prog 121 (toldO A_lIndexFunc_iareFinite_1 R_lIndexFunc_iareFinite_1 (fun x => lIndexFunc_iareFinite_1 x) (C36 121)) := toldO_ok (by kernel_rfl) lIndexFunc_iareFinite_1_ok (rest_ok (C36_ok) _) lIndexFunc_iareFinite_1_m

noncomputable def C37 : Tab := tab 121 (toldO A_lIndexFunc_iareFinite_1 R_lIndexFunc_iareFinite_1 (fun x => lIndexFunc_iareFinite_1 x) (C36 121)) C36
theorem C37_ok : TabOk Try.prog C37 := tab_ok (lIndexFunc_iareFinite_1_told) (C36_ok)

def A_lContainsFunc_iareFinite_1 : Shp := ⟨[.h, .fn 127 []], [], [.sl [.f .f32]]⟩
def R_lContainsFunc_iareFinite_1 : List XShp := [(.ret, ⟨[.h], [], [.b]⟩)]

theorem lContainsFunc_iareFinite_1_e (x : DR A_lContainsFunc_iareFinite_1.hs) : (evFn (envTo Try.prog C37 mtab0) noLoops Try.f123 (A_lContainsFunc_iareFinite_1.enc x).1).to (fun q => decX R_lContainsFunc_iareFinite_1 .ret [q.1] q.2) = lContainsFunc_iareFinite_1_t x := by kernel_rfl

theorem lContainsFunc_iareFinite_1_m (x : DR A_lContainsFunc_iareFinite_1.hs) : meanF (envTo Try.prog C37 mtab0) noLoops Try.f123 A_lContainsFunc_iareFinite_1 R_lContainsFunc_iareFinite_1 x = (show Option (SumD (R_lContainsFunc_iareFinite_1.map (·.2))) from lContainsFunc_iareFinite_1 x) := meanF_of (lContainsFunc_iareFinite_1_e x)

theorem lContainsFunc_iareFinite_1_ok : SpecOk Try.prog 123 (evFn (envTo Try.prog C37 mtab0) noLoops Try.f123) := fnL_ok (envTo_ok (C37_ok) (mtab0_ok _)) mixedO Try.func123 (by kernel_rfl) (c := bodyOf Try.f123) (by kernel_rfl) (loopFree_ok (by kernel_rfl))

theorem lContainsFunc_iareFinite_1_told : SpecOk Try.prog 123 (toldO A_lContainsFunc_iareFinite_1 R_lContainsFunc_iareFinite_1 (fun x => lContainsFunc_iareFinite_1 x) (C37 123)) := toldO_ok (by kernel_rfl) lContainsFunc_iareFinite_1_ok (rest_ok (C37_ok) _) lContainsFunc_iareFinite_1_m

noncomputable def C38 : Tab := tab 123 (toldO A_lContainsFunc_iareFinite_1 R_lContainsFunc_iareFinite_1 (fun x => lContainsFunc_iareFinite_1 x) (C37 123)) C37
theorem C38_ok : TabOk Try.prog C38 := tab_ok (lContainsFunc_iareFinite_1_told) (C37_ok)

def A_iareFinite : Shp := ⟨[.h], [], [.sl [.f .f32]]⟩
def R_iareFinite : List XShp := [(.ret, ⟨[.h], [], [.b]⟩)]

theorem iareFinite_e (x : DR A_iareFinite.hs) : (evFn (envTo Try.prog C38 mtab0) noLoops Try.f90 (A_iareFinite.enc x).1).to (fun q => decX R_iareFinite .ret [q.1] q.2) = iareFinite_t x := by kernel_rfl

theorem iareFinite_m (x : DR A_iareFinite.hs) : meanF (envTo Try.prog C38 mtab0) noLoops Try.f90 A_iareFinite R_iareFinite x = (show Option (SumD (R_iareFinite.map (·.2))) from iareFinite x) := meanF_of (iareFinite_e x)

theorem iareFinite_ok : SpecOk Try.prog 90 (evFn (envTo Try.prog C38 mtab0) noLoops Try.f90) := fnL_ok (envTo_ok (C38_ok) (mtab0_ok _)) mixedO Try.func90 (by kernel_rfl) (c := bodyOf Try.f90) (by kernel_rfl) (loopFree_ok (by kernel_rfl))

theorem iareFinite_told : SpecOk Try.prog 90 (toldO A_iareFinite R_iareFinite (fun x => iareFinite x) (C38 90)) := toldO_ok (by kernel_rfl) iareFinite_ok (rest_ok (C38_ok) _) iareFinite_m

noncomputable def C39 : Tab := tab 90 (toldO A_iareFinite R_iareFinite (fun x => iareFinite x) (C38 90)) C38
theorem C39_ok : TabOk Try.prog C39 := tab_ok (iareFinite_told) (C38_ok)

def A_iareIns : Shp := ⟨[.h], [], [.sl [.f .f32]]⟩
def R_iareIns : List XShp := [(.ret, ⟨[.h], [], [.b]⟩)]

theorem iareIns_e (x : DR A_iareIns.hs) : (evFn (envTo Try.prog C39 mtab0) noLoops Try.f86 (A_iareIns.enc x).1).to (fun q => decX R_iareIns .ret [q.1] q.2) = iareIns_t x := by kernel_rfl

theorem iareIns_m (x : DR A_iareIns.hs) : meanF (envTo Try.prog C39 mtab0) noLoops Try.f86 A_iareIns R_iareIns x = (show Option (SumD (R_iareIns.map (·.2))) from iareIns x) := meanF_of (iareIns_e x)

theorem iareIns_ok : SpecOk Try.prog 86 (evFn (envTo Try.prog C39 mtab0) noLoops Try.f86) := fnL_ok (envTo_ok (C39_ok) (mtab0_ok _)) mixedO Try.func86 (by kernel_rfl) (c := bodyOf Try.f86) (by kernel_rfl) (loopFree_ok (by kernel_rfl))

theorem iareIns_told : SpecOk Try.prog 86 (toldO A_iareIns R_iareIns (fun x => iareIns x) (C39 86)) := toldO_ok (by kernel_rfl) iareIns_ok (rest_ok (C39_ok) _) iareIns_m

noncomputable def C40 : Tab := tab 86 (toldO A_iareIns R_iareIns (fun x => iareIns x) (C39 86)) C39
theorem C40_ok : TabOk Try.prog C40 := tab_ok (iareIns_told) (C39_ok)

def A_iReachShares : Shp := ⟨[.agg [.h, .h], .h], [], [.f .f32, .f .f32, .f .f32]⟩
def R_iReachShares : List XShp := [(.ret, ⟨[.tup [.h, .h, .h, .h]], [], [.f .f32, .f .f32, .f .f32, .b]⟩)]

theorem iReachShares_e (x : DR A_iReachShares.hs) : (evFn (envTo Try.prog C40 mtab0) noLoops Try.f89 (A_iReachShares.enc x).1).to (fun q => decX R_iReachShares .ret [q.1] q.2) = iReachShares_t x.1 x.2.1 x.2.2 := by kernel_rfl

theorem iReachShares_m (x : DR A_iReachShares.hs) : meanF (envTo Try.prog C40 mtab0) noLoops Try.f89 A_iReachShares R_iReachShares x = (show Option (SumD (R_iReachShares.map (·.2))) from iReachShares x.1 x.2.1 x.2.2) := meanF_of (iReachShares_e x)

theorem iReachShares_ok : SpecOk Try.prog 89 (evFn (envTo Try.prog C40 mtab0) noLoops Try.f89) := fnL_ok (envTo_ok (C40_ok) (mtab0_ok _)) mixedO Try.func89 (by kernel_rfl) (c := bodyOf Try.f89) (by kernel_rfl) (loopFree_ok (by kernel_rfl))

theorem iReachShares_told : SpecOk Try.prog 89 (toldO A_iReachShares R_iReachShares (fun x => iReachShares x.1 x.2.1 x.2.2) (C40 89)) := toldO_ok (by kernel_rfl) iReachShares_ok (rest_ok (C40_ok) _) iReachShares_m

noncomputable def C41 : Tab := tab 89 (toldO A_iReachShares R_iReachShares (fun x => iReachShares x.1 x.2.1 x.2.2) (C40 89)) C40
theorem C41_ok : TabOk Try.prog C41 := tab_ok (iReachShares_told) (C40_ok)

def S_iRouteReach_l6 : Shp := ⟨[.h, .h, .h, .h, .slw 0 1, .h], [.arr [.f .f32] false], [.sl [.f .f32], .f .f32, .f .f32, .f .f32, .i .i64, .sl [.f .f32]]⟩
def X_iRouteReach_l6 : List XShp := [(.exit 0, ⟨[.undef, .undef, .undef, .undef, .slw 0 1, .undef], [.arr [.f .f32] false], [.sl [.f .f32]]⟩)]

noncomputable def L_iRouteReach_l6 : Loops := (⟨73, lvT [(6, [1, 10, 11, 12, 14, 15])], mdT [(6, .exit 0, [], [1, 10, 11, 12, 15])], fun k vs bs => .bad⟩ : Loops)

theorem iRouteReach_l6_e (y0 : List Nat) (y1 : Nat) (y2 : Nat) (y3 : Nat) (s : Int × List Nat) : (loopStep (envTo Try.prog C41 mtab0) L_iRouteReach_l6 6 (loopC (bodyOf Try.f32) 6) (S_iRouteReach_l6.enc (y0, y1, y2, y3, s.1, s.2)).1 (S_iRouteReach_l6.enc (y0, y1, y2, y3, s.1, s.2)).2).to (stepD S_iRouteReach_l6 X_iRouteReach_l6) = (iRouteReach_l6_t y0 y1 y2 y3 s.1 s.2).map (Sum.map (fun s : Int × List Nat => (show DR S_iRouteReach_l6.hs from (y0, y1, y2, y3, s.1, s.2))) id) := by kernel_rfl

theorem iRouteReach_l6_r (x : DR S_iRouteReach_l6.hs) : (iRouteReach_l6 x.1 x.2.1 x.2.2.1 x.2.2.2.1 x.2.2.2.2.1 x.2.2.2.2.2 : Option (SumD (X_iRouteReach_l6.map (·.2)))) = runL (meanS (envTo Try.prog C41 mtab0) L_iRouteReach_l6 6 (loopC (bodyOf Try.f32) 6) S_iRouteReach_l6 X_iRouteReach_l6) x := run_of (fun s : Int × List Nat => (show DR S_iRouteReach_l6.hs from (x.1, x.2.1, x.2.2.1, x.2.2.2.1, s.1, s.2))) (iRouteReach_l6_e (x.1) (x.2.1) (x.2.2.1) (x.2.2.2.1)) (x.2.2.2.2.1, x.2.2.2.2.2)

theorem iRouteReach_l6_k (L : Loops) (hn : L_iRouteReach_l6.n = L.n) (hlv : L_iRouteReach_l6.lv 6 = L.lv 6) (hL : ∀ vs bs, L.loop 6 vs bs = toldL S_iRouteReach_l6 X_iRouteReach_l6 (fun x => iRouteReach_l6 x.1 x.2.1 x.2.2.1 x.2.2.2.1 x.2.2.2.2.1 x.2.2.2.2.2) vs bs) : LOk Try.prog (envTo Try.prog C41 mtab0) L 6 (loopC (bodyOf Try.f32) 6) := toldL_ok (L1 := L_iRouteReach_l6) (envTo_ok (C41_ok) (mtab0_ok _)) mixedO hn hlv (loopFree_ok (by kernel_rfl)) iRouteReach_l6_r hL

def A_iRouteReach : Shp := ⟨[.agg [.h, .h], .h, .h, .h], [], [.f .f32, .f .f32, .sl [.f .f32], .f .f32, .f .f32]⟩
def R_iRouteReach : List XShp := [(.ret, ⟨[.tup [.nils, .lb false]], [], []⟩), (.ret, ⟨[.tup [.slw 0 1, .lb true]], [.arr [.f .f32] false], [.sl [.f .f32]]⟩)]

noncomputable def L_iRouteReach : Loops := (⟨73, lvT [(6, [1, 10, 11, 12, 14, 15])], mdT [(6, .exit 0, [], [1, 10, 11, 12, 15])], fun k vs bs => bif Nat.beq k 6 then toldL S_iRouteReach_l6 X_iRouteReach_l6 (fun x => iRouteReach_l6 x.1 x.2.1 x.2.2.1 x.2.2.2.1 x.2.2.2.2.1 x.2.2.2.2.2) vs bs else .bad⟩ : Loops)

theorem iRouteReach_e (x : DR A_iRouteReach.hs) : (evFn (envTo Try.prog C41 mtab0) L_iRouteReach Try.f32 (A_iRouteReach.enc x).1).to (fun q => decX R_iRouteReach .ret [q.1] q.2) = iRouteReach_t x.1 x.2.1 x.2.2.1 x.2.2.2.1 x.2.2.2.2 := by kernel_rfl

theorem iRouteReach_m (x : DR A_iRouteReach.hs) : meanF (envTo Try.prog C41 mtab0) L_iRouteReach Try.f32 A_iRouteReach R_iRouteReach x = (show Option (SumD (R_iRouteReach.map (·.2))) from iRouteReach x.1 x.2.1 x.2.2.1 x.2.2.2.1 x.2.2.2.2) := meanF_of (iRouteReach_e x)

theorem iRouteReach_ok : SpecOk Try.prog 32 (evFn (envTo Try.prog C41 mtab0) L_iRouteReach Try.f32) := fnL_ok (envTo_ok (C41_ok) (mtab0_ok _)) mixedO Try.func32 (by kernel_rfl) (c := bodyOf Try.f32) (by kernel_rfl) (loopsL (l := [(6, loopC (bodyOf Try.f32) 6)]) (by kernel_rfl) (lk_cons (iRouteReach_l6_k _ rfl rfl (fun _ _ => rfl)) lk_nil))

theorem iRouteReach_told : SpecOk Try.prog 32 (toldO A_iRouteReach R_iRouteReach (fun x => iRouteReach x.1 x.2.1 x.2.2.1 x.2.2.2.1 x.2.2.2.2) (C41 32)) := toldO_ok (by kernel_rfl) iRouteReach_ok (rest_ok (C41_ok) _) iRouteReach_m

noncomputable def C42 : Tab := tab 32 (toldO A_iRouteReach R_iRouteReach (fun x => iRouteReach x.1 x.2.1 x.2.2.1 x.2.2.2.1 x.2.2.2.2) (C41 32)) C41
theorem C42_ok : TabOk Try.prog C42 := tab_ok (iRouteReach_told) (C41_ok)

def H_iRouteReaches_l4 : List XShp := [(.normal, ⟨[.h, .h, .undef, .undef, .h, .h, .h], [], [.sl [.f .f32], .f .f32, .sl [.f .f32, .f .f32], .i .i64, .i .i64]⟩), (.normal, ⟨[.slw 0 1, .h, .undef, .undef, .h, .h, .h], [.arr [.f .f32] false], [.f .f32, .sl [.f .f32, .f .f32], .i .i64, .i .i64, .sl [.f .f32]]⟩)]
def X_iRouteReaches_l4 : List XShp := [(.ret, ⟨[.undef, .undef, .nils, .lb false, .undef, .undef, .undef], [], []⟩), (.exit 0, ⟨[.h, .undef, .undef, .undef, .undef, .undef, .undef], [], [.sl [.f .f32]]⟩), (.exit 0, ⟨[.slw 0 1, .undef, .undef, .undef, .undef, .undef, .undef], [.arr [.f .f32] false], [.sl [.f .f32]]⟩)]

noncomputable def L_iRouteReaches_l4 : Loops := (⟨41, lvT [(4, [1, 2, 6, 7, 20, 21, 22])], mdT [(4, .normal, [], [6, 7]), (4, .exit 0, [], [2, 6, 7, 20, 21, 22]), (4, .ret, [], [1, 2, 20, 21, 22])], fun k vs bs => .bad⟩ : Loops)

theorem iRouteReaches_l4_e0 (y : DR (⟨[.h, .h, .undef, .undef, .h, .h, .h], [], [.sl [.f .f32], .f .f32, .sl [.f .f32, .f .f32], .i .i64, .i .i64]⟩ : Shp).hs) : (loopStep (envTo Try.prog C42 mtab0) L_iRouteReaches_l4 4 (loopC (bodyOf Try.f36) 4) ((⟨[.h, .h, .undef, .undef, .h, .h, .h], [], [.sl [.f .f32], .f .f32, .sl [.f .f32, .f .f32], .i .i64, .i .i64]⟩ : Shp).enc y).1 ((⟨[.h, .h, .undef, .undef, .h, .h, .h], [], [.sl [.f .f32], .f .f32, .sl [.f .f32, .f .f32], .i .i64, .i .i64]⟩ : Shp).enc y).2).to (stepH H_iRouteReaches_l4 X_iRouteReaches_l4) = iRouteReaches_l4_t0 y.1 y.2.1 y.2.2.1 y.2.2.2.1 y.2.2.2.2 := by kernel_rfl

theorem iRouteReaches_l4_e1 (y : DR (⟨[.slw 0 1, .h, .undef, .undef, .h, .h, .h], [.arr [.f .f32] false], [.f .f32, .sl [.f .f32, .f .f32], .i .i64, .i .i64, .sl [.f .f32]]⟩ : Shp).hs) : (loopStep (envTo Try.prog C42 mtab0) L_iRouteReaches_l4 4 (loopC (bodyOf Try.f36) 4) ((⟨[.slw 0 1, .h, .undef, .undef, .h, .h, .h], [.arr [.f .f32] false], [.f .f32, .sl [.f .f32, .f .f32], .i .i64, .i .i64, .sl [.f .f32]]⟩ : Shp).enc y).1 ((⟨[.slw 0 1, .h, .undef, .undef, .h, .h, .h], [.arr [.f .f32] false], [.f .f32, .sl [.f .f32, .f .f32], .i .i64, .i .i64, .sl [.f .f32]]⟩ : Shp).enc y).2).to (stepH H_iRouteReaches_l4 X_iRouteReaches_l4) = iRouteReaches_l4_t1 y.1 y.2.1 y.2.2.1 y.2.2.2.1 y.2.2.2.2 := by kernel_rfl

theorem iRouteReaches_l4_o : ∀ x : (List Nat × Nat × (List (Nat × Nat)) × Int × Int) ⊕ (Nat × (List (Nat × Nat)) × Int × Int × List Nat), meanH (envTo Try.prog C42 mtab0) L_iRouteReaches_l4 4 (loopC (bodyOf Try.f36) 4) H_iRouteReaches_l4 X_iRouteReaches_l4 x = iRouteReaches_l4_s x
  | (.inl y) => meanH_of (iRouteReaches_l4_e0 y)
  | (.inr y) => meanH_of (iRouteReaches_l4_e1 y)

theorem iRouteReaches_l4_r (x : SumD (H_iRouteReaches_l4.map (fun p : XShp => p.2))) : (show Option (SumD (X_iRouteReaches_l4.map (fun p : XShp => p.2))) from iRouteReaches_l4 x) = runL (meanH (envTo Try.prog C42 mtab0) L_iRouteReaches_l4 4 (loopC (bodyOf Try.f36) 4) H_iRouteReaches_l4 X_iRouteReaches_l4) x := runH_of (H := H_iRouteReaches_l4) (X := X_iRouteReaches_l4) (g := iRouteReaches_l4_s) iRouteReaches_l4_o x

theorem iRouteReaches_l4_k (L : Loops) (hn : L_iRouteReaches_l4.n = L.n) (hlv : L_iRouteReaches_l4.lv 4 = L.lv 4) (hL : ∀ vs bs, L.loop 4 vs bs = toldH H_iRouteReaches_l4 X_iRouteReaches_l4 (fun x => iRouteReaches_l4 x) vs bs) : LOk Try.prog (envTo Try.prog C42 mtab0) L 4 (loopC (bodyOf Try.f36) 4) := toldH_ok (L1 := L_iRouteReaches_l4) (envTo_ok (C42_ok) (mtab0_ok _)) mixedO hn hlv (loopFree_ok (by kernel_rfl)) iRouteReaches_l4_r hL

def A_iRouteReaches : Shp := ⟨[.h, .h, .h], [], [.sl [.f .f32, .f .f32], .sl [.f .f32], .f .f32]⟩
def R_iRouteReaches : List XShp := [(.ret, ⟨[.tup [.nils, .lb false]], [], []⟩), (.ret, ⟨[.tup [.h, .lb true]], [], [.sl [.f .f32]]⟩), (.ret, ⟨[.tup [.slw 0 1, .lb true]], [.arr [.f .f32] false], [.sl [.f .f32]]⟩)]

noncomputable def L_iRouteReaches : Loops := (⟨41, lvT [(4, [1, 2, 6, 7, 20, 21, 22])], mdT [(4, .normal, [], [6, 7]), (4, .exit 0, [], [2, 6, 7, 20, 21, 22]), (4, .ret, [], [1, 2, 20, 21, 22])], fun k vs bs => bif Nat.beq k 4 then toldH H_iRouteReaches_l4 X_iRouteReaches_l4 (fun x => iRouteReaches_l4 x) vs bs else .bad⟩ : Loops)

theorem iRouteReaches_e (x : DR A_iRouteReaches.hs) : (evFn (envTo Try.prog C42 mtab0) L_iRouteReaches Try.f36 (A_iRouteReaches.enc x).1).to (fun q => decX R_iRouteReaches .ret [q.1] q.2) = iRouteReaches_t x.1 x.2.1 x.2.2 := by kernel_rfl

theorem iRouteReaches_m (x : DR A_iRouteReaches.hs) : meanF (envTo Try.prog C42 mtab0) L_iRouteReaches Try.f36 A_iRouteReaches R_iRouteReaches x = (show Option (SumD (R_iRouteReaches.map (·.2))) from iRouteReaches x.1 x.2.1 x.2.2) := meanF_of (iRouteReaches_e x)

theorem iRouteReaches_ok : SpecOk Try.prog 36 (evFn (envTo Try.prog C42 mtab0) L_iRouteReaches Try.f36) := fnL_ok (envTo_ok (C42_ok) (mtab0_ok _)) mixedO Try.func36 (by kernel_rfl) (c := bodyOf Try.f36) (by kernel_rfl) (loopsL (l := [(4, loopC (bodyOf Try.f36) 4)]) (by kernel_rfl) (lk_cons (iRouteReaches_l4_k _ rfl rfl (fun _ _ => rfl)) lk_nil))

theorem iRouteReaches_told : SpecOk Try.prog 36 (toldO A_iRouteReaches R_iRouteReaches (fun x => iRouteReaches x.1 x.2.1 x.2.2) (C42 36)) := toldO_ok (by kernel_rfl) iRouteReaches_ok (rest_ok (C42_ok) _) iRouteReaches_m

noncomputable def C43 : Tab := tab 36 (toldO A_iRouteReaches R_iRouteReaches (fun x => iRouteReaches x.1 x.2.1 x.2.2) (C42 36)) C42
theorem C43_ok : TabOk Try.prog C43 := tab_ok (iRouteReaches_told) (C42_ok)

def S_iRouteShared_l5 : Shp := ⟨[.h, .h, .undef, .undef, .slw 0 1, .h, .h, .h], [.arr [.osl [.f .f32]] false], [.sl [.f .f32, .f .f32], .f .f32, .sl [.sl [.f .f32]], .i .i64, .i .i64, .sl [.osl [.f .f32]]]⟩
def X_iRouteShared_l5 : List XShp := [(.ret, ⟨[.undef, .undef, .nils, .lb false, .undef, .undef, .undef, .undef], [], []⟩), (.exit 0, ⟨[.undef, .undef, .undef, .undef, .slw 0 1, .undef, .undef, .undef], [.arr [.osl [.f .f32]] false], [.sl [.osl [.f .f32]]]⟩)]

noncomputable def L_iRouteShared_l5 : Loops := (⟨55, lvT [(5, [0, 2, 8, 9, 10, 34, 35, 36])], mdT [(5, .normal, [], [8, 9]), (5, .exit 0, [], [0, 2, 8, 9, 34, 35, 36]), (5, .ret, [], [0, 2, 10, 34, 35, 36])], fun k vs bs => .bad⟩ : Loops)

theorem iRouteShared_l5_e (y0 : List (Nat × Nat)) (y1 : Nat) (y2 : List (List Nat)) (y3 : Int) (s : Int × List (List Nat)) : (loopStep (envTo Try.prog C43 mtab0) L_iRouteShared_l5 5 (loopC (bodyOf Try.f42) 5) (S_iRouteShared_l5.enc (y0, y1, y2, y3, s.1, s.2)).1 (S_iRouteShared_l5.enc (y0, y1, y2, y3, s.1, s.2)).2).to (stepD S_iRouteShared_l5 X_iRouteShared_l5) = (iRouteShared_l5_t y0 y1 y2 y3 s.1 s.2).map (Sum.map (fun s : Int × List (List Nat) => (show DR S_iRouteShared_l5.hs from (y0, y1, y2, y3, s.1, s.2))) id) := by kernel_rfl

theorem iRouteShared_l5_r (x : DR S_iRouteShared_l5.hs) : (iRouteShared_l5 x.1 x.2.1 x.2.2.1 x.2.2.2.1 x.2.2.2.2.1 x.2.2.2.2.2 : Option (SumD (X_iRouteShared_l5.map (·.2)))) = runL (meanS (envTo Try.prog C43 mtab0) L_iRouteShared_l5 5 (loopC (bodyOf Try.f42) 5) S_iRouteShared_l5 X_iRouteShared_l5) x := run_of (fun s : Int × List (List Nat) => (show DR S_iRouteShared_l5.hs from (x.1, x.2.1, x.2.2.1, x.2.2.2.1, s.1, s.2))) (iRouteShared_l5_e (x.1) (x.2.1) (x.2.2.1) (x.2.2.2.1)) (x.2.2.2.2.1, x.2.2.2.2.2)

theorem iRouteShared_l5_k (L : Loops) (hn : L_iRouteShared_l5.n = L.n) (hlv : L_iRouteShared_l5.lv 5 = L.lv 5) (hL : ∀ vs bs, L.loop 5 vs bs = toldL S_iRouteShared_l5 X_iRouteShared_l5 (fun x => iRouteShared_l5 x.1 x.2.1 x.2.2.1 x.2.2.2.1 x.2.2.2.2.1 x.2.2.2.2.2) vs bs) : LOk Try.prog (envTo Try.prog C43 mtab0) L 5 (loopC (bodyOf Try.f42) 5) := toldL_ok (L1 := L_iRouteShared_l5) (envTo_ok (C43_ok) (mtab0_ok _)) mixedO hn hlv (loopFree_ok (by kernel_rfl)) iRouteShared_l5_r hL

def A_iRouteShared : Shp := ⟨[.h, .h, .h, .h], [], [.sl [.f .f32, .f .f32], .sl [.sl [.f .f32]], .f .f32, .i .i64]⟩
def R_iRouteShared : List XShp := [(.ret, ⟨[.tup [.nils, .lb false]], [], []⟩), (.ret, ⟨[.tup [.slw 0 1, .lb true]], [.arr [.osl [.f .f32]] false], [.sl [.osl [.f .f32]]]⟩)]

noncomputable def L_iRouteShared : Loops := (⟨55, lvT [(5, [0, 2, 8, 9, 10, 34, 35, 36])], mdT [(5, .normal, [], [8, 9]), (5, .exit 0, [], [0, 2, 8, 9, 34, 35, 36]), (5, .ret, [], [0, 2, 10, 34, 35, 36])], fun k vs bs => bif Nat.beq k 5 then toldL S_iRouteShared_l5 X_iRouteShared_l5 (fun x => iRouteShared_l5 x.1 x.2.1 x.2.2.1 x.2.2.2.1 x.2.2.2.2.1 x.2.2.2.2.2) vs bs else .bad⟩ : Loops)

theorem iRouteShared_e (x : DR A_iRouteShared.hs) : (evFn (envTo Try.prog C43 mtab0) L_iRouteShared Try.f42 (A_iRouteShared.enc x).1).to (fun q => decX R_iRouteShared .ret [q.1] q.2) = iRouteShared_t x.1 x.2.1 x.2.2.1 x.2.2.2 := by kernel_rfl

theorem iRouteShared_m (x : DR A_iRouteShared.hs) : meanF (envTo Try.prog C43 mtab0) L_iRouteShared Try.f42 A_iRouteShared R_iRouteShared x = (show Option (SumD (R_iRouteShared.map (·.2))) from iRouteShared x.1 x.2.1 x.2.2.1 x.2.2.2) := meanF_of (iRouteShared_e x)

theorem iRouteShared_ok : SpecOk Try.prog 42 (evFn (envTo Try.prog C43 mtab0) L_iRouteShared Try.f42) := fnL_ok (envTo_ok (C43_ok) (mtab0_ok _)) mixedO Try.func42 (by kernel_rfl) (c := bodyOf Try.f42) (by kernel_rfl) (loopsL (l := [(5, loopC (bodyOf Try.f42) 5)]) (by kernel_rfl) (lk_cons (iRouteShared_l5_k _ rfl rfl (fun _ _ => rfl)) lk_nil))

theorem iRouteShared_told : SpecOk Try.prog 42 (toldO A_iRouteShared R_iRouteShared (fun x => iRouteShared x.1 x.2.1 x.2.2.1 x.2.2.2) (C43 42)) := toldO_ok (by kernel_rfl) iRouteShared_ok (rest_ok (C43_ok) _) iRouteShared_m

noncomputable def C44 : Tab := tab 42 (toldO A_iRouteShared R_iRouteShared (fun x => iRouteShared x.1 x.2.1 x.2.2.1 x.2.2.2) (C43 42)) C43
theorem C44_ok : TabOk Try.prog C44 := tab_ok (iRouteShared_told) (C43_ok)

def S_weqFloat32S_l4 : Shp := ⟨[.h, .h, .undef, .h], [], [.sl [.f .f32], .sl [.f .f32], .i .i64]⟩
def X_weqFloat32S_l4 : List XShp := [(.exit 0, ⟨[.undef, .undef, .undef, .undef], [], []⟩)]

noncomputable def L_weqFloat32S_l4 : Loops := (⟨29, lvT [(4, [0, 1, 4, 5])], mdT [(4, .normal, [], [4]), (4, .exit 0, [], [0, 1, 4, 5]), (4, .ret, [], [0, 1, 5])], fun k vs bs => .bad⟩ : Loops)

theorem weqFloat32S_l4_e (y0 : List Nat) (y1 : List Nat) (s : Int) : (loopStep (envTo Try.prog C44 mtab0) L_weqFloat32S_l4 4 (loopC (bodyOf Try.f26) 4) (S_weqFloat32S_l4.enc (y0, y1, s)).1 (S_weqFloat32S_l4.enc (y0, y1, s)).2).to (stepD S_weqFloat32S_l4 X_weqFloat32S_l4) = (weqFloat32S_l4_t y0 y1 s).map (Sum.map (fun s : Int => (show DR S_weqFloat32S_l4.hs from (y0, y1, s))) id) := by kernel_rfl

theorem weqFloat32S_l4_r (x : DR S_weqFloat32S_l4.hs) : (weqFloat32S_l4 x.1 x.2.1 x.2.2 : Option (SumD (X_weqFloat32S_l4.map (·.2)))) = runL (meanS (envTo Try.prog C44 mtab0) L_weqFloat32S_l4 4 (loopC (bodyOf Try.f26) 4) S_weqFloat32S_l4 X_weqFloat32S_l4) x := run_of (fun s : Int => (show DR S_weqFloat32S_l4.hs from (x.1, x.2.1, s))) (weqFloat32S_l4_e (x.1) (x.2.1)) x.2.2

theorem weqFloat32S_l4_k (L : Loops) (hn : L_weqFloat32S_l4.n = L.n) (hlv : L_weqFloat32S_l4.lv 4 = L.lv 4) (hL : ∀ vs bs, L.loop 4 vs bs = toldL S_weqFloat32S_l4 X_weqFloat32S_l4 (fun x => weqFloat32S_l4 x.1 x.2.1 x.2.2) vs bs) : LOk Try.prog (envTo Try.prog C44 mtab0) L 4 (loopC (bodyOf Try.f26) 4) := toldL_ok (L1 := L_weqFloat32S_l4) (envTo_ok (C44_ok) (mtab0_ok _)) mixedO hn hlv (loopFree_ok (by kernel_rfl)) weqFloat32S_l4_r hL

def A_weqFloat32S : Shp := ⟨[.h, .h], [], [.sl [.f .f32], .sl [.f .f32]]⟩
def R_weqFloat32S : List XShp := [(.ret, ⟨[.h], [], [.b]⟩)]

noncomputable def L_weqFloat32S : Loops := (⟨29, lvT [(4, [0, 1, 4, 5])], mdT [(4, .normal, [], [4]), (4, .exit 0, [], [0, 1, 4, 5]), (4, .ret, [], [0, 1, 5])], fun k vs bs => bif Nat.beq k 4 then toldL S_weqFloat32S_l4 X_weqFloat32S_l4 (fun x => weqFloat32S_l4 x.1 x.2.1 x.2.2) vs bs else .bad⟩ : Loops)

theorem weqFloat32S_e (x : DR A_weqFloat32S.hs) : (evFn (envTo Try.prog C44 mtab0) L_weqFloat32S Try.f26 (A_weqFloat32S.enc x).1).to (fun q => decX R_weqFloat32S .ret [q.1] q.2) = weqFloat32S_t x.1 x.2 := by kernel_rfl

theorem weqFloat32S_m (x : DR A_weqFloat32S.hs) : meanF (envTo Try.prog C44 mtab0) L_weqFloat32S Try.f26 A_weqFloat32S R_weqFloat32S x = (show Option (SumD (R_weqFloat32S.map (·.2))) from weqFloat32S x.1 x.2) := meanF_of (weqFloat32S_e x)

theorem weqFloat32S_ok : SpecOk Try.prog 26 (evFn (envTo Try.prog C44 mtab0) L_weqFloat32S Try.f26) := fnL_ok (envTo_ok (C44_ok) (mtab0_ok _)) mixedO Try.func26 (by kernel_rfl) (c := bodyOf Try.f26) (by kernel_rfl) (loopsL (l := [(4, loopC (bodyOf Try.f26) 4)]) (by kernel_rfl) (lk_cons (weqFloat32S_l4_k _ rfl rfl (fun _ _ => rfl)) lk_nil))

theorem weqFloat32S_told : SpecOk Try.prog 26 (toldO A_weqFloat32S R_weqFloat32S (fun x => weqFloat32S x.1 x.2) (C44 26)) := toldO_ok (by kernel_rfl) weqFloat32S_ok (rest_ok (C44_ok) _) weqFloat32S_m

noncomputable def C45 : Tab := tab 26 (toldO A_weqFloat32S R_weqFloat32S (fun x => weqFloat32S x.1 x.2) (C44 26)) C44
theorem C45_ok : TabOk Try.prog C45 := tab_ok (weqFloat32S_told) (C44_ok)

def S_weqFloat32SS_l4 : Shp := ⟨[.h, .h, .undef, .h], [], [.sl [.sl [.f .f32]], .sl [.sl [.f .f32]], .i .i64]⟩
def X_weqFloat32SS_l4 : List XShp := [(.ret, ⟨[.undef, .undef, .lb false, .undef], [], []⟩), (.exit 0, ⟨[.undef, .undef, .undef, .undef], [], []⟩)]

noncomputable def L_weqFloat32SS_l4 : Loops := (⟨27, lvT [(4, [0, 1, 4, 5])], mdT [(4, .normal, [], [4]), (4, .exit 0, [], [0, 1, 4, 5]), (4, .ret, [], [0, 1, 5])], fun k vs bs => .bad⟩ : Loops)

theorem weqFloat32SS_l4_e (y0 : List (List Nat)) (y1 : List (List Nat)) (s : Int) : (loopStep (envTo Try.prog C45 mtab0) L_weqFloat32SS_l4 4 (loopC (bodyOf Try.f43) 4) (S_weqFloat32SS_l4.enc (y0, y1, s)).1 (S_weqFloat32SS_l4.enc (y0, y1, s)).2).to (stepD S_weqFloat32SS_l4 X_weqFloat32SS_l4) = (weqFloat32SS_l4_t y0 y1 s).map (Sum.map (fun s : Int => (show DR S_weqFloat32SS_l4.hs from (y0, y1, s))) id) := by kernel_rfl

theorem weqFloat32SS_l4_r (x : DR S_weqFloat32SS_l4.hs) : (weqFloat32SS_l4 x.1 x.2.1 x.2.2 : Option (SumD (X_weqFloat32SS_l4.map (·.2)))) = runL (meanS (envTo Try.prog C45 mtab0) L_weqFloat32SS_l4 4 (loopC (bodyOf Try.f43) 4) S_weqFloat32SS_l4 X_weqFloat32SS_l4) x := run_of (fun s : Int => (show DR S_weqFloat32SS_l4.hs from (x.1, x.2.1, s))) (weqFloat32SS_l4_e (x.1) (x.2.1)) x.2.2

theorem weqFloat32SS_l4_k (L : Loops) (hn : L_weqFloat32SS_l4.n = L.n) (hlv : L_weqFloat32SS_l4.lv 4 = L.lv 4) (hL : ∀ vs bs, L.loop 4 vs bs = toldL S_weqFloat32SS_l4 X_weqFloat32SS_l4 (fun x => weqFloat32SS_l4 x.1 x.2.1 x.2.2) vs bs) : LOk Try.prog (envTo Try.prog C45 mtab0) L 4 (loopC (bodyOf Try.f43) 4) := toldL_ok (L1 := L_weqFloat32SS_l4) (envTo_ok (C45_ok) (mtab0_ok _)) mixedO hn hlv (loopFree_ok (by kernel_rfl)) weqFloat32SS_l4_r hL

def A_weqFloat32SS : Shp := ⟨[.h, .h], [], [.sl [.sl [.f .f32]], .sl [.sl [.f .f32]]]⟩
def R_weqFloat32SS : List XShp := [(.ret, ⟨[.h], [], [.b]⟩)]

noncomputable def L_weqFloat32SS : Loops := (⟨27, lvT [(4, [0, 1, 4, 5])], mdT [(4, .normal, [], [4]), (4, .exit 0, [], [0, 1, 4, 5]), (4, .ret, [], [0, 1, 5])], fun k vs bs => bif Nat.beq k 4 then toldL S_weqFloat32SS_l4 X_weqFloat32SS_l4 (fun x => weqFloat32SS_l4 x.1 x.2.1 x.2.2) vs bs else .bad⟩ : Loops)

theorem weqFloat32SS_e (x : DR A_weqFloat32SS.hs) : (evFn (envTo Try.prog C45 mtab0) L_weqFloat32SS Try.f43 (A_weqFloat32SS.enc x).1).to (fun q => decX R_weqFloat32SS .ret [q.1] q.2) = weqFloat32SS_t x.1 x.2 := by kernel_rfl

theorem weqFloat32SS_m (x : DR A_weqFloat32SS.hs) : meanF (envTo Try.prog C45 mtab0) L_weqFloat32SS Try.f43 A_weqFloat32SS R_weqFloat32SS x = (show Option (SumD (R_weqFloat32SS.map (·.2))) from weqFloat32SS x.1 x.2) := meanF_of (weqFloat32SS_e x)

theorem weqFloat32SS_ok : SpecOk Try.prog 43 (evFn (envTo Try.prog C45 mtab0) L_weqFloat32SS Try.f43) := fnL_ok (envTo_ok (C45_ok) (mtab0_ok _)) mixedO Try.func43 (by kernel_rfl) (c := bodyOf Try.f43) (by kernel_rfl) (loopsL (l := [(4, loopC (bodyOf Try.f43) 4)]) (by kernel_rfl) (lk_cons (weqFloat32SS_l4_k _ rfl rfl (fun _ _ => rfl)) lk_nil))

theorem weqFloat32SS_told : SpecOk Try.prog 43 (toldO A_weqFloat32SS R_weqFloat32SS (fun x => weqFloat32SS x.1 x.2) (C45 43)) := toldO_ok (by kernel_rfl) weqFloat32SS_ok (rest_ok (C45_ok) _) weqFloat32SS_m

noncomputable def C46 : Tab := tab 43 (toldO A_weqFloat32SS R_weqFloat32SS (fun x => weqFloat32SS x.1 x.2) (C45 43)) C45
theorem C46_ok : TabOk Try.prog C46 := tab_ok (weqFloat32SS_told) (C45_ok)

def A_weqReach : Shp := ⟨[.agg [.h, .h], .agg [.h, .h]], [], [.f .f32, .f .f32, .f .f32, .f .f32]⟩
def R_weqReach : List XShp := [(.ret, ⟨[.lb true], [], []⟩)]

theorem weqReach_e (x : DR A_weqReach.hs) : (evFn (envTo Try.prog C46 mtab0) noLoops Try.f94 (A_weqReach.enc x).1).to (fun q => decX R_weqReach .ret [q.1] q.2) = weqReach_t x.1 x.2.1 x.2.2.1 x.2.2.2 := by kernel_rfl

theorem weqReach_m (x : DR A_weqReach.hs) : meanF (envTo Try.prog C46 mtab0) noLoops Try.f94 A_weqReach R_weqReach x = (show Option (SumD (R_weqReach.map (·.2))) from weqReach x.1 x.2.1 x.2.2.1 x.2.2.2) := meanF_of (weqReach_e x)

theorem weqReach_ok : SpecOk Try.prog 94 (evFn (envTo Try.prog C46 mtab0) noLoops Try.f94) := fnL_ok (envTo_ok (C46_ok) (mtab0_ok _)) mixedO Try.func94 (by kernel_rfl) (c := bodyOf Try.f94) (by kernel_rfl) (loopFree_ok (by kernel_rfl))

theorem weqReach_told : SpecOk Try.prog 94 (toldO A_weqReach R_weqReach (fun x => weqReach x.1 x.2.1 x.2.2.1 x.2.2.2) (C46 94)) := toldO_ok (by kernel_rfl) weqReach_ok (rest_ok (C46_ok) _) weqReach_m

noncomputable def C47 : Tab := tab 94 (toldO A_weqReach R_weqReach (fun x => weqReach x.1 x.2.1 x.2.2.1 x.2.2.2) (C46 94)) C46
theorem C47_ok : TabOk Try.prog C47 := tab_ok (weqReach_told) (C46_ok)

def S_weqReachS_l4 : Shp := ⟨[.h, .h, .undef, .h], [], [.sl [.f .f32, .f .f32], .sl [.f .f32, .f .f32], .i .i64]⟩
def X_weqReachS_l4 : List XShp := [(.exit 0, ⟨[.undef, .undef, .undef, .undef], [], []⟩)]

noncomputable def L_weqReachS_l4 : Loops := (⟨27, lvT [(4, [0, 1, 4, 5])], mdT [(4, .normal, [], [4]), (4, .exit 0, [], [0, 1, 4, 5]), (4, .ret, [], [0, 1, 5])], fun k vs bs => .bad⟩ : Loops)

theorem weqReachS_l4_e (y0 : List (Nat × Nat)) (y1 : List (Nat × Nat)) (s : Int) : (loopStep (envTo Try.prog C47 mtab0) L_weqReachS_l4 4 (loopC (bodyOf Try.f37) 4) (S_weqReachS_l4.enc (y0, y1, s)).1 (S_weqReachS_l4.enc (y0, y1, s)).2).to (stepD S_weqReachS_l4 X_weqReachS_l4) = (weqReachS_l4_t y0 y1 s).map (Sum.map (fun s : Int => (show DR S_weqReachS_l4.hs from (y0, y1, s))) id) := by kernel_rfl

theorem weqReachS_l4_r (x : DR S_weqReachS_l4.hs) : (weqReachS_l4 x.1 x.2.1 x.2.2 : Option (SumD (X_weqReachS_l4.map (·.2)))) = runL (meanS (envTo Try.prog C47 mtab0) L_weqReachS_l4 4 (loopC (bodyOf Try.f37) 4) S_weqReachS_l4 X_weqReachS_l4) x := run_of (fun s : Int => (show DR S_weqReachS_l4.hs from (x.1, x.2.1, s))) (weqReachS_l4_e (x.1) (x.2.1)) x.2.2

theorem weqReachS_l4_k (L : Loops) (hn : L_weqReachS_l4.n = L.n) (hlv : L_weqReachS_l4.lv 4 = L.lv 4) (hL : ∀ vs bs, L.loop 4 vs bs = toldL S_weqReachS_l4 X_weqReachS_l4 (fun x => weqReachS_l4 x.1 x.2.1 x.2.2) vs bs) : LOk Try.prog (envTo Try.prog C47 mtab0) L 4 (loopC (bodyOf Try.f37) 4) := toldL_ok (L1 := L_weqReachS_l4) (envTo_ok (C47_ok) (mtab0_ok _)) mixedO hn hlv (loopFree_ok (by kernel_rfl)) weqReachS_l4_r hL

def A_weqReachS : Shp := ⟨[.h, .h], [], [.sl [.f .f32, .f .f32], .sl [.f .f32, .f .f32]]⟩
def R_weqReachS : List XShp := [(.ret, ⟨[.h], [], [.b]⟩)]

noncomputable def L_weqReachS : Loops := (⟨27, lvT [(4, [0, 1, 4, 5])], mdT [(4, .normal, [], [4]), (4, .exit 0, [], [0, 1, 4, 5]), (4, .ret, [], [0, 1, 5])], fun k vs bs => bif Nat.beq k 4 then toldL S_weqReachS_l4 X_weqReachS_l4 (fun x => weqReachS_l4 x.1 x.2.1 x.2.2) vs bs else .bad⟩ : Loops)

theorem weqReachS_e (x : DR A_weqReachS.hs) : (evFn (envTo Try.prog C47 mtab0) L_weqReachS Try.f37 (A_weqReachS.enc x).1).to (fun q => decX R_weqReachS .ret [q.1] q.2) = weqReachS_t x.1 x.2 := by kernel_rfl

theorem weqReachS_m (x : DR A_weqReachS.hs) : meanF (envTo Try.prog C47 mtab0) L_weqReachS Try.f37 A_weqReachS R_weqReachS x = (show Option (SumD (R_weqReachS.map (·.2))) from weqReachS x.1 x.2) := meanF_of (weqReachS_e x)

theorem weqReachS_ok : SpecOk Try.prog 37 (evFn (envTo Try.prog C47 mtab0) L_weqReachS Try.f37) := fnL_ok (envTo_ok (C47_ok) (mtab0_ok _)) mixedO Try.func37 (by kernel_rfl) (c := bodyOf Try.f37) (by kernel_rfl) (loopsL (l := [(4, loopC (bodyOf Try.f37) 4)]) (by kernel_rfl) (lk_cons (weqReachS_l4_k _ rfl rfl (fun _ _ => rfl)) lk_nil))

theorem weqReachS_told : SpecOk Try.prog 37 (toldO A_weqReachS R_weqReachS (fun x => weqReachS x.1 x.2) (C47 37)) := toldO_ok (by kernel_rfl) weqReachS_ok (rest_ok (C47_ok) _) weqReachS_m

noncomputable def C48 : Tab := tab 37 (toldO A_weqReachS R_weqReachS (fun x => weqReachS x.1 x.2) (C47 37)) C47
theorem C48_ok : TabOk Try.prog C48 := tab_ok (weqReachS_told) (C47_ok)

def S_wmarkReachS_l2 : Shp := ⟨[.slw 0 2, .h, .h], [.arr [.f .f32, .f .f32] false], [.i .i64, .i .i64, .sl [.f .f32, .f .f32]]⟩
def X_wmarkReachS_l2 : List XShp := [(.exit 0, ⟨[.undef, .h, .undef], [.arr [.f .f32, .f .f32] false], [.i .i64, .sl [.f .f32, .f .f32]]⟩)]

noncomputable def L_wmarkReachS_l2 : Loops := (⟨29, lvT [(2, [0, 1, 5])], mdT [(2, .exit 0, [], [0, 5])], fun k vs bs => .bad⟩ : Loops)

theorem wmarkReachS_l2_e (s : Int × Int × (List (Nat × Nat))) : (loopStep (envWo Try.prog C48 mtab0 1) L_wmarkReachS_l2 2 (loopC (bodyOf Try.f38) 2) (S_wmarkReachS_l2.enc (s.1, s.2.1, s.2.2)).1 (S_wmarkReachS_l2.enc (s.1, s.2.1, s.2.2)).2).to (stepD S_wmarkReachS_l2 X_wmarkReachS_l2) = (wmarkReachS_l2_t  s.1 s.2.1 s.2.2).map (Sum.map (fun s : Int × Int × (List (Nat × Nat)) => (show DR S_wmarkReachS_l2.hs from (s.1, s.2.1, s.2.2))) id) := by kernel_rfl

theorem wmarkReachS_l2_r (x : DR S_wmarkReachS_l2.hs) : (wmarkReachS_l2 x.1 x.2.1 x.2.2 : Option (SumD (X_wmarkReachS_l2.map (·.2)))) = runL (meanS (envWo Try.prog C48 mtab0 1) L_wmarkReachS_l2 2 (loopC (bodyOf Try.f38) 2) S_wmarkReachS_l2 X_wmarkReachS_l2) x := run_of (fun s : Int × Int × (List (Nat × Nat)) => (show DR S_wmarkReachS_l2.hs from (s.1, s.2.1, s.2.2))) (wmarkReachS_l2_e ) (x.1, x.2.1, x.2.2)

theorem wmarkReachS_l2_k (L : Loops) (hn : L_wmarkReachS_l2.n = L.n) (hlv : L_wmarkReachS_l2.lv 2 = L.lv 2) (hL : ∀ vs bs, L.loop 2 vs bs = toldL S_wmarkReachS_l2 X_wmarkReachS_l2 (fun x => wmarkReachS_l2 x.1 x.2.1 x.2.2) vs bs) : LOk Try.prog (envWo Try.prog C48 mtab0 1) L 2 (loopC (bodyOf Try.f38) 2) := toldL_ok (L1 := L_wmarkReachS_l2) (envWo_ok (C48_ok) (mtab0_ok _)) mixedO hn hlv (loopFree_ok (by kernel_rfl)) wmarkReachS_l2_r hL

def A_wmarkReachS : Shp := ⟨[.slw 0 2, .h], [.arr [.f .f32, .f .f32] false], [.i .i64, .sl [.f .f32, .f .f32]]⟩
def R_wmarkReachS : List XShp := [(.ret, ⟨[.h], [.arr [.f .f32, .f .f32] false], [.i .i64, .sl [.f .f32, .f .f32]]⟩)]

noncomputable def L_wmarkReachS : Loops := (⟨29, lvT [(2, [0, 1, 5])], mdT [(2, .exit 0, [], [0, 5])], fun k vs bs => bif Nat.beq k 2 then toldL S_wmarkReachS_l2 X_wmarkReachS_l2 (fun x => wmarkReachS_l2 x.1 x.2.1 x.2.2) vs bs else .bad⟩ : Loops)

theorem wmarkReachS_e (x : DR A_wmarkReachS.hs) : (evFnM (envWo Try.prog C48 mtab0 1) L_wmarkReachS Try.f38 (A_wmarkReachS.enc x).1 ((A_wmarkReachS.enc x).2.map (·.blk))).to (decM R_wmarkReachS) = wmarkReachS_t x.1 x.2 := by kernel_rfl

theorem wmarkReachS_m (x : DR A_wmarkReachS.hs) : meanM (envWo Try.prog C48 mtab0 1) L_wmarkReachS Try.f38 A_wmarkReachS R_wmarkReachS x = (show Option (SumD (R_wmarkReachS.map (·.2))) from wmarkReachS x.1 x.2) := meanM_of (wmarkReachS_e x)

theorem wmarkReachS_ok : MSpecOk Try.prog 38 (evFnM (envWo Try.prog C48 mtab0 1) L_wmarkReachS Try.f38) := fnM_ok (envWo_ok (C48_ok) (mtab0_ok _)) rfl mixedO Try.func38 (by kernel_rfl) (c := bodyOf Try.f38) (by kernel_rfl) (loopsL (l := [(2, loopC (bodyOf Try.f38) 2)]) (by kernel_rfl) (lk_cons (wmarkReachS_l2_k _ rfl rfl (fun _ _ => rfl)) lk_nil))

theorem wmarkReachS_told : MSpecOk Try.prog 38 (toldMO A_wmarkReachS R_wmarkReachS (fun x => wmarkReachS x.1 x.2) (mrest mtab0 38)) := toldMO_ok (by kernel_rfl) wmarkReachS_ok (mrest_ok (mtab0_ok _) _) wmarkReachS_m

noncomputable def M49 : MTab := mtab 38 (toldMO A_wmarkReachS R_wmarkReachS (fun x => wmarkReachS x.1 x.2) (mrest mtab0 38)) mtab0
theorem M49_ok : MTabOk Try.prog M49 := mtab_ok (wmarkReachS_told) (mtab0_ok _)

def S_wmarkFloat32S_l2 : Shp := ⟨[.slw 0 1, .h, .h], [.arr [.f .f32] false], [.i .i64, .i .i64, .sl [.f .f32]]⟩
def X_wmarkFloat32S_l2 : List XShp := [(.exit 0, ⟨[.undef, .h, .undef], [.arr [.f .f32] false], [.i .i64, .sl [.f .f32]]⟩)]

noncomputable def L_wmarkFloat32S_l2 : Loops := (⟨20, lvT [(2, [0, 1, 5])], mdT [(2, .exit 0, [], [0, 5])], fun k vs bs => .bad⟩ : Loops)

theorem wmarkFloat32S_l2_e (s : Int × Int × List Nat) : (loopStep (envWo Try.prog C48 M49 1) L_wmarkFloat32S_l2 2 (loopC (bodyOf Try.f28) 2) (S_wmarkFloat32S_l2.enc (s.1, s.2.1, s.2.2)).1 (S_wmarkFloat32S_l2.enc (s.1, s.2.1, s.2.2)).2).to (stepD S_wmarkFloat32S_l2 X_wmarkFloat32S_l2) = (wmarkFloat32S_l2_t  s.1 s.2.1 s.2.2).map (Sum.map (fun s : Int × Int × List Nat => (show DR S_wmarkFloat32S_l2.hs from (s.1, s.2.1, s.2.2))) id) := by kernel_rfl

theorem wmarkFloat32S_l2_r (x : DR S_wmarkFloat32S_l2.hs) : (wmarkFloat32S_l2 x.1 x.2.1 x.2.2 : Option (SumD (X_wmarkFloat32S_l2.map (·.2)))) = runL (meanS (envWo Try.prog C48 M49 1) L_wmarkFloat32S_l2 2 (loopC (bodyOf Try.f28) 2) S_wmarkFloat32S_l2 X_wmarkFloat32S_l2) x := run_of (fun s : Int × Int × List Nat => (show DR S_wmarkFloat32S_l2.hs from (s.1, s.2.1, s.2.2))) (wmarkFloat32S_l2_e ) (x.1, x.2.1, x.2.2)

theorem wmarkFloat32S_l2_k (L : Loops) (hn : L_wmarkFloat32S_l2.n = L.n) (hlv : L_wmarkFloat32S_l2.lv 2 = L.lv 2) (hL : ∀ vs bs, L.loop 2 vs bs = toldL S_wmarkFloat32S_l2 X_wmarkFloat32S_l2 (fun x => wmarkFloat32S_l2 x.1 x.2.1 x.2.2) vs bs) : LOk Try.prog (envWo Try.prog C48 M49 1) L 2 (loopC (bodyOf Try.f28) 2) := toldL_ok (L1 := L_wmarkFloat32S_l2) (envWo_ok (C48_ok) (M49_ok)) mixedO hn hlv (loopFree_ok (by kernel_rfl)) wmarkFloat32S_l2_r hL

def A_wmarkFloat32S : Shp := ⟨[.slw 0 1, .h], [.arr [.f .f32] false], [.i .i64, .sl [.f .f32]]⟩
def R_wmarkFloat32S : List XShp := [(.ret, ⟨[.h], [.arr [.f .f32] false], [.i .i64, .sl [.f .f32]]⟩)]

noncomputable def L_wmarkFloat32S : Loops := (⟨20, lvT [(2, [0, 1, 5])], mdT [(2, .exit 0, [], [0, 5])], fun k vs bs => bif Nat.beq k 2 then toldL S_wmarkFloat32S_l2 X_wmarkFloat32S_l2 (fun x => wmarkFloat32S_l2 x.1 x.2.1 x.2.2) vs bs else .bad⟩ : Loops)

theorem wmarkFloat32S_e (x : DR A_wmarkFloat32S.hs) : (evFnM (envWo Try.prog C48 M49 1) L_wmarkFloat32S Try.f28 (A_wmarkFloat32S.enc x).1 ((A_wmarkFloat32S.enc x).2.map (·.blk))).to (decM R_wmarkFloat32S) = wmarkFloat32S_t x.1 x.2 := by kernel_rfl

theorem wmarkFloat32S_m (x : DR A_wmarkFloat32S.hs) : meanM (envWo Try.prog C48 M49 1) L_wmarkFloat32S Try.f28 A_wmarkFloat32S R_wmarkFloat32S x = (show Option (SumD (R_wmarkFloat32S.map (·.2))) from wmarkFloat32S x.1 x.2) := meanM_of (wmarkFloat32S_e x)

theorem wmarkFloat32S_ok : MSpecOk Try.prog 28 (evFnM (envWo Try.prog C48 M49 1) L_wmarkFloat32S Try.f28) := fnM_ok (envWo_ok (C48_ok) (M49_ok)) rfl mixedO Try.func28 (by kernel_rfl) (c := bodyOf Try.f28) (by kernel_rfl) (loopsL (l := [(2, loopC (bodyOf Try.f28) 2)]) (by kernel_rfl) (lk_cons (wmarkFloat32S_l2_k _ rfl rfl (fun _ _ => rfl)) lk_nil))

theorem wmarkFloat32S_told : MSpecOk Try.prog 28 (toldMO A_wmarkFloat32S R_wmarkFloat32S (fun x => wmarkFloat32S x.1 x.2) (mrest M49 28)) := toldMO_ok (by kernel_rfl) wmarkFloat32S_ok (mrest_ok (M49_ok) _) wmarkFloat32S_m

noncomputable def M50 : MTab := mtab 28 (toldMO A_wmarkFloat32S R_wmarkFloat32S (fun x => wmarkFloat32S x.1 x.2) (mrest M49 28)) M49
theorem M50_ok : MTabOk Try.prog M50 := mtab_ok (wmarkFloat32S_told) (M49_ok)

def S_wmarkFloat32S_nil_l2 : Shp := ⟨[.nils, .h, .h], [], [.i .i64, .i .i64]⟩
def X_wmarkFloat32S_nil_l2 : List XShp := [(.exit 0, ⟨[.undef, .h, .undef], [], [.i .i64]⟩)]

noncomputable def L_wmarkFloat32S_nil_l2 : Loops := (⟨20, lvT [(2, [0, 1, 5])], mdT [(2, .exit 0, [], [0, 5])], fun k vs bs => .bad⟩ : Loops)

theorem wmarkFloat32S_nil_l2_e (y0 : Int) (y1 : Int) (s : Unit) : (loopStep (envWo Try.prog C48 M50 0) L_wmarkFloat32S_nil_l2 2 (loopC (bodyOf Try.f28) 2) (S_wmarkFloat32S_nil_l2.enc (y0, y1)).1 (S_wmarkFloat32S_nil_l2.enc (y0, y1)).2).to (stepD S_wmarkFloat32S_nil_l2 X_wmarkFloat32S_nil_l2) = (wmarkFloat32S_nil_l2_t y0 y1 ).map (Sum.map (fun s : Unit => (show DR S_wmarkFloat32S_nil_l2.hs from (y0, y1))) id) := by kernel_rfl

theorem wmarkFloat32S_nil_l2_r (x : DR S_wmarkFloat32S_nil_l2.hs) : (wmarkFloat32S_nil_l2 x.1 x.2 : Option (SumD (X_wmarkFloat32S_nil_l2.map (·.2)))) = runL (meanS (envWo Try.prog C48 M50 0) L_wmarkFloat32S_nil_l2 2 (loopC (bodyOf Try.f28) 2) S_wmarkFloat32S_nil_l2 X_wmarkFloat32S_nil_l2) x := run_of (fun s : Unit => (show DR S_wmarkFloat32S_nil_l2.hs from (x.1, x.2))) (wmarkFloat32S_nil_l2_e (x.1) (x.2)) ()

theorem wmarkFloat32S_nil_l2_k (L : Loops) (hn : L_wmarkFloat32S_nil_l2.n = L.n) (hlv : L_wmarkFloat32S_nil_l2.lv 2 = L.lv 2) (hL : ∀ vs bs, L.loop 2 vs bs = toldL S_wmarkFloat32S_nil_l2 X_wmarkFloat32S_nil_l2 (fun x => wmarkFloat32S_nil_l2 x.1 x.2) vs bs) : LOk Try.prog (envWo Try.prog C48 M50 0) L 2 (loopC (bodyOf Try.f28) 2) := toldL_ok (L1 := L_wmarkFloat32S_nil_l2) (envWo_ok (C48_ok) (M50_ok)) mixedO hn hlv (loopFree_ok (by kernel_rfl)) wmarkFloat32S_nil_l2_r hL

def A_wmarkFloat32S_nil : Shp := ⟨[.nils, .h], [], [.i .i64]⟩
def R_wmarkFloat32S_nil : List XShp := [(.ret, ⟨[.h], [], [.i .i64]⟩)]

noncomputable def L_wmarkFloat32S_nil : Loops := (⟨20, lvT [(2, [0, 1, 5])], mdT [(2, .exit 0, [], [0, 5])], fun k vs bs => bif Nat.beq k 2 then toldL S_wmarkFloat32S_nil_l2 X_wmarkFloat32S_nil_l2 (fun x => wmarkFloat32S_nil_l2 x.1 x.2) vs bs else .bad⟩ : Loops)

theorem wmarkFloat32S_nil_e (x : DR A_wmarkFloat32S_nil.hs) : (evFnM (envWo Try.prog C48 M50 0) L_wmarkFloat32S_nil Try.f28 (A_wmarkFloat32S_nil.enc x).1 ((A_wmarkFloat32S_nil.enc x).2.map (·.blk))).to (decM R_wmarkFloat32S_nil) = wmarkFloat32S_nil_t x := by kernel_rfl

theorem wmarkFloat32S_nil_m (x : DR A_wmarkFloat32S_nil.hs) : meanM (envWo Try.prog C48 M50 0) L_wmarkFloat32S_nil Try.f28 A_wmarkFloat32S_nil R_wmarkFloat32S_nil x = (show Option (SumD (R_wmarkFloat32S_nil.map (·.2))) from wmarkFloat32S_nil x) := meanM_of (wmarkFloat32S_nil_e x)

theorem wmarkFloat32S_nil_ok : MSpecOk Try.prog 28 (evFnM (envWo Try.prog C48 M50 0) L_wmarkFloat32S_nil Try.f28) := fnM_ok (envWo_ok (C48_ok) (M50_ok)) rfl mixedO Try.func28 (by kernel_rfl) (c := bodyOf Try.f28) (by kernel_rfl) (loopsL (l := [(2, loopC (bodyOf Try.f28) 2)]) (by kernel_rfl) (lk_cons (wmarkFloat32S_nil_l2_k _ rfl rfl (fun _ _ => rfl)) lk_nil))

theorem wmarkFloat32S_nil_told : MSpecOk Try.prog 28 (toldMO A_wmarkFloat32S_nil R_wmarkFloat32S_nil (fun x => wmarkFloat32S_nil x) (mrest M50 28)) := toldMO_ok (by kernel_rfl) wmarkFloat32S_nil_ok (mrest_ok (M50_ok) _) wmarkFloat32S_nil_m

noncomputable def M51 : MTab := mtab 28 (toldMO A_wmarkFloat32S_nil R_wmarkFloat32S_nil (fun x => wmarkFloat32S_nil x) (mrest M50 28)) M50
theorem M51_ok : MTabOk Try.prog M51 := mtab_ok (wmarkFloat32S_nil_told) (M50_ok)

def S_wmarkFloat32SS_l2 : Shp := ⟨[.slw 0 1, .h, .h], [.arr [.osl [.f .f32]] false], [.i .i64, .i .i64, .sl [.osl [.f .f32]]]⟩
def X_wmarkFloat32SS_l2 : List XShp := [(.exit 0, ⟨[.undef, .h, .undef], [.arr [.osl [.f .f32]] false], [.i .i64, .sl [.osl [.f .f32]]]⟩)]

noncomputable def L_wmarkFloat32SS_l2 : Loops := (⟨19, lvT [(2, [0, 1, 5])], mdT [(2, .exit 0, [], [0, 5])], fun k vs bs => .bad⟩ : Loops)

theorem wmarkFloat32SS_l2_e (s : Int × Int × List (List Nat)) : (loopStep (envWo Try.prog C48 M51 1) L_wmarkFloat32SS_l2 2 (loopC (bodyOf Try.f44) 2) (S_wmarkFloat32SS_l2.enc (s.1, s.2.1, s.2.2)).1 (S_wmarkFloat32SS_l2.enc (s.1, s.2.1, s.2.2)).2).to (stepD S_wmarkFloat32SS_l2 X_wmarkFloat32SS_l2) = (wmarkFloat32SS_l2_t  s.1 s.2.1 s.2.2).map (Sum.map (fun s : Int × Int × List (List Nat) => (show DR S_wmarkFloat32SS_l2.hs from (s.1, s.2.1, s.2.2))) id) := by kernel_rfl

theorem wmarkFloat32SS_l2_r (x : DR S_wmarkFloat32SS_l2.hs) : (wmarkFloat32SS_l2 x.1 x.2.1 x.2.2 : Option (SumD (X_wmarkFloat32SS_l2.map (·.2)))) = runL (meanS (envWo Try.prog C48 M51 1) L_wmarkFloat32SS_l2 2 (loopC (bodyOf Try.f44) 2) S_wmarkFloat32SS_l2 X_wmarkFloat32SS_l2) x := run_of (fun s : Int × Int × List (List Nat) => (show DR S_wmarkFloat32SS_l2.hs from (s.1, s.2.1, s.2.2))) (wmarkFloat32SS_l2_e ) (x.1, x.2.1, x.2.2)

theorem wmarkFloat32SS_l2_k (L : Loops) (hn : L_wmarkFloat32SS_l2.n = L.n) (hlv : L_wmarkFloat32SS_l2.lv 2 = L.lv 2) (hL : ∀ vs bs, L.loop 2 vs bs = toldL S_wmarkFloat32SS_l2 X_wmarkFloat32SS_l2 (fun x => wmarkFloat32SS_l2 x.1 x.2.1 x.2.2) vs bs) : LOk Try.prog (envWo Try.prog C48 M51 1) L 2 (loopC (bodyOf Try.f44) 2) := toldL_ok (L1 := L_wmarkFloat32SS_l2) (envWo_ok (C48_ok) (M51_ok)) mixedO hn hlv (loopFree_ok (by kernel_rfl)) wmarkFloat32SS_l2_r hL

def A_wmarkFloat32SS : Shp := ⟨[.slw 0 1, .h], [.arr [.osl [.f .f32]] false], [.i .i64, .sl [.osl [.f .f32]]]⟩
def R_wmarkFloat32SS : List XShp := [(.ret, ⟨[.h], [.arr [.osl [.f .f32]] false], [.i .i64, .sl [.osl [.f .f32]]]⟩)]

noncomputable def L_wmarkFloat32SS : Loops := (⟨19, lvT [(2, [0, 1, 5])], mdT [(2, .exit 0, [], [0, 5])], fun k vs bs => bif Nat.beq k 2 then toldL S_wmarkFloat32SS_l2 X_wmarkFloat32SS_l2 (fun x => wmarkFloat32SS_l2 x.1 x.2.1 x.2.2) vs bs else .bad⟩ : Loops)

theorem wmarkFloat32SS_e (x : DR A_wmarkFloat32SS.hs) : (evFnM (envWo Try.prog C48 M51 1) L_wmarkFloat32SS Try.f44 (A_wmarkFloat32SS.enc x).1 ((A_wmarkFloat32SS.enc x).2.map (·.blk))).to (decM R_wmarkFloat32SS) = wmarkFloat32SS_t x.1 x.2 := by kernel_rfl

theorem wmarkFloat32SS_m (x : DR A_wmarkFloat32SS.hs) : meanM (envWo Try.prog C48 M51 1) L_wmarkFloat32SS Try.f44 A_wmarkFloat32SS R_wmarkFloat32SS x = (show Option (SumD (R_wmarkFloat32SS.map (·.2))) from wmarkFloat32SS x.1 x.2) := meanM_of (wmarkFloat32SS_e x)

theorem wmarkFloat32SS_ok : MSpecOk Try.prog 44 (evFnM (envWo Try.prog C48 M51 1) L_wmarkFloat32SS Try.f44) := fnM_ok (envWo_ok (C48_ok) (M51_ok)) rfl mixedO Try.func44 (by kernel_rfl) (c := bodyOf Try.f44) (by kernel_rfl) (loopsL (l := [(2, loopC (bodyOf Try.f44) 2)]) (by kernel_rfl) (lk_cons (wmarkFloat32SS_l2_k _ rfl rfl (fun _ _ => rfl)) lk_nil))

theorem wmarkFloat32SS_told : MSpecOk Try.prog 44 (toldMO A_wmarkFloat32SS R_wmarkFloat32SS (fun x => wmarkFloat32SS x.1 x.2) (mrest M51 44)) := toldMO_ok (by kernel_rfl) wmarkFloat32SS_ok (mrest_ok (M51_ok) _) wmarkFloat32SS_m

noncomputable def M52 : MTab := mtab 44 (toldMO A_wmarkFloat32SS R_wmarkFloat32SS (fun x => wmarkFloat32SS x.1 x.2) (mrest M51 44)) M51
theorem M52_ok : MTabOk Try.prog M52 := mtab_ok (wmarkFloat32SS_told) (M51_ok)

def S_wheldFloat32S_l2 : Shp := ⟨[.h, .h, .undef, .h], [], [.sl [.f .f32], .i .i64, .i .i64]⟩
def X_wheldFloat32S_l2 : List XShp := [(.ret, ⟨[.undef, .undef, .h, .undef], [], [.i .i64]⟩), (.exit 0, ⟨[.undef, .h, .undef, .undef], [], [.i .i64]⟩)]

noncomputable def L_wheldFloat32S_l2 : Loops := (⟨22, lvT [(2, [0, 1, 4, 5])], mdT [(2, .normal, [], [4]), (2, .exit 0, [], [0, 4, 5]), (2, .ret, [], [0, 1, 5])], fun k vs bs => .bad⟩ : Loops)

theorem wheldFloat32S_l2_e (y0 : List Nat) (s : Int × Int) : (loopStep (envTo Try.prog C48 M52) L_wheldFloat32S_l2 2 (loopC (bodyOf Try.f29) 2) (S_wheldFloat32S_l2.enc (y0, s.1, s.2)).1 (S_wheldFloat32S_l2.enc (y0, s.1, s.2)).2).to (stepD S_wheldFloat32S_l2 X_wheldFloat32S_l2) = (wheldFloat32S_l2_t y0 s.1 s.2).map (Sum.map (fun s : Int × Int => (show DR S_wheldFloat32S_l2.hs from (y0, s.1, s.2))) id) := by kernel_rfl

theorem wheldFloat32S_l2_r (x : DR S_wheldFloat32S_l2.hs) : (wheldFloat32S_l2 x.1 x.2.1 x.2.2 : Option (SumD (X_wheldFloat32S_l2.map (·.2)))) = runL (meanS (envTo Try.prog C48 M52) L_wheldFloat32S_l2 2 (loopC (bodyOf Try.f29) 2) S_wheldFloat32S_l2 X_wheldFloat32S_l2) x := run_of (fun s : Int × Int => (show DR S_wheldFloat32S_l2.hs from (x.1, s.1, s.2))) (wheldFloat32S_l2_e (x.1)) (x.2.1, x.2.2)

theorem wheldFloat32S_l2_k (L : Loops) (hn : L_wheldFloat32S_l2.n = L.n) (hlv : L_wheldFloat32S_l2.lv 2 = L.lv 2) (hL : ∀ vs bs, L.loop 2 vs bs = toldL S_wheldFloat32S_l2 X_wheldFloat32S_l2 (fun x => wheldFloat32S_l2 x.1 x.2.1 x.2.2) vs bs) : LOk Try.prog (envTo Try.prog C48 M52) L 2 (loopC (bodyOf Try.f29) 2) := toldL_ok (L1 := L_wheldFloat32S_l2) (envTo_ok (C48_ok) (M52_ok)) mixedO hn hlv (loopFree_ok (by kernel_rfl)) wheldFloat32S_l2_r hL

def A_wheldFloat32S : Shp := ⟨[.h, .h], [], [.sl [.f .f32], .i .i64]⟩
def R_wheldFloat32S : List XShp := [(.ret, ⟨[.h], [], [.i .i64]⟩)]

noncomputable def L_wheldFloat32S : Loops := (⟨22, lvT [(2, [0, 1, 4, 5])], mdT [(2, .normal, [], [4]), (2, .exit 0, [], [0, 4, 5]), (2, .ret, [], [0, 1, 5])], fun k vs bs => bif Nat.beq k 2 then toldL S_wheldFloat32S_l2 X_wheldFloat32S_l2 (fun x => wheldFloat32S_l2 x.1 x.2.1 x.2.2) vs bs else .bad⟩ : Loops)

theorem wheldFloat32S_e (x : DR A_wheldFloat32S.hs) : (evFn (envTo Try.prog C48 M52) L_wheldFloat32S Try.f29 (A_wheldFloat32S.enc x).1).to (fun q => decX R_wheldFloat32S .ret [q.1] q.2) = wheldFloat32S_t x.1 x.2 := by kernel_rfl

theorem wheldFloat32S_m (x : DR A_wheldFloat32S.hs) : meanF (envTo Try.prog C48 M52) L_wheldFloat32S Try.f29 A_wheldFloat32S R_wheldFloat32S x = (show Option (SumD (R_wheldFloat32S.map (·.2))) from wheldFloat32S x.1 x.2) := meanF_of (wheldFloat32S_e x)

theorem wheldFloat32S_ok : SpecOk Try.prog 29 (evFn (envTo Try.prog C48 M52) L_wheldFloat32S Try.f29) := fnL_ok (envTo_ok (C48_ok) (M52_ok)) mixedO Try.func29 (by kernel_rfl) (c := bodyOf Try.f29) (by kernel_rfl) (loopsL (l := [(2, loopC (bodyOf Try.f29) 2)]) (by kernel_rfl) (lk_cons (wheldFloat32S_l2_k _ rfl rfl (fun _ _ => rfl)) lk_nil))

theorem wheldFloat32S_told : SpecOk Try.prog 29 (toldO A_wheldFloat32S R_wheldFloat32S (fun x => wheldFloat32S x.1 x.2) (C48 29)) := toldO_ok (by kernel_rfl) wheldFloat32S_ok (rest_ok (C48_ok) _) wheldFloat32S_m

noncomputable def C53 : Tab := tab 29 (toldO A_wheldFloat32S R_wheldFloat32S (fun x => wheldFloat32S x.1 x.2) (C48 29)) C48
theorem C53_ok : TabOk Try.prog C53 := tab_ok (wheldFloat32S_told) (C48_ok)

def S_wheldFloat32SS_l2 : Shp := ⟨[.h, .h, .undef, .h], [], [.sl [.sl [.f .f32]], .i .i64, .i .i64]⟩
def X_wheldFloat32SS_l2 : List XShp := [(.ret, ⟨[.undef, .undef, .h, .undef], [], [.i .i64]⟩), (.exit 0, ⟨[.undef, .h, .undef, .undef], [], [.i .i64]⟩)]

noncomputable def L_wheldFloat32SS_l2 : Loops := (⟨21, lvT [(2, [0, 1, 4, 5])], mdT [(2, .normal, [], [4]), (2, .exit 0, [], [0, 4, 5]), (2, .ret, [], [0, 1, 5])], fun k vs bs => .bad⟩ : Loops)

theorem wheldFloat32SS_l2_e (y0 : List (List Nat)) (s : Int × Int) : (loopStep (envTo Try.prog C53 M52) L_wheldFloat32SS_l2 2 (loopC (bodyOf Try.f45) 2) (S_wheldFloat32SS_l2.enc (y0, s.1, s.2)).1 (S_wheldFloat32SS_l2.enc (y0, s.1, s.2)).2).to (stepD S_wheldFloat32SS_l2 X_wheldFloat32SS_l2) = (wheldFloat32SS_l2_t y0 s.1 s.2).map (Sum.map (fun s : Int × Int => (show DR S_wheldFloat32SS_l2.hs from (y0, s.1, s.2))) id) := by kernel_rfl

theorem wheldFloat32SS_l2_r (x : DR S_wheldFloat32SS_l2.hs) : (wheldFloat32SS_l2 x.1 x.2.1 x.2.2 : Option (SumD (X_wheldFloat32SS_l2.map (·.2)))) = runL (meanS (envTo Try.prog C53 M52) L_wheldFloat32SS_l2 2 (loopC (bodyOf Try.f45) 2) S_wheldFloat32SS_l2 X_wheldFloat32SS_l2) x := run_of (fun s : Int × Int => (show DR S_wheldFloat32SS_l2.hs from (x.1, s.1, s.2))) (wheldFloat32SS_l2_e (x.1)) (x.2.1, x.2.2)

theorem wheldFloat32SS_l2_k (L : Loops) (hn : L_wheldFloat32SS_l2.n = L.n) (hlv : L_wheldFloat32SS_l2.lv 2 = L.lv 2) (hL : ∀ vs bs, L.loop 2 vs bs = toldL S_wheldFloat32SS_l2 X_wheldFloat32SS_l2 (fun x => wheldFloat32SS_l2 x.1 x.2.1 x.2.2) vs bs) : LOk Try.prog (envTo Try.prog C53 M52) L 2 (loopC (bodyOf Try.f45) 2) := toldL_ok (L1 := L_wheldFloat32SS_l2) (envTo_ok (C53_ok) (M52_ok)) mixedO hn hlv (loopFree_ok (by kernel_rfl)) wheldFloat32SS_l2_r hL

def A_wheldFloat32SS : Shp := ⟨[.h, .h], [], [.sl [.sl [.f .f32]], .i .i64]⟩
def R_wheldFloat32SS : List XShp := [(.ret, ⟨[.h], [], [.i .i64]⟩)]

noncomputable def L_wheldFloat32SS : Loops := (⟨21, lvT [(2, [0, 1, 4, 5])], mdT [(2, .normal, [], [4]), (2, .exit 0, [], [0, 4, 5]), (2, .ret, [], [0, 1, 5])], fun k vs bs => bif Nat.beq k 2 then toldL S_wheldFloat32SS_l2 X_wheldFloat32SS_l2 (fun x => wheldFloat32SS_l2 x.1 x.2.1 x.2.2) vs bs else .bad⟩ : Loops)

theorem wheldFloat32SS_e (x : DR A_wheldFloat32SS.hs) : (evFn (envTo Try.prog C53 M52) L_wheldFloat32SS Try.f45 (A_wheldFloat32SS.enc x).1).to (fun q => decX R_wheldFloat32SS .ret [q.1] q.2) = wheldFloat32SS_t x.1 x.2 := by kernel_rfl

theorem wheldFloat32SS_m (x : DR A_wheldFloat32SS.hs) : meanF (envTo Try.prog C53 M52) L_wheldFloat32SS Try.f45 A_wheldFloat32SS R_wheldFloat32SS x = (show Option (SumD (R_wheldFloat32SS.map (·.2))) from wheldFloat32SS x.1 x.2) := meanF_of (wheldFloat32SS_e x)

theorem wheldFloat32SS_ok : SpecOk Try.prog 45 (evFn (envTo Try.prog C53 M52) L_wheldFloat32SS Try.f45) := fnL_ok (envTo_ok (C53_ok) (M52_ok)) mixedO Try.func45 (by kernel_rfl) (c := bodyOf Try.f45) (by kernel_rfl) (loopsL (l := [(2, loopC (bodyOf Try.f45) 2)]) (by kernel_rfl) (lk_cons (wheldFloat32SS_l2_k _ rfl rfl (fun _ _ => rfl)) lk_nil))

theorem wheldFloat32SS_told : SpecOk Try.prog 45 (toldO A_wheldFloat32SS R_wheldFloat32SS (fun x => wheldFloat32SS x.1 x.2) (C53 45)) := toldO_ok (by kernel_rfl) wheldFloat32SS_ok (rest_ok (C53_ok) _) wheldFloat32SS_m

noncomputable def C54 : Tab := tab 45 (toldO A_wheldFloat32SS R_wheldFloat32SS (fun x => wheldFloat32SS x.1 x.2) (C53 45)) C53
theorem C54_ok : TabOk Try.prog C54 := tab_ok (wheldFloat32SS_told) (C53_ok)

def S_wmarkFloat32SS_nil_l2 : Shp := ⟨[.nils, .h, .h], [], [.i .i64, .i .i64]⟩
def X_wmarkFloat32SS_nil_l2 : List XShp := [(.exit 0, ⟨[.undef, .h, .undef], [], [.i .i64]⟩)]

noncomputable def L_wmarkFloat32SS_nil_l2 : Loops := (⟨19, lvT [(2, [0, 1, 5])], mdT [(2, .exit 0, [], [0, 5])], fun k vs bs => .bad⟩ : Loops)

theorem wmarkFloat32SS_nil_l2_e (y0 : Int) (y1 : Int) (s : Unit) : (loopStep (envWo Try.prog C54 M52 0) L_wmarkFloat32SS_nil_l2 2 (loopC (bodyOf Try.f44) 2) (S_wmarkFloat32SS_nil_l2.enc (y0, y1)).1 (S_wmarkFloat32SS_nil_l2.enc (y0, y1)).2).to (stepD S_wmarkFloat32SS_nil_l2 X_wmarkFloat32SS_nil_l2) = (wmarkFloat32SS_nil_l2_t y0 y1 ).map (Sum.map (fun s : Unit => (show DR S_wmarkFloat32SS_nil_l2.hs from (y0, y1))) id) := by kernel_rfl

theorem wmarkFloat32SS_nil_l2_r (x : DR S_wmarkFloat32SS_nil_l2.hs) : (wmarkFloat32SS_nil_l2 x.1 x.2 : Option (SumD (X_wmarkFloat32SS_nil_l2.map (·.2)))) = runL (meanS (envWo Try.prog C54 M52 0) L_wmarkFloat32SS_nil_l2 2 (loopC (bodyOf Try.f44) 2) S_wmarkFloat32SS_nil_l2 X_wmarkFloat32SS_nil_l2) x := run_of (fun s : Unit => (show DR S_wmarkFloat32SS_nil_l2.hs from (x.1, x.2))) (wmarkFloat32SS_nil_l2_e (x.1) (x.2)) ()

theorem wmarkFloat32SS_nil_l2_k (L : Loops) (hn : L_wmarkFloat32SS_nil_l2.n = L.n) (hlv : L_wmarkFloat32SS_nil_l2.lv 2 = L.lv 2) (hL : ∀ vs bs, L.loop 2 vs bs = toldL S_wmarkFloat32SS_nil_l2 X_wmarkFloat32SS_nil_l2 (fun x => wmarkFloat32SS_nil_l2 x.1 x.2) vs bs) : LOk Try.prog (envWo Try.prog C54 M52 0) L 2 (loopC (bodyOf Try.f44) 2) := toldL_ok (L1 := L_wmarkFloat32SS_nil_l2) (envWo_ok (C54_ok) (M52_ok)) mixedO hn hlv (loopFree_ok (by kernel_rfl)) wmarkFloat32SS_nil_l2_r hL

def A_wmarkFloat32SS_nil : Shp := ⟨[.nils, .h], [], [.i .i64]⟩
def R_wmarkFloat32SS_nil : List XShp := [(.ret, ⟨[.h], [], [.i .i64]⟩)]

noncomputable def L_wmarkFloat32SS_nil : Loops := (⟨19, lvT [(2, [0, 1, 5])], mdT [(2, .exit 0, [], [0, 5])], fun k vs bs => bif Nat.beq k 2 then toldL S_wmarkFloat32SS_nil_l2 X_wmarkFloat32SS_nil_l2 (fun x => wmarkFloat32SS_nil_l2 x.1 x.2) vs bs else .bad⟩ : Loops)

theorem wmarkFloat32SS_nil_e (x : DR A_wmarkFloat32SS_nil.hs) : (evFnM (envWo Try.prog C54 M52 0) L_wmarkFloat32SS_nil Try.f44 (A_wmarkFloat32SS_nil.enc x).1 ((A_wmarkFloat32SS_nil.enc x).2.map (·.blk))).to (decM R_wmarkFloat32SS_nil) = wmarkFloat32SS_nil_t x := by kernel_rfl

theorem wmarkFloat32SS_nil_m (x : DR A_wmarkFloat32SS_nil.hs) : meanM (envWo Try.prog C54 M52 0) L_wmarkFloat32SS_nil Try.f44 A_wmarkFloat32SS_nil R_wmarkFloat32SS_nil x = (show Option (SumD (R_wmarkFloat32SS_nil.map (·.2))) from wmarkFloat32SS_nil x) := meanM_of (wmarkFloat32SS_nil_e x)

theorem wmarkFloat32SS_nil_ok : MSpecOk Try.prog 44 (evFnM (envWo Try.prog C54 M52 0) L_wmarkFloat32SS_nil Try.f44) := fnM_ok (envWo_ok (C54_ok) (M52_ok)) rfl mixedO Try.func44 (by kernel_rfl) (c := bodyOf Try.f44) (by kernel_rfl) (loopsL (l := [(2, loopC (bodyOf Try.f44) 2)]) (by kernel_rfl) (lk_cons (wmarkFloat32SS_nil_l2_k _ rfl rfl (fun _ _ => rfl)) lk_nil))

theorem wmarkFloat32SS_nil_told : MSpecOk Try.prog 44 (toldMO A_wmarkFloat32SS_nil R_wmarkFloat32SS_nil (fun x => wmarkFloat32SS_nil x) (mrest M52 44)) := toldMO_ok (by kernel_rfl) wmarkFloat32SS_nil_ok (mrest_ok (M52_ok) _) wmarkFloat32SS_nil_m

noncomputable def M55 : MTab := mtab 44 (toldMO A_wmarkFloat32SS_nil R_wmarkFloat32SS_nil (fun x => wmarkFloat32SS_nil x) (mrest M52 44)) M52
theorem M55_ok : MTabOk Try.prog M55 := mtab_ok (wmarkFloat32SS_nil_told) (M52_ok)

def A_wFnExactRouteShared : Shp := ⟨[.h, .h, .h, .h], [], [.sl [.f .f32, .f .f32], .sl [.sl [.f .f32]], .f .f32, .i .i64]⟩
def R_wFnExactRouteShared : List XShp := [(.ret, ⟨[.h], [], [.b]⟩)]

theorem wFnExactRouteShared_e (x : DR A_wFnExactRouteShared.hs) : (evFn (envTo Try.prog C54 M55) noLoops Try.f8 (A_wFnExactRouteShared.enc x).1).to (fun q => decX R_wFnExactRouteShared .ret [q.1] q.2) = wFnExactRouteShared_t x.1 x.2.1 x.2.2.1 x.2.2.2 := by kernel_rfl

theorem wFnExactRouteShared_m (x : DR A_wFnExactRouteShared.hs) : meanF (envTo Try.prog C54 M55) noLoops Try.f8 A_wFnExactRouteShared R_wFnExactRouteShared x = (show Option (SumD (R_wFnExactRouteShared.map (·.2))) from wFnExactRouteShared x.1 x.2.1 x.2.2.1 x.2.2.2) := meanF_of (wFnExactRouteShared_e x)

theorem wFnExactRouteShared_ok : SpecOk Try.prog 8 (evFn (envTo Try.prog C54 M55) noLoops Try.f8) := fnL_ok (envTo_ok (C54_ok) (M55_ok)) mixedO Try.func8 (by kernel_rfl) (c := bodyOf Try.f8) (by kernel_rfl) (loopFree_ok (by kernel_rfl))

theorem wFnExactRouteShared_told : SpecOk Try.prog 8 (toldO A_wFnExactRouteShared R_wFnExactRouteShared (fun x => wFnExactRouteShared x.1 x.2.1 x.2.2.1 x.2.2.2) (C54 8)) := toldO_ok (by kernel_rfl) wFnExactRouteShared_ok (rest_ok (C54_ok) _) wFnExactRouteShared_m

noncomputable def C56 : Tab := tab 8 (toldO A_wFnExactRouteShared R_wFnExactRouteShared (fun x => wFnExactRouteShared x.1 x.2.1 x.2.2.1 x.2.2.2) (C54 8)) C54
theorem C56_ok : TabOk Try.prog C56 := tab_ok (wFnExactRouteShared_told) (C54_ok)

theorem lawFnExactRouteShared_ok : SpecOk Try.prog 8 (evFn (envTo Try.prog C54 M55) noLoops Try.f8) := wFnExactRouteShared_ok
theorem lawFnExactRouteShared_says (x : DR A_wFnExactRouteShared.hs) (h : (show Option (SumD (R_wFnExactRouteShared.map (·.2))) from wFnExactRouteShared x.1 x.2.1 x.2.2.1 x.2.2.2) = some true) : saysTrue (evFn (envTo Try.prog C54 M55) noLoops Try.f8 (A_wFnExactRouteShared.enc x).1) = true := law_says (x := x) ((wFnExactRouteShared_m x).trans h)

theorem lawFnExactRouteShared_true (x0 : List (Nat × Nat)) (x1 : List (List Nat)) (x2 : Nat) (x3 : Int) (h : wFnExactRouteShared x0 x1 x2 x3 = some true) : saysTrue (evFn (envTo Try.prog C54 M55) noLoops Try.f8 [.ds [.f .f32, .f .f32] x0, .ds [.sl [.f .f32]] x1, .f .f32 x2, .i .i64 x3]) = true := (congrArg (fun l => saysTrue (evFn (envTo Try.prog C54 M55) noLoops Try.f8 l)) (by kernel_rfl : ([.ds [.f .f32, .f .f32] x0, .ds [.sl [.f .f32]] x1, .f .f32 x2, .i .i64 x3] : List V) = (A_wFnExactRouteShared.enc (x0, x1, x2, x3)).1)).trans (lawFnExactRouteShared_says (x0, x1, x2, x3) h)
end Go.Proofs.Ytikmeahdcipanaa
