/- Functions, as plain functions. What the program comes to. -/
import Derived.Test.YtlhfpjpgglfcfaaGa1d
import Derived.Test.YtlhfpjpgglfcfaaDb
import Derived.Test.YtlhfpjpgglfcfaaNv
import Derived.KernelRfl
set_option linter.unusedVariables false
set_option linter.unusedSimpArgs false
set_option linter.constructorNameAsVariable false
namespace Go.Proofs.Ytlhfpjpgglfcfaa
open Go.RowKit
set_option maxRecDepth 100000
theorem mixedO : (Try.prog).follows .mixedOrders = true := by kernel_rfl
noncomputable def C0 : Tab := tab 85 (spFB .f32 (isFin .f32)) tab0
theorem C0_ok : TabOk Try.prog C0 := tab_ok (spFB_ok Try.func85 (by kernel_rfl) (fun hx => l01Finite_c hx)) (tab0_ok _)

noncomputable def C1 : Tab := tab 86 (spFB .f32 (isFin .f32)) C0
theorem C1_ok : TabOk Try.prog C1 := tab_ok (spFB_ok Try.func86 (by kernel_rfl) (fun hx => IsFinite_c hx)) (C0_ok)

noncomputable def C2 : Tab := tab 60 (spFB .f32 isLen) C1
theorem C2_ok : TabOk Try.prog C2 := tab_ok (spFB_ok Try.func60 (by kernel_rfl) (fun hx => l02Above_c hx)) (C1_ok)

noncomputable def C3 : Tab := tab 63 (spFB .f32 isLen) C2
theorem C3_ok : TabOk Try.prog C3 := tab_ok (spFB_ok Try.func63 (by kernel_rfl) (fun hx => aLength_c hx)) (C2_ok)

noncomputable def C4 : Tab := tab 90 (spFB .f32 isMass) C3
theorem C4_ok : TabOk Try.prog C4 := tab_ok (spFB_ok Try.func90 (by kernel_rfl) (fun hx => l02Least_c hx)) (C3_ok)

noncomputable def C5 : Tab := tab 93 (spFB .f32 isMass) C4
theorem C5_ok : TabOk Try.prog C5 := tab_ok (spFB_ok Try.func93 (by kernel_rfl) (fun hx => aMass_c hx)) (C4_ok)

noncomputable def C6 : Tab := tab 53 (spFF .f32 .f32 froot) C5
theorem C6_ok : TabOk Try.prog C6 := tab_ok (spFF_ok Try.func53 (by kernel_rfl) (fun hx => l01Sqrt_c hx)) (C5_ok)

noncomputable def C7 : Tab := tab 57 (spFF .f32 .f32 froot) C6
theorem C7_ok : TabOk Try.prog C7 := tab_ok (spFF_ok Try.func57 (by kernel_rfl) (fun hx => RootNumber_c hx)) (C6_ok)

noncomputable def C8 : Tab := tab 18 (spSame .f64) C7
theorem C8_ok : TabOk Try.prog C8 := tab_ok (spSame_ok Try.func18 (by kernel_rfl) (fun hx hy => sameFloat_c hx hy)) (C7_ok)

noncomputable def C9 : Tab := tab 109 (spFB .f64 (isFin .f64)) C8
theorem C9_ok : TabOk Try.prog C9 := tab_ok (spFB_ok Try.func109 (by kernel_rfl) (fun hx => finite_c hx)) (C8_ok)

noncomputable def C10 : Tab := tab 119 (spFB .f64 (isN .f64)) C9
theorem C10_ok : TabOk Try.prog C10 := tab_ok (spFB_ok Try.func119 (by kernel_rfl) (fun hx => isNaN_c hx)) (C9_ok)

noncomputable def C11 : Tab := tab 121 (spFF .f64 .f64 (fabs .f64)) C10
theorem C11_ok : TabOk Try.prog C11 := tab_ok (spFF_ok Try.func121 (by kernel_rfl) (fun hx => abs_c hx)) (C10_ok)

noncomputable def C12 : Tab := tab 89 (spFF .f64 .f64 (fsqrt .f64)) C11
theorem C12_ok : TabOk Try.prog C12 := tab_ok (spFF_ok Try.func89 (by kernel_rfl) (fun hx => Sqrt_c hx)) (C11_ok)

noncomputable def C13 : Tab := tab 116 (spFrom) C12
theorem C13_ok : TabOk Try.prog C13 := tab_ok ((spFrom_ok (fun n w => ext_from64 n w))) (C12_ok)

def A_sl04Weir : Shp := ⟨[.h, .h, .h, .h], [], [.f .f32, .f .f32, .f .f32, .f .f32]⟩
def R_sl04Weir : List XShp := [(.ret, ⟨[.h], [], [.f .f32]⟩)]

theorem sl04Weir_e (x : DR A_sl04Weir.hs) : (evFn (envT Try.prog C13 mtab0) noLoops Try.f91 (A_sl04Weir.enc x).1).to (fun q => decX R_sl04Weir .ret [q.1] q.2) = sl04Weir_t x.1 x.2.1 x.2.2.1 x.2.2.2 := by kernel_rfl

theorem sl04Weir_m (x : DR A_sl04Weir.hs) : meanF (envT Try.prog C13 mtab0) noLoops Try.f91 A_sl04Weir R_sl04Weir x = some (show SumD (R_sl04Weir.map (·.2)) from sl04Weir x.1 x.2.1 x.2.2.1 x.2.2.2) := @meanF_tot _ _ _ _ _ _ _ (sl04Weir_e x) (show Inhabited (Nat) from inferInstance) (by kernel_rfl)

theorem sl04Weir_ok : SpecOk Try.prog 91 (evFn (envT Try.prog C13 mtab0) noLoops Try.f91) := fnL_ok (envT_ok (C13_ok) (mtab0_ok _)) mixedO Try.func91 (by kernel_rfl) (c := bodyOf Try.f91) (by kernel_rfl) (loopFree_ok (by kernel_rfl))

theorem sl04Weir_told : SpecOk Try.prog 91 (toldT A_sl04Weir R_sl04Weir (fun x => sl04Weir x.1 x.2.1 x.2.2.1 x.2.2.2) (C13 91)) := toldT_ok (by kernel_rfl) sl04Weir_ok (rest_ok (C13_ok) _) sl04Weir_m

noncomputable def C14 : Tab := tab 91 (toldT A_sl04Weir R_sl04Weir (fun x => sl04Weir x.1 x.2.1 x.2.2.1 x.2.2.2) (C13 91)) C13
theorem C14_ok : TabOk Try.prog C14 := tab_ok (sl04Weir_told) (C13_ok)

def A_sl02Number : Shp := ⟨[.h], [], [.f .f32]⟩
def R_sl02Number : List XShp := [(.ret, ⟨[.tup [.h, .h]], [], [.f .f32, .b]⟩)]

theorem sl02Number_e (x : DR A_sl02Number.hs) : (evFn (envT Try.prog C14 mtab0) noLoops Try.f52 (A_sl02Number.enc x).1).to (fun q => decX R_sl02Number .ret [q.1] q.2) = sl02Number_t x := by kernel_rfl

theorem sl02Number_m (x : DR A_sl02Number.hs) : meanF (envT Try.prog C14 mtab0) noLoops Try.f52 A_sl02Number R_sl02Number x = some (show SumD (R_sl02Number.map (·.2)) from sl02Number x) := @meanF_tot _ _ _ _ _ _ _ (sl02Number_e x) (show Inhabited (Nat × Bool) from inferInstance) (by kernel_rfl)

theorem sl02Number_ok : SpecOk Try.prog 52 (evFn (envT Try.prog C14 mtab0) noLoops Try.f52) := fnL_ok (envT_ok (C14_ok) (mtab0_ok _)) mixedO Try.func52 (by kernel_rfl) (c := bodyOf Try.f52) (by kernel_rfl) (loopFree_ok (by kernel_rfl))

theorem sl02Number_told : SpecOk Try.prog 52 (toldT A_sl02Number R_sl02Number (fun x => sl02Number x) (C14 52)) := toldT_ok (by kernel_rfl) sl02Number_ok (rest_ok (C14_ok) _) sl02Number_m

noncomputable def C15 : Tab := tab 52 (toldT A_sl02Number R_sl02Number (fun x => sl02Number x) (C14 52)) C14
theorem C15_ok : TabOk Try.prog C15 := tab_ok (sl02Number_told) (C14_ok)

def A_sWeirOver : Shp := ⟨[.h, .h, .h, .h], [], [.f .f32, .f .f32, .f .f32, .f .f32]⟩
def R_sWeirOver : List XShp := [(.ret, ⟨[.tup [.h, .h]], [], [.f .f32, .b]⟩)]

theorem sWeirOver_e (x : DR A_sWeirOver.hs) : (evFn (envT Try.prog C15 mtab0) noLoops Try.f58 (A_sWeirOver.enc x).1).to (fun q => decX R_sWeirOver .ret [q.1] q.2) = sWeirOver_t x.1 x.2.1 x.2.2.1 x.2.2.2 := by kernel_rfl

theorem sWeirOver_m (x : DR A_sWeirOver.hs) : meanF (envT Try.prog C15 mtab0) noLoops Try.f58 A_sWeirOver R_sWeirOver x = some (show SumD (R_sWeirOver.map (·.2)) from sWeirOver x.1 x.2.1 x.2.2.1 x.2.2.2) := @meanF_tot _ _ _ _ _ _ _ (sWeirOver_e x) (show Inhabited (Nat × Bool) from inferInstance) (by kernel_rfl)

theorem sWeirOver_ok : SpecOk Try.prog 58 (evFn (envT Try.prog C15 mtab0) noLoops Try.f58) := fnL_ok (envT_ok (C15_ok) (mtab0_ok _)) mixedO Try.func58 (by kernel_rfl) (c := bodyOf Try.f58) (by kernel_rfl) (loopFree_ok (by kernel_rfl))

theorem sWeirOver_told : SpecOk Try.prog 58 (toldT A_sWeirOver R_sWeirOver (fun x => sWeirOver x.1 x.2.1 x.2.2.1 x.2.2.2) (C15 58)) := toldT_ok (by kernel_rfl) sWeirOver_ok (rest_ok (C15_ok) _) sWeirOver_m

noncomputable def C16 : Tab := tab 58 (toldT A_sWeirOver R_sWeirOver (fun x => sWeirOver x.1 x.2.1 x.2.2.1 x.2.2.2) (C15 58)) C15
theorem C16_ok : TabOk Try.prog C16 := tab_ok (sWeirOver_told) (C15_ok)

def A_sl04Gate : Shp := ⟨[.h, .h, .h, .h], [], [.f .f32, .f .f32, .f .f32, .f .f32]⟩
def R_sl04Gate : List XShp := [(.ret, ⟨[.h], [], [.f .f32]⟩)]

theorem sl04Gate_e (x : DR A_sl04Gate.hs) : (evFn (envT Try.prog C16 mtab0) noLoops Try.f92 (A_sl04Gate.enc x).1).to (fun q => decX R_sl04Gate .ret [q.1] q.2) = sl04Gate_t x.1 x.2.1 x.2.2.1 x.2.2.2 := by kernel_rfl

theorem sl04Gate_m (x : DR A_sl04Gate.hs) : meanF (envT Try.prog C16 mtab0) noLoops Try.f92 A_sl04Gate R_sl04Gate x = some (show SumD (R_sl04Gate.map (·.2)) from sl04Gate x.1 x.2.1 x.2.2.1 x.2.2.2) := @meanF_tot _ _ _ _ _ _ _ (sl04Gate_e x) (show Inhabited (Nat) from inferInstance) (by kernel_rfl)

theorem sl04Gate_ok : SpecOk Try.prog 92 (evFn (envT Try.prog C16 mtab0) noLoops Try.f92) := fnL_ok (envT_ok (C16_ok) (mtab0_ok _)) mixedO Try.func92 (by kernel_rfl) (c := bodyOf Try.f92) (by kernel_rfl) (loopFree_ok (by kernel_rfl))

theorem sl04Gate_told : SpecOk Try.prog 92 (toldT A_sl04Gate R_sl04Gate (fun x => sl04Gate x.1 x.2.1 x.2.2.1 x.2.2.2) (C16 92)) := toldT_ok (by kernel_rfl) sl04Gate_ok (rest_ok (C16_ok) _) sl04Gate_m

noncomputable def C17 : Tab := tab 92 (toldT A_sl04Gate R_sl04Gate (fun x => sl04Gate x.1 x.2.1 x.2.2.1 x.2.2.2) (C16 92)) C16
theorem C17_ok : TabOk Try.prog C17 := tab_ok (sl04Gate_told) (C16_ok)

def A_sGateUnder : Shp := ⟨[.h, .h, .h, .h], [], [.f .f32, .f .f32, .f .f32, .f .f32]⟩
def R_sGateUnder : List XShp := [(.ret, ⟨[.tup [.h, .h]], [], [.f .f32, .b]⟩)]

theorem sGateUnder_e (x : DR A_sGateUnder.hs) : (evFn (envT Try.prog C17 mtab0) noLoops Try.f59 (A_sGateUnder.enc x).1).to (fun q => decX R_sGateUnder .ret [q.1] q.2) = sGateUnder_t x.1 x.2.1 x.2.2.1 x.2.2.2 := by kernel_rfl

theorem sGateUnder_m (x : DR A_sGateUnder.hs) : meanF (envT Try.prog C17 mtab0) noLoops Try.f59 A_sGateUnder R_sGateUnder x = some (show SumD (R_sGateUnder.map (·.2)) from sGateUnder x.1 x.2.1 x.2.2.1 x.2.2.2) := @meanF_tot _ _ _ _ _ _ _ (sGateUnder_e x) (show Inhabited (Nat × Bool) from inferInstance) (by kernel_rfl)

theorem sGateUnder_ok : SpecOk Try.prog 59 (evFn (envT Try.prog C17 mtab0) noLoops Try.f59) := fnL_ok (envT_ok (C17_ok) (mtab0_ok _)) mixedO Try.func59 (by kernel_rfl) (c := bodyOf Try.f59) (by kernel_rfl) (loopFree_ok (by kernel_rfl))

theorem sGateUnder_told : SpecOk Try.prog 59 (toldT A_sGateUnder R_sGateUnder (fun x => sGateUnder x.1 x.2.1 x.2.2.1 x.2.2.2) (C17 59)) := toldT_ok (by kernel_rfl) sGateUnder_ok (rest_ok (C17_ok) _) sGateUnder_m

noncomputable def C18 : Tab := tab 59 (toldT A_sGateUnder R_sGateUnder (fun x => sGateUnder x.1 x.2.1 x.2.2.1 x.2.2.2) (C17 59)) C17
theorem C18_ok : TabOk Try.prog C18 := tab_ok (sGateUnder_told) (C17_ok)

def A_sCulvertFlow : Shp := ⟨[.h, .h, .h, .h, .h], [], [.f .f32, .f .f32, .f .f32, .f .f32, .f .f32]⟩
def R_sCulvertFlow : List XShp := [(.ret, ⟨[.tup [.h, .h]], [], [.f .f32, .b]⟩)]

theorem sCulvertFlow_e (x : DR A_sCulvertFlow.hs) : (evFn (envT Try.prog C18 mtab0) noLoops Try.f21 (A_sCulvertFlow.enc x).1).to (fun q => decX R_sCulvertFlow .ret [q.1] q.2) = sCulvertFlow_t x.1 x.2.1 x.2.2.1 x.2.2.2.1 x.2.2.2.2 := by kernel_rfl

theorem sCulvertFlow_m (x : DR A_sCulvertFlow.hs) : meanF (envT Try.prog C18 mtab0) noLoops Try.f21 A_sCulvertFlow R_sCulvertFlow x = some (show SumD (R_sCulvertFlow.map (·.2)) from sCulvertFlow x.1 x.2.1 x.2.2.1 x.2.2.2.1 x.2.2.2.2) := @meanF_tot _ _ _ _ _ _ _ (sCulvertFlow_e x) (show Inhabited (Nat × Bool) from inferInstance) (by kernel_rfl)

theorem sCulvertFlow_ok : SpecOk Try.prog 21 (evFn (envT Try.prog C18 mtab0) noLoops Try.f21) := fnL_ok (envT_ok (C18_ok) (mtab0_ok _)) mixedO Try.func21 (by kernel_rfl) (c := bodyOf Try.f21) (by kernel_rfl) (loopFree_ok (by kernel_rfl))

theorem sCulvertFlow_told : SpecOk Try.prog 21 (toldT A_sCulvertFlow R_sCulvertFlow (fun x => sCulvertFlow x.1 x.2.1 x.2.2.1 x.2.2.2.1 x.2.2.2.2) (C18 21)) := toldT_ok (by kernel_rfl) sCulvertFlow_ok (rest_ok (C18_ok) _) sCulvertFlow_m

noncomputable def C19 : Tab := tab 21 (toldT A_sCulvertFlow R_sCulvertFlow (fun x => sCulvertFlow x.1 x.2.1 x.2.2.1 x.2.2.2.1 x.2.2.2.2) (C18 21)) C18
theorem C19_ok : TabOk Try.prog C19 := tab_ok (sCulvertFlow_told) (C18_ok)

def A_iareFinite_1 : Shp := ⟨[.h], [], [.f .f32]⟩
def R_iareFinite_1 : List XShp := [(.ret, ⟨[.h], [], [.b]⟩)]

theorem iareFinite_1_e (x : DR A_iareFinite_1.hs) : (evFn (envT Try.prog C19 mtab0) noLoops Try.f112 (A_iareFinite_1.enc x).1).to (fun q => decX R_iareFinite_1 .ret [q.1] q.2) = iareFinite_1_t x := by kernel_rfl

theorem iareFinite_1_m (x : DR A_iareFinite_1.hs) : meanF (envT Try.prog C19 mtab0) noLoops Try.f112 A_iareFinite_1 R_iareFinite_1 x = some (show SumD (R_iareFinite_1.map (·.2)) from iareFinite_1 x) := @meanF_tot _ _ _ _ _ _ _ (iareFinite_1_e x) (show Inhabited (Bool) from inferInstance) (by kernel_rfl)

theorem iareFinite_1_ok : SpecOk Try.prog 112 (evFn (envT Try.prog C19 mtab0) noLoops Try.f112) := fnL_ok (envT_ok (C19_ok) (mtab0_ok _)) mixedO Try.func112 (by kernel_rfl) (c := bodyOf Try.f112) (by kernel_rfl) (loopFree_ok (by kernel_rfl))

theorem iareFinite_1_told : SpecOk Try.prog 112 (toldT A_iareFinite_1 R_iareFinite_1 (fun x => iareFinite_1 x) (C19 112)) := toldT_ok (by kernel_rfl) iareFinite_1_ok (rest_ok (C19_ok) _) iareFinite_1_m

noncomputable def C20 : Tab := tab 112 (toldT A_iareFinite_1 R_iareFinite_1 (fun x => iareFinite_1 x) (C19 112)) C19
theorem C20_ok : TabOk Try.prog C20 := tab_ok (iareFinite_1_told) (C19_ok)

def S_lIndexFunc_iareFinite_1_l2 : Shp := ⟨[.h, .fn 112 [], .undef, .h, .h], [], [.sl [.f .f32], .i .i64, .i .i64]⟩
def X_lIndexFunc_iareFinite_1_l2 : List XShp := [(.ret, ⟨[.undef, .undef, .h, .undef, .undef], [], [.i .i64]⟩), (.exit 0, ⟨[.undef, .undef, .undef, .undef, .undef], [], []⟩)]

noncomputable def L_lIndexFunc_iareFinite_1_l2 : Loops := (⟨19, lvT [(2, [0, 1, 4, 7, 8])], mdT [(2, .normal, [], [4]), (2, .exit 0, [], [0, 1, 4, 7, 8]), (2, .ret, [], [0, 1, 7, 8])], fun k vs bs => .bad⟩ : Loops)

theorem lIndexFunc_iareFinite_1_l2_e (y0 : List Nat) (y1 : Int) (s : Int) : (loopStep (envT Try.prog C20 mtab0) L_lIndexFunc_iareFinite_1_l2 2 (loopC (bodyOf Try.f120) 2) (S_lIndexFunc_iareFinite_1_l2.enc (y0, y1, s)).1 (S_lIndexFunc_iareFinite_1_l2.enc (y0, y1, s)).2).to (stepD S_lIndexFunc_iareFinite_1_l2 X_lIndexFunc_iareFinite_1_l2) = (lIndexFunc_iareFinite_1_l2_t y0 y1 s).map (Sum.map (fun s : Int => (show DR S_lIndexFunc_iareFinite_1_l2.hs from (y0, y1, s))) id) := by kernel_rfl

theorem lIndexFunc_iareFinite_1_l2_r (x : DR S_lIndexFunc_iareFinite_1_l2.hs) : (lIndexFunc_iareFinite_1_l2 x.1 x.2.1 x.2.2 : Option (SumD (X_lIndexFunc_iareFinite_1_l2.map (·.2)))) = runL (meanS (envT Try.prog C20 mtab0) L_lIndexFunc_iareFinite_1_l2 2 (loopC (bodyOf Try.f120) 2) S_lIndexFunc_iareFinite_1_l2 X_lIndexFunc_iareFinite_1_l2) x := run_of (fun s : Int => (show DR S_lIndexFunc_iareFinite_1_l2.hs from (x.1, x.2.1, s))) (lIndexFunc_iareFinite_1_l2_e (x.1) (x.2.1)) x.2.2

theorem lIndexFunc_iareFinite_1_l2_k (L : Loops) (hn : L_lIndexFunc_iareFinite_1_l2.n = L.n) (hlv : L_lIndexFunc_iareFinite_1_l2.lv 2 = L.lv 2) (hL : ∀ vs bs, L.loop 2 vs bs = toldL S_lIndexFunc_iareFinite_1_l2 X_lIndexFunc_iareFinite_1_l2 (fun x => lIndexFunc_iareFinite_1_l2 x.1 x.2.1 x.2.2) vs bs) : LOk Try.prog (envT Try.prog C20 mtab0) L 2 (loopC (bodyOf Try.f120) 2) := toldL_ok (L1 := L_lIndexFunc_iareFinite_1_l2) (envT_ok (C20_ok) (mtab0_ok _)) mixedO hn hlv (loopFree_ok (by kernel_rfl)) lIndexFunc_iareFinite_1_l2_r hL

def A_lIndexFunc_iareFinite_1 : Shp := ⟨[.h, .fn 112 []], [], [.sl [.f .f32]]⟩
def R_lIndexFunc_iareFinite_1 : List XShp := [(.ret, ⟨[.h], [], [.i .i64]⟩)]

noncomputable def L_lIndexFunc_iareFinite_1 : Loops := (⟨19, lvT [(2, [0, 1, 4, 7, 8])], mdT [(2, .normal, [], [4]), (2, .exit 0, [], [0, 1, 4, 7, 8]), (2, .ret, [], [0, 1, 7, 8])], fun k vs bs => bif Nat.beq k 2 then toldL S_lIndexFunc_iareFinite_1_l2 X_lIndexFunc_iareFinite_1_l2 (fun x => lIndexFunc_iareFinite_1_l2 x.1 x.2.1 x.2.2) vs bs else .bad⟩ : Loops)

theorem lIndexFunc_iareFinite_1_e (x : DR A_lIndexFunc_iareFinite_1.hs) : (evFn (envT Try.prog C20 mtab0) L_lIndexFunc_iareFinite_1 Try.f120 (A_lIndexFunc_iareFinite_1.enc x).1).to (fun q => decX R_lIndexFunc_iareFinite_1 .ret [q.1] q.2) = lIndexFunc_iareFinite_1_t x := by kernel_rfl

theorem lIndexFunc_iareFinite_1_m (x : DR A_lIndexFunc_iareFinite_1.hs) : meanF (envT Try.prog C20 mtab0) L_lIndexFunc_iareFinite_1 Try.f120 A_lIndexFunc_iareFinite_1 R_lIndexFunc_iareFinite_1 x = (show Option (SumD (R_lIndexFunc_iareFinite_1.map (·.2))) from lIndexFunc_iareFinite_1 x) := meanF_of (lIndexFunc_iareFinite_1_e x)

theorem lIndexFunc_iareFinite_1_ok : SpecOk Try.prog 120 (evFn (envT Try.prog C20 mtab0) L_lIndexFunc_iareFinite_1 Try.f120) := fnL_ok (envT_ok (C20_ok) (mtab0_ok _)) mixedO Try.func120 (by kernel_rfl) (c := bodyOf Try.f120) (by kernel_rfl) (loopsL (l := [(2, loopC (bodyOf Try.f120) 2)]) (by kernel_rfl) (lk_cons (lIndexFunc_iareFinite_1_l2_k _ rfl rfl (fun _ _ => rfl)) lk_nil))

theorem lIndexFunc_iareFinite_1_told : SpecOk Try.prog 120 (toldO A_lIndexFunc_iareFinite_1 R_lIndexFunc_iareFinite_1 (fun x => lIndexFunc_iareFinite_1 x) (C20 120)) := toldO_ok (by kernel_rfl) lIndexFunc_iareFinite_1_ok (rest_ok (C20_ok) _) lIndexFunc_iareFinite_1_m

noncomputable def C21 : Tab := tab 120 (toldO A_lIndexFunc_iareFinite_1 R_lIndexFunc_iareFinite_1 (fun x => lIndexFunc_iareFinite_1 x) (C20 120)) C20
theorem C21_ok : TabOk Try.prog C21 := tab_ok (lIndexFunc_iareFinite_1_told) (C20_ok)

def A_lContainsFunc_iareFinite_1 : Shp := ⟨[.h, .fn 112 []], [], [.sl [.f .f32]]⟩
def R_lContainsFunc_iareFinite_1 : List XShp := [(.ret, ⟨[.h], [], [.b]⟩)]

theorem lContainsFunc_iareFinite_1_e (x : DR A_lContainsFunc_iareFinite_1.hs) : (evFn (envT Try.prog C21 mtab0) noLoops Try.f111 (A_lContainsFunc_iareFinite_1.enc x).1).to (fun q => decX R_lContainsFunc_iareFinite_1 .ret [q.1] q.2) = lContainsFunc_iareFinite_1_t x := by kernel_rfl

theorem lContainsFunc_iareFinite_1_m (x : DR A_lContainsFunc_iareFinite_1.hs) : meanF (envT Try.prog C21 mtab0) noLoops Try.f111 A_lContainsFunc_iareFinite_1 R_lContainsFunc_iareFinite_1 x = (show Option (SumD (R_lContainsFunc_iareFinite_1.map (·.2))) from lContainsFunc_iareFinite_1 x) := meanF_of (lContainsFunc_iareFinite_1_e x)

theorem lContainsFunc_iareFinite_1_ok : SpecOk Try.prog 111 (evFn (envT Try.prog C21 mtab0) noLoops Try.f111) := fnL_ok (envT_ok (C21_ok) (mtab0_ok _)) mixedO Try.func111 (by kernel_rfl) (c := bodyOf Try.f111) (by kernel_rfl) (loopFree_ok (by kernel_rfl))

theorem lContainsFunc_iareFinite_1_told : SpecOk Try.prog 111 (toldO A_lContainsFunc_iareFinite_1 R_lContainsFunc_iareFinite_1 (fun x => lContainsFunc_iareFinite_1 x) (C21 111)) := toldO_ok (by kernel_rfl) lContainsFunc_iareFinite_1_ok (rest_ok (C21_ok) _) lContainsFunc_iareFinite_1_m

noncomputable def C22 : Tab := tab 111 (toldO A_lContainsFunc_iareFinite_1 R_lContainsFunc_iareFinite_1 (fun x => lContainsFunc_iareFinite_1 x) (C21 111)) C21
theorem C22_ok : TabOk Try.prog C22 := tab_ok (lContainsFunc_iareFinite_1_told) (C21_ok)

def A_iareFinite : Shp := ⟨[.h], [], [.sl [.f .f32]]⟩
def R_iareFinite : List XShp := [(.ret, ⟨[.h], [], [.b]⟩)]

theorem iareFinite_e (x : DR A_iareFinite.hs) : (evFn (envT Try.prog C22 mtab0) noLoops Try.f94 (A_iareFinite.enc x).1).to (fun q => decX R_iareFinite .ret [q.1] q.2) = iareFinite_t x := by kernel_rfl

theorem iareFinite_m (x : DR A_iareFinite.hs) : meanF (envT Try.prog C22 mtab0) noLoops Try.f94 A_iareFinite R_iareFinite x = (show Option (SumD (R_iareFinite.map (·.2))) from iareFinite x) := meanF_of (iareFinite_e x)

theorem iareFinite_ok : SpecOk Try.prog 94 (evFn (envT Try.prog C22 mtab0) noLoops Try.f94) := fnL_ok (envT_ok (C22_ok) (mtab0_ok _)) mixedO Try.func94 (by kernel_rfl) (c := bodyOf Try.f94) (by kernel_rfl) (loopFree_ok (by kernel_rfl))

theorem iareFinite_told : SpecOk Try.prog 94 (toldO A_iareFinite R_iareFinite (fun x => iareFinite x) (C22 94)) := toldO_ok (by kernel_rfl) iareFinite_ok (rest_ok (C22_ok) _) iareFinite_m

noncomputable def C23 : Tab := tab 94 (toldO A_iareFinite R_iareFinite (fun x => iareFinite x) (C22 94)) C22
theorem C23_ok : TabOk Try.prog C23 := tab_ok (iareFinite_told) (C22_ok)

def A_ifinite32 : Shp := ⟨[.h], [], [.f .f32]⟩
def R_ifinite32 : List XShp := [(.ret, ⟨[.tup [.h, .h]], [], [.f .f32, .b]⟩)]

theorem ifinite32_e (x : DR A_ifinite32.hs) : (evFn (envT Try.prog C23 mtab0) noLoops Try.f48 (A_ifinite32.enc x).1).to (fun q => decX R_ifinite32 .ret [q.1] q.2) = ifinite32_t x := by kernel_rfl

theorem ifinite32_m (x : DR A_ifinite32.hs) : meanF (envT Try.prog C23 mtab0) noLoops Try.f48 A_ifinite32 R_ifinite32 x = some (show SumD (R_ifinite32.map (·.2)) from ifinite32 x) := @meanF_tot _ _ _ _ _ _ _ (ifinite32_e x) (show Inhabited (Nat × Bool) from inferInstance) (by kernel_rfl)

theorem ifinite32_ok : SpecOk Try.prog 48 (evFn (envT Try.prog C23 mtab0) noLoops Try.f48) := fnL_ok (envT_ok (C23_ok) (mtab0_ok _)) mixedO Try.func48 (by kernel_rfl) (c := bodyOf Try.f48) (by kernel_rfl) (loopFree_ok (by kernel_rfl))

theorem ifinite32_told : SpecOk Try.prog 48 (toldT A_ifinite32 R_ifinite32 (fun x => ifinite32 x) (C23 48)) := toldT_ok (by kernel_rfl) ifinite32_ok (rest_ok (C23_ok) _) ifinite32_m

noncomputable def C24 : Tab := tab 48 (toldT A_ifinite32 R_ifinite32 (fun x => ifinite32 x) (C23 48)) C23
theorem C24_ok : TabOk Try.prog C24 := tab_ok (ifinite32_told) (C23_ok)

def A_iWeirOver : Shp := ⟨[.h, .h, .h, .h], [], [.f .f32, .f .f32, .f .f32, .f .f32]⟩
def R_iWeirOver : List XShp := [(.ret, ⟨[.tup [.h, .h]], [], [.f .f32, .b]⟩)]

theorem iWeirOver_e (x : DR A_iWeirOver.hs) : (evFn (envT Try.prog C24 mtab0) noLoops Try.f61 (A_iWeirOver.enc x).1).to (fun q => decX R_iWeirOver .ret [q.1] q.2) = iWeirOver_t x.1 x.2.1 x.2.2.1 x.2.2.2 := by kernel_rfl

theorem iWeirOver_m (x : DR A_iWeirOver.hs) : meanF (envT Try.prog C24 mtab0) noLoops Try.f61 A_iWeirOver R_iWeirOver x = (show Option (SumD (R_iWeirOver.map (·.2))) from iWeirOver x.1 x.2.1 x.2.2.1 x.2.2.2) := meanF_of (iWeirOver_e x)

theorem iWeirOver_ok : SpecOk Try.prog 61 (evFn (envT Try.prog C24 mtab0) noLoops Try.f61) := fnL_ok (envT_ok (C24_ok) (mtab0_ok _)) mixedO Try.func61 (by kernel_rfl) (c := bodyOf Try.f61) (by kernel_rfl) (loopFree_ok (by kernel_rfl))

theorem iWeirOver_told : SpecOk Try.prog 61 (toldO A_iWeirOver R_iWeirOver (fun x => iWeirOver x.1 x.2.1 x.2.2.1 x.2.2.2) (C24 61)) := toldO_ok (by kernel_rfl) iWeirOver_ok (rest_ok (C24_ok) _) iWeirOver_m

noncomputable def C25 : Tab := tab 61 (toldO A_iWeirOver R_iWeirOver (fun x => iWeirOver x.1 x.2.1 x.2.2.1 x.2.2.2) (C24 61)) C24
theorem C25_ok : TabOk Try.prog C25 := tab_ok (iWeirOver_told) (C24_ok)

def A_iareMasses_1 : Shp := ⟨[.h], [], [.f .f32]⟩
def R_iareMasses_1 : List XShp := [(.ret, ⟨[.h], [], [.b]⟩)]

theorem iareMasses_1_e (x : DR A_iareMasses_1.hs) : (evFn (envT Try.prog C25 mtab0) noLoops Try.f113 (A_iareMasses_1.enc x).1).to (fun q => decX R_iareMasses_1 .ret [q.1] q.2) = iareMasses_1_t x := by kernel_rfl

theorem iareMasses_1_m (x : DR A_iareMasses_1.hs) : meanF (envT Try.prog C25 mtab0) noLoops Try.f113 A_iareMasses_1 R_iareMasses_1 x = some (show SumD (R_iareMasses_1.map (·.2)) from iareMasses_1 x) := @meanF_tot _ _ _ _ _ _ _ (iareMasses_1_e x) (show Inhabited (Bool) from inferInstance) (by kernel_rfl)

theorem iareMasses_1_ok : SpecOk Try.prog 113 (evFn (envT Try.prog C25 mtab0) noLoops Try.f113) := fnL_ok (envT_ok (C25_ok) (mtab0_ok _)) mixedO Try.func113 (by kernel_rfl) (c := bodyOf Try.f113) (by kernel_rfl) (loopFree_ok (by kernel_rfl))

theorem iareMasses_1_told : SpecOk Try.prog 113 (toldT A_iareMasses_1 R_iareMasses_1 (fun x => iareMasses_1 x) (C25 113)) := toldT_ok (by kernel_rfl) iareMasses_1_ok (rest_ok (C25_ok) _) iareMasses_1_m

noncomputable def C26 : Tab := tab 113 (toldT A_iareMasses_1 R_iareMasses_1 (fun x => iareMasses_1 x) (C25 113)) C25
theorem C26_ok : TabOk Try.prog C26 := tab_ok (iareMasses_1_told) (C25_ok)

def S_lIndexFunc_iareMasses_1_l2 : Shp := ⟨[.h, .fn 113 [], .undef, .h, .h], [], [.sl [.f .f32], .i .i64, .i .i64]⟩
def X_lIndexFunc_iareMasses_1_l2 : List XShp := [(.ret, ⟨[.undef, .undef, .h, .undef, .undef], [], [.i .i64]⟩), (.exit 0, ⟨[.undef, .undef, .undef, .undef, .undef], [], []⟩)]

noncomputable def L_lIndexFunc_iareMasses_1_l2 : Loops := (⟨19, lvT [(2, [0, 1, 4, 7, 8])], mdT [(2, .normal, [], [4]), (2, .exit 0, [], [0, 1, 4, 7, 8]), (2, .ret, [], [0, 1, 7, 8])], fun k vs bs => .bad⟩ : Loops)

theorem lIndexFunc_iareMasses_1_l2_e (y0 : List Nat) (y1 : Int) (s : Int) : (loopStep (envT Try.prog C26 mtab0) L_lIndexFunc_iareMasses_1_l2 2 (loopC (bodyOf Try.f120) 2) (S_lIndexFunc_iareMasses_1_l2.enc (y0, y1, s)).1 (S_lIndexFunc_iareMasses_1_l2.enc (y0, y1, s)).2).to (stepD S_lIndexFunc_iareMasses_1_l2 X_lIndexFunc_iareMasses_1_l2) = (lIndexFunc_iareMasses_1_l2_t y0 y1 s).map (Sum.map (fun s : Int => (show DR S_lIndexFunc_iareMasses_1_l2.hs from (y0, y1, s))) id) := by kernel_rfl

theorem lIndexFunc_iareMasses_1_l2_r (x : DR S_lIndexFunc_iareMasses_1_l2.hs) : (lIndexFunc_iareMasses_1_l2 x.1 x.2.1 x.2.2 : Option (SumD (X_lIndexFunc_iareMasses_1_l2.map (·.2)))) = runL (meanS (envT Try.prog C26 mtab0) L_lIndexFunc_iareMasses_1_l2 2 (loopC (bodyOf Try.f120) 2) S_lIndexFunc_iareMasses_1_l2 X_lIndexFunc_iareMasses_1_l2) x := run_of (fun s : Int => (show DR S_lIndexFunc_iareMasses_1_l2.hs from (x.1, x.2.1, s))) (lIndexFunc_iareMasses_1_l2_e (x.1) (x.2.1)) x.2.2

theorem lIndexFunc_iareMasses_1_l2_k (L : Loops) (hn : L_lIndexFunc_iareMasses_1_l2.n = L.n) (hlv : L_lIndexFunc_iareMasses_1_l2.lv 2 = L.lv 2) (hL : ∀ vs bs, L.loop 2 vs bs = toldL S_lIndexFunc_iareMasses_1_l2 X_lIndexFunc_iareMasses_1_l2 (fun x => lIndexFunc_iareMasses_1_l2 x.1 x.2.1 x.2.2) vs bs) : LOk Try.prog (envT Try.prog C26 mtab0) L 2 (loopC (bodyOf Try.f120) 2) := toldL_ok (L1 := L_lIndexFunc_iareMasses_1_l2) (envT_ok (C26_ok) (mtab0_ok _)) mixedO hn hlv (loopFree_ok (by kernel_rfl)) lIndexFunc_iareMasses_1_l2_r hL

def A_lIndexFunc_iareMasses_1 : Shp := ⟨[.h, .fn 113 []], [], [.sl [.f .f32]]⟩
def R_lIndexFunc_iareMasses_1 : List XShp := [(.ret, ⟨[.h], [], [.i .i64]⟩)]

noncomputable def L_lIndexFunc_iareMasses_1 : Loops := (⟨19, lvT [(2, [0, 1, 4, 7, 8])], mdT [(2, .normal, [], [4]), (2, .exit 0, [], [0, 1, 4, 7, 8]), (2, .ret, [], [0, 1, 7, 8])], fun k vs bs => bif Nat.beq k 2 then toldL S_lIndexFunc_iareMasses_1_l2 X_lIndexFunc_iareMasses_1_l2 (fun x => lIndexFunc_iareMasses_1_l2 x.1 x.2.1 x.2.2) vs bs else .bad⟩ : Loops)

theorem lIndexFunc_iareMasses_1_e (x : DR A_lIndexFunc_iareMasses_1.hs) : (evFn (envT Try.prog C26 mtab0) L_lIndexFunc_iareMasses_1 Try.f120 (A_lIndexFunc_iareMasses_1.enc x).1).to (fun q => decX R_lIndexFunc_iareMasses_1 .ret [q.1] q.2) = lIndexFunc_iareMasses_1_t x := by kernel_rfl

theorem lIndexFunc_iareMasses_1_m (x : DR A_lIndexFunc_iareMasses_1.hs) : meanF (envT Try.prog C26 mtab0) L_lIndexFunc_iareMasses_1 Try.f120 A_lIndexFunc_iareMasses_1 R_lIndexFunc_iareMasses_1 x = (show Option (SumD (R_lIndexFunc_iareMasses_1.map (·.2))) from lIndexFunc_iareMasses_1 x) := meanF_of (lIndexFunc_iareMasses_1_e x)

theorem lIndexFunc_iareMasses_1_ok : SpecOk Try.prog 120 (evFn (envT Try.prog C26 mtab0) L_lIndexFunc_iareMasses_1 Try.f120) := fnL_ok (envT_ok (C26_ok) (mtab0_ok _)) mixedO Try.func120 (by kernel_rfl) (c := bodyOf Try.f120) (by kernel_rfl) (loopsL (l := [(2, loopC (bodyOf Try.f120) 2)]) (by kernel_rfl) (lk_cons (lIndexFunc_iareMasses_1_l2_k _ rfl rfl (fun _ _ => rfl)) lk_nil))

theorem lIndexFunc_iareMasses_1_told : SpecOk Try.prog 120 (toldO A_lIndexFunc_iareMasses_1 R_lIndexFunc_iareMasses_1 (fun x => lIndexFunc_iareMasses_1 x) (C26 120)) := toldO_ok (by kernel_rfl) lIndexFunc_iareMasses_1_ok (rest_ok (C26_ok) _) lIndexFunc_iareMasses_1_m

noncomputable def C27 : Tab := tab 120 (toldO A_lIndexFunc_iareMasses_1 R_lIndexFunc_iareMasses_1 (fun x => lIndexFunc_iareMasses_1 x) (C26 120)) C26
theorem C27_ok : TabOk Try.prog C27 := tab_ok (lIndexFunc_iareMasses_1_told) (C26_ok)

def A_lContainsFunc_iareMasses_1 : Shp := ⟨[.h, .fn 113 []], [], [.sl [.f .f32]]⟩
def R_lContainsFunc_iareMasses_1 : List XShp := [(.ret, ⟨[.h], [], [.b]⟩)]

theorem lContainsFunc_iareMasses_1_e (x : DR A_lContainsFunc_iareMasses_1.hs) : (evFn (envT Try.prog C27 mtab0) noLoops Try.f111 (A_lContainsFunc_iareMasses_1.enc x).1).to (fun q => decX R_lContainsFunc_iareMasses_1 .ret [q.1] q.2) = lContainsFunc_iareMasses_1_t x := by kernel_rfl

theorem lContainsFunc_iareMasses_1_m (x : DR A_lContainsFunc_iareMasses_1.hs) : meanF (envT Try.prog C27 mtab0) noLoops Try.f111 A_lContainsFunc_iareMasses_1 R_lContainsFunc_iareMasses_1 x = (show Option (SumD (R_lContainsFunc_iareMasses_1.map (·.2))) from lContainsFunc_iareMasses_1 x) := meanF_of (lContainsFunc_iareMasses_1_e x)

theorem lContainsFunc_iareMasses_1_ok : SpecOk Try.prog 111 (evFn (envT Try.prog C27 mtab0) noLoops Try.f111) := fnL_ok (envT_ok (C27_ok) (mtab0_ok _)) mixedO Try.func111 (by kernel_rfl) (c := bodyOf Try.f111) (by kernel_rfl) (loopFree_ok (by kernel_rfl))

theorem lContainsFunc_iareMasses_1_told : SpecOk Try.prog 111 (toldO A_lContainsFunc_iareMasses_1 R_lContainsFunc_iareMasses_1 (fun x => lContainsFunc_iareMasses_1 x) (C27 111)) := toldO_ok (by kernel_rfl) lContainsFunc_iareMasses_1_ok (rest_ok (C27_ok) _) lContainsFunc_iareMasses_1_m

noncomputable def C28 : Tab := tab 111 (toldO A_lContainsFunc_iareMasses_1 R_lContainsFunc_iareMasses_1 (fun x => lContainsFunc_iareMasses_1 x) (C27 111)) C27
theorem C28_ok : TabOk Try.prog C28 := tab_ok (lContainsFunc_iareMasses_1_told) (C27_ok)

def A_iareMasses : Shp := ⟨[.h], [], [.sl [.f .f32]]⟩
def R_iareMasses : List XShp := [(.ret, ⟨[.h], [], [.b]⟩)]

theorem iareMasses_e (x : DR A_iareMasses.hs) : (evFn (envT Try.prog C28 mtab0) noLoops Try.f95 (A_iareMasses.enc x).1).to (fun q => decX R_iareMasses .ret [q.1] q.2) = iareMasses_t x := by kernel_rfl

theorem iareMasses_m (x : DR A_iareMasses.hs) : meanF (envT Try.prog C28 mtab0) noLoops Try.f95 A_iareMasses R_iareMasses x = (show Option (SumD (R_iareMasses.map (·.2))) from iareMasses x) := meanF_of (iareMasses_e x)

theorem iareMasses_ok : SpecOk Try.prog 95 (evFn (envT Try.prog C28 mtab0) noLoops Try.f95) := fnL_ok (envT_ok (C28_ok) (mtab0_ok _)) mixedO Try.func95 (by kernel_rfl) (c := bodyOf Try.f95) (by kernel_rfl) (loopFree_ok (by kernel_rfl))

theorem iareMasses_told : SpecOk Try.prog 95 (toldO A_iareMasses R_iareMasses (fun x => iareMasses x) (C28 95)) := toldO_ok (by kernel_rfl) iareMasses_ok (rest_ok (C28_ok) _) iareMasses_m

noncomputable def C29 : Tab := tab 95 (toldO A_iareMasses R_iareMasses (fun x => iareMasses x) (C28 95)) C28
theorem C29_ok : TabOk Try.prog C29 := tab_ok (iareMasses_told) (C28_ok)

def A_iGateUnder : Shp := ⟨[.h, .h, .h, .h], [], [.f .f32, .f .f32, .f .f32, .f .f32]⟩
def R_iGateUnder : List XShp := [(.ret, ⟨[.tup [.h, .h]], [], [.f .f32, .b]⟩)]

theorem iGateUnder_e (x : DR A_iGateUnder.hs) : (evFn (envT Try.prog C29 mtab0) noLoops Try.f62 (A_iGateUnder.enc x).1).to (fun q => decX R_iGateUnder .ret [q.1] q.2) = iGateUnder_t x.1 x.2.1 x.2.2.1 x.2.2.2 := by kernel_rfl

theorem iGateUnder_m (x : DR A_iGateUnder.hs) : meanF (envT Try.prog C29 mtab0) noLoops Try.f62 A_iGateUnder R_iGateUnder x = (show Option (SumD (R_iGateUnder.map (·.2))) from iGateUnder x.1 x.2.1 x.2.2.1 x.2.2.2) := meanF_of (iGateUnder_e x)

theorem iGateUnder_ok : SpecOk Try.prog 62 (evFn (envT Try.prog C29 mtab0) noLoops Try.f62) := fnL_ok (envT_ok (C29_ok) (mtab0_ok _)) mixedO Try.func62 (by kernel_rfl) (c := bodyOf Try.f62) (by kernel_rfl) (loopFree_ok (by kernel_rfl))

theorem iGateUnder_told : SpecOk Try.prog 62 (toldO A_iGateUnder R_iGateUnder (fun x => iGateUnder x.1 x.2.1 x.2.2.1 x.2.2.2) (C29 62)) := toldO_ok (by kernel_rfl) iGateUnder_ok (rest_ok (C29_ok) _) iGateUnder_m

noncomputable def C30 : Tab := tab 62 (toldO A_iGateUnder R_iGateUnder (fun x => iGateUnder x.1 x.2.1 x.2.2.1 x.2.2.2) (C29 62)) C29
theorem C30_ok : TabOk Try.prog C30 := tab_ok (iGateUnder_told) (C29_ok)

def A_iCulvertFlow : Shp := ⟨[.h, .h, .h, .h, .h], [], [.f .f32, .f .f32, .f .f32, .f .f32, .f .f32]⟩
def R_iCulvertFlow : List XShp := [(.ret, ⟨[.tup [.h, .h]], [], [.f .f32, .b]⟩)]

theorem iCulvertFlow_e (x : DR A_iCulvertFlow.hs) : (evFn (envT Try.prog C30 mtab0) noLoops Try.f22 (A_iCulvertFlow.enc x).1).to (fun q => decX R_iCulvertFlow .ret [q.1] q.2) = iCulvertFlow_t x.1 x.2.1 x.2.2.1 x.2.2.2.1 x.2.2.2.2 := by kernel_rfl

theorem iCulvertFlow_m (x : DR A_iCulvertFlow.hs) : meanF (envT Try.prog C30 mtab0) noLoops Try.f22 A_iCulvertFlow R_iCulvertFlow x = (show Option (SumD (R_iCulvertFlow.map (·.2))) from iCulvertFlow x.1 x.2.1 x.2.2.1 x.2.2.2.1 x.2.2.2.2) := meanF_of (iCulvertFlow_e x)

theorem iCulvertFlow_ok : SpecOk Try.prog 22 (evFn (envT Try.prog C30 mtab0) noLoops Try.f22) := fnL_ok (envT_ok (C30_ok) (mtab0_ok _)) mixedO Try.func22 (by kernel_rfl) (c := bodyOf Try.f22) (by kernel_rfl) (loopFree_ok (by kernel_rfl))

theorem iCulvertFlow_told : SpecOk Try.prog 22 (toldO A_iCulvertFlow R_iCulvertFlow (fun x => iCulvertFlow x.1 x.2.1 x.2.2.1 x.2.2.2.1 x.2.2.2.2) (C30 22)) := toldO_ok (by kernel_rfl) iCulvertFlow_ok (rest_ok (C30_ok) _) iCulvertFlow_m

noncomputable def C31 : Tab := tab 22 (toldO A_iCulvertFlow R_iCulvertFlow (fun x => iCulvertFlow x.1 x.2.1 x.2.2.1 x.2.2.2.1 x.2.2.2.2) (C30 22)) C30
theorem C31_ok : TabOk Try.prog C31 := tab_ok (iCulvertFlow_told) (C30_ok)

def A_wFnExactCulvertFlow : Shp := ⟨[.h, .h, .h, .h, .h], [], [.f .f32, .f .f32, .f .f32, .f .f32, .f .f32]⟩
def R_wFnExactCulvertFlow : List XShp := [(.ret, ⟨[.h], [], [.b]⟩)]

theorem wFnExactCulvertFlow_e (x : DR A_wFnExactCulvertFlow.hs) : (evFn (envT Try.prog C31 mtab0) noLoops Try.f5 (A_wFnExactCulvertFlow.enc x).1).to (fun q => decX R_wFnExactCulvertFlow .ret [q.1] q.2) = wFnExactCulvertFlow_t x.1 x.2.1 x.2.2.1 x.2.2.2.1 x.2.2.2.2 := by kernel_rfl

theorem wFnExactCulvertFlow_m (x : DR A_wFnExactCulvertFlow.hs) : meanF (envT Try.prog C31 mtab0) noLoops Try.f5 A_wFnExactCulvertFlow R_wFnExactCulvertFlow x = (show Option (SumD (R_wFnExactCulvertFlow.map (·.2))) from wFnExactCulvertFlow x.1 x.2.1 x.2.2.1 x.2.2.2.1 x.2.2.2.2) := meanF_of (wFnExactCulvertFlow_e x)

theorem wFnExactCulvertFlow_ok : SpecOk Try.prog 5 (evFn (envT Try.prog C31 mtab0) noLoops Try.f5) := fnL_ok (envT_ok (C31_ok) (mtab0_ok _)) mixedO Try.func5 (by kernel_rfl) (c := bodyOf Try.f5) (by kernel_rfl) (loopFree_ok (by kernel_rfl))

theorem wFnExactCulvertFlow_told : SpecOk Try.prog 5 (toldO A_wFnExactCulvertFlow R_wFnExactCulvertFlow (fun x => wFnExactCulvertFlow x.1 x.2.1 x.2.2.1 x.2.2.2.1 x.2.2.2.2) (C31 5)) := toldO_ok (by kernel_rfl) wFnExactCulvertFlow_ok (rest_ok (C31_ok) _) wFnExactCulvertFlow_m

noncomputable def C32 : Tab := tab 5 (toldO A_wFnExactCulvertFlow R_wFnExactCulvertFlow (fun x => wFnExactCulvertFlow x.1 x.2.1 x.2.2.1 x.2.2.2.1 x.2.2.2.2) (C31 5)) C31
theorem C32_ok : TabOk Try.prog C32 := tab_ok (wFnExactCulvertFlow_told) (C31_ok)

theorem lawFnExactCulvertFlow_ok : SpecOk Try.prog 5 (evFn (envT Try.prog C31 mtab0) noLoops Try.f5) := wFnExactCulvertFlow_ok
theorem lawFnExactCulvertFlow_says (x : DR A_wFnExactCulvertFlow.hs) (h : (show Option (SumD (R_wFnExactCulvertFlow.map (·.2))) from wFnExactCulvertFlow x.1 x.2.1 x.2.2.1 x.2.2.2.1 x.2.2.2.2) = some true) : saysTrue (evFn (envT Try.prog C31 mtab0) noLoops Try.f5 (A_wFnExactCulvertFlow.enc x).1) = true := law_says (x := x) ((wFnExactCulvertFlow_m x).trans h)

theorem lawFnExactCulvertFlow_true (x0 : Nat) (x1 : Nat) (x2 : Nat) (x3 : Nat) (x4 : Nat) (h : wFnExactCulvertFlow x0 x1 x2 x3 x4 = some true) : saysTrue (evFn (envT Try.prog C31 mtab0) noLoops Try.f5 [.f .f32 x0, .f .f32 x1, .f .f32 x2, .f .f32 x3, .f .f32 x4]) = true := (congrArg (fun l => saysTrue (evFn (envT Try.prog C31 mtab0) noLoops Try.f5 l)) (by kernel_rfl : ([.f .f32 x0, .f .f32 x1, .f .f32 x2, .f .f32 x3, .f .f32 x4] : List V) = (A_wFnExactCulvertFlow.enc (x0, x1, x2, x3, x4)).1)).trans (lawFnExactCulvertFlow_says (x0, x1, x2, x3, x4) h)

def A_wtoSection : Shp := ⟨[.agg [.h, .h, .h, .h]], [], [.f .f32, .f .f32, .f .f32, .f .f32]⟩
def R_wtoSection : List XShp := [(.ret, ⟨[.agg [.h, .h, .h, .h]], [], [.f .f32, .f .f32, .f .f32, .f .f32]⟩)]

theorem wtoSection_e (x : DR A_wtoSection.hs) : (evFn (envT Try.prog C32 mtab0) noLoops Try.f16 (A_wtoSection.enc x).1).to (fun q => decX R_wtoSection .ret [q.1] q.2) = wtoSection_t x.1 x.2.1 x.2.2.1 x.2.2.2 := by kernel_rfl

theorem wtoSection_m (x : DR A_wtoSection.hs) : meanF (envT Try.prog C32 mtab0) noLoops Try.f16 A_wtoSection R_wtoSection x = some (show SumD (R_wtoSection.map (·.2)) from wtoSection x.1 x.2.1 x.2.2.1 x.2.2.2) := @meanF_tot _ _ _ _ _ _ _ (wtoSection_e x) (show Inhabited (Nat × Nat × Nat × Nat) from inferInstance) (by kernel_rfl)

theorem wtoSection_ok : SpecOk Try.prog 16 (evFn (envT Try.prog C32 mtab0) noLoops Try.f16) := fnL_ok (envT_ok (C32_ok) (mtab0_ok _)) mixedO Try.func16 (by kernel_rfl) (c := bodyOf Try.f16) (by kernel_rfl) (loopFree_ok (by kernel_rfl))

theorem wtoSection_told : SpecOk Try.prog 16 (toldT A_wtoSection R_wtoSection (fun x => wtoSection x.1 x.2.1 x.2.2.1 x.2.2.2) (C32 16)) := toldT_ok (by kernel_rfl) wtoSection_ok (rest_ok (C32_ok) _) wtoSection_m

noncomputable def C33 : Tab := tab 16 (toldT A_wtoSection R_wtoSection (fun x => wtoSection x.1 x.2.1 x.2.2.1 x.2.2.2) (C32 16)) C32
theorem C33_ok : TabOk Try.prog C33 := tab_ok (wtoSection_told) (C32_ok)

def A_sl04Is : Shp := ⟨[.dpt [.h, .h, .h, .h] 0], [], [.f .f32, .f .f32, .f .f32, .f .f32]⟩
def R_sl04Is : List XShp := [(.ret, ⟨[.h], [], [.b]⟩)]

theorem sl04Is_e (x : DR A_sl04Is.hs) : (evFn (envT Try.prog C33 mtab0) noLoops Try.f77 (A_sl04Is.enc x).1).to (fun q => decX R_sl04Is .ret [q.1] q.2) = sl04Is_t x.1 x.2.1 x.2.2.1 x.2.2.2 := by kernel_rfl

theorem sl04Is_m (x : DR A_sl04Is.hs) : meanF (envT Try.prog C33 mtab0) noLoops Try.f77 A_sl04Is R_sl04Is x = some (show SumD (R_sl04Is.map (·.2)) from sl04Is x.1 x.2.1 x.2.2.1 x.2.2.2) := @meanF_tot _ _ _ _ _ _ _ (sl04Is_e x) (show Inhabited (Bool) from inferInstance) (by kernel_rfl)

theorem sl04Is_ok : SpecOk Try.prog 77 (evFn (envT Try.prog C33 mtab0) noLoops Try.f77) := fnL_ok (envT_ok (C33_ok) (mtab0_ok _)) mixedO Try.func77 (by kernel_rfl) (c := bodyOf Try.f77) (by kernel_rfl) (loopFree_ok (by kernel_rfl))

theorem sl04Is_told : SpecOk Try.prog 77 (toldT A_sl04Is R_sl04Is (fun x => sl04Is x.1 x.2.1 x.2.2.1 x.2.2.2) (C33 77)) := toldT_ok (by kernel_rfl) sl04Is_ok (rest_ok (C33_ok) _) sl04Is_m

noncomputable def C34 : Tab := tab 77 (toldT A_sl04Is R_sl04Is (fun x => sl04Is x.1 x.2.1 x.2.2.1 x.2.2.2) (C33 77)) C33
theorem C34_ok : TabOk Try.prog C34 := tab_ok (sl04Is_told) (C33_ok)

def A_sl04Can : Shp := ⟨[.dpt [.h, .h, .h, .h] 0, .h], [], [.f .f32, .f .f32, .f .f32, .f .f32, .f .f32]⟩
def R_sl04Can : List XShp := [(.ret, ⟨[.h], [], [.b]⟩)]

theorem sl04Can_e (x : DR A_sl04Can.hs) : (evFn (envT Try.prog C34 mtab0) noLoops Try.f44 (A_sl04Can.enc x).1).to (fun q => decX R_sl04Can .ret [q.1] q.2) = sl04Can_t x.1 x.2.1 x.2.2.1 x.2.2.2.1 x.2.2.2.2 := by kernel_rfl

theorem sl04Can_m (x : DR A_sl04Can.hs) : meanF (envT Try.prog C34 mtab0) noLoops Try.f44 A_sl04Can R_sl04Can x = some (show SumD (R_sl04Can.map (·.2)) from sl04Can x.1 x.2.1 x.2.2.1 x.2.2.2.1 x.2.2.2.2) := @meanF_tot _ _ _ _ _ _ _ (sl04Can_e x) (show Inhabited (Bool) from inferInstance) (by kernel_rfl)

theorem sl04Can_ok : SpecOk Try.prog 44 (evFn (envT Try.prog C34 mtab0) noLoops Try.f44) := fnL_ok (envT_ok (C34_ok) (mtab0_ok _)) mixedO Try.func44 (by kernel_rfl) (c := bodyOf Try.f44) (by kernel_rfl) (loopFree_ok (by kernel_rfl))

theorem sl04Can_told : SpecOk Try.prog 44 (toldT A_sl04Can R_sl04Can (fun x => sl04Can x.1 x.2.1 x.2.2.1 x.2.2.2.1 x.2.2.2.2) (C34 44)) := toldT_ok (by kernel_rfl) sl04Can_ok (rest_ok (C34_ok) _) sl04Can_m

noncomputable def C35 : Tab := tab 44 (toldT A_sl04Can R_sl04Can (fun x => sl04Can x.1 x.2.1 x.2.2.1 x.2.2.2.1 x.2.2.2.2) (C34 44)) C34
theorem C35_ok : TabOk Try.prog C35 := tab_ok (sl04Can_told) (C34_ok)

def A_sl04Both : Shp := ⟨[.dpt [.h, .h, .h, .h] 0, .h, .h], [], [.f .f32, .f .f32, .f .f32, .f .f32, .f .f32, .f .f32]⟩
def R_sl04Both : List XShp := [(.ret, ⟨[.h], [], [.b]⟩)]

theorem sl04Both_e (x : DR A_sl04Both.hs) : (evFn (envT Try.prog C35 mtab0) noLoops Try.f49 (A_sl04Both.enc x).1).to (fun q => decX R_sl04Both .ret [q.1] q.2) = sl04Both_t x.1 x.2.1 x.2.2.1 x.2.2.2.1 x.2.2.2.2.1 x.2.2.2.2.2 := by kernel_rfl

theorem sl04Both_m (x : DR A_sl04Both.hs) : meanF (envT Try.prog C35 mtab0) noLoops Try.f49 A_sl04Both R_sl04Both x = some (show SumD (R_sl04Both.map (·.2)) from sl04Both x.1 x.2.1 x.2.2.1 x.2.2.2.1 x.2.2.2.2.1 x.2.2.2.2.2) := @meanF_tot _ _ _ _ _ _ _ (sl04Both_e x) (show Inhabited (Bool) from inferInstance) (by kernel_rfl)

theorem sl04Both_ok : SpecOk Try.prog 49 (evFn (envT Try.prog C35 mtab0) noLoops Try.f49) := fnL_ok (envT_ok (C35_ok) (mtab0_ok _)) mixedO Try.func49 (by kernel_rfl) (c := bodyOf Try.f49) (by kernel_rfl) (loopFree_ok (by kernel_rfl))

theorem sl04Both_told : SpecOk Try.prog 49 (toldT A_sl04Both R_sl04Both (fun x => sl04Both x.1 x.2.1 x.2.2.1 x.2.2.2.1 x.2.2.2.2.1 x.2.2.2.2.2) (C35 49)) := toldT_ok (by kernel_rfl) sl04Both_ok (rest_ok (C35_ok) _) sl04Both_m

noncomputable def C36 : Tab := tab 49 (toldT A_sl04Both R_sl04Both (fun x => sl04Both x.1 x.2.1 x.2.2.1 x.2.2.2.1 x.2.2.2.2.1 x.2.2.2.2.2) (C35 49)) C35
theorem C36_ok : TabOk Try.prog C36 := tab_ok (sl04Both_told) (C35_ok)

def A_sl04Area : Shp := ⟨[.dpt [.h, .h, .h, .h] 0, .h], [], [.f .f32, .f .f32, .f .f32, .f .f32, .f .f32]⟩
def R_sl04Area : List XShp := [(.ret, ⟨[.h], [], [.f .f32]⟩)]

theorem sl04Area_e (x : DR A_sl04Area.hs) : (evFn (envT Try.prog C36 mtab0) noLoops Try.f54 (A_sl04Area.enc x).1).to (fun q => decX R_sl04Area .ret [q.1] q.2) = sl04Area_t x.1 x.2.1 x.2.2.1 x.2.2.2.1 x.2.2.2.2 := by kernel_rfl

theorem sl04Area_m (x : DR A_sl04Area.hs) : meanF (envT Try.prog C36 mtab0) noLoops Try.f54 A_sl04Area R_sl04Area x = some (show SumD (R_sl04Area.map (·.2)) from sl04Area x.1 x.2.1 x.2.2.1 x.2.2.2.1 x.2.2.2.2) := @meanF_tot _ _ _ _ _ _ _ (sl04Area_e x) (show Inhabited (Nat) from inferInstance) (by kernel_rfl)

theorem sl04Area_ok : SpecOk Try.prog 54 (evFn (envT Try.prog C36 mtab0) noLoops Try.f54) := fnL_ok (envT_ok (C36_ok) (mtab0_ok _)) mixedO Try.func54 (by kernel_rfl) (c := bodyOf Try.f54) (by kernel_rfl) (loopFree_ok (by kernel_rfl))

theorem sl04Area_told : SpecOk Try.prog 54 (toldT A_sl04Area R_sl04Area (fun x => sl04Area x.1 x.2.1 x.2.2.1 x.2.2.2.1 x.2.2.2.2) (C36 54)) := toldT_ok (by kernel_rfl) sl04Area_ok (rest_ok (C36_ok) _) sl04Area_m

noncomputable def C37 : Tab := tab 54 (toldT A_sl04Area R_sl04Area (fun x => sl04Area x.1 x.2.1 x.2.2.1 x.2.2.2.1 x.2.2.2.2) (C36 54)) C36
theorem C37_ok : TabOk Try.prog C37 := tab_ok (sl04Area_told) (C36_ok)

def A_sAreaAt : Shp := ⟨[.agg [.h, .h, .h, .h], .h], [], [.f .f32, .f .f32, .f .f32, .f .f32, .f .f32]⟩
def R_sAreaAt : List XShp := [(.ret, ⟨[.tup [.h, .h]], [], [.f .f32, .b]⟩)]

theorem sAreaAt_e (x : DR A_sAreaAt.hs) : (evFn (envT Try.prog C37 mtab0) noLoops Try.f114 (A_sAreaAt.enc x).1).to (fun q => decX R_sAreaAt .ret [q.1] q.2) = sAreaAt_t x.1 x.2.1 x.2.2.1 x.2.2.2.1 x.2.2.2.2 := by kernel_rfl

theorem sAreaAt_m (x : DR A_sAreaAt.hs) : meanF (envT Try.prog C37 mtab0) noLoops Try.f114 A_sAreaAt R_sAreaAt x = some (show SumD (R_sAreaAt.map (·.2)) from sAreaAt x.1 x.2.1 x.2.2.1 x.2.2.2.1 x.2.2.2.2) := @meanF_tot _ _ _ _ _ _ _ (sAreaAt_e x) (show Inhabited (Nat × Bool) from inferInstance) (by kernel_rfl)

theorem sAreaAt_ok : SpecOk Try.prog 114 (evFn (envT Try.prog C37 mtab0) noLoops Try.f114) := fnL_ok (envT_ok (C37_ok) (mtab0_ok _)) mixedO Try.func114 (by kernel_rfl) (c := bodyOf Try.f114) (by kernel_rfl) (loopFree_ok (by kernel_rfl))

theorem sAreaAt_told : SpecOk Try.prog 114 (toldT A_sAreaAt R_sAreaAt (fun x => sAreaAt x.1 x.2.1 x.2.2.1 x.2.2.2.1 x.2.2.2.2) (C37 114)) := toldT_ok (by kernel_rfl) sAreaAt_ok (rest_ok (C37_ok) _) sAreaAt_m

noncomputable def C38 : Tab := tab 114 (toldT A_sAreaAt R_sAreaAt (fun x => sAreaAt x.1 x.2.1 x.2.2.1 x.2.2.2.1 x.2.2.2.2) (C37 114)) C37
theorem C38_ok : TabOk Try.prog C38 := tab_ok (sAreaAt_told) (C37_ok)

def A_sl04Top : Shp := ⟨[.dpt [.h, .h, .h, .h] 0, .h], [], [.f .f32, .f .f32, .f .f32, .f .f32, .f .f32]⟩
def R_sl04Top : List XShp := [(.ret, ⟨[.h], [], [.f .f32]⟩)]

theorem sl04Top_e (x : DR A_sl04Top.hs) : (evFn (envT Try.prog C38 mtab0) noLoops Try.f87 (A_sl04Top.enc x).1).to (fun q => decX R_sl04Top .ret [q.1] q.2) = sl04Top_t x.1 x.2.1 x.2.2.1 x.2.2.2.1 x.2.2.2.2 := by kernel_rfl

theorem sl04Top_m (x : DR A_sl04Top.hs) : meanF (envT Try.prog C38 mtab0) noLoops Try.f87 A_sl04Top R_sl04Top x = some (show SumD (R_sl04Top.map (·.2)) from sl04Top x.1 x.2.1 x.2.2.1 x.2.2.2.1 x.2.2.2.2) := @meanF_tot _ _ _ _ _ _ _ (sl04Top_e x) (show Inhabited (Nat) from inferInstance) (by kernel_rfl)

theorem sl04Top_ok : SpecOk Try.prog 87 (evFn (envT Try.prog C38 mtab0) noLoops Try.f87) := fnL_ok (envT_ok (C38_ok) (mtab0_ok _)) mixedO Try.func87 (by kernel_rfl) (c := bodyOf Try.f87) (by kernel_rfl) (loopFree_ok (by kernel_rfl))

theorem sl04Top_told : SpecOk Try.prog 87 (toldT A_sl04Top R_sl04Top (fun x => sl04Top x.1 x.2.1 x.2.2.1 x.2.2.2.1 x.2.2.2.2) (C38 87)) := toldT_ok (by kernel_rfl) sl04Top_ok (rest_ok (C38_ok) _) sl04Top_m

noncomputable def C39 : Tab := tab 87 (toldT A_sl04Top R_sl04Top (fun x => sl04Top x.1 x.2.1 x.2.2.1 x.2.2.2.1 x.2.2.2.2) (C38 87)) C38
theorem C39_ok : TabOk Try.prog C39 := tab_ok (sl04Top_told) (C38_ok)

def A_sTopAt : Shp := ⟨[.agg [.h, .h, .h, .h], .h], [], [.f .f32, .f .f32, .f .f32, .f .f32, .f .f32]⟩
def R_sTopAt : List XShp := [(.ret, ⟨[.tup [.h, .h]], [], [.f .f32, .b]⟩)]

theorem sTopAt_e (x : DR A_sTopAt.hs) : (evFn (envT Try.prog C39 mtab0) noLoops Try.f51 (A_sTopAt.enc x).1).to (fun q => decX R_sTopAt .ret [q.1] q.2) = sTopAt_t x.1 x.2.1 x.2.2.1 x.2.2.2.1 x.2.2.2.2 := by kernel_rfl

theorem sTopAt_m (x : DR A_sTopAt.hs) : meanF (envT Try.prog C39 mtab0) noLoops Try.f51 A_sTopAt R_sTopAt x = some (show SumD (R_sTopAt.map (·.2)) from sTopAt x.1 x.2.1 x.2.2.1 x.2.2.2.1 x.2.2.2.2) := @meanF_tot _ _ _ _ _ _ _ (sTopAt_e x) (show Inhabited (Nat × Bool) from inferInstance) (by kernel_rfl)

theorem sTopAt_ok : SpecOk Try.prog 51 (evFn (envT Try.prog C39 mtab0) noLoops Try.f51) := fnL_ok (envT_ok (C39_ok) (mtab0_ok _)) mixedO Try.func51 (by kernel_rfl) (c := bodyOf Try.f51) (by kernel_rfl) (loopFree_ok (by kernel_rfl))

theorem sTopAt_told : SpecOk Try.prog 51 (toldT A_sTopAt R_sTopAt (fun x => sTopAt x.1 x.2.1 x.2.2.1 x.2.2.2.1 x.2.2.2.2) (C39 51)) := toldT_ok (by kernel_rfl) sTopAt_ok (rest_ok (C39_ok) _) sTopAt_m

noncomputable def C40 : Tab := tab 51 (toldT A_sTopAt R_sTopAt (fun x => sTopAt x.1 x.2.1 x.2.2.1 x.2.2.2.1 x.2.2.2.2) (C39 51)) C39
theorem C40_ok : TabOk Try.prog C40 := tab_ok (sTopAt_told) (C39_ok)

def S_sl04Critical_l4 : Shp := ⟨[.dpt [.h, .h, .h, .h] 0, .h, .undef, .undef, .h, .h, .h], [], [.f .f32, .f .f32, .f .f32, .f .f32, .f .f32, .f .f32, .f .f32, .i .i64]⟩
def X_sl04Critical_l4 : List XShp := [(.ret, ⟨[.undef, .undef, .h, .lb false, .undef, .undef, .undef], [], [.f .f32]⟩), (.exit 0, ⟨[.undef, .undef, .undef, .undef, .undef, .h, .undef], [], [.f .f32]⟩)]

noncomputable def L_sl04Critical_l4 : Loops := (⟨61, lvT [(4, [0, 1, 4, 5, 6, 7, 8])], mdT [(4, .normal, [], [4, 5]), (4, .exit 0, [], [0, 1, 4, 5, 6, 8]), (4, .ret, [], [0, 1, 6, 7, 8])], fun k vs bs => .bad⟩ : Loops)

theorem sl04Critical_l4_e (y0 : Nat) (y1 : Nat) (y2 : Nat) (y3 : Nat) (y4 : Nat) (s : Nat × Nat × Int) : (loopStep (envT Try.prog C40 mtab0) L_sl04Critical_l4 4 (loopC (bodyOf Try.f96) 4) (S_sl04Critical_l4.enc (y0, y1, y2, y3, y4, s.1, s.2.1, s.2.2)).1 (S_sl04Critical_l4.enc (y0, y1, y2, y3, y4, s.1, s.2.1, s.2.2)).2).to (stepD S_sl04Critical_l4 X_sl04Critical_l4) = (sl04Critical_l4_t y0 y1 y2 y3 y4 s.1 s.2.1 s.2.2).map (Sum.map (fun s : Nat × Nat × Int => (show DR S_sl04Critical_l4.hs from (y0, y1, y2, y3, y4, s.1, s.2.1, s.2.2))) id) := by kernel_rfl

theorem sl04Critical_l4_r (x : DR S_sl04Critical_l4.hs) : (sl04Critical_l4 x.1 x.2.1 x.2.2.1 x.2.2.2.1 x.2.2.2.2.1 x.2.2.2.2.2.1 x.2.2.2.2.2.2.1 x.2.2.2.2.2.2.2 : Option (SumD (X_sl04Critical_l4.map (·.2)))) = runL (meanS (envT Try.prog C40 mtab0) L_sl04Critical_l4 4 (loopC (bodyOf Try.f96) 4) S_sl04Critical_l4 X_sl04Critical_l4) x := run_of (fun s : Nat × Nat × Int => (show DR S_sl04Critical_l4.hs from (x.1, x.2.1, x.2.2.1, x.2.2.2.1, x.2.2.2.2.1, s.1, s.2.1, s.2.2))) (sl04Critical_l4_e (x.1) (x.2.1) (x.2.2.1) (x.2.2.2.1) (x.2.2.2.2.1)) (x.2.2.2.2.2.1, x.2.2.2.2.2.2.1, x.2.2.2.2.2.2.2)

theorem sl04Critical_l4_k (L : Loops) (hn : L_sl04Critical_l4.n = L.n) (hlv : L_sl04Critical_l4.lv 4 = L.lv 4) (hL : ∀ vs bs, L.loop 4 vs bs = toldL S_sl04Critical_l4 X_sl04Critical_l4 (fun x => sl04Critical_l4 x.1 x.2.1 x.2.2.1 x.2.2.2.1 x.2.2.2.2.1 x.2.2.2.2.2.1 x.2.2.2.2.2.2.1 x.2.2.2.2.2.2.2) vs bs) : LOk Try.prog (envT Try.prog C40 mtab0) L 4 (loopC (bodyOf Try.f96) 4) := toldL_ok (L1 := L_sl04Critical_l4) (envT_ok (C40_ok) (mtab0_ok _)) mixedO hn hlv (loopFree_ok (by kernel_rfl)) sl04Critical_l4_r hL

def A_sl04Critical : Shp := ⟨[.dpt [.h, .h, .h, .h] 0, .h], [], [.f .f32, .f .f32, .f .f32, .f .f32, .f .f32]⟩
def R_sl04Critical : List XShp := [(.ret, ⟨[.tup [.h, .h]], [], [.f .f32, .b]⟩)]

noncomputable def L_sl04Critical : Loops := (⟨61, lvT [(4, [0, 1, 4, 5, 6, 7, 8])], mdT [(4, .normal, [], [4, 5]), (4, .exit 0, [], [0, 1, 4, 5, 6, 8]), (4, .ret, [], [0, 1, 6, 7, 8])], fun k vs bs => bif Nat.beq k 4 then toldL S_sl04Critical_l4 X_sl04Critical_l4 (fun x => sl04Critical_l4 x.1 x.2.1 x.2.2.1 x.2.2.2.1 x.2.2.2.2.1 x.2.2.2.2.2.1 x.2.2.2.2.2.2.1 x.2.2.2.2.2.2.2) vs bs else .bad⟩ : Loops)

theorem sl04Critical_e (x : DR A_sl04Critical.hs) : (evFn (envT Try.prog C40 mtab0) L_sl04Critical Try.f96 (A_sl04Critical.enc x).1).to (fun q => decX R_sl04Critical .ret [q.1] q.2) = sl04Critical_t x.1 x.2.1 x.2.2.1 x.2.2.2.1 x.2.2.2.2 := by kernel_rfl

theorem sl04Critical_m (x : DR A_sl04Critical.hs) : meanF (envT Try.prog C40 mtab0) L_sl04Critical Try.f96 A_sl04Critical R_sl04Critical x = (show Option (SumD (R_sl04Critical.map (·.2))) from sl04Critical x.1 x.2.1 x.2.2.1 x.2.2.2.1 x.2.2.2.2) := meanF_of (sl04Critical_e x)

theorem sl04Critical_ok : SpecOk Try.prog 96 (evFn (envT Try.prog C40 mtab0) L_sl04Critical Try.f96) := fnL_ok (envT_ok (C40_ok) (mtab0_ok _)) mixedO Try.func96 (by kernel_rfl) (c := bodyOf Try.f96) (by kernel_rfl) (loopsL (l := [(4, loopC (bodyOf Try.f96) 4)]) (by kernel_rfl) (lk_cons (sl04Critical_l4_k _ rfl rfl (fun _ _ => rfl)) lk_nil))

theorem sl04Critical_told : SpecOk Try.prog 96 (toldO A_sl04Critical R_sl04Critical (fun x => sl04Critical x.1 x.2.1 x.2.2.1 x.2.2.2.1 x.2.2.2.2) (C40 96)) := toldO_ok (by kernel_rfl) sl04Critical_ok (rest_ok (C40_ok) _) sl04Critical_m

noncomputable def C41 : Tab := tab 96 (toldO A_sl04Critical R_sl04Critical (fun x => sl04Critical x.1 x.2.1 x.2.2.1 x.2.2.2.1 x.2.2.2.2) (C40 96)) C40
theorem C41_ok : TabOk Try.prog C41 := tab_ok (sl04Critical_told) (C40_ok)

def A_sl04Speed : Shp := ⟨[.dpt [.h, .h, .h, .h] 0, .h, .h], [], [.f .f32, .f .f32, .f .f32, .f .f32, .f .f32, .f .f32]⟩
def R_sl04Speed : List XShp := [(.ret, ⟨[.tup [.h, .h]], [], [.f .f32, .b]⟩)]

theorem sl04Speed_e (x : DR A_sl04Speed.hs) : (evFn (envT Try.prog C41 mtab0) noLoops Try.f50 (A_sl04Speed.enc x).1).to (fun q => decX R_sl04Speed .ret [q.1] q.2) = sl04Speed_t x.1 x.2.1 x.2.2.1 x.2.2.2.1 x.2.2.2.2.1 x.2.2.2.2.2 := by kernel_rfl

theorem sl04Speed_m (x : DR A_sl04Speed.hs) : meanF (envT Try.prog C41 mtab0) noLoops Try.f50 A_sl04Speed R_sl04Speed x = some (show SumD (R_sl04Speed.map (·.2)) from sl04Speed x.1 x.2.1 x.2.2.1 x.2.2.2.1 x.2.2.2.2.1 x.2.2.2.2.2) := @meanF_tot _ _ _ _ _ _ _ (sl04Speed_e x) (show Inhabited (Nat × Bool) from inferInstance) (by kernel_rfl)

theorem sl04Speed_ok : SpecOk Try.prog 50 (evFn (envT Try.prog C41 mtab0) noLoops Try.f50) := fnL_ok (envT_ok (C41_ok) (mtab0_ok _)) mixedO Try.func50 (by kernel_rfl) (c := bodyOf Try.f50) (by kernel_rfl) (loopFree_ok (by kernel_rfl))

theorem sl04Speed_told : SpecOk Try.prog 50 (toldT A_sl04Speed R_sl04Speed (fun x => sl04Speed x.1 x.2.1 x.2.2.1 x.2.2.2.1 x.2.2.2.2.1 x.2.2.2.2.2) (C41 50)) := toldT_ok (by kernel_rfl) sl04Speed_ok (rest_ok (C41_ok) _) sl04Speed_m

noncomputable def C42 : Tab := tab 50 (toldT A_sl04Speed R_sl04Speed (fun x => sl04Speed x.1 x.2.1 x.2.2.1 x.2.2.2.1 x.2.2.2.2.1 x.2.2.2.2.2) (C41 50)) C41
theorem C42_ok : TabOk Try.prog C42 := tab_ok (sl04Speed_told) (C41_ok)

def A_sl04Push : Shp := ⟨[.dpt [.h, .h, .h, .h] 0, .h, .h], [], [.f .f32, .f .f32, .f .f32, .f .f32, .f .f32, .f .f32]⟩
def R_sl04Push : List XShp := [(.ret, ⟨[.tup [.h, .h]], [], [.f .f32, .b]⟩)]

theorem sl04Push_e (x : DR A_sl04Push.hs) : (evFn (envT Try.prog C42 mtab0) noLoops Try.f115 (A_sl04Push.enc x).1).to (fun q => decX R_sl04Push .ret [q.1] q.2) = sl04Push_t x.1 x.2.1 x.2.2.1 x.2.2.2.1 x.2.2.2.2.1 x.2.2.2.2.2 := by kernel_rfl

theorem sl04Push_m (x : DR A_sl04Push.hs) : meanF (envT Try.prog C42 mtab0) noLoops Try.f115 A_sl04Push R_sl04Push x = some (show SumD (R_sl04Push.map (·.2)) from sl04Push x.1 x.2.1 x.2.2.1 x.2.2.2.1 x.2.2.2.2.1 x.2.2.2.2.2) := @meanF_tot _ _ _ _ _ _ _ (sl04Push_e x) (show Inhabited (Nat × Bool) from inferInstance) (by kernel_rfl)

theorem sl04Push_ok : SpecOk Try.prog 115 (evFn (envT Try.prog C42 mtab0) noLoops Try.f115) := fnL_ok (envT_ok (C42_ok) (mtab0_ok _)) mixedO Try.func115 (by kernel_rfl) (c := bodyOf Try.f115) (by kernel_rfl) (loopFree_ok (by kernel_rfl))

theorem sl04Push_told : SpecOk Try.prog 115 (toldT A_sl04Push R_sl04Push (fun x => sl04Push x.1 x.2.1 x.2.2.1 x.2.2.2.1 x.2.2.2.2.1 x.2.2.2.2.2) (C42 115)) := toldT_ok (by kernel_rfl) sl04Push_ok (rest_ok (C42_ok) _) sl04Push_m

noncomputable def C43 : Tab := tab 115 (toldT A_sl04Push R_sl04Push (fun x => sl04Push x.1 x.2.1 x.2.2.1 x.2.2.2.1 x.2.2.2.2.1 x.2.2.2.2.2) (C42 115)) C42
theorem C43_ok : TabOk Try.prog C43 := tab_ok (sl04Push_told) (C42_ok)

def A_sl04Head : Shp := ⟨[.dpt [.h, .h, .h, .h] 0, .h, .h], [], [.f .f32, .f .f32, .f .f32, .f .f32, .f .f32, .f .f32]⟩
def R_sl04Head : List XShp := [(.ret, ⟨[.tup [.h, .h]], [], [.f .f32, .b]⟩)]

theorem sl04Head_e (x : DR A_sl04Head.hs) : (evFn (envT Try.prog C43 mtab0) noLoops Try.f103 (A_sl04Head.enc x).1).to (fun q => decX R_sl04Head .ret [q.1] q.2) = sl04Head_t x.1 x.2.1 x.2.2.1 x.2.2.2.1 x.2.2.2.2.1 x.2.2.2.2.2 := by kernel_rfl

theorem sl04Head_m (x : DR A_sl04Head.hs) : meanF (envT Try.prog C43 mtab0) noLoops Try.f103 A_sl04Head R_sl04Head x = some (show SumD (R_sl04Head.map (·.2)) from sl04Head x.1 x.2.1 x.2.2.1 x.2.2.2.1 x.2.2.2.2.1 x.2.2.2.2.2) := @meanF_tot _ _ _ _ _ _ _ (sl04Head_e x) (show Inhabited (Nat × Bool) from inferInstance) (by kernel_rfl)

theorem sl04Head_ok : SpecOk Try.prog 103 (evFn (envT Try.prog C43 mtab0) noLoops Try.f103) := fnL_ok (envT_ok (C43_ok) (mtab0_ok _)) mixedO Try.func103 (by kernel_rfl) (c := bodyOf Try.f103) (by kernel_rfl) (loopFree_ok (by kernel_rfl))

theorem sl04Head_told : SpecOk Try.prog 103 (toldT A_sl04Head R_sl04Head (fun x => sl04Head x.1 x.2.1 x.2.2.1 x.2.2.2.1 x.2.2.2.2.1 x.2.2.2.2.2) (C43 103)) := toldT_ok (by kernel_rfl) sl04Head_ok (rest_ok (C43_ok) _) sl04Head_m

noncomputable def C44 : Tab := tab 103 (toldT A_sl04Head R_sl04Head (fun x => sl04Head x.1 x.2.1 x.2.2.1 x.2.2.2.1 x.2.2.2.2.1 x.2.2.2.2.2) (C43 103)) C43
theorem C44_ok : TabOk Try.prog C44 := tab_ok (sl04Head_told) (C43_ok)

def A_sl04Of : Shp := ⟨[.dpt [.h, .h, .h, .h] 0, .h, .h, .h], [], [.f .f32, .f .f32, .f .f32, .f .f32, .f .f32, .f .f32, .b]⟩
def R_sl04Of : List XShp := [(.ret, ⟨[.tup [.h, .h]], [], [.f .f32, .b]⟩)]

theorem sl04Of_e (x : DR A_sl04Of.hs) : (evFn (envT Try.prog C44 mtab0) noLoops Try.f97 (A_sl04Of.enc x).1).to (fun q => decX R_sl04Of .ret [q.1] q.2) = sl04Of_t x.1 x.2.1 x.2.2.1 x.2.2.2.1 x.2.2.2.2.1 x.2.2.2.2.2.1 x.2.2.2.2.2.2 := by kernel_rfl

theorem sl04Of_m (x : DR A_sl04Of.hs) : meanF (envT Try.prog C44 mtab0) noLoops Try.f97 A_sl04Of R_sl04Of x = some (show SumD (R_sl04Of.map (·.2)) from sl04Of x.1 x.2.1 x.2.2.1 x.2.2.2.1 x.2.2.2.2.1 x.2.2.2.2.2.1 x.2.2.2.2.2.2) := @meanF_tot _ _ _ _ _ _ _ (sl04Of_e x) (show Inhabited (Nat × Bool) from inferInstance) (by kernel_rfl)

theorem sl04Of_ok : SpecOk Try.prog 97 (evFn (envT Try.prog C44 mtab0) noLoops Try.f97) := fnL_ok (envT_ok (C44_ok) (mtab0_ok _)) mixedO Try.func97 (by kernel_rfl) (c := bodyOf Try.f97) (by kernel_rfl) (loopFree_ok (by kernel_rfl))

theorem sl04Of_told : SpecOk Try.prog 97 (toldT A_sl04Of R_sl04Of (fun x => sl04Of x.1 x.2.1 x.2.2.1 x.2.2.2.1 x.2.2.2.2.1 x.2.2.2.2.2.1 x.2.2.2.2.2.2) (C44 97)) := toldT_ok (by kernel_rfl) sl04Of_ok (rest_ok (C44_ok) _) sl04Of_m

noncomputable def C45 : Tab := tab 97 (toldT A_sl04Of R_sl04Of (fun x => sl04Of x.1 x.2.1 x.2.2.1 x.2.2.2.1 x.2.2.2.2.1 x.2.2.2.2.2.1 x.2.2.2.2.2.2) (C44 97)) C44
theorem C45_ok : TabOk Try.prog C45 := tab_ok (sl04Of_told) (C44_ok)

def S_sl04Other_l12 : Shp := ⟨[.dpt [.h, .h, .h, .h] 0, .h, .h, .undef, .undef, .h, .h, .h, .h, .h], [], [.f .f32, .f .f32, .f .f32, .f .f32, .f .f32, .b, .f .f32, .b, .f .f32, .f .f32, .i .i64]⟩
def X_sl04Other_l12 : List XShp := [(.ret, ⟨[.undef, .undef, .undef, .h, .lb false, .undef, .undef, .undef, .undef, .undef], [], [.f .f32]⟩), (.exit 0, ⟨[.undef, .undef, .undef, .undef, .undef, .undef, .h, .h, .h, .undef], [], [.b, .f .f32, .f .f32]⟩)]

noncomputable def L_sl04Other_l12 : Loops := (⟨86, lvT [(12, [0, 2, 3, 8, 9, 12, 14, 15, 16, 17])], mdT [(12, .normal, [], [8, 9]), (12, .exit 0, [], [0, 2, 3, 8, 9, 12, 17]), (12, .ret, [], [0, 2, 3, 12, 14, 15, 16, 17])], fun k vs bs => .bad⟩ : Loops)

theorem sl04Other_l12_e (y0 : Nat) (y1 : Nat) (y2 : Nat) (y3 : Nat) (y4 : Nat) (y5 : Bool) (y6 : Nat) (y7 : Bool) (s : Nat × Nat × Int) : (loopStep (envT Try.prog C45 mtab0) L_sl04Other_l12 12 (loopC (bodyOf Try.f64) 12) (S_sl04Other_l12.enc (y0, y1, y2, y3, y4, y5, y6, y7, s.1, s.2.1, s.2.2)).1 (S_sl04Other_l12.enc (y0, y1, y2, y3, y4, y5, y6, y7, s.1, s.2.1, s.2.2)).2).to (stepD S_sl04Other_l12 X_sl04Other_l12) = (sl04Other_l12_t y0 y1 y2 y3 y4 y5 y6 y7 s.1 s.2.1 s.2.2).map (Sum.map (fun s : Nat × Nat × Int => (show DR S_sl04Other_l12.hs from (y0, y1, y2, y3, y4, y5, y6, y7, s.1, s.2.1, s.2.2))) id) := by kernel_rfl

theorem sl04Other_l12_r (x : DR S_sl04Other_l12.hs) : (sl04Other_l12 x.1 x.2.1 x.2.2.1 x.2.2.2.1 x.2.2.2.2.1 x.2.2.2.2.2.1 x.2.2.2.2.2.2.1 x.2.2.2.2.2.2.2.1 x.2.2.2.2.2.2.2.2.1 x.2.2.2.2.2.2.2.2.2.1 x.2.2.2.2.2.2.2.2.2.2 : Option (SumD (X_sl04Other_l12.map (·.2)))) = runL (meanS (envT Try.prog C45 mtab0) L_sl04Other_l12 12 (loopC (bodyOf Try.f64) 12) S_sl04Other_l12 X_sl04Other_l12) x := run_of (fun s : Nat × Nat × Int => (show DR S_sl04Other_l12.hs from (x.1, x.2.1, x.2.2.1, x.2.2.2.1, x.2.2.2.2.1, x.2.2.2.2.2.1, x.2.2.2.2.2.2.1, x.2.2.2.2.2.2.2.1, s.1, s.2.1, s.2.2))) (sl04Other_l12_e (x.1) (x.2.1) (x.2.2.1) (x.2.2.2.1) (x.2.2.2.2.1) (x.2.2.2.2.2.1) (x.2.2.2.2.2.2.1) (x.2.2.2.2.2.2.2.1)) (x.2.2.2.2.2.2.2.2.1, x.2.2.2.2.2.2.2.2.2.1, x.2.2.2.2.2.2.2.2.2.2)

theorem sl04Other_l12_k (L : Loops) (hn : L_sl04Other_l12.n = L.n) (hlv : L_sl04Other_l12.lv 12 = L.lv 12) (hL : ∀ vs bs, L.loop 12 vs bs = toldL S_sl04Other_l12 X_sl04Other_l12 (fun x => sl04Other_l12 x.1 x.2.1 x.2.2.1 x.2.2.2.1 x.2.2.2.2.1 x.2.2.2.2.2.1 x.2.2.2.2.2.2.1 x.2.2.2.2.2.2.2.1 x.2.2.2.2.2.2.2.2.1 x.2.2.2.2.2.2.2.2.2.1 x.2.2.2.2.2.2.2.2.2.2) vs bs) : LOk Try.prog (envT Try.prog C45 mtab0) L 12 (loopC (bodyOf Try.f64) 12) := toldL_ok (L1 := L_sl04Other_l12) (envT_ok (C45_ok) (mtab0_ok _)) mixedO hn hlv (loopFree_ok (by kernel_rfl)) sl04Other_l12_r hL

def A_sl04Other : Shp := ⟨[.dpt [.h, .h, .h, .h] 0, .h, .h, .h], [], [.f .f32, .f .f32, .f .f32, .f .f32, .f .f32, .f .f32, .b]⟩
def R_sl04Other : List XShp := [(.ret, ⟨[.tup [.h, .h]], [], [.f .f32, .b]⟩)]

noncomputable def L_sl04Other : Loops := (⟨86, lvT [(12, [0, 2, 3, 8, 9, 12, 14, 15, 16, 17])], mdT [(12, .normal, [], [8, 9]), (12, .exit 0, [], [0, 2, 3, 8, 9, 12, 17]), (12, .ret, [], [0, 2, 3, 12, 14, 15, 16, 17])], fun k vs bs => bif Nat.beq k 12 then toldL S_sl04Other_l12 X_sl04Other_l12 (fun x => sl04Other_l12 x.1 x.2.1 x.2.2.1 x.2.2.2.1 x.2.2.2.2.1 x.2.2.2.2.2.1 x.2.2.2.2.2.2.1 x.2.2.2.2.2.2.2.1 x.2.2.2.2.2.2.2.2.1 x.2.2.2.2.2.2.2.2.2.1 x.2.2.2.2.2.2.2.2.2.2) vs bs else .bad⟩ : Loops)

theorem sl04Other_e (x : DR A_sl04Other.hs) : (evFn (envT Try.prog C45 mtab0) L_sl04Other Try.f64 (A_sl04Other.enc x).1).to (fun q => decX R_sl04Other .ret [q.1] q.2) = sl04Other_t x.1 x.2.1 x.2.2.1 x.2.2.2.1 x.2.2.2.2.1 x.2.2.2.2.2.1 x.2.2.2.2.2.2 := by kernel_rfl

theorem sl04Other_m (x : DR A_sl04Other.hs) : meanF (envT Try.prog C45 mtab0) L_sl04Other Try.f64 A_sl04Other R_sl04Other x = (show Option (SumD (R_sl04Other.map (·.2))) from sl04Other x.1 x.2.1 x.2.2.1 x.2.2.2.1 x.2.2.2.2.1 x.2.2.2.2.2.1 x.2.2.2.2.2.2) := meanF_of (sl04Other_e x)

theorem sl04Other_ok : SpecOk Try.prog 64 (evFn (envT Try.prog C45 mtab0) L_sl04Other Try.f64) := fnL_ok (envT_ok (C45_ok) (mtab0_ok _)) mixedO Try.func64 (by kernel_rfl) (c := bodyOf Try.f64) (by kernel_rfl) (loopsL (l := [(12, loopC (bodyOf Try.f64) 12)]) (by kernel_rfl) (lk_cons (sl04Other_l12_k _ rfl rfl (fun _ _ => rfl)) lk_nil))

theorem sl04Other_told : SpecOk Try.prog 64 (toldO A_sl04Other R_sl04Other (fun x => sl04Other x.1 x.2.1 x.2.2.1 x.2.2.2.1 x.2.2.2.2.1 x.2.2.2.2.2.1 x.2.2.2.2.2.2) (C45 64)) := toldO_ok (by kernel_rfl) sl04Other_ok (rest_ok (C45_ok) _) sl04Other_m

noncomputable def C46 : Tab := tab 64 (toldO A_sl04Other R_sl04Other (fun x => sl04Other x.1 x.2.1 x.2.2.1 x.2.2.2.1 x.2.2.2.2.1 x.2.2.2.2.2.1 x.2.2.2.2.2.2) (C45 64)) C45
theorem C46_ok : TabOk Try.prog C46 := tab_ok (sl04Other_told) (C45_ok)

def A_sOtherDepth : Shp := ⟨[.agg [.h, .h, .h, .h], .h, .h], [], [.f .f32, .f .f32, .f .f32, .f .f32, .f .f32, .f .f32]⟩
def R_sOtherDepth : List XShp := [(.ret, ⟨[.tup [.h, .h]], [], [.f .f32, .b]⟩)]

theorem sOtherDepth_e (x : DR A_sOtherDepth.hs) : (evFn (envT Try.prog C46 mtab0) noLoops Try.f23 (A_sOtherDepth.enc x).1).to (fun q => decX R_sOtherDepth .ret [q.1] q.2) = sOtherDepth_t x.1 x.2.1 x.2.2.1 x.2.2.2.1 x.2.2.2.2.1 x.2.2.2.2.2 := by kernel_rfl

theorem sOtherDepth_m (x : DR A_sOtherDepth.hs) : meanF (envT Try.prog C46 mtab0) noLoops Try.f23 A_sOtherDepth R_sOtherDepth x = (show Option (SumD (R_sOtherDepth.map (·.2))) from sOtherDepth x.1 x.2.1 x.2.2.1 x.2.2.2.1 x.2.2.2.2.1 x.2.2.2.2.2) := meanF_of (sOtherDepth_e x)

theorem sOtherDepth_ok : SpecOk Try.prog 23 (evFn (envT Try.prog C46 mtab0) noLoops Try.f23) := fnL_ok (envT_ok (C46_ok) (mtab0_ok _)) mixedO Try.func23 (by kernel_rfl) (c := bodyOf Try.f23) (by kernel_rfl) (loopFree_ok (by kernel_rfl))

theorem sOtherDepth_told : SpecOk Try.prog 23 (toldO A_sOtherDepth R_sOtherDepth (fun x => sOtherDepth x.1 x.2.1 x.2.2.1 x.2.2.2.1 x.2.2.2.2.1 x.2.2.2.2.2) (C46 23)) := toldO_ok (by kernel_rfl) sOtherDepth_ok (rest_ok (C46_ok) _) sOtherDepth_m

noncomputable def C47 : Tab := tab 23 (toldO A_sOtherDepth R_sOtherDepth (fun x => sOtherDepth x.1 x.2.1 x.2.2.1 x.2.2.2.1 x.2.2.2.2.1 x.2.2.2.2.2) (C46 23)) C46
theorem C47_ok : TabOk Try.prog C47 := tab_ok (sOtherDepth_told) (C46_ok)

def S_iareLengths_l2 : Shp := ⟨[.undef, .h, .h, .h], [], [.sl [.f .f32], .i .i64, .i .i64]⟩
def X_iareLengths_l2 : List XShp := [(.ret, ⟨[.lb false, .undef, .undef, .undef], [], []⟩), (.exit 0, ⟨[.undef, .undef, .undef, .undef], [], []⟩)]

noncomputable def L_iareLengths_l2 : Loops := (⟨15, lvT [(2, [2, 5, 6, 7])], mdT [(2, .normal, [], [2]), (2, .exit 0, [], [2, 5, 6, 7]), (2, .ret, [], [5, 6, 7])], fun k vs bs => .bad⟩ : Loops)

theorem iareLengths_l2_e (y0 : List Nat) (y1 : Int) (s : Int) : (loopStep (envT Try.prog C47 mtab0) L_iareLengths_l2 2 (loopC (bodyOf Try.f108) 2) (S_iareLengths_l2.enc (y0, y1, s)).1 (S_iareLengths_l2.enc (y0, y1, s)).2).to (stepD S_iareLengths_l2 X_iareLengths_l2) = (iareLengths_l2_t y0 y1 s).map (Sum.map (fun s : Int => (show DR S_iareLengths_l2.hs from (y0, y1, s))) id) := by kernel_rfl

theorem iareLengths_l2_r (x : DR S_iareLengths_l2.hs) : (iareLengths_l2 x.1 x.2.1 x.2.2 : Option (SumD (X_iareLengths_l2.map (·.2)))) = runL (meanS (envT Try.prog C47 mtab0) L_iareLengths_l2 2 (loopC (bodyOf Try.f108) 2) S_iareLengths_l2 X_iareLengths_l2) x := run_of (fun s : Int => (show DR S_iareLengths_l2.hs from (x.1, x.2.1, s))) (iareLengths_l2_e (x.1) (x.2.1)) x.2.2

theorem iareLengths_l2_k (L : Loops) (hn : L_iareLengths_l2.n = L.n) (hlv : L_iareLengths_l2.lv 2 = L.lv 2) (hL : ∀ vs bs, L.loop 2 vs bs = toldL S_iareLengths_l2 X_iareLengths_l2 (fun x => iareLengths_l2 x.1 x.2.1 x.2.2) vs bs) : LOk Try.prog (envT Try.prog C47 mtab0) L 2 (loopC (bodyOf Try.f108) 2) := toldL_ok (L1 := L_iareLengths_l2) (envT_ok (C47_ok) (mtab0_ok _)) mixedO hn hlv (loopFree_ok (by kernel_rfl)) iareLengths_l2_r hL

def A_iareLengths : Shp := ⟨[.h], [], [.sl [.f .f32]]⟩
def R_iareLengths : List XShp := [(.ret, ⟨[.h], [], [.b]⟩)]

noncomputable def L_iareLengths : Loops := (⟨15, lvT [(2, [2, 5, 6, 7])], mdT [(2, .normal, [], [2]), (2, .exit 0, [], [2, 5, 6, 7]), (2, .ret, [], [5, 6, 7])], fun k vs bs => bif Nat.beq k 2 then toldL S_iareLengths_l2 X_iareLengths_l2 (fun x => iareLengths_l2 x.1 x.2.1 x.2.2) vs bs else .bad⟩ : Loops)

theorem iareLengths_e (x : DR A_iareLengths.hs) : (evFn (envT Try.prog C47 mtab0) L_iareLengths Try.f108 (A_iareLengths.enc x).1).to (fun q => decX R_iareLengths .ret [q.1] q.2) = iareLengths_t x := by kernel_rfl

theorem iareLengths_m (x : DR A_iareLengths.hs) : meanF (envT Try.prog C47 mtab0) L_iareLengths Try.f108 A_iareLengths R_iareLengths x = (show Option (SumD (R_iareLengths.map (·.2))) from iareLengths x) := meanF_of (iareLengths_e x)

theorem iareLengths_ok : SpecOk Try.prog 108 (evFn (envT Try.prog C47 mtab0) L_iareLengths Try.f108) := fnL_ok (envT_ok (C47_ok) (mtab0_ok _)) mixedO Try.func108 (by kernel_rfl) (c := bodyOf Try.f108) (by kernel_rfl) (loopsL (l := [(2, loopC (bodyOf Try.f108) 2)]) (by kernel_rfl) (lk_cons (iareLengths_l2_k _ rfl rfl (fun _ _ => rfl)) lk_nil))

theorem iareLengths_told : SpecOk Try.prog 108 (toldO A_iareLengths R_iareLengths (fun x => iareLengths x) (C47 108)) := toldO_ok (by kernel_rfl) iareLengths_ok (rest_ok (C47_ok) _) iareLengths_m

noncomputable def C48 : Tab := tab 108 (toldO A_iareLengths R_iareLengths (fun x => iareLengths x) (C47 108)) C47
theorem C48_ok : TabOk Try.prog C48 := tab_ok (iareLengths_told) (C47_ok)

def A_iValidSection : Shp := ⟨[.agg [.h, .h, .h, .h]], [], [.f .f32, .f .f32, .f .f32, .f .f32]⟩
def R_iValidSection : List XShp := [(.ret, ⟨[.h], [], [.b]⟩)]

theorem iValidSection_e (x : DR A_iValidSection.hs) : (evFn (envT Try.prog C48 mtab0) noLoops Try.f107 (A_iValidSection.enc x).1).to (fun q => decX R_iValidSection .ret [q.1] q.2) = iValidSection_t x.1 x.2.1 x.2.2.1 x.2.2.2 := by kernel_rfl

theorem iValidSection_m (x : DR A_iValidSection.hs) : meanF (envT Try.prog C48 mtab0) noLoops Try.f107 A_iValidSection R_iValidSection x = (show Option (SumD (R_iValidSection.map (·.2))) from iValidSection x.1 x.2.1 x.2.2.1 x.2.2.2) := meanF_of (iValidSection_e x)

theorem iValidSection_ok : SpecOk Try.prog 107 (evFn (envT Try.prog C48 mtab0) noLoops Try.f107) := fnL_ok (envT_ok (C48_ok) (mtab0_ok _)) mixedO Try.func107 (by kernel_rfl) (c := bodyOf Try.f107) (by kernel_rfl) (loopFree_ok (by kernel_rfl))

theorem iValidSection_told : SpecOk Try.prog 107 (toldO A_iValidSection R_iValidSection (fun x => iValidSection x.1 x.2.1 x.2.2.1 x.2.2.2) (C48 107)) := toldO_ok (by kernel_rfl) iValidSection_ok (rest_ok (C48_ok) _) iValidSection_m

noncomputable def C49 : Tab := tab 107 (toldO A_iValidSection R_iValidSection (fun x => iValidSection x.1 x.2.1 x.2.2.1 x.2.2.2) (C48 107)) C48
theorem C49_ok : TabOk Try.prog C49 := tab_ok (iValidSection_told) (C48_ok)

def A_iSection_isFlow : Shp := ⟨[.agg [.h, .h, .h, .h], .h], [], [.f .f32, .f .f32, .f .f32, .f .f32, .sl [.f .f32]]⟩
def R_iSection_isFlow : List XShp := [(.ret, ⟨[.h], [], [.b]⟩)]

theorem iSection_isFlow_e (x : DR A_iSection_isFlow.hs) : (evFn (envT Try.prog C49 mtab0) noLoops Try.f78 (A_iSection_isFlow.enc x).1).to (fun q => decX R_iSection_isFlow .ret [q.1] q.2) = iSection_isFlow_t x.1 x.2.1 x.2.2.1 x.2.2.2.1 x.2.2.2.2 := by kernel_rfl

theorem iSection_isFlow_m (x : DR A_iSection_isFlow.hs) : meanF (envT Try.prog C49 mtab0) noLoops Try.f78 A_iSection_isFlow R_iSection_isFlow x = (show Option (SumD (R_iSection_isFlow.map (·.2))) from iSection_isFlow x.1 x.2.1 x.2.2.1 x.2.2.2.1 x.2.2.2.2) := meanF_of (iSection_isFlow_e x)

theorem iSection_isFlow_ok : SpecOk Try.prog 78 (evFn (envT Try.prog C49 mtab0) noLoops Try.f78) := fnL_ok (envT_ok (C49_ok) (mtab0_ok _)) mixedO Try.func78 (by kernel_rfl) (c := bodyOf Try.f78) (by kernel_rfl) (loopFree_ok (by kernel_rfl))

theorem iSection_isFlow_told : SpecOk Try.prog 78 (toldO A_iSection_isFlow R_iSection_isFlow (fun x => iSection_isFlow x.1 x.2.1 x.2.2.1 x.2.2.2.1 x.2.2.2.2) (C49 78)) := toldO_ok (by kernel_rfl) iSection_isFlow_ok (rest_ok (C49_ok) _) iSection_isFlow_m

noncomputable def C50 : Tab := tab 78 (toldO A_iSection_isFlow R_iSection_isFlow (fun x => iSection_isFlow x.1 x.2.1 x.2.2.1 x.2.2.2.1 x.2.2.2.2) (C49 78)) C49
theorem C50_ok : TabOk Try.prog C50 := tab_ok (iSection_isFlow_told) (C49_ok)

def A_iAreaAt : Shp := ⟨[.agg [.h, .h, .h, .h], .h], [], [.f .f32, .f .f32, .f .f32, .f .f32, .f .f32]⟩
def R_iAreaAt : List XShp := [(.ret, ⟨[.tup [.h, .h]], [], [.f .f32, .b]⟩)]

theorem iAreaAt_e (x : DR A_iAreaAt.hs) : (evFn (envT Try.prog C50 mtab0) noLoops Try.f46 (A_iAreaAt.enc x).1).to (fun q => decX R_iAreaAt .ret [q.1] q.2) = iAreaAt_t x.1 x.2.1 x.2.2.1 x.2.2.2.1 x.2.2.2.2 := by kernel_rfl

theorem iAreaAt_m (x : DR A_iAreaAt.hs) : meanF (envT Try.prog C50 mtab0) noLoops Try.f46 A_iAreaAt R_iAreaAt x = (show Option (SumD (R_iAreaAt.map (·.2))) from iAreaAt x.1 x.2.1 x.2.2.1 x.2.2.2.1 x.2.2.2.2) := meanF_of (iAreaAt_e x)

theorem iAreaAt_ok : SpecOk Try.prog 46 (evFn (envT Try.prog C50 mtab0) noLoops Try.f46) := fnL_ok (envT_ok (C50_ok) (mtab0_ok _)) mixedO Try.func46 (by kernel_rfl) (c := bodyOf Try.f46) (by kernel_rfl) (loopFree_ok (by kernel_rfl))

theorem iAreaAt_told : SpecOk Try.prog 46 (toldO A_iAreaAt R_iAreaAt (fun x => iAreaAt x.1 x.2.1 x.2.2.1 x.2.2.2.1 x.2.2.2.2) (C50 46)) := toldO_ok (by kernel_rfl) iAreaAt_ok (rest_ok (C50_ok) _) iAreaAt_m

noncomputable def C51 : Tab := tab 46 (toldO A_iAreaAt R_iAreaAt (fun x => iAreaAt x.1 x.2.1 x.2.2.1 x.2.2.2.1 x.2.2.2.2) (C50 46)) C50
theorem C51_ok : TabOk Try.prog C51 := tab_ok (iAreaAt_told) (C50_ok)

def A_iTopAt : Shp := ⟨[.agg [.h, .h, .h, .h], .h], [], [.f .f32, .f .f32, .f .f32, .f .f32, .f .f32]⟩
def R_iTopAt : List XShp := [(.ret, ⟨[.tup [.h, .h]], [], [.f .f32, .b]⟩)]

theorem iTopAt_e (x : DR A_iTopAt.hs) : (evFn (envT Try.prog C51 mtab0) noLoops Try.f56 (A_iTopAt.enc x).1).to (fun q => decX R_iTopAt .ret [q.1] q.2) = iTopAt_t x.1 x.2.1 x.2.2.1 x.2.2.2.1 x.2.2.2.2 := by kernel_rfl

theorem iTopAt_m (x : DR A_iTopAt.hs) : meanF (envT Try.prog C51 mtab0) noLoops Try.f56 A_iTopAt R_iTopAt x = (show Option (SumD (R_iTopAt.map (·.2))) from iTopAt x.1 x.2.1 x.2.2.1 x.2.2.2.1 x.2.2.2.2) := meanF_of (iTopAt_e x)

theorem iTopAt_ok : SpecOk Try.prog 56 (evFn (envT Try.prog C51 mtab0) noLoops Try.f56) := fnL_ok (envT_ok (C51_ok) (mtab0_ok _)) mixedO Try.func56 (by kernel_rfl) (c := bodyOf Try.f56) (by kernel_rfl) (loopFree_ok (by kernel_rfl))

theorem iTopAt_told : SpecOk Try.prog 56 (toldO A_iTopAt R_iTopAt (fun x => iTopAt x.1 x.2.1 x.2.2.1 x.2.2.2.1 x.2.2.2.2) (C51 56)) := toldO_ok (by kernel_rfl) iTopAt_ok (rest_ok (C51_ok) _) iTopAt_m

noncomputable def C52 : Tab := tab 56 (toldO A_iTopAt R_iTopAt (fun x => iTopAt x.1 x.2.1 x.2.2.1 x.2.2.2.1 x.2.2.2.2) (C51 56)) C51
theorem C52_ok : TabOk Try.prog C52 := tab_ok (iTopAt_told) (C51_ok)

def A_iCriticalDepth_1 : Shp := ⟨[.h, .dpt [.h, .h, .h, .h] 0, .dpt [.h] 0], [], [.f .f32, .f .f32, .f .f32, .f .f32, .f .f32, .f .f32]⟩
def R_iCriticalDepth_1 : List XShp := [(.ret, ⟨[.tup [.h, .h]], [], [.b, .b]⟩)]

theorem iCriticalDepth_1_e (x : DR A_iCriticalDepth_1.hs) : (evFn (envT Try.prog C52 mtab0) noLoops Try.f104 (A_iCriticalDepth_1.enc x).1).to (fun q => decX R_iCriticalDepth_1 .ret [q.1] q.2) = iCriticalDepth_1_t x.1 x.2.1 x.2.2.1 x.2.2.2.1 x.2.2.2.2.1 x.2.2.2.2.2 := by kernel_rfl

theorem iCriticalDepth_1_m (x : DR A_iCriticalDepth_1.hs) : meanF (envT Try.prog C52 mtab0) noLoops Try.f104 A_iCriticalDepth_1 R_iCriticalDepth_1 x = (show Option (SumD (R_iCriticalDepth_1.map (·.2))) from iCriticalDepth_1 x.1 x.2.1 x.2.2.1 x.2.2.2.1 x.2.2.2.2.1 x.2.2.2.2.2) := meanF_of (iCriticalDepth_1_e x)

theorem iCriticalDepth_1_ok : SpecOk Try.prog 104 (evFn (envT Try.prog C52 mtab0) noLoops Try.f104) := fnL_ok (envT_ok (C52_ok) (mtab0_ok _)) mixedO Try.func104 (by kernel_rfl) (c := bodyOf Try.f104) (by kernel_rfl) (loopFree_ok (by kernel_rfl))

theorem iCriticalDepth_1_told : SpecOk Try.prog 104 (toldO A_iCriticalDepth_1 R_iCriticalDepth_1 (fun x => iCriticalDepth_1 x.1 x.2.1 x.2.2.1 x.2.2.2.1 x.2.2.2.2.1 x.2.2.2.2.2) (C52 104)) := toldO_ok (by kernel_rfl) iCriticalDepth_1_ok (rest_ok (C52_ok) _) iCriticalDepth_1_m

noncomputable def C53 : Tab := tab 104 (toldO A_iCriticalDepth_1 R_iCriticalDepth_1 (fun x => iCriticalDepth_1 x.1 x.2.1 x.2.2.1 x.2.2.2.1 x.2.2.2.2.1 x.2.2.2.2.2) (C52 104)) C52
theorem C53_ok : TabOk Try.prog C53 := tab_ok (iCriticalDepth_1_told) (C52_ok)

def S_ihalve_iCriticalDepth_1_l2 : Shp := ⟨[.h, .h, .fn 104 [.dpt [.h, .h, .h, .h] 0, .dpt [.h] 0], .undef, .undef, .undef, .h], [], [.f .f32, .f .f32, .f .f32, .f .f32, .f .f32, .f .f32, .f .f32, .i .i64]⟩
def X_ihalve_iCriticalDepth_1_l2 : List XShp := [(.ret, ⟨[.undef, .undef, .undef, .h, .h, .lb false, .undef], [], [.f .f32, .f .f32]⟩), (.exit 0, ⟨[.h, .h, .undef, .undef, .undef, .undef, .undef], [], [.f .f32, .f .f32]⟩)]

noncomputable def L_ihalve_iCriticalDepth_1_l2 : Loops := (⟨32, lvT [(2, [0, 1, 2, 6, 7, 8, 12])], mdT [(2, .normal, [], [6, 7, 8]), (2, .exit 0, [], [2, 6, 7, 8, 12]), (2, .ret, [], [0, 1, 2, 12])], fun k vs bs => .bad⟩ : Loops)

theorem ihalve_iCriticalDepth_1_l2_e (y2 : Nat) (y3 : Nat) (y4 : Nat) (y5 : Nat) (y6 : Nat) (s : Nat × Nat × Int) : (loopStep (envT Try.prog C53 mtab0) L_ihalve_iCriticalDepth_1_l2 2 (loopC (bodyOf Try.f79) 2) (S_ihalve_iCriticalDepth_1_l2.enc (s.1, s.2.1, y2, y3, y4, y5, y6, s.2.2)).1 (S_ihalve_iCriticalDepth_1_l2.enc (s.1, s.2.1, y2, y3, y4, y5, y6, s.2.2)).2).to (stepD S_ihalve_iCriticalDepth_1_l2 X_ihalve_iCriticalDepth_1_l2) = (ihalve_iCriticalDepth_1_l2_t y2 y3 y4 y5 y6 s.1 s.2.1 s.2.2).map (Sum.map (fun s : Nat × Nat × Int => (show DR S_ihalve_iCriticalDepth_1_l2.hs from (s.1, s.2.1, y2, y3, y4, y5, y6, s.2.2))) id) := by kernel_rfl

theorem ihalve_iCriticalDepth_1_l2_r (x : DR S_ihalve_iCriticalDepth_1_l2.hs) : (ihalve_iCriticalDepth_1_l2 x.1 x.2.1 x.2.2.1 x.2.2.2.1 x.2.2.2.2.1 x.2.2.2.2.2.1 x.2.2.2.2.2.2.1 x.2.2.2.2.2.2.2 : Option (SumD (X_ihalve_iCriticalDepth_1_l2.map (·.2)))) = runL (meanS (envT Try.prog C53 mtab0) L_ihalve_iCriticalDepth_1_l2 2 (loopC (bodyOf Try.f79) 2) S_ihalve_iCriticalDepth_1_l2 X_ihalve_iCriticalDepth_1_l2) x := run_of (fun s : Nat × Nat × Int => (show DR S_ihalve_iCriticalDepth_1_l2.hs from (s.1, s.2.1, x.2.2.1, x.2.2.2.1, x.2.2.2.2.1, x.2.2.2.2.2.1, x.2.2.2.2.2.2.1, s.2.2))) (ihalve_iCriticalDepth_1_l2_e (x.2.2.1) (x.2.2.2.1) (x.2.2.2.2.1) (x.2.2.2.2.2.1) (x.2.2.2.2.2.2.1)) (x.1, x.2.1, x.2.2.2.2.2.2.2)

theorem ihalve_iCriticalDepth_1_l2_k (L : Loops) (hn : L_ihalve_iCriticalDepth_1_l2.n = L.n) (hlv : L_ihalve_iCriticalDepth_1_l2.lv 2 = L.lv 2) (hL : ∀ vs bs, L.loop 2 vs bs = toldL S_ihalve_iCriticalDepth_1_l2 X_ihalve_iCriticalDepth_1_l2 (fun x => ihalve_iCriticalDepth_1_l2 x.1 x.2.1 x.2.2.1 x.2.2.2.1 x.2.2.2.2.1 x.2.2.2.2.2.1 x.2.2.2.2.2.2.1 x.2.2.2.2.2.2.2) vs bs) : LOk Try.prog (envT Try.prog C53 mtab0) L 2 (loopC (bodyOf Try.f79) 2) := toldL_ok (L1 := L_ihalve_iCriticalDepth_1_l2) (envT_ok (C53_ok) (mtab0_ok _)) mixedO hn hlv (loopFree_ok (by kernel_rfl)) ihalve_iCriticalDepth_1_l2_r hL

def A_ihalve_iCriticalDepth_1 : Shp := ⟨[.h, .h, .fn 104 [.dpt [.h, .h, .h, .h] 0, .dpt [.h] 0]], [], [.f .f32, .f .f32, .f .f32, .f .f32, .f .f32, .f .f32, .f .f32]⟩
def R_ihalve_iCriticalDepth_1 : List XShp := [(.ret, ⟨[.tup [.h, .h, .h]], [], [.f .f32, .f .f32, .b]⟩)]

noncomputable def L_ihalve_iCriticalDepth_1 : Loops := (⟨32, lvT [(2, [0, 1, 2, 6, 7, 8, 12])], mdT [(2, .normal, [], [6, 7, 8]), (2, .exit 0, [], [2, 6, 7, 8, 12]), (2, .ret, [], [0, 1, 2, 12])], fun k vs bs => bif Nat.beq k 2 then toldL S_ihalve_iCriticalDepth_1_l2 X_ihalve_iCriticalDepth_1_l2 (fun x => ihalve_iCriticalDepth_1_l2 x.1 x.2.1 x.2.2.1 x.2.2.2.1 x.2.2.2.2.1 x.2.2.2.2.2.1 x.2.2.2.2.2.2.1 x.2.2.2.2.2.2.2) vs bs else .bad⟩ : Loops)

theorem ihalve_iCriticalDepth_1_e (x : DR A_ihalve_iCriticalDepth_1.hs) : (evFn (envT Try.prog C53 mtab0) L_ihalve_iCriticalDepth_1 Try.f79 (A_ihalve_iCriticalDepth_1.enc x).1).to (fun q => decX R_ihalve_iCriticalDepth_1 .ret [q.1] q.2) = ihalve_iCriticalDepth_1_t x.1 x.2.1 x.2.2.1 x.2.2.2.1 x.2.2.2.2.1 x.2.2.2.2.2.1 x.2.2.2.2.2.2 := by kernel_rfl

theorem ihalve_iCriticalDepth_1_m (x : DR A_ihalve_iCriticalDepth_1.hs) : meanF (envT Try.prog C53 mtab0) L_ihalve_iCriticalDepth_1 Try.f79 A_ihalve_iCriticalDepth_1 R_ihalve_iCriticalDepth_1 x = (show Option (SumD (R_ihalve_iCriticalDepth_1.map (·.2))) from ihalve_iCriticalDepth_1 x.1 x.2.1 x.2.2.1 x.2.2.2.1 x.2.2.2.2.1 x.2.2.2.2.2.1 x.2.2.2.2.2.2) := meanF_of (ihalve_iCriticalDepth_1_e x)

theorem ihalve_iCriticalDepth_1_ok : SpecOk Try.prog 79 (evFn (envT Try.prog C53 mtab0) L_ihalve_iCriticalDepth_1 Try.f79) := fnL_ok (envT_ok (C53_ok) (mtab0_ok _)) mixedO Try.func79 (by kernel_rfl) (c := bodyOf Try.f79) (by kernel_rfl) (loopsL (l := [(2, loopC (bodyOf Try.f79) 2)]) (by kernel_rfl) (lk_cons (ihalve_iCriticalDepth_1_l2_k _ rfl rfl (fun _ _ => rfl)) lk_nil))

theorem ihalve_iCriticalDepth_1_told : SpecOk Try.prog 79 (toldO A_ihalve_iCriticalDepth_1 R_ihalve_iCriticalDepth_1 (fun x => ihalve_iCriticalDepth_1 x.1 x.2.1 x.2.2.1 x.2.2.2.1 x.2.2.2.2.1 x.2.2.2.2.2.1 x.2.2.2.2.2.2) (C53 79)) := toldO_ok (by kernel_rfl) ihalve_iCriticalDepth_1_ok (rest_ok (C53_ok) _) ihalve_iCriticalDepth_1_m

noncomputable def C54 : Tab := tab 79 (toldO A_ihalve_iCriticalDepth_1 R_ihalve_iCriticalDepth_1 (fun x => ihalve_iCriticalDepth_1 x.1 x.2.1 x.2.2.1 x.2.2.2.1 x.2.2.2.2.1 x.2.2.2.2.2.1 x.2.2.2.2.2.2) (C53 79)) C53
theorem C54_ok : TabOk Try.prog C54 := tab_ok (ihalve_iCriticalDepth_1_told) (C53_ok)

def A_iCriticalDepth : Shp := ⟨[.agg [.h, .h, .h, .h], .h], [], [.f .f32, .f .f32, .f .f32, .f .f32, .f .f32]⟩
def R_iCriticalDepth : List XShp := [(.ret, ⟨[.tup [.h, .h]], [], [.f .f32, .b]⟩)]

theorem iCriticalDepth_e (x : DR A_iCriticalDepth.hs) : (evFn (envT Try.prog C54 mtab0) noLoops Try.f73 (A_iCriticalDepth.enc x).1).to (fun q => decX R_iCriticalDepth .ret [q.1] q.2) = iCriticalDepth_t x.1 x.2.1 x.2.2.1 x.2.2.2.1 x.2.2.2.2 := by kernel_rfl

theorem iCriticalDepth_m (x : DR A_iCriticalDepth.hs) : meanF (envT Try.prog C54 mtab0) noLoops Try.f73 A_iCriticalDepth R_iCriticalDepth x = (show Option (SumD (R_iCriticalDepth.map (·.2))) from iCriticalDepth x.1 x.2.1 x.2.2.1 x.2.2.2.1 x.2.2.2.2) := meanF_of (iCriticalDepth_e x)

theorem iCriticalDepth_ok : SpecOk Try.prog 73 (evFn (envT Try.prog C54 mtab0) noLoops Try.f73) := fnL_ok (envT_ok (C54_ok) (mtab0_ok _)) mixedO Try.func73 (by kernel_rfl) (c := bodyOf Try.f73) (by kernel_rfl) (loopFree_ok (by kernel_rfl))

theorem iCriticalDepth_told : SpecOk Try.prog 73 (toldO A_iCriticalDepth R_iCriticalDepth (fun x => iCriticalDepth x.1 x.2.1 x.2.2.1 x.2.2.2.1 x.2.2.2.2) (C54 73)) := toldO_ok (by kernel_rfl) iCriticalDepth_ok (rest_ok (C54_ok) _) iCriticalDepth_m

noncomputable def C55 : Tab := tab 73 (toldO A_iCriticalDepth R_iCriticalDepth (fun x => iCriticalDepth x.1 x.2.1 x.2.2.1 x.2.2.2.1 x.2.2.2.2) (C54 73)) C54
theorem C55_ok : TabOk Try.prog C55 := tab_ok (iCriticalDepth_told) (C54_ok)

def A_iSpeedAt : Shp := ⟨[.agg [.h, .h, .h, .h], .h, .h], [], [.f .f32, .f .f32, .f .f32, .f .f32, .f .f32, .f .f32]⟩
def R_iSpeedAt : List XShp := [(.ret, ⟨[.tup [.h, .h]], [], [.f .f32, .b]⟩)]

theorem iSpeedAt_e (x : DR A_iSpeedAt.hs) : (evFn (envT Try.prog C55 mtab0) noLoops Try.f55 (A_iSpeedAt.enc x).1).to (fun q => decX R_iSpeedAt .ret [q.1] q.2) = iSpeedAt_t x.1 x.2.1 x.2.2.1 x.2.2.2.1 x.2.2.2.2.1 x.2.2.2.2.2 := by kernel_rfl

theorem iSpeedAt_m (x : DR A_iSpeedAt.hs) : meanF (envT Try.prog C55 mtab0) noLoops Try.f55 A_iSpeedAt R_iSpeedAt x = (show Option (SumD (R_iSpeedAt.map (·.2))) from iSpeedAt x.1 x.2.1 x.2.2.1 x.2.2.2.1 x.2.2.2.2.1 x.2.2.2.2.2) := meanF_of (iSpeedAt_e x)

theorem iSpeedAt_ok : SpecOk Try.prog 55 (evFn (envT Try.prog C55 mtab0) noLoops Try.f55) := fnL_ok (envT_ok (C55_ok) (mtab0_ok _)) mixedO Try.func55 (by kernel_rfl) (c := bodyOf Try.f55) (by kernel_rfl) (loopFree_ok (by kernel_rfl))

theorem iSpeedAt_told : SpecOk Try.prog 55 (toldO A_iSpeedAt R_iSpeedAt (fun x => iSpeedAt x.1 x.2.1 x.2.2.1 x.2.2.2.1 x.2.2.2.2.1 x.2.2.2.2.2) (C55 55)) := toldO_ok (by kernel_rfl) iSpeedAt_ok (rest_ok (C55_ok) _) iSpeedAt_m

noncomputable def C56 : Tab := tab 55 (toldO A_iSpeedAt R_iSpeedAt (fun x => iSpeedAt x.1 x.2.1 x.2.2.1 x.2.2.2.1 x.2.2.2.2.1 x.2.2.2.2.2) (C55 55)) C55
theorem C56_ok : TabOk Try.prog C56 := tab_ok (iSpeedAt_told) (C55_ok)

def A_iHeadAt : Shp := ⟨[.agg [.h, .h, .h, .h], .h, .h], [], [.f .f32, .f .f32, .f .f32, .f .f32, .f .f32, .f .f32]⟩
def R_iHeadAt : List XShp := [(.ret, ⟨[.tup [.h, .h]], [], [.f .f32, .b]⟩)]

theorem iHeadAt_e (x : DR A_iHeadAt.hs) : (evFn (envT Try.prog C56 mtab0) noLoops Try.f66 (A_iHeadAt.enc x).1).to (fun q => decX R_iHeadAt .ret [q.1] q.2) = iHeadAt_t x.1 x.2.1 x.2.2.1 x.2.2.2.1 x.2.2.2.2.1 x.2.2.2.2.2 := by kernel_rfl

theorem iHeadAt_m (x : DR A_iHeadAt.hs) : meanF (envT Try.prog C56 mtab0) noLoops Try.f66 A_iHeadAt R_iHeadAt x = (show Option (SumD (R_iHeadAt.map (·.2))) from iHeadAt x.1 x.2.1 x.2.2.1 x.2.2.2.1 x.2.2.2.2.1 x.2.2.2.2.2) := meanF_of (iHeadAt_e x)

theorem iHeadAt_ok : SpecOk Try.prog 66 (evFn (envT Try.prog C56 mtab0) noLoops Try.f66) := fnL_ok (envT_ok (C56_ok) (mtab0_ok _)) mixedO Try.func66 (by kernel_rfl) (c := bodyOf Try.f66) (by kernel_rfl) (loopFree_ok (by kernel_rfl))

theorem iHeadAt_told : SpecOk Try.prog 66 (toldO A_iHeadAt R_iHeadAt (fun x => iHeadAt x.1 x.2.1 x.2.2.1 x.2.2.2.1 x.2.2.2.2.1 x.2.2.2.2.2) (C56 66)) := toldO_ok (by kernel_rfl) iHeadAt_ok (rest_ok (C56_ok) _) iHeadAt_m

noncomputable def C57 : Tab := tab 66 (toldO A_iHeadAt R_iHeadAt (fun x => iHeadAt x.1 x.2.1 x.2.2.1 x.2.2.2.1 x.2.2.2.2.1 x.2.2.2.2.2) (C56 66)) C56
theorem C57_ok : TabOk Try.prog C57 := tab_ok (iHeadAt_told) (C56_ok)

def A_iother_1_iHeadAt : Shp := ⟨[.h, .dpt [.fn 66 []] 0, .dpt [.h, .h, .h, .h] 0, .dpt [.h] 0, .dpt [.h] 0], [], [.f .f32, .f .f32, .f .f32, .f .f32, .f .f32, .f .f32, .f .f32]⟩
def R_iother_1_iHeadAt : List XShp := [(.ret, ⟨[.tup [.h, .h]], [], [.b, .b]⟩)]

theorem iother_1_iHeadAt_e (x : DR A_iother_1_iHeadAt.hs) : (evFn (envT Try.prog C57 mtab0) noLoops Try.f98 (A_iother_1_iHeadAt.enc x).1).to (fun q => decX R_iother_1_iHeadAt .ret [q.1] q.2) = iother_1_iHeadAt_t x.1 x.2.1 x.2.2.1 x.2.2.2.1 x.2.2.2.2.1 x.2.2.2.2.2.1 x.2.2.2.2.2.2 := by kernel_rfl

theorem iother_1_iHeadAt_m (x : DR A_iother_1_iHeadAt.hs) : meanF (envT Try.prog C57 mtab0) noLoops Try.f98 A_iother_1_iHeadAt R_iother_1_iHeadAt x = (show Option (SumD (R_iother_1_iHeadAt.map (·.2))) from iother_1_iHeadAt x.1 x.2.1 x.2.2.1 x.2.2.2.1 x.2.2.2.2.1 x.2.2.2.2.2.1 x.2.2.2.2.2.2) := meanF_of (iother_1_iHeadAt_e x)

theorem iother_1_iHeadAt_ok : SpecOk Try.prog 98 (evFn (envT Try.prog C57 mtab0) noLoops Try.f98) := fnL_ok (envT_ok (C57_ok) (mtab0_ok _)) mixedO Try.func98 (by kernel_rfl) (c := bodyOf Try.f98) (by kernel_rfl) (loopFree_ok (by kernel_rfl))

theorem iother_1_iHeadAt_told : SpecOk Try.prog 98 (toldO A_iother_1_iHeadAt R_iother_1_iHeadAt (fun x => iother_1_iHeadAt x.1 x.2.1 x.2.2.1 x.2.2.2.1 x.2.2.2.2.1 x.2.2.2.2.2.1 x.2.2.2.2.2.2) (C57 98)) := toldO_ok (by kernel_rfl) iother_1_iHeadAt_ok (rest_ok (C57_ok) _) iother_1_iHeadAt_m

noncomputable def C58 : Tab := tab 98 (toldO A_iother_1_iHeadAt R_iother_1_iHeadAt (fun x => iother_1_iHeadAt x.1 x.2.1 x.2.2.1 x.2.2.2.1 x.2.2.2.2.1 x.2.2.2.2.2.1 x.2.2.2.2.2.2) (C57 98)) C57
theorem C58_ok : TabOk Try.prog C58 := tab_ok (iother_1_iHeadAt_told) (C57_ok)

def S_ihalve_iother_1_iHeadAt_l2 : Shp := ⟨[.h, .h, .fn 98 [.dpt [.fn 66 []] 0, .dpt [.h, .h, .h, .h] 0, .dpt [.h] 0, .dpt [.h] 0], .undef, .undef, .undef, .h], [], [.f .f32, .f .f32, .f .f32, .f .f32, .f .f32, .f .f32, .f .f32, .f .f32, .i .i64]⟩
def X_ihalve_iother_1_iHeadAt_l2 : List XShp := [(.ret, ⟨[.undef, .undef, .undef, .h, .h, .lb false, .undef], [], [.f .f32, .f .f32]⟩), (.exit 0, ⟨[.h, .h, .undef, .undef, .undef, .undef, .undef], [], [.f .f32, .f .f32]⟩)]

noncomputable def L_ihalve_iother_1_iHeadAt_l2 : Loops := (⟨32, lvT [(2, [0, 1, 2, 6, 7, 8, 12])], mdT [(2, .normal, [], [6, 7, 8]), (2, .exit 0, [], [2, 6, 7, 8, 12]), (2, .ret, [], [0, 1, 2, 12])], fun k vs bs => .bad⟩ : Loops)

theorem ihalve_iother_1_iHeadAt_l2_e (y2 : Nat) (y3 : Nat) (y4 : Nat) (y5 : Nat) (y6 : Nat) (y7 : Nat) (s : Nat × Nat × Int) : (loopStep (envT Try.prog C58 mtab0) L_ihalve_iother_1_iHeadAt_l2 2 (loopC (bodyOf Try.f79) 2) (S_ihalve_iother_1_iHeadAt_l2.enc (s.1, s.2.1, y2, y3, y4, y5, y6, y7, s.2.2)).1 (S_ihalve_iother_1_iHeadAt_l2.enc (s.1, s.2.1, y2, y3, y4, y5, y6, y7, s.2.2)).2).to (stepD S_ihalve_iother_1_iHeadAt_l2 X_ihalve_iother_1_iHeadAt_l2) = (ihalve_iother_1_iHeadAt_l2_t y2 y3 y4 y5 y6 y7 s.1 s.2.1 s.2.2).map (Sum.map (fun s : Nat × Nat × Int => (show DR S_ihalve_iother_1_iHeadAt_l2.hs from (s.1, s.2.1, y2, y3, y4, y5, y6, y7, s.2.2))) id) := by kernel_rfl

theorem ihalve_iother_1_iHeadAt_l2_r (x : DR S_ihalve_iother_1_iHeadAt_l2.hs) : (ihalve_iother_1_iHeadAt_l2 x.1 x.2.1 x.2.2.1 x.2.2.2.1 x.2.2.2.2.1 x.2.2.2.2.2.1 x.2.2.2.2.2.2.1 x.2.2.2.2.2.2.2.1 x.2.2.2.2.2.2.2.2 : Option (SumD (X_ihalve_iother_1_iHeadAt_l2.map (·.2)))) = runL (meanS (envT Try.prog C58 mtab0) L_ihalve_iother_1_iHeadAt_l2 2 (loopC (bodyOf Try.f79) 2) S_ihalve_iother_1_iHeadAt_l2 X_ihalve_iother_1_iHeadAt_l2) x := run_of (fun s : Nat × Nat × Int => (show DR S_ihalve_iother_1_iHeadAt_l2.hs from (s.1, s.2.1, x.2.2.1, x.2.2.2.1, x.2.2.2.2.1, x.2.2.2.2.2.1, x.2.2.2.2.2.2.1, x.2.2.2.2.2.2.2.1, s.2.2))) (ihalve_iother_1_iHeadAt_l2_e (x.2.2.1) (x.2.2.2.1) (x.2.2.2.2.1) (x.2.2.2.2.2.1) (x.2.2.2.2.2.2.1) (x.2.2.2.2.2.2.2.1)) (x.1, x.2.1, x.2.2.2.2.2.2.2.2)

theorem ihalve_iother_1_iHeadAt_l2_k (L : Loops) (hn : L_ihalve_iother_1_iHeadAt_l2.n = L.n) (hlv : L_ihalve_iother_1_iHeadAt_l2.lv 2 = L.lv 2) (hL : ∀ vs bs, L.loop 2 vs bs = toldL S_ihalve_iother_1_iHeadAt_l2 X_ihalve_iother_1_iHeadAt_l2 (fun x => ihalve_iother_1_iHeadAt_l2 x.1 x.2.1 x.2.2.1 x.2.2.2.1 x.2.2.2.2.1 x.2.2.2.2.2.1 x.2.2.2.2.2.2.1 x.2.2.2.2.2.2.2.1 x.2.2.2.2.2.2.2.2) vs bs) : LOk Try.prog (envT Try.prog C58 mtab0) L 2 (loopC (bodyOf Try.f79) 2) := toldL_ok (L1 := L_ihalve_iother_1_iHeadAt_l2) (envT_ok (C58_ok) (mtab0_ok _)) mixedO hn hlv (loopFree_ok (by kernel_rfl)) ihalve_iother_1_iHeadAt_l2_r hL

def A_ihalve_iother_1_iHeadAt : Shp := ⟨[.h, .h, .fn 98 [.dpt [.fn 66 []] 0, .dpt [.h, .h, .h, .h] 0, .dpt [.h] 0, .dpt [.h] 0]], [], [.f .f32, .f .f32, .f .f32, .f .f32, .f .f32, .f .f32, .f .f32, .f .f32]⟩
def R_ihalve_iother_1_iHeadAt : List XShp := [(.ret, ⟨[.tup [.h, .h, .h]], [], [.f .f32, .f .f32, .b]⟩)]

noncomputable def L_ihalve_iother_1_iHeadAt : Loops := (⟨32, lvT [(2, [0, 1, 2, 6, 7, 8, 12])], mdT [(2, .normal, [], [6, 7, 8]), (2, .exit 0, [], [2, 6, 7, 8, 12]), (2, .ret, [], [0, 1, 2, 12])], fun k vs bs => bif Nat.beq k 2 then toldL S_ihalve_iother_1_iHeadAt_l2 X_ihalve_iother_1_iHeadAt_l2 (fun x => ihalve_iother_1_iHeadAt_l2 x.1 x.2.1 x.2.2.1 x.2.2.2.1 x.2.2.2.2.1 x.2.2.2.2.2.1 x.2.2.2.2.2.2.1 x.2.2.2.2.2.2.2.1 x.2.2.2.2.2.2.2.2) vs bs else .bad⟩ : Loops)

theorem ihalve_iother_1_iHeadAt_e (x : DR A_ihalve_iother_1_iHeadAt.hs) : (evFn (envT Try.prog C58 mtab0) L_ihalve_iother_1_iHeadAt Try.f79 (A_ihalve_iother_1_iHeadAt.enc x).1).to (fun q => decX R_ihalve_iother_1_iHeadAt .ret [q.1] q.2) = ihalve_iother_1_iHeadAt_t x.1 x.2.1 x.2.2.1 x.2.2.2.1 x.2.2.2.2.1 x.2.2.2.2.2.1 x.2.2.2.2.2.2.1 x.2.2.2.2.2.2.2 := by kernel_rfl

theorem ihalve_iother_1_iHeadAt_m (x : DR A_ihalve_iother_1_iHeadAt.hs) : meanF (envT Try.prog C58 mtab0) L_ihalve_iother_1_iHeadAt Try.f79 A_ihalve_iother_1_iHeadAt R_ihalve_iother_1_iHeadAt x = (show Option (SumD (R_ihalve_iother_1_iHeadAt.map (·.2))) from ihalve_iother_1_iHeadAt x.1 x.2.1 x.2.2.1 x.2.2.2.1 x.2.2.2.2.1 x.2.2.2.2.2.1 x.2.2.2.2.2.2.1 x.2.2.2.2.2.2.2) := meanF_of (ihalve_iother_1_iHeadAt_e x)

theorem ihalve_iother_1_iHeadAt_ok : SpecOk Try.prog 79 (evFn (envT Try.prog C58 mtab0) L_ihalve_iother_1_iHeadAt Try.f79) := fnL_ok (envT_ok (C58_ok) (mtab0_ok _)) mixedO Try.func79 (by kernel_rfl) (c := bodyOf Try.f79) (by kernel_rfl) (loopsL (l := [(2, loopC (bodyOf Try.f79) 2)]) (by kernel_rfl) (lk_cons (ihalve_iother_1_iHeadAt_l2_k _ rfl rfl (fun _ _ => rfl)) lk_nil))

theorem ihalve_iother_1_iHeadAt_told : SpecOk Try.prog 79 (toldO A_ihalve_iother_1_iHeadAt R_ihalve_iother_1_iHeadAt (fun x => ihalve_iother_1_iHeadAt x.1 x.2.1 x.2.2.1 x.2.2.2.1 x.2.2.2.2.1 x.2.2.2.2.2.1 x.2.2.2.2.2.2.1 x.2.2.2.2.2.2.2) (C58 79)) := toldO_ok (by kernel_rfl) ihalve_iother_1_iHeadAt_ok (rest_ok (C58_ok) _) ihalve_iother_1_iHeadAt_m

noncomputable def C59 : Tab := tab 79 (toldO A_ihalve_iother_1_iHeadAt R_ihalve_iother_1_iHeadAt (fun x => ihalve_iother_1_iHeadAt x.1 x.2.1 x.2.2.1 x.2.2.2.1 x.2.2.2.2.1 x.2.2.2.2.2.1 x.2.2.2.2.2.2.1 x.2.2.2.2.2.2.2) (C58 79)) C58
theorem C59_ok : TabOk Try.prog C59 := tab_ok (ihalve_iother_1_iHeadAt_told) (C58_ok)

def A_iother_2_iHeadAt : Shp := ⟨[.h, .dpt [.fn 66 []] 0, .dpt [.h, .h, .h, .h] 0, .dpt [.h] 0, .dpt [.h] 0], [], [.f .f32, .f .f32, .f .f32, .f .f32, .f .f32, .f .f32, .f .f32]⟩
def R_iother_2_iHeadAt : List XShp := [(.ret, ⟨[.tup [.h, .h]], [], [.b, .b]⟩)]

theorem iother_2_iHeadAt_e (x : DR A_iother_2_iHeadAt.hs) : (evFn (envT Try.prog C59 mtab0) noLoops Try.f99 (A_iother_2_iHeadAt.enc x).1).to (fun q => decX R_iother_2_iHeadAt .ret [q.1] q.2) = iother_2_iHeadAt_t x.1 x.2.1 x.2.2.1 x.2.2.2.1 x.2.2.2.2.1 x.2.2.2.2.2.1 x.2.2.2.2.2.2 := by kernel_rfl

theorem iother_2_iHeadAt_m (x : DR A_iother_2_iHeadAt.hs) : meanF (envT Try.prog C59 mtab0) noLoops Try.f99 A_iother_2_iHeadAt R_iother_2_iHeadAt x = (show Option (SumD (R_iother_2_iHeadAt.map (·.2))) from iother_2_iHeadAt x.1 x.2.1 x.2.2.1 x.2.2.2.1 x.2.2.2.2.1 x.2.2.2.2.2.1 x.2.2.2.2.2.2) := meanF_of (iother_2_iHeadAt_e x)

theorem iother_2_iHeadAt_ok : SpecOk Try.prog 99 (evFn (envT Try.prog C59 mtab0) noLoops Try.f99) := fnL_ok (envT_ok (C59_ok) (mtab0_ok _)) mixedO Try.func99 (by kernel_rfl) (c := bodyOf Try.f99) (by kernel_rfl) (loopFree_ok (by kernel_rfl))

theorem iother_2_iHeadAt_told : SpecOk Try.prog 99 (toldO A_iother_2_iHeadAt R_iother_2_iHeadAt (fun x => iother_2_iHeadAt x.1 x.2.1 x.2.2.1 x.2.2.2.1 x.2.2.2.2.1 x.2.2.2.2.2.1 x.2.2.2.2.2.2) (C59 99)) := toldO_ok (by kernel_rfl) iother_2_iHeadAt_ok (rest_ok (C59_ok) _) iother_2_iHeadAt_m

noncomputable def C60 : Tab := tab 99 (toldO A_iother_2_iHeadAt R_iother_2_iHeadAt (fun x => iother_2_iHeadAt x.1 x.2.1 x.2.2.1 x.2.2.2.1 x.2.2.2.2.1 x.2.2.2.2.2.1 x.2.2.2.2.2.2) (C59 99)) C59
theorem C60_ok : TabOk Try.prog C60 := tab_ok (iother_2_iHeadAt_told) (C59_ok)

def S_ihalve_iother_2_iHeadAt_l2 : Shp := ⟨[.h, .h, .fn 99 [.dpt [.fn 66 []] 0, .dpt [.h, .h, .h, .h] 0, .dpt [.h] 0, .dpt [.h] 0], .undef, .undef, .undef, .h], [], [.f .f32, .f .f32, .f .f32, .f .f32, .f .f32, .f .f32, .f .f32, .f .f32, .i .i64]⟩
def X_ihalve_iother_2_iHeadAt_l2 : List XShp := [(.ret, ⟨[.undef, .undef, .undef, .h, .h, .lb false, .undef], [], [.f .f32, .f .f32]⟩), (.exit 0, ⟨[.h, .h, .undef, .undef, .undef, .undef, .undef], [], [.f .f32, .f .f32]⟩)]

noncomputable def L_ihalve_iother_2_iHeadAt_l2 : Loops := (⟨32, lvT [(2, [0, 1, 2, 6, 7, 8, 12])], mdT [(2, .normal, [], [6, 7, 8]), (2, .exit 0, [], [2, 6, 7, 8, 12]), (2, .ret, [], [0, 1, 2, 12])], fun k vs bs => .bad⟩ : Loops)

theorem ihalve_iother_2_iHeadAt_l2_e (y2 : Nat) (y3 : Nat) (y4 : Nat) (y5 : Nat) (y6 : Nat) (y7 : Nat) (s : Nat × Nat × Int) : (loopStep (envT Try.prog C60 mtab0) L_ihalve_iother_2_iHeadAt_l2 2 (loopC (bodyOf Try.f79) 2) (S_ihalve_iother_2_iHeadAt_l2.enc (s.1, s.2.1, y2, y3, y4, y5, y6, y7, s.2.2)).1 (S_ihalve_iother_2_iHeadAt_l2.enc (s.1, s.2.1, y2, y3, y4, y5, y6, y7, s.2.2)).2).to (stepD S_ihalve_iother_2_iHeadAt_l2 X_ihalve_iother_2_iHeadAt_l2) = (ihalve_iother_2_iHeadAt_l2_t y2 y3 y4 y5 y6 y7 s.1 s.2.1 s.2.2).map (Sum.map (fun s : Nat × Nat × Int => (show DR S_ihalve_iother_2_iHeadAt_l2.hs from (s.1, s.2.1, y2, y3, y4, y5, y6, y7, s.2.2))) id) := by kernel_rfl

theorem ihalve_iother_2_iHeadAt_l2_r (x : DR S_ihalve_iother_2_iHeadAt_l2.hs) : (ihalve_iother_2_iHeadAt_l2 x.1 x.2.1 x.2.2.1 x.2.2.2.1 x.2.2.2.2.1 x.2.2.2.2.2.1 x.2.2.2.2.2.2.1 x.2.2.2.2.2.2.2.1 x.2.2.2.2.2.2.2.2 : Option (SumD (X_ihalve_iother_2_iHeadAt_l2.map (·.2)))) = runL (meanS (envT Try.prog C60 mtab0) L_ihalve_iother_2_iHeadAt_l2 2 (loopC (bodyOf Try.f79) 2) S_ihalve_iother_2_iHeadAt_l2 X_ihalve_iother_2_iHeadAt_l2) x := run_of (fun s : Nat × Nat × Int => (show DR S_ihalve_iother_2_iHeadAt_l2.hs from (s.1, s.2.1, x.2.2.1, x.2.2.2.1, x.2.2.2.2.1, x.2.2.2.2.2.1, x.2.2.2.2.2.2.1, x.2.2.2.2.2.2.2.1, s.2.2))) (ihalve_iother_2_iHeadAt_l2_e (x.2.2.1) (x.2.2.2.1) (x.2.2.2.2.1) (x.2.2.2.2.2.1) (x.2.2.2.2.2.2.1) (x.2.2.2.2.2.2.2.1)) (x.1, x.2.1, x.2.2.2.2.2.2.2.2)

theorem ihalve_iother_2_iHeadAt_l2_k (L : Loops) (hn : L_ihalve_iother_2_iHeadAt_l2.n = L.n) (hlv : L_ihalve_iother_2_iHeadAt_l2.lv 2 = L.lv 2) (hL : ∀ vs bs, L.loop 2 vs bs = toldL S_ihalve_iother_2_iHeadAt_l2 X_ihalve_iother_2_iHeadAt_l2 (fun x => ihalve_iother_2_iHeadAt_l2 x.1 x.2.1 x.2.2.1 x.2.2.2.1 x.2.2.2.2.1 x.2.2.2.2.2.1 x.2.2.2.2.2.2.1 x.2.2.2.2.2.2.2.1 x.2.2.2.2.2.2.2.2) vs bs) : LOk Try.prog (envT Try.prog C60 mtab0) L 2 (loopC (bodyOf Try.f79) 2) := toldL_ok (L1 := L_ihalve_iother_2_iHeadAt_l2) (envT_ok (C60_ok) (mtab0_ok _)) mixedO hn hlv (loopFree_ok (by kernel_rfl)) ihalve_iother_2_iHeadAt_l2_r hL

def A_ihalve_iother_2_iHeadAt : Shp := ⟨[.h, .h, .fn 99 [.dpt [.fn 66 []] 0, .dpt [.h, .h, .h, .h] 0, .dpt [.h] 0, .dpt [.h] 0]], [], [.f .f32, .f .f32, .f .f32, .f .f32, .f .f32, .f .f32, .f .f32, .f .f32]⟩
def R_ihalve_iother_2_iHeadAt : List XShp := [(.ret, ⟨[.tup [.h, .h, .h]], [], [.f .f32, .f .f32, .b]⟩)]

noncomputable def L_ihalve_iother_2_iHeadAt : Loops := (⟨32, lvT [(2, [0, 1, 2, 6, 7, 8, 12])], mdT [(2, .normal, [], [6, 7, 8]), (2, .exit 0, [], [2, 6, 7, 8, 12]), (2, .ret, [], [0, 1, 2, 12])], fun k vs bs => bif Nat.beq k 2 then toldL S_ihalve_iother_2_iHeadAt_l2 X_ihalve_iother_2_iHeadAt_l2 (fun x => ihalve_iother_2_iHeadAt_l2 x.1 x.2.1 x.2.2.1 x.2.2.2.1 x.2.2.2.2.1 x.2.2.2.2.2.1 x.2.2.2.2.2.2.1 x.2.2.2.2.2.2.2.1 x.2.2.2.2.2.2.2.2) vs bs else .bad⟩ : Loops)

theorem ihalve_iother_2_iHeadAt_e (x : DR A_ihalve_iother_2_iHeadAt.hs) : (evFn (envT Try.prog C60 mtab0) L_ihalve_iother_2_iHeadAt Try.f79 (A_ihalve_iother_2_iHeadAt.enc x).1).to (fun q => decX R_ihalve_iother_2_iHeadAt .ret [q.1] q.2) = ihalve_iother_2_iHeadAt_t x.1 x.2.1 x.2.2.1 x.2.2.2.1 x.2.2.2.2.1 x.2.2.2.2.2.1 x.2.2.2.2.2.2.1 x.2.2.2.2.2.2.2 := by kernel_rfl

theorem ihalve_iother_2_iHeadAt_m (x : DR A_ihalve_iother_2_iHeadAt.hs) : meanF (envT Try.prog C60 mtab0) L_ihalve_iother_2_iHeadAt Try.f79 A_ihalve_iother_2_iHeadAt R_ihalve_iother_2_iHeadAt x = (show Option (SumD (R_ihalve_iother_2_iHeadAt.map (·.2))) from ihalve_iother_2_iHeadAt x.1 x.2.1 x.2.2.1 x.2.2.2.1 x.2.2.2.2.1 x.2.2.2.2.2.1 x.2.2.2.2.2.2.1 x.2.2.2.2.2.2.2) := meanF_of (ihalve_iother_2_iHeadAt_e x)

theorem ihalve_iother_2_iHeadAt_ok : SpecOk Try.prog 79 (evFn (envT Try.prog C60 mtab0) L_ihalve_iother_2_iHeadAt Try.f79) := fnL_ok (envT_ok (C60_ok) (mtab0_ok _)) mixedO Try.func79 (by kernel_rfl) (c := bodyOf Try.f79) (by kernel_rfl) (loopsL (l := [(2, loopC (bodyOf Try.f79) 2)]) (by kernel_rfl) (lk_cons (ihalve_iother_2_iHeadAt_l2_k _ rfl rfl (fun _ _ => rfl)) lk_nil))

theorem ihalve_iother_2_iHeadAt_told : SpecOk Try.prog 79 (toldO A_ihalve_iother_2_iHeadAt R_ihalve_iother_2_iHeadAt (fun x => ihalve_iother_2_iHeadAt x.1 x.2.1 x.2.2.1 x.2.2.2.1 x.2.2.2.2.1 x.2.2.2.2.2.1 x.2.2.2.2.2.2.1 x.2.2.2.2.2.2.2) (C60 79)) := toldO_ok (by kernel_rfl) ihalve_iother_2_iHeadAt_ok (rest_ok (C60_ok) _) ihalve_iother_2_iHeadAt_m

noncomputable def C61 : Tab := tab 79 (toldO A_ihalve_iother_2_iHeadAt R_ihalve_iother_2_iHeadAt (fun x => ihalve_iother_2_iHeadAt x.1 x.2.1 x.2.2.1 x.2.2.2.1 x.2.2.2.2.1 x.2.2.2.2.2.1 x.2.2.2.2.2.2.1 x.2.2.2.2.2.2.2) (C60 79)) C60
theorem C61_ok : TabOk Try.prog C61 := tab_ok (ihalve_iother_2_iHeadAt_told) (C60_ok)

def A_iother_iHeadAt : Shp := ⟨[.agg [.h, .h, .h, .h], .h, .h, .fn 66 []], [], [.f .f32, .f .f32, .f .f32, .f .f32, .f .f32, .f .f32]⟩
def R_iother_iHeadAt : List XShp := [(.ret, ⟨[.tup [.h, .h]], [], [.f .f32, .b]⟩)]

theorem iother_iHeadAt_e (x : DR A_iother_iHeadAt.hs) : (evFn (envT Try.prog C61 mtab0) noLoops Try.f65 (A_iother_iHeadAt.enc x).1).to (fun q => decX R_iother_iHeadAt .ret [q.1] q.2) = iother_iHeadAt_t x.1 x.2.1 x.2.2.1 x.2.2.2.1 x.2.2.2.2.1 x.2.2.2.2.2 := by kernel_rfl

theorem iother_iHeadAt_m (x : DR A_iother_iHeadAt.hs) : meanF (envT Try.prog C61 mtab0) noLoops Try.f65 A_iother_iHeadAt R_iother_iHeadAt x = (show Option (SumD (R_iother_iHeadAt.map (·.2))) from iother_iHeadAt x.1 x.2.1 x.2.2.1 x.2.2.2.1 x.2.2.2.2.1 x.2.2.2.2.2) := meanF_of (iother_iHeadAt_e x)

theorem iother_iHeadAt_ok : SpecOk Try.prog 65 (evFn (envT Try.prog C61 mtab0) noLoops Try.f65) := fnL_ok (envT_ok (C61_ok) (mtab0_ok _)) mixedO Try.func65 (by kernel_rfl) (c := bodyOf Try.f65) (by kernel_rfl) (loopFree_ok (by kernel_rfl))

theorem iother_iHeadAt_told : SpecOk Try.prog 65 (toldO A_iother_iHeadAt R_iother_iHeadAt (fun x => iother_iHeadAt x.1 x.2.1 x.2.2.1 x.2.2.2.1 x.2.2.2.2.1 x.2.2.2.2.2) (C61 65)) := toldO_ok (by kernel_rfl) iother_iHeadAt_ok (rest_ok (C61_ok) _) iother_iHeadAt_m

noncomputable def C62 : Tab := tab 65 (toldO A_iother_iHeadAt R_iother_iHeadAt (fun x => iother_iHeadAt x.1 x.2.1 x.2.2.1 x.2.2.2.1 x.2.2.2.2.1 x.2.2.2.2.2) (C61 65)) C61
theorem C62_ok : TabOk Try.prog C62 := tab_ok (iother_iHeadAt_told) (C61_ok)

def A_iOtherDepth : Shp := ⟨[.agg [.h, .h, .h, .h], .h, .h], [], [.f .f32, .f .f32, .f .f32, .f .f32, .f .f32, .f .f32]⟩
def R_iOtherDepth : List XShp := [(.ret, ⟨[.tup [.h, .h]], [], [.f .f32, .b]⟩)]

theorem iOtherDepth_e (x : DR A_iOtherDepth.hs) : (evFn (envT Try.prog C62 mtab0) noLoops Try.f24 (A_iOtherDepth.enc x).1).to (fun q => decX R_iOtherDepth .ret [q.1] q.2) = iOtherDepth_t x.1 x.2.1 x.2.2.1 x.2.2.2.1 x.2.2.2.2.1 x.2.2.2.2.2 := by kernel_rfl

theorem iOtherDepth_m (x : DR A_iOtherDepth.hs) : meanF (envT Try.prog C62 mtab0) noLoops Try.f24 A_iOtherDepth R_iOtherDepth x = (show Option (SumD (R_iOtherDepth.map (·.2))) from iOtherDepth x.1 x.2.1 x.2.2.1 x.2.2.2.1 x.2.2.2.2.1 x.2.2.2.2.2) := meanF_of (iOtherDepth_e x)

theorem iOtherDepth_ok : SpecOk Try.prog 24 (evFn (envT Try.prog C62 mtab0) noLoops Try.f24) := fnL_ok (envT_ok (C62_ok) (mtab0_ok _)) mixedO Try.func24 (by kernel_rfl) (c := bodyOf Try.f24) (by kernel_rfl) (loopFree_ok (by kernel_rfl))

theorem iOtherDepth_told : SpecOk Try.prog 24 (toldO A_iOtherDepth R_iOtherDepth (fun x => iOtherDepth x.1 x.2.1 x.2.2.1 x.2.2.2.1 x.2.2.2.2.1 x.2.2.2.2.2) (C62 24)) := toldO_ok (by kernel_rfl) iOtherDepth_ok (rest_ok (C62_ok) _) iOtherDepth_m

noncomputable def C63 : Tab := tab 24 (toldO A_iOtherDepth R_iOtherDepth (fun x => iOtherDepth x.1 x.2.1 x.2.2.1 x.2.2.2.1 x.2.2.2.2.1 x.2.2.2.2.2) (C62 24)) C62
theorem C63_ok : TabOk Try.prog C63 := tab_ok (iOtherDepth_told) (C62_ok)

def A_wFnExactOtherDepth : Shp := ⟨[.agg [.h, .h, .h, .h], .h, .h], [], [.f .f32, .f .f32, .f .f32, .f .f32, .f .f32, .f .f32]⟩
def R_wFnExactOtherDepth : List XShp := [(.ret, ⟨[.h], [], [.b]⟩)]

theorem wFnExactOtherDepth_e (x : DR A_wFnExactOtherDepth.hs) : (evFn (envT Try.prog C63 mtab0) noLoops Try.f6 (A_wFnExactOtherDepth.enc x).1).to (fun q => decX R_wFnExactOtherDepth .ret [q.1] q.2) = wFnExactOtherDepth_t x.1 x.2.1 x.2.2.1 x.2.2.2.1 x.2.2.2.2.1 x.2.2.2.2.2 := by kernel_rfl

theorem wFnExactOtherDepth_m (x : DR A_wFnExactOtherDepth.hs) : meanF (envT Try.prog C63 mtab0) noLoops Try.f6 A_wFnExactOtherDepth R_wFnExactOtherDepth x = (show Option (SumD (R_wFnExactOtherDepth.map (·.2))) from wFnExactOtherDepth x.1 x.2.1 x.2.2.1 x.2.2.2.1 x.2.2.2.2.1 x.2.2.2.2.2) := meanF_of (wFnExactOtherDepth_e x)

theorem wFnExactOtherDepth_ok : SpecOk Try.prog 6 (evFn (envT Try.prog C63 mtab0) noLoops Try.f6) := fnL_ok (envT_ok (C63_ok) (mtab0_ok _)) mixedO Try.func6 (by kernel_rfl) (c := bodyOf Try.f6) (by kernel_rfl) (loopFree_ok (by kernel_rfl))

theorem wFnExactOtherDepth_told : SpecOk Try.prog 6 (toldO A_wFnExactOtherDepth R_wFnExactOtherDepth (fun x => wFnExactOtherDepth x.1 x.2.1 x.2.2.1 x.2.2.2.1 x.2.2.2.2.1 x.2.2.2.2.2) (C63 6)) := toldO_ok (by kernel_rfl) wFnExactOtherDepth_ok (rest_ok (C63_ok) _) wFnExactOtherDepth_m

noncomputable def C64 : Tab := tab 6 (toldO A_wFnExactOtherDepth R_wFnExactOtherDepth (fun x => wFnExactOtherDepth x.1 x.2.1 x.2.2.1 x.2.2.2.1 x.2.2.2.2.1 x.2.2.2.2.2) (C63 6)) C63
theorem C64_ok : TabOk Try.prog C64 := tab_ok (wFnExactOtherDepth_told) (C63_ok)

theorem lawFnExactOtherDepth_ok : SpecOk Try.prog 6 (evFn (envT Try.prog C63 mtab0) noLoops Try.f6) := wFnExactOtherDepth_ok
theorem lawFnExactOtherDepth_says (x : DR A_wFnExactOtherDepth.hs) (h : (show Option (SumD (R_wFnExactOtherDepth.map (·.2))) from wFnExactOtherDepth x.1 x.2.1 x.2.2.1 x.2.2.2.1 x.2.2.2.2.1 x.2.2.2.2.2) = some true) : saysTrue (evFn (envT Try.prog C63 mtab0) noLoops Try.f6 (A_wFnExactOtherDepth.enc x).1) = true := law_says (x := x) ((wFnExactOtherDepth_m x).trans h)

theorem lawFnExactOtherDepth_true (x0 : Nat) (x1 : Nat) (x2 : Nat) (x3 : Nat) (x4 : Nat) (x5 : Nat) (h : wFnExactOtherDepth x0 x1 x2 x3 x4 x5 = some true) : saysTrue (evFn (envT Try.prog C63 mtab0) noLoops Try.f6 [.agg [.f .f32 x0, .f .f32 x1, .f .f32 x2, .f .f32 x3], .f .f32 x4, .f .f32 x5]) = true := (congrArg (fun l => saysTrue (evFn (envT Try.prog C63 mtab0) noLoops Try.f6 l)) (by kernel_rfl : ([.agg [.f .f32 x0, .f .f32 x1, .f .f32 x2, .f .f32 x3], .f .f32 x4, .f .f32 x5] : List V) = (A_wFnExactOtherDepth.enc (x0, x1, x2, x3, x4, x5)).1)).trans (lawFnExactOtherDepth_says (x0, x1, x2, x3, x4, x5) h)

def A_sJumpDepth : Shp := ⟨[.agg [.h, .h, .h, .h], .h, .h], [], [.f .f32, .f .f32, .f .f32, .f .f32, .f .f32, .f .f32]⟩
def R_sJumpDepth : List XShp := [(.ret, ⟨[.tup [.h, .h]], [], [.f .f32, .b]⟩)]

theorem sJumpDepth_e (x : DR A_sJumpDepth.hs) : (evFn (envT Try.prog C64 mtab0) noLoops Try.f25 (A_sJumpDepth.enc x).1).to (fun q => decX R_sJumpDepth .ret [q.1] q.2) = sJumpDepth_t x.1 x.2.1 x.2.2.1 x.2.2.2.1 x.2.2.2.2.1 x.2.2.2.2.2 := by kernel_rfl

theorem sJumpDepth_m (x : DR A_sJumpDepth.hs) : meanF (envT Try.prog C64 mtab0) noLoops Try.f25 A_sJumpDepth R_sJumpDepth x = (show Option (SumD (R_sJumpDepth.map (·.2))) from sJumpDepth x.1 x.2.1 x.2.2.1 x.2.2.2.1 x.2.2.2.2.1 x.2.2.2.2.2) := meanF_of (sJumpDepth_e x)

theorem sJumpDepth_ok : SpecOk Try.prog 25 (evFn (envT Try.prog C64 mtab0) noLoops Try.f25) := fnL_ok (envT_ok (C64_ok) (mtab0_ok _)) mixedO Try.func25 (by kernel_rfl) (c := bodyOf Try.f25) (by kernel_rfl) (loopFree_ok (by kernel_rfl))

theorem sJumpDepth_told : SpecOk Try.prog 25 (toldO A_sJumpDepth R_sJumpDepth (fun x => sJumpDepth x.1 x.2.1 x.2.2.1 x.2.2.2.1 x.2.2.2.2.1 x.2.2.2.2.2) (C64 25)) := toldO_ok (by kernel_rfl) sJumpDepth_ok (rest_ok (C64_ok) _) sJumpDepth_m

noncomputable def C65 : Tab := tab 25 (toldO A_sJumpDepth R_sJumpDepth (fun x => sJumpDepth x.1 x.2.1 x.2.2.1 x.2.2.2.1 x.2.2.2.2.1 x.2.2.2.2.2) (C64 25)) C64
theorem C65_ok : TabOk Try.prog C65 := tab_ok (sJumpDepth_told) (C64_ok)

def A_iPushAt : Shp := ⟨[.agg [.h, .h, .h, .h], .h, .h], [], [.f .f32, .f .f32, .f .f32, .f .f32, .f .f32, .f .f32]⟩
def R_iPushAt : List XShp := [(.ret, ⟨[.tup [.h, .h]], [], [.f .f32, .b]⟩)]

theorem iPushAt_e (x : DR A_iPushAt.hs) : (evFn (envT Try.prog C65 mtab0) noLoops Try.f67 (A_iPushAt.enc x).1).to (fun q => decX R_iPushAt .ret [q.1] q.2) = iPushAt_t x.1 x.2.1 x.2.2.1 x.2.2.2.1 x.2.2.2.2.1 x.2.2.2.2.2 := by kernel_rfl

theorem iPushAt_m (x : DR A_iPushAt.hs) : meanF (envT Try.prog C65 mtab0) noLoops Try.f67 A_iPushAt R_iPushAt x = (show Option (SumD (R_iPushAt.map (·.2))) from iPushAt x.1 x.2.1 x.2.2.1 x.2.2.2.1 x.2.2.2.2.1 x.2.2.2.2.2) := meanF_of (iPushAt_e x)

theorem iPushAt_ok : SpecOk Try.prog 67 (evFn (envT Try.prog C65 mtab0) noLoops Try.f67) := fnL_ok (envT_ok (C65_ok) (mtab0_ok _)) mixedO Try.func67 (by kernel_rfl) (c := bodyOf Try.f67) (by kernel_rfl) (loopFree_ok (by kernel_rfl))

theorem iPushAt_told : SpecOk Try.prog 67 (toldO A_iPushAt R_iPushAt (fun x => iPushAt x.1 x.2.1 x.2.2.1 x.2.2.2.1 x.2.2.2.2.1 x.2.2.2.2.2) (C65 67)) := toldO_ok (by kernel_rfl) iPushAt_ok (rest_ok (C65_ok) _) iPushAt_m

noncomputable def C66 : Tab := tab 67 (toldO A_iPushAt R_iPushAt (fun x => iPushAt x.1 x.2.1 x.2.2.1 x.2.2.2.1 x.2.2.2.2.1 x.2.2.2.2.2) (C65 67)) C65
theorem C66_ok : TabOk Try.prog C66 := tab_ok (iPushAt_told) (C65_ok)

def A_iother_1_iPushAt : Shp := ⟨[.h, .dpt [.fn 67 []] 0, .dpt [.h, .h, .h, .h] 0, .dpt [.h] 0, .dpt [.h] 0], [], [.f .f32, .f .f32, .f .f32, .f .f32, .f .f32, .f .f32, .f .f32]⟩
def R_iother_1_iPushAt : List XShp := [(.ret, ⟨[.tup [.h, .h]], [], [.b, .b]⟩)]

theorem iother_1_iPushAt_e (x : DR A_iother_1_iPushAt.hs) : (evFn (envT Try.prog C66 mtab0) noLoops Try.f98 (A_iother_1_iPushAt.enc x).1).to (fun q => decX R_iother_1_iPushAt .ret [q.1] q.2) = iother_1_iPushAt_t x.1 x.2.1 x.2.2.1 x.2.2.2.1 x.2.2.2.2.1 x.2.2.2.2.2.1 x.2.2.2.2.2.2 := by kernel_rfl

theorem iother_1_iPushAt_m (x : DR A_iother_1_iPushAt.hs) : meanF (envT Try.prog C66 mtab0) noLoops Try.f98 A_iother_1_iPushAt R_iother_1_iPushAt x = (show Option (SumD (R_iother_1_iPushAt.map (·.2))) from iother_1_iPushAt x.1 x.2.1 x.2.2.1 x.2.2.2.1 x.2.2.2.2.1 x.2.2.2.2.2.1 x.2.2.2.2.2.2) := meanF_of (iother_1_iPushAt_e x)

theorem iother_1_iPushAt_ok : SpecOk Try.prog 98 (evFn (envT Try.prog C66 mtab0) noLoops Try.f98) := fnL_ok (envT_ok (C66_ok) (mtab0_ok _)) mixedO Try.func98 (by kernel_rfl) (c := bodyOf Try.f98) (by kernel_rfl) (loopFree_ok (by kernel_rfl))

theorem iother_1_iPushAt_told : SpecOk Try.prog 98 (toldO A_iother_1_iPushAt R_iother_1_iPushAt (fun x => iother_1_iPushAt x.1 x.2.1 x.2.2.1 x.2.2.2.1 x.2.2.2.2.1 x.2.2.2.2.2.1 x.2.2.2.2.2.2) (C66 98)) := toldO_ok (by kernel_rfl) iother_1_iPushAt_ok (rest_ok (C66_ok) _) iother_1_iPushAt_m

noncomputable def C67 : Tab := tab 98 (toldO A_iother_1_iPushAt R_iother_1_iPushAt (fun x => iother_1_iPushAt x.1 x.2.1 x.2.2.1 x.2.2.2.1 x.2.2.2.2.1 x.2.2.2.2.2.1 x.2.2.2.2.2.2) (C66 98)) C66
theorem C67_ok : TabOk Try.prog C67 := tab_ok (iother_1_iPushAt_told) (C66_ok)

def S_ihalve_iother_1_iPushAt_l2 : Shp := ⟨[.h, .h, .fn 98 [.dpt [.fn 67 []] 0, .dpt [.h, .h, .h, .h] 0, .dpt [.h] 0, .dpt [.h] 0], .undef, .undef, .undef, .h], [], [.f .f32, .f .f32, .f .f32, .f .f32, .f .f32, .f .f32, .f .f32, .f .f32, .i .i64]⟩
def X_ihalve_iother_1_iPushAt_l2 : List XShp := [(.ret, ⟨[.undef, .undef, .undef, .h, .h, .lb false, .undef], [], [.f .f32, .f .f32]⟩), (.exit 0, ⟨[.h, .h, .undef, .undef, .undef, .undef, .undef], [], [.f .f32, .f .f32]⟩)]

noncomputable def L_ihalve_iother_1_iPushAt_l2 : Loops := (⟨32, lvT [(2, [0, 1, 2, 6, 7, 8, 12])], mdT [(2, .normal, [], [6, 7, 8]), (2, .exit 0, [], [2, 6, 7, 8, 12]), (2, .ret, [], [0, 1, 2, 12])], fun k vs bs => .bad⟩ : Loops)

theorem ihalve_iother_1_iPushAt_l2_e (y2 : Nat) (y3 : Nat) (y4 : Nat) (y5 : Nat) (y6 : Nat) (y7 : Nat) (s : Nat × Nat × Int) : (loopStep (envT Try.prog C67 mtab0) L_ihalve_iother_1_iPushAt_l2 2 (loopC (bodyOf Try.f79) 2) (S_ihalve_iother_1_iPushAt_l2.enc (s.1, s.2.1, y2, y3, y4, y5, y6, y7, s.2.2)).1 (S_ihalve_iother_1_iPushAt_l2.enc (s.1, s.2.1, y2, y3, y4, y5, y6, y7, s.2.2)).2).to (stepD S_ihalve_iother_1_iPushAt_l2 X_ihalve_iother_1_iPushAt_l2) = (ihalve_iother_1_iPushAt_l2_t y2 y3 y4 y5 y6 y7 s.1 s.2.1 s.2.2).map (Sum.map (fun s : Nat × Nat × Int => (show DR S_ihalve_iother_1_iPushAt_l2.hs from (s.1, s.2.1, y2, y3, y4, y5, y6, y7, s.2.2))) id) := by kernel_rfl

theorem ihalve_iother_1_iPushAt_l2_r (x : DR S_ihalve_iother_1_iPushAt_l2.hs) : (ihalve_iother_1_iPushAt_l2 x.1 x.2.1 x.2.2.1 x.2.2.2.1 x.2.2.2.2.1 x.2.2.2.2.2.1 x.2.2.2.2.2.2.1 x.2.2.2.2.2.2.2.1 x.2.2.2.2.2.2.2.2 : Option (SumD (X_ihalve_iother_1_iPushAt_l2.map (·.2)))) = runL (meanS (envT Try.prog C67 mtab0) L_ihalve_iother_1_iPushAt_l2 2 (loopC (bodyOf Try.f79) 2) S_ihalve_iother_1_iPushAt_l2 X_ihalve_iother_1_iPushAt_l2) x := run_of (fun s : Nat × Nat × Int => (show DR S_ihalve_iother_1_iPushAt_l2.hs from (s.1, s.2.1, x.2.2.1, x.2.2.2.1, x.2.2.2.2.1, x.2.2.2.2.2.1, x.2.2.2.2.2.2.1, x.2.2.2.2.2.2.2.1, s.2.2))) (ihalve_iother_1_iPushAt_l2_e (x.2.2.1) (x.2.2.2.1) (x.2.2.2.2.1) (x.2.2.2.2.2.1) (x.2.2.2.2.2.2.1) (x.2.2.2.2.2.2.2.1)) (x.1, x.2.1, x.2.2.2.2.2.2.2.2)

theorem ihalve_iother_1_iPushAt_l2_k (L : Loops) (hn : L_ihalve_iother_1_iPushAt_l2.n = L.n) (hlv : L_ihalve_iother_1_iPushAt_l2.lv 2 = L.lv 2) (hL : ∀ vs bs, L.loop 2 vs bs = toldL S_ihalve_iother_1_iPushAt_l2 X_ihalve_iother_1_iPushAt_l2 (fun x => ihalve_iother_1_iPushAt_l2 x.1 x.2.1 x.2.2.1 x.2.2.2.1 x.2.2.2.2.1 x.2.2.2.2.2.1 x.2.2.2.2.2.2.1 x.2.2.2.2.2.2.2.1 x.2.2.2.2.2.2.2.2) vs bs) : LOk Try.prog (envT Try.prog C67 mtab0) L 2 (loopC (bodyOf Try.f79) 2) := toldL_ok (L1 := L_ihalve_iother_1_iPushAt_l2) (envT_ok (C67_ok) (mtab0_ok _)) mixedO hn hlv (loopFree_ok (by kernel_rfl)) ihalve_iother_1_iPushAt_l2_r hL

def A_ihalve_iother_1_iPushAt : Shp := ⟨[.h, .h, .fn 98 [.dpt [.fn 67 []] 0, .dpt [.h, .h, .h, .h] 0, .dpt [.h] 0, .dpt [.h] 0]], [], [.f .f32, .f .f32, .f .f32, .f .f32, .f .f32, .f .f32, .f .f32, .f .f32]⟩
def R_ihalve_iother_1_iPushAt : List XShp := [(.ret, ⟨[.tup [.h, .h, .h]], [], [.f .f32, .f .f32, .b]⟩)]

noncomputable def L_ihalve_iother_1_iPushAt : Loops := (⟨32, lvT [(2, [0, 1, 2, 6, 7, 8, 12])], mdT [(2, .normal, [], [6, 7, 8]), (2, .exit 0, [], [2, 6, 7, 8, 12]), (2, .ret, [], [0, 1, 2, 12])], fun k vs bs => bif Nat.beq k 2 then toldL S_ihalve_iother_1_iPushAt_l2 X_ihalve_iother_1_iPushAt_l2 (fun x => ihalve_iother_1_iPushAt_l2 x.1 x.2.1 x.2.2.1 x.2.2.2.1 x.2.2.2.2.1 x.2.2.2.2.2.1 x.2.2.2.2.2.2.1 x.2.2.2.2.2.2.2.1 x.2.2.2.2.2.2.2.2) vs bs else .bad⟩ : Loops)

theorem ihalve_iother_1_iPushAt_e (x : DR A_ihalve_iother_1_iPushAt.hs) : (evFn (envT Try.prog C67 mtab0) L_ihalve_iother_1_iPushAt Try.f79 (A_ihalve_iother_1_iPushAt.enc x).1).to (fun q => decX R_ihalve_iother_1_iPushAt .ret [q.1] q.2) = ihalve_iother_1_iPushAt_t x.1 x.2.1 x.2.2.1 x.2.2.2.1 x.2.2.2.2.1 x.2.2.2.2.2.1 x.2.2.2.2.2.2.1 x.2.2.2.2.2.2.2 := by kernel_rfl

theorem ihalve_iother_1_iPushAt_m (x : DR A_ihalve_iother_1_iPushAt.hs) : meanF (envT Try.prog C67 mtab0) L_ihalve_iother_1_iPushAt Try.f79 A_ihalve_iother_1_iPushAt R_ihalve_iother_1_iPushAt x = (show Option (SumD (R_ihalve_iother_1_iPushAt.map (·.2))) from ihalve_iother_1_iPushAt x.1 x.2.1 x.2.2.1 x.2.2.2.1 x.2.2.2.2.1 x.2.2.2.2.2.1 x.2.2.2.2.2.2.1 x.2.2.2.2.2.2.2) := meanF_of (ihalve_iother_1_iPushAt_e x)

theorem ihalve_iother_1_iPushAt_ok : SpecOk Try.prog 79 (evFn (envT Try.prog C67 mtab0) L_ihalve_iother_1_iPushAt Try.f79) := fnL_ok (envT_ok (C67_ok) (mtab0_ok _)) mixedO Try.func79 (by kernel_rfl) (c := bodyOf Try.f79) (by kernel_rfl) (loopsL (l := [(2, loopC (bodyOf Try.f79) 2)]) (by kernel_rfl) (lk_cons (ihalve_iother_1_iPushAt_l2_k _ rfl rfl (fun _ _ => rfl)) lk_nil))

theorem ihalve_iother_1_iPushAt_told : SpecOk Try.prog 79 (toldO A_ihalve_iother_1_iPushAt R_ihalve_iother_1_iPushAt (fun x => ihalve_iother_1_iPushAt x.1 x.2.1 x.2.2.1 x.2.2.2.1 x.2.2.2.2.1 x.2.2.2.2.2.1 x.2.2.2.2.2.2.1 x.2.2.2.2.2.2.2) (C67 79)) := toldO_ok (by kernel_rfl) ihalve_iother_1_iPushAt_ok (rest_ok (C67_ok) _) ihalve_iother_1_iPushAt_m

noncomputable def C68 : Tab := tab 79 (toldO A_ihalve_iother_1_iPushAt R_ihalve_iother_1_iPushAt (fun x => ihalve_iother_1_iPushAt x.1 x.2.1 x.2.2.1 x.2.2.2.1 x.2.2.2.2.1 x.2.2.2.2.2.1 x.2.2.2.2.2.2.1 x.2.2.2.2.2.2.2) (C67 79)) C67
theorem C68_ok : TabOk Try.prog C68 := tab_ok (ihalve_iother_1_iPushAt_told) (C67_ok)

def A_iother_2_iPushAt : Shp := ⟨[.h, .dpt [.fn 67 []] 0, .dpt [.h, .h, .h, .h] 0, .dpt [.h] 0, .dpt [.h] 0], [], [.f .f32, .f .f32, .f .f32, .f .f32, .f .f32, .f .f32, .f .f32]⟩
def R_iother_2_iPushAt : List XShp := [(.ret, ⟨[.tup [.h, .h]], [], [.b, .b]⟩)]

theorem iother_2_iPushAt_e (x : DR A_iother_2_iPushAt.hs) : (evFn (envT Try.prog C68 mtab0) noLoops Try.f99 (A_iother_2_iPushAt.enc x).1).to (fun q => decX R_iother_2_iPushAt .ret [q.1] q.2) = iother_2_iPushAt_t x.1 x.2.1 x.2.2.1 x.2.2.2.1 x.2.2.2.2.1 x.2.2.2.2.2.1 x.2.2.2.2.2.2 := by kernel_rfl

theorem iother_2_iPushAt_m (x : DR A_iother_2_iPushAt.hs) : meanF (envT Try.prog C68 mtab0) noLoops Try.f99 A_iother_2_iPushAt R_iother_2_iPushAt x = (show Option (SumD (R_iother_2_iPushAt.map (·.2))) from iother_2_iPushAt x.1 x.2.1 x.2.2.1 x.2.2.2.1 x.2.2.2.2.1 x.2.2.2.2.2.1 x.2.2.2.2.2.2) := meanF_of (iother_2_iPushAt_e x)

theorem iother_2_iPushAt_ok : SpecOk Try.prog 99 (evFn (envT Try.prog C68 mtab0) noLoops Try.f99) := fnL_ok (envT_ok (C68_ok) (mtab0_ok _)) mixedO Try.func99 (by kernel_rfl) (c := bodyOf Try.f99) (by kernel_rfl) (loopFree_ok (by kernel_rfl))

theorem iother_2_iPushAt_told : SpecOk Try.prog 99 (toldO A_iother_2_iPushAt R_iother_2_iPushAt (fun x => iother_2_iPushAt x.1 x.2.1 x.2.2.1 x.2.2.2.1 x.2.2.2.2.1 x.2.2.2.2.2.1 x.2.2.2.2.2.2) (C68 99)) := toldO_ok (by kernel_rfl) iother_2_iPushAt_ok (rest_ok (C68_ok) _) iother_2_iPushAt_m

noncomputable def C69 : Tab := tab 99 (toldO A_iother_2_iPushAt R_iother_2_iPushAt (fun x => iother_2_iPushAt x.1 x.2.1 x.2.2.1 x.2.2.2.1 x.2.2.2.2.1 x.2.2.2.2.2.1 x.2.2.2.2.2.2) (C68 99)) C68
theorem C69_ok : TabOk Try.prog C69 := tab_ok (iother_2_iPushAt_told) (C68_ok)

def S_ihalve_iother_2_iPushAt_l2 : Shp := ⟨[.h, .h, .fn 99 [.dpt [.fn 67 []] 0, .dpt [.h, .h, .h, .h] 0, .dpt [.h] 0, .dpt [.h] 0], .undef, .undef, .undef, .h], [], [.f .f32, .f .f32, .f .f32, .f .f32, .f .f32, .f .f32, .f .f32, .f .f32, .i .i64]⟩
def X_ihalve_iother_2_iPushAt_l2 : List XShp := [(.ret, ⟨[.undef, .undef, .undef, .h, .h, .lb false, .undef], [], [.f .f32, .f .f32]⟩), (.exit 0, ⟨[.h, .h, .undef, .undef, .undef, .undef, .undef], [], [.f .f32, .f .f32]⟩)]

noncomputable def L_ihalve_iother_2_iPushAt_l2 : Loops := (⟨32, lvT [(2, [0, 1, 2, 6, 7, 8, 12])], mdT [(2, .normal, [], [6, 7, 8]), (2, .exit 0, [], [2, 6, 7, 8, 12]), (2, .ret, [], [0, 1, 2, 12])], fun k vs bs => .bad⟩ : Loops)

theorem ihalve_iother_2_iPushAt_l2_e (y2 : Nat) (y3 : Nat) (y4 : Nat) (y5 : Nat) (y6 : Nat) (y7 : Nat) (s : Nat × Nat × Int) : (loopStep (envT Try.prog C69 mtab0) L_ihalve_iother_2_iPushAt_l2 2 (loopC (bodyOf Try.f79) 2) (S_ihalve_iother_2_iPushAt_l2.enc (s.1, s.2.1, y2, y3, y4, y5, y6, y7, s.2.2)).1 (S_ihalve_iother_2_iPushAt_l2.enc (s.1, s.2.1, y2, y3, y4, y5, y6, y7, s.2.2)).2).to (stepD S_ihalve_iother_2_iPushAt_l2 X_ihalve_iother_2_iPushAt_l2) = (ihalve_iother_2_iPushAt_l2_t y2 y3 y4 y5 y6 y7 s.1 s.2.1 s.2.2).map (Sum.map (fun s : Nat × Nat × Int => (show DR S_ihalve_iother_2_iPushAt_l2.hs from (s.1, s.2.1, y2, y3, y4, y5, y6, y7, s.2.2))) id) := by kernel_rfl

theorem ihalve_iother_2_iPushAt_l2_r (x : DR S_ihalve_iother_2_iPushAt_l2.hs) : (ihalve_iother_2_iPushAt_l2 x.1 x.2.1 x.2.2.1 x.2.2.2.1 x.2.2.2.2.1 x.2.2.2.2.2.1 x.2.2.2.2.2.2.1 x.2.2.2.2.2.2.2.1 x.2.2.2.2.2.2.2.2 : Option (SumD (X_ihalve_iother_2_iPushAt_l2.map (·.2)))) = runL (meanS (envT Try.prog C69 mtab0) L_ihalve_iother_2_iPushAt_l2 2 (loopC (bodyOf Try.f79) 2) S_ihalve_iother_2_iPushAt_l2 X_ihalve_iother_2_iPushAt_l2) x := run_of (fun s : Nat × Nat × Int => (show DR S_ihalve_iother_2_iPushAt_l2.hs from (s.1, s.2.1, x.2.2.1, x.2.2.2.1, x.2.2.2.2.1, x.2.2.2.2.2.1, x.2.2.2.2.2.2.1, x.2.2.2.2.2.2.2.1, s.2.2))) (ihalve_iother_2_iPushAt_l2_e (x.2.2.1) (x.2.2.2.1) (x.2.2.2.2.1) (x.2.2.2.2.2.1) (x.2.2.2.2.2.2.1) (x.2.2.2.2.2.2.2.1)) (x.1, x.2.1, x.2.2.2.2.2.2.2.2)

theorem ihalve_iother_2_iPushAt_l2_k (L : Loops) (hn : L_ihalve_iother_2_iPushAt_l2.n = L.n) (hlv : L_ihalve_iother_2_iPushAt_l2.lv 2 = L.lv 2) (hL : ∀ vs bs, L.loop 2 vs bs = toldL S_ihalve_iother_2_iPushAt_l2 X_ihalve_iother_2_iPushAt_l2 (fun x => ihalve_iother_2_iPushAt_l2 x.1 x.2.1 x.2.2.1 x.2.2.2.1 x.2.2.2.2.1 x.2.2.2.2.2.1 x.2.2.2.2.2.2.1 x.2.2.2.2.2.2.2.1 x.2.2.2.2.2.2.2.2) vs bs) : LOk Try.prog (envT Try.prog C69 mtab0) L 2 (loopC (bodyOf Try.f79) 2) := toldL_ok (L1 := L_ihalve_iother_2_iPushAt_l2) (envT_ok (C69_ok) (mtab0_ok _)) mixedO hn hlv (loopFree_ok (by kernel_rfl)) ihalve_iother_2_iPushAt_l2_r hL

def A_ihalve_iother_2_iPushAt : Shp := ⟨[.h, .h, .fn 99 [.dpt [.fn 67 []] 0, .dpt [.h, .h, .h, .h] 0, .dpt [.h] 0, .dpt [.h] 0]], [], [.f .f32, .f .f32, .f .f32, .f .f32, .f .f32, .f .f32, .f .f32, .f .f32]⟩
def R_ihalve_iother_2_iPushAt : List XShp := [(.ret, ⟨[.tup [.h, .h, .h]], [], [.f .f32, .f .f32, .b]⟩)]

noncomputable def L_ihalve_iother_2_iPushAt : Loops := (⟨32, lvT [(2, [0, 1, 2, 6, 7, 8, 12])], mdT [(2, .normal, [], [6, 7, 8]), (2, .exit 0, [], [2, 6, 7, 8, 12]), (2, .ret, [], [0, 1, 2, 12])], fun k vs bs => bif Nat.beq k 2 then toldL S_ihalve_iother_2_iPushAt_l2 X_ihalve_iother_2_iPushAt_l2 (fun x => ihalve_iother_2_iPushAt_l2 x.1 x.2.1 x.2.2.1 x.2.2.2.1 x.2.2.2.2.1 x.2.2.2.2.2.1 x.2.2.2.2.2.2.1 x.2.2.2.2.2.2.2.1 x.2.2.2.2.2.2.2.2) vs bs else .bad⟩ : Loops)

theorem ihalve_iother_2_iPushAt_e (x : DR A_ihalve_iother_2_iPushAt.hs) : (evFn (envT Try.prog C69 mtab0) L_ihalve_iother_2_iPushAt Try.f79 (A_ihalve_iother_2_iPushAt.enc x).1).to (fun q => decX R_ihalve_iother_2_iPushAt .ret [q.1] q.2) = ihalve_iother_2_iPushAt_t x.1 x.2.1 x.2.2.1 x.2.2.2.1 x.2.2.2.2.1 x.2.2.2.2.2.1 x.2.2.2.2.2.2.1 x.2.2.2.2.2.2.2 := by kernel_rfl

theorem ihalve_iother_2_iPushAt_m (x : DR A_ihalve_iother_2_iPushAt.hs) : meanF (envT Try.prog C69 mtab0) L_ihalve_iother_2_iPushAt Try.f79 A_ihalve_iother_2_iPushAt R_ihalve_iother_2_iPushAt x = (show Option (SumD (R_ihalve_iother_2_iPushAt.map (·.2))) from ihalve_iother_2_iPushAt x.1 x.2.1 x.2.2.1 x.2.2.2.1 x.2.2.2.2.1 x.2.2.2.2.2.1 x.2.2.2.2.2.2.1 x.2.2.2.2.2.2.2) := meanF_of (ihalve_iother_2_iPushAt_e x)

theorem ihalve_iother_2_iPushAt_ok : SpecOk Try.prog 79 (evFn (envT Try.prog C69 mtab0) L_ihalve_iother_2_iPushAt Try.f79) := fnL_ok (envT_ok (C69_ok) (mtab0_ok _)) mixedO Try.func79 (by kernel_rfl) (c := bodyOf Try.f79) (by kernel_rfl) (loopsL (l := [(2, loopC (bodyOf Try.f79) 2)]) (by kernel_rfl) (lk_cons (ihalve_iother_2_iPushAt_l2_k _ rfl rfl (fun _ _ => rfl)) lk_nil))

theorem ihalve_iother_2_iPushAt_told : SpecOk Try.prog 79 (toldO A_ihalve_iother_2_iPushAt R_ihalve_iother_2_iPushAt (fun x => ihalve_iother_2_iPushAt x.1 x.2.1 x.2.2.1 x.2.2.2.1 x.2.2.2.2.1 x.2.2.2.2.2.1 x.2.2.2.2.2.2.1 x.2.2.2.2.2.2.2) (C69 79)) := toldO_ok (by kernel_rfl) ihalve_iother_2_iPushAt_ok (rest_ok (C69_ok) _) ihalve_iother_2_iPushAt_m

noncomputable def C70 : Tab := tab 79 (toldO A_ihalve_iother_2_iPushAt R_ihalve_iother_2_iPushAt (fun x => ihalve_iother_2_iPushAt x.1 x.2.1 x.2.2.1 x.2.2.2.1 x.2.2.2.2.1 x.2.2.2.2.2.1 x.2.2.2.2.2.2.1 x.2.2.2.2.2.2.2) (C69 79)) C69
theorem C70_ok : TabOk Try.prog C70 := tab_ok (ihalve_iother_2_iPushAt_told) (C69_ok)

def A_iother_iPushAt : Shp := ⟨[.agg [.h, .h, .h, .h], .h, .h, .fn 67 []], [], [.f .f32, .f .f32, .f .f32, .f .f32, .f .f32, .f .f32]⟩
def R_iother_iPushAt : List XShp := [(.ret, ⟨[.tup [.h, .h]], [], [.f .f32, .b]⟩)]

theorem iother_iPushAt_e (x : DR A_iother_iPushAt.hs) : (evFn (envT Try.prog C70 mtab0) noLoops Try.f65 (A_iother_iPushAt.enc x).1).to (fun q => decX R_iother_iPushAt .ret [q.1] q.2) = iother_iPushAt_t x.1 x.2.1 x.2.2.1 x.2.2.2.1 x.2.2.2.2.1 x.2.2.2.2.2 := by kernel_rfl

theorem iother_iPushAt_m (x : DR A_iother_iPushAt.hs) : meanF (envT Try.prog C70 mtab0) noLoops Try.f65 A_iother_iPushAt R_iother_iPushAt x = (show Option (SumD (R_iother_iPushAt.map (·.2))) from iother_iPushAt x.1 x.2.1 x.2.2.1 x.2.2.2.1 x.2.2.2.2.1 x.2.2.2.2.2) := meanF_of (iother_iPushAt_e x)

theorem iother_iPushAt_ok : SpecOk Try.prog 65 (evFn (envT Try.prog C70 mtab0) noLoops Try.f65) := fnL_ok (envT_ok (C70_ok) (mtab0_ok _)) mixedO Try.func65 (by kernel_rfl) (c := bodyOf Try.f65) (by kernel_rfl) (loopFree_ok (by kernel_rfl))

theorem iother_iPushAt_told : SpecOk Try.prog 65 (toldO A_iother_iPushAt R_iother_iPushAt (fun x => iother_iPushAt x.1 x.2.1 x.2.2.1 x.2.2.2.1 x.2.2.2.2.1 x.2.2.2.2.2) (C70 65)) := toldO_ok (by kernel_rfl) iother_iPushAt_ok (rest_ok (C70_ok) _) iother_iPushAt_m

noncomputable def C71 : Tab := tab 65 (toldO A_iother_iPushAt R_iother_iPushAt (fun x => iother_iPushAt x.1 x.2.1 x.2.2.1 x.2.2.2.1 x.2.2.2.2.1 x.2.2.2.2.2) (C70 65)) C70
theorem C71_ok : TabOk Try.prog C71 := tab_ok (iother_iPushAt_told) (C70_ok)

def A_iJumpDepth : Shp := ⟨[.agg [.h, .h, .h, .h], .h, .h], [], [.f .f32, .f .f32, .f .f32, .f .f32, .f .f32, .f .f32]⟩
def R_iJumpDepth : List XShp := [(.ret, ⟨[.tup [.h, .h]], [], [.f .f32, .b]⟩)]

theorem iJumpDepth_e (x : DR A_iJumpDepth.hs) : (evFn (envT Try.prog C71 mtab0) noLoops Try.f26 (A_iJumpDepth.enc x).1).to (fun q => decX R_iJumpDepth .ret [q.1] q.2) = iJumpDepth_t x.1 x.2.1 x.2.2.1 x.2.2.2.1 x.2.2.2.2.1 x.2.2.2.2.2 := by kernel_rfl

theorem iJumpDepth_m (x : DR A_iJumpDepth.hs) : meanF (envT Try.prog C71 mtab0) noLoops Try.f26 A_iJumpDepth R_iJumpDepth x = (show Option (SumD (R_iJumpDepth.map (·.2))) from iJumpDepth x.1 x.2.1 x.2.2.1 x.2.2.2.1 x.2.2.2.2.1 x.2.2.2.2.2) := meanF_of (iJumpDepth_e x)

theorem iJumpDepth_ok : SpecOk Try.prog 26 (evFn (envT Try.prog C71 mtab0) noLoops Try.f26) := fnL_ok (envT_ok (C71_ok) (mtab0_ok _)) mixedO Try.func26 (by kernel_rfl) (c := bodyOf Try.f26) (by kernel_rfl) (loopFree_ok (by kernel_rfl))

theorem iJumpDepth_told : SpecOk Try.prog 26 (toldO A_iJumpDepth R_iJumpDepth (fun x => iJumpDepth x.1 x.2.1 x.2.2.1 x.2.2.2.1 x.2.2.2.2.1 x.2.2.2.2.2) (C71 26)) := toldO_ok (by kernel_rfl) iJumpDepth_ok (rest_ok (C71_ok) _) iJumpDepth_m

noncomputable def C72 : Tab := tab 26 (toldO A_iJumpDepth R_iJumpDepth (fun x => iJumpDepth x.1 x.2.1 x.2.2.1 x.2.2.2.1 x.2.2.2.2.1 x.2.2.2.2.2) (C71 26)) C71
theorem C72_ok : TabOk Try.prog C72 := tab_ok (iJumpDepth_told) (C71_ok)

def A_wFnExactJumpDepth : Shp := ⟨[.agg [.h, .h, .h, .h], .h, .h], [], [.f .f32, .f .f32, .f .f32, .f .f32, .f .f32, .f .f32]⟩
def R_wFnExactJumpDepth : List XShp := [(.ret, ⟨[.h], [], [.b]⟩)]

theorem wFnExactJumpDepth_e (x : DR A_wFnExactJumpDepth.hs) : (evFn (envT Try.prog C72 mtab0) noLoops Try.f7 (A_wFnExactJumpDepth.enc x).1).to (fun q => decX R_wFnExactJumpDepth .ret [q.1] q.2) = wFnExactJumpDepth_t x.1 x.2.1 x.2.2.1 x.2.2.2.1 x.2.2.2.2.1 x.2.2.2.2.2 := by kernel_rfl

theorem wFnExactJumpDepth_m (x : DR A_wFnExactJumpDepth.hs) : meanF (envT Try.prog C72 mtab0) noLoops Try.f7 A_wFnExactJumpDepth R_wFnExactJumpDepth x = (show Option (SumD (R_wFnExactJumpDepth.map (·.2))) from wFnExactJumpDepth x.1 x.2.1 x.2.2.1 x.2.2.2.1 x.2.2.2.2.1 x.2.2.2.2.2) := meanF_of (wFnExactJumpDepth_e x)

theorem wFnExactJumpDepth_ok : SpecOk Try.prog 7 (evFn (envT Try.prog C72 mtab0) noLoops Try.f7) := fnL_ok (envT_ok (C72_ok) (mtab0_ok _)) mixedO Try.func7 (by kernel_rfl) (c := bodyOf Try.f7) (by kernel_rfl) (loopFree_ok (by kernel_rfl))

theorem wFnExactJumpDepth_told : SpecOk Try.prog 7 (toldO A_wFnExactJumpDepth R_wFnExactJumpDepth (fun x => wFnExactJumpDepth x.1 x.2.1 x.2.2.1 x.2.2.2.1 x.2.2.2.2.1 x.2.2.2.2.2) (C72 7)) := toldO_ok (by kernel_rfl) wFnExactJumpDepth_ok (rest_ok (C72_ok) _) wFnExactJumpDepth_m

noncomputable def C73 : Tab := tab 7 (toldO A_wFnExactJumpDepth R_wFnExactJumpDepth (fun x => wFnExactJumpDepth x.1 x.2.1 x.2.2.1 x.2.2.2.1 x.2.2.2.2.1 x.2.2.2.2.2) (C72 7)) C72
theorem C73_ok : TabOk Try.prog C73 := tab_ok (wFnExactJumpDepth_told) (C72_ok)

theorem lawFnExactJumpDepth_ok : SpecOk Try.prog 7 (evFn (envT Try.prog C72 mtab0) noLoops Try.f7) := wFnExactJumpDepth_ok
theorem lawFnExactJumpDepth_says (x : DR A_wFnExactJumpDepth.hs) (h : (show Option (SumD (R_wFnExactJumpDepth.map (·.2))) from wFnExactJumpDepth x.1 x.2.1 x.2.2.1 x.2.2.2.1 x.2.2.2.2.1 x.2.2.2.2.2) = some true) : saysTrue (evFn (envT Try.prog C72 mtab0) noLoops Try.f7 (A_wFnExactJumpDepth.enc x).1) = true := law_says (x := x) ((wFnExactJumpDepth_m x).trans h)

theorem lawFnExactJumpDepth_true (x0 : Nat) (x1 : Nat) (x2 : Nat) (x3 : Nat) (x4 : Nat) (x5 : Nat) (h : wFnExactJumpDepth x0 x1 x2 x3 x4 x5 = some true) : saysTrue (evFn (envT Try.prog C72 mtab0) noLoops Try.f7 [.agg [.f .f32 x0, .f .f32 x1, .f .f32 x2, .f .f32 x3], .f .f32 x4, .f .f32 x5]) = true := (congrArg (fun l => saysTrue (evFn (envT Try.prog C72 mtab0) noLoops Try.f7 l)) (by kernel_rfl : ([.agg [.f .f32 x0, .f .f32 x1, .f .f32 x2, .f .f32 x3], .f .f32 x4, .f .f32 x5] : List V) = (A_wFnExactJumpDepth.enc (x0, x1, x2, x3, x4, x5)).1)).trans (lawFnExactJumpDepth_says (x0, x1, x2, x3, x4, x5) h)
end Go.Proofs.Ytlhfpjpgglfcfaa
