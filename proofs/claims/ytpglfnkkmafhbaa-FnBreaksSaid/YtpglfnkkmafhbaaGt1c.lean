/- Functions, as plain functions. What the program comes to. -/
import Derived.Test.YtpglfnkkmafhbaaGt1d
import Derived.Test.YtpglfnkkmafhbaaDb
import Derived.Test.YtpglfnkkmafhbaaNv
import Derived.KernelRfl
set_option linter.unusedVariables false
set_option linter.unusedSimpArgs false
set_option linter.constructorNameAsVariable false
namespace Go.Proofs.Ytpglfnkkmafhbaa
open Go.RowKit
set_option maxRecDepth 100000
theorem mixedO : (Try.prog).follows .mixedOrders = true := by kernel_rfl
noncomputable def C0 : Tab := tab 113 (spFB .f32 (isFin .f32)) tab0
theorem C0_ok : TabOk Try.prog C0 := tab_ok (spFB_ok Try.func113 (by kernel_rfl) (fun hx => l01Finite_c hx)) (tab0_ok _)

noncomputable def C1 : Tab := tab 65 (spFB .f32 (isFin .f32)) C0
theorem C1_ok : TabOk Try.prog C1 := tab_ok (spFB_ok Try.func65 (by kernel_rfl) (fun hx => IsFinite_c hx)) (C0_ok)

noncomputable def C2 : Tab := tab 111 (spFB .f32 isLen) C1
theorem C2_ok : TabOk Try.prog C2 := tab_ok (spFB_ok Try.func111 (by kernel_rfl) (fun hx => l02Above_c hx)) (C1_ok)

noncomputable def C3 : Tab := tab 70 (spFB .f32 isLen) C2
theorem C3_ok : TabOk Try.prog C3 := tab_ok (spFB_ok Try.func70 (by kernel_rfl) (fun hx => aLength_c hx)) (C2_ok)

noncomputable def C4 : Tab := tab 83 (spFB .f32 isMass) C3
theorem C4_ok : TabOk Try.prog C4 := tab_ok (spFB_ok Try.func83 (by kernel_rfl) (fun hx => l02Least_c hx)) (C3_ok)

noncomputable def C5 : Tab := tab 86 (spFB .f32 isMass) C4
theorem C5_ok : TabOk Try.prog C5 := tab_ok (spFB_ok Try.func86 (by kernel_rfl) (fun hx => aMass_c hx)) (C4_ok)

noncomputable def C6 : Tab := tab 114 (spFF .f32 .f32 froot) C5
theorem C6_ok : TabOk Try.prog C6 := tab_ok (spFF_ok Try.func114 (by kernel_rfl) (fun hx => l01Sqrt_c hx)) (C5_ok)

noncomputable def C7 : Tab := tab 87 (spFF .f32 .f32 froot) C6
theorem C7_ok : TabOk Try.prog C7 := tab_ok (spFF_ok Try.func87 (by kernel_rfl) (fun hx => RootNumber_c hx)) (C6_ok)

noncomputable def C8 : Tab := tab 76 (spFFtoB .f32 natEq) C7
theorem C8_ok : TabOk Try.prog C8 := tab_ok (spFFtoB_ok Try.func76 (by kernel_rfl) (fun hx hy => l01Same_c hx hy)) (C7_ok)

noncomputable def C9 : Tab := tab 106 (spFFtoB .f32 natEq) C8
theorem C9_ok : TabOk Try.prog C9 := tab_ok (spFFtoB_ok Try.func106 (by kernel_rfl) (fun hx hy => SameNumber_c hx hy)) (C8_ok)

noncomputable def C10 : Tab := tab 100 (spFB .f64 (isFin .f64)) C9
theorem C10_ok : TabOk Try.prog C10 := tab_ok (spFB_ok Try.func100 (by kernel_rfl) (fun hx => finite_c hx)) (C9_ok)

noncomputable def C11 : Tab := tab 124 (spFB .f64 (isN .f64)) C10
theorem C11_ok : TabOk Try.prog C11 := tab_ok (spFB_ok Try.func124 (by kernel_rfl) (fun hx => isNaN_c hx)) (C10_ok)

noncomputable def C12 : Tab := tab 123 (spFF .f64 .f64 (fabs .f64)) C11
theorem C12_ok : TabOk Try.prog C12 := tab_ok (spFF_ok Try.func123 (by kernel_rfl) (fun hx => abs_c hx)) (C11_ok)

noncomputable def C13 : Tab := tab 116 (spFF .f64 .f64 (fsqrt .f64)) C12
theorem C13_ok : TabOk Try.prog C13 := tab_ok (spFF_ok Try.func116 (by kernel_rfl) (fun hx => Sqrt_c hx)) (C12_ok)

noncomputable def C14 : Tab := tab 131 (spFrom) C13
theorem C14_ok : TabOk Try.prog C14 := tab_ok ((spFrom_ok (fun n w => ext_from64 n w))) (C13_ok)

def A_wb10Long : Shp := ⟨[.h, .h], [], [.sl [.i .u8], .sl [.i .u8]]⟩
def R_wb10Long : List XShp := [(.ret, ⟨[.h], [], [.b]⟩)]

theorem wb10Long_e (x : DR A_wb10Long.hs) : (evFn (envT Try.prog C14 mtab0) noLoops Try.f9 (A_wb10Long.enc x).1).to (fun q => decX R_wb10Long .ret [q.1] q.2) = wb10Long_t x.1 x.2 := by kernel_rfl

theorem wb10Long_m (x : DR A_wb10Long.hs) : meanF (envT Try.prog C14 mtab0) noLoops Try.f9 A_wb10Long R_wb10Long x = some (show SumD (R_wb10Long.map (·.2)) from wb10Long x.1 x.2) := @meanF_tot _ _ _ _ _ _ _ (wb10Long_e x) (show Inhabited (Bool) from inferInstance) (by kernel_rfl)

theorem wb10Long_ok : SpecOk Try.prog 9 (evFn (envT Try.prog C14 mtab0) noLoops Try.f9) := fnL_ok (envT_ok (C14_ok) (mtab0_ok _)) mixedO Try.func9 (by kernel_rfl) (c := bodyOf Try.f9) (by kernel_rfl) (loopFree_ok (by kernel_rfl))

theorem wb10Long_told : SpecOk Try.prog 9 (toldT A_wb10Long R_wb10Long (fun x => wb10Long x.1 x.2) (C14 9)) := toldT_ok (by kernel_rfl) wb10Long_ok (rest_ok (C14_ok) _) wb10Long_m

noncomputable def C15 : Tab := tab 9 (toldT A_wb10Long R_wb10Long (fun x => wb10Long x.1 x.2) (C14 9)) C14
theorem C15_ok : TabOk Try.prog C15 := tab_ok (wb10Long_told) (C14_ok)

def A_wb10At : Shp := ⟨[.h, .h, .h], [], [.sl [.i .u8], .i .i64, .i .i64]⟩
def R_wb10At : List XShp := [(.ret, ⟨[.h], [], [.i .i64]⟩)]

theorem wb10At_e (x : DR A_wb10At.hs) : (evFn (envT Try.prog C15 mtab0) noLoops Try.f11 (A_wb10At.enc x).1).to (fun q => decX R_wb10At .ret [q.1] q.2) = wb10At_t x.1 x.2.1 x.2.2 := by kernel_rfl

theorem wb10At_m (x : DR A_wb10At.hs) : meanF (envT Try.prog C15 mtab0) noLoops Try.f11 A_wb10At R_wb10At x = (show Option (SumD (R_wb10At.map (·.2))) from wb10At x.1 x.2.1 x.2.2) := meanF_of (wb10At_e x)

theorem wb10At_ok : SpecOk Try.prog 11 (evFn (envT Try.prog C15 mtab0) noLoops Try.f11) := fnL_ok (envT_ok (C15_ok) (mtab0_ok _)) mixedO Try.func11 (by kernel_rfl) (c := bodyOf Try.f11) (by kernel_rfl) (loopFree_ok (by kernel_rfl))

theorem wb10At_told : SpecOk Try.prog 11 (toldO A_wb10At R_wb10At (fun x => wb10At x.1 x.2.1 x.2.2) (C15 11)) := toldO_ok (by kernel_rfl) wb10At_ok (rest_ok (C15_ok) _) wb10At_m

noncomputable def C16 : Tab := tab 11 (toldO A_wb10At R_wb10At (fun x => wb10At x.1 x.2.1 x.2.2) (C15 11)) C15
theorem C16_ok : TabOk Try.prog C16 := tab_ok (wb10At_told) (C15_ok)

def S_iareLengths_l2 : Shp := ⟨[.undef, .h, .h, .h], [], [.sl [.f .f32], .i .i64, .i .i64]⟩
def X_iareLengths_l2 : List XShp := [(.ret, ⟨[.lb false, .undef, .undef, .undef], [], []⟩), (.exit 0, ⟨[.undef, .undef, .undef, .undef], [], []⟩)]

noncomputable def L_iareLengths_l2 : Loops := (⟨15, lvT [(2, [2, 5, 6, 7])], mdT [(2, .normal, [], [2]), (2, .exit 0, [], [2, 5, 6, 7]), (2, .ret, [], [5, 6, 7])], fun k vs bs => .bad⟩ : Loops)

theorem iareLengths_l2_e (y0 : List Nat) (y1 : Int) (s : Int) : (loopStep (envT Try.prog C16 mtab0) L_iareLengths_l2 2 (loopC (bodyOf Try.f77) 2) (S_iareLengths_l2.enc (y0, y1, s)).1 (S_iareLengths_l2.enc (y0, y1, s)).2).to (stepD S_iareLengths_l2 X_iareLengths_l2) = (iareLengths_l2_t y0 y1 s).map (Sum.map (fun s : Int => (show DR S_iareLengths_l2.hs from (y0, y1, s))) id) := by kernel_rfl

theorem iareLengths_l2_r (x : DR S_iareLengths_l2.hs) : (iareLengths_l2 x.1 x.2.1 x.2.2 : Option (SumD (X_iareLengths_l2.map (·.2)))) = runL (meanS (envT Try.prog C16 mtab0) L_iareLengths_l2 2 (loopC (bodyOf Try.f77) 2) S_iareLengths_l2 X_iareLengths_l2) x := run_of (fun s : Int => (show DR S_iareLengths_l2.hs from (x.1, x.2.1, s))) (iareLengths_l2_e (x.1) (x.2.1)) x.2.2

theorem iareLengths_l2_k (L : Loops) (hn : L_iareLengths_l2.n = L.n) (hlv : L_iareLengths_l2.lv 2 = L.lv 2) (hL : ∀ vs bs, L.loop 2 vs bs = toldL S_iareLengths_l2 X_iareLengths_l2 (fun x => iareLengths_l2 x.1 x.2.1 x.2.2) vs bs) : LOk Try.prog (envT Try.prog C16 mtab0) L 2 (loopC (bodyOf Try.f77) 2) := toldL_ok (L1 := L_iareLengths_l2) (envT_ok (C16_ok) (mtab0_ok _)) mixedO hn hlv (loopFree_ok (by kernel_rfl)) iareLengths_l2_r hL

def A_iareLengths : Shp := ⟨[.h], [], [.sl [.f .f32]]⟩
def R_iareLengths : List XShp := [(.ret, ⟨[.h], [], [.b]⟩)]

noncomputable def L_iareLengths : Loops := (⟨15, lvT [(2, [2, 5, 6, 7])], mdT [(2, .normal, [], [2]), (2, .exit 0, [], [2, 5, 6, 7]), (2, .ret, [], [5, 6, 7])], fun k vs bs => bif Nat.beq k 2 then toldL S_iareLengths_l2 X_iareLengths_l2 (fun x => iareLengths_l2 x.1 x.2.1 x.2.2) vs bs else .bad⟩ : Loops)

theorem iareLengths_e (x : DR A_iareLengths.hs) : (evFn (envT Try.prog C16 mtab0) L_iareLengths Try.f77 (A_iareLengths.enc x).1).to (fun q => decX R_iareLengths .ret [q.1] q.2) = iareLengths_t x := by kernel_rfl

theorem iareLengths_m (x : DR A_iareLengths.hs) : meanF (envT Try.prog C16 mtab0) L_iareLengths Try.f77 A_iareLengths R_iareLengths x = (show Option (SumD (R_iareLengths.map (·.2))) from iareLengths x) := meanF_of (iareLengths_e x)

theorem iareLengths_ok : SpecOk Try.prog 77 (evFn (envT Try.prog C16 mtab0) L_iareLengths Try.f77) := fnL_ok (envT_ok (C16_ok) (mtab0_ok _)) mixedO Try.func77 (by kernel_rfl) (c := bodyOf Try.f77) (by kernel_rfl) (loopsL (l := [(2, loopC (bodyOf Try.f77) 2)]) (by kernel_rfl) (lk_cons (iareLengths_l2_k _ rfl rfl (fun _ _ => rfl)) lk_nil))

theorem iareLengths_told : SpecOk Try.prog 77 (toldO A_iareLengths R_iareLengths (fun x => iareLengths x) (C16 77)) := toldO_ok (by kernel_rfl) iareLengths_ok (rest_ok (C16_ok) _) iareLengths_m

noncomputable def C17 : Tab := tab 77 (toldO A_iareLengths R_iareLengths (fun x => iareLengths x) (C16 77)) C16
theorem C17_ok : TabOk Try.prog C17 := tab_ok (iareLengths_told) (C16_ok)

def A_ibroken : Shp := ⟨[.h, .h, .h], [], [.f .f32, .f .f32, .f .f32]⟩
def R_ibroken : List XShp := [(.ret, ⟨[.tup [.h, .h]], [], [.f .f32, .f .f32]⟩)]

theorem ibroken_e (x : DR A_ibroken.hs) : (evFn (envT Try.prog C17 mtab0) noLoops Try.f78 (A_ibroken.enc x).1).to (fun q => decX R_ibroken .ret [q.1] q.2) = ibroken_t x.1 x.2.1 x.2.2 := by kernel_rfl

theorem ibroken_m (x : DR A_ibroken.hs) : meanF (envT Try.prog C17 mtab0) noLoops Try.f78 A_ibroken R_ibroken x = some (show SumD (R_ibroken.map (·.2)) from ibroken x.1 x.2.1 x.2.2) := @meanF_tot _ _ _ _ _ _ _ (ibroken_e x) (show Inhabited (Nat × Nat) from inferInstance) (by kernel_rfl)

theorem ibroken_ok : SpecOk Try.prog 78 (evFn (envT Try.prog C17 mtab0) noLoops Try.f78) := fnL_ok (envT_ok (C17_ok) (mtab0_ok _)) mixedO Try.func78 (by kernel_rfl) (c := bodyOf Try.f78) (by kernel_rfl) (loopFree_ok (by kernel_rfl))

theorem ibroken_told : SpecOk Try.prog 78 (toldT A_ibroken R_ibroken (fun x => ibroken x.1 x.2.1 x.2.2) (C17 78)) := toldT_ok (by kernel_rfl) ibroken_ok (rest_ok (C17_ok) _) ibroken_m

noncomputable def C18 : Tab := tab 78 (toldT A_ibroken R_ibroken (fun x => ibroken x.1 x.2.1 x.2.2) (C17 78)) C17
theorem C18_ok : TabOk Try.prog C18 := tab_ok (ibroken_told) (C17_ok)

def A_ifinite32 : Shp := ⟨[.h], [], [.f .f32]⟩
def R_ifinite32 : List XShp := [(.ret, ⟨[.tup [.h, .h]], [], [.f .f32, .b]⟩)]

theorem ifinite32_e (x : DR A_ifinite32.hs) : (evFn (envT Try.prog C18 mtab0) noLoops Try.f66 (A_ifinite32.enc x).1).to (fun q => decX R_ifinite32 .ret [q.1] q.2) = ifinite32_t x := by kernel_rfl

theorem ifinite32_m (x : DR A_ifinite32.hs) : meanF (envT Try.prog C18 mtab0) noLoops Try.f66 A_ifinite32 R_ifinite32 x = some (show SumD (R_ifinite32.map (·.2)) from ifinite32 x) := @meanF_tot _ _ _ _ _ _ _ (ifinite32_e x) (show Inhabited (Nat × Bool) from inferInstance) (by kernel_rfl)

theorem ifinite32_ok : SpecOk Try.prog 66 (evFn (envT Try.prog C18 mtab0) noLoops Try.f66) := fnL_ok (envT_ok (C18_ok) (mtab0_ok _)) mixedO Try.func66 (by kernel_rfl) (c := bodyOf Try.f66) (by kernel_rfl) (loopFree_ok (by kernel_rfl))

theorem ifinite32_told : SpecOk Try.prog 66 (toldT A_ifinite32 R_ifinite32 (fun x => ifinite32 x) (C18 66)) := toldT_ok (by kernel_rfl) ifinite32_ok (rest_ok (C18_ok) _) ifinite32_m

noncomputable def C19 : Tab := tab 66 (toldT A_ifinite32 R_ifinite32 (fun x => ifinite32 x) (C18 66)) C18
theorem C19_ok : TabOk Try.prog C19 := tab_ok (ifinite32_told) (C18_ok)

def A_iBreakDepth : Shp := ⟨[.h, .h, .h], [], [.f .f32, .f .f32, .f .f32]⟩
def R_iBreakDepth : List XShp := [(.ret, ⟨[.tup [.h, .h]], [], [.f .f32, .b]⟩)]

theorem iBreakDepth_e (x : DR A_iBreakDepth.hs) : (evFn (envT Try.prog C19 mtab0) noLoops Try.f20 (A_iBreakDepth.enc x).1).to (fun q => decX R_iBreakDepth .ret [q.1] q.2) = iBreakDepth_t x.1 x.2.1 x.2.2 := by kernel_rfl

theorem iBreakDepth_m (x : DR A_iBreakDepth.hs) : meanF (envT Try.prog C19 mtab0) noLoops Try.f20 A_iBreakDepth R_iBreakDepth x = (show Option (SumD (R_iBreakDepth.map (·.2))) from iBreakDepth x.1 x.2.1 x.2.2) := meanF_of (iBreakDepth_e x)

theorem iBreakDepth_ok : SpecOk Try.prog 20 (evFn (envT Try.prog C19 mtab0) noLoops Try.f20) := fnL_ok (envT_ok (C19_ok) (mtab0_ok _)) mixedO Try.func20 (by kernel_rfl) (c := bodyOf Try.f20) (by kernel_rfl) (loopFree_ok (by kernel_rfl))

theorem iBreakDepth_told : SpecOk Try.prog 20 (toldO A_iBreakDepth R_iBreakDepth (fun x => iBreakDepth x.1 x.2.1 x.2.2) (C19 20)) := toldO_ok (by kernel_rfl) iBreakDepth_ok (rest_ok (C19_ok) _) iBreakDepth_m

noncomputable def C20 : Tab := tab 20 (toldO A_iBreakDepth R_iBreakDepth (fun x => iBreakDepth x.1 x.2.1 x.2.2) (C19 20)) C19
theorem C20_ok : TabOk Try.prog C20 := tab_ok (iBreakDepth_told) (C19_ok)

def A_iBreakFlow : Shp := ⟨[.h, .h, .h], [], [.f .f32, .f .f32, .f .f32]⟩
def R_iBreakFlow : List XShp := [(.ret, ⟨[.tup [.h, .h]], [], [.f .f32, .b]⟩)]

theorem iBreakFlow_e (x : DR A_iBreakFlow.hs) : (evFn (envT Try.prog C20 mtab0) noLoops Try.f21 (A_iBreakFlow.enc x).1).to (fun q => decX R_iBreakFlow .ret [q.1] q.2) = iBreakFlow_t x.1 x.2.1 x.2.2 := by kernel_rfl

theorem iBreakFlow_m (x : DR A_iBreakFlow.hs) : meanF (envT Try.prog C20 mtab0) noLoops Try.f21 A_iBreakFlow R_iBreakFlow x = (show Option (SumD (R_iBreakFlow.map (·.2))) from iBreakFlow x.1 x.2.1 x.2.2) := meanF_of (iBreakFlow_e x)

theorem iBreakFlow_ok : SpecOk Try.prog 21 (evFn (envT Try.prog C20 mtab0) noLoops Try.f21) := fnL_ok (envT_ok (C20_ok) (mtab0_ok _)) mixedO Try.func21 (by kernel_rfl) (c := bodyOf Try.f21) (by kernel_rfl) (loopFree_ok (by kernel_rfl))

theorem iBreakFlow_told : SpecOk Try.prog 21 (toldO A_iBreakFlow R_iBreakFlow (fun x => iBreakFlow x.1 x.2.1 x.2.2) (C20 21)) := toldO_ok (by kernel_rfl) iBreakFlow_ok (rest_ok (C20_ok) _) iBreakFlow_m

noncomputable def C21 : Tab := tab 21 (toldO A_iBreakFlow R_iBreakFlow (fun x => iBreakFlow x.1 x.2.1 x.2.2) (C20 21)) C20
theorem C21_ok : TabOk Try.prog C21 := tab_ok (iBreakFlow_told) (C20_ok)

def A_wb10Gap : Shp := ⟨[.h, .h], [], [.f .f64, .f .f64]⟩
def R_wb10Gap : List XShp := [(.ret, ⟨[.h], [], [.f .f64]⟩)]

theorem wb10Gap_e (x : DR A_wb10Gap.hs) : (evFn (envT Try.prog C21 mtab0) noLoops Try.f16 (A_wb10Gap.enc x).1).to (fun q => decX R_wb10Gap .ret [q.1] q.2) = wb10Gap_t x.1 x.2 := by kernel_rfl

theorem wb10Gap_m (x : DR A_wb10Gap.hs) : meanF (envT Try.prog C21 mtab0) noLoops Try.f16 A_wb10Gap R_wb10Gap x = some (show SumD (R_wb10Gap.map (·.2)) from wb10Gap x.1 x.2) := @meanF_tot _ _ _ _ _ _ _ (wb10Gap_e x) (show Inhabited (Nat) from inferInstance) (by kernel_rfl)

theorem wb10Gap_ok : SpecOk Try.prog 16 (evFn (envT Try.prog C21 mtab0) noLoops Try.f16) := fnL_ok (envT_ok (C21_ok) (mtab0_ok _)) mixedO Try.func16 (by kernel_rfl) (c := bodyOf Try.f16) (by kernel_rfl) (loopFree_ok (by kernel_rfl))

theorem wb10Gap_told : SpecOk Try.prog 16 (toldT A_wb10Gap R_wb10Gap (fun x => wb10Gap x.1 x.2) (C21 16)) := toldT_ok (by kernel_rfl) wb10Gap_ok (rest_ok (C21_ok) _) wb10Gap_m

noncomputable def C22 : Tab := tab 16 (toldT A_wb10Gap R_wb10Gap (fun x => wb10Gap x.1 x.2) (C21 16)) C21
theorem C22_ok : TabOk Try.prog C22 := tab_ok (wb10Gap_told) (C21_ok)

def A_wFnBreaks : Shp := ⟨[.h, .h], [], [.sl [.i .u8], .sl [.i .u8]]⟩
def R_wFnBreaks : List XShp := [(.ret, ⟨[.h], [], [.b]⟩)]

theorem wFnBreaks_e (x : DR A_wFnBreaks.hs) : (evFn (envT Try.prog C22 mtab0) noLoops Try.f4 (A_wFnBreaks.enc x).1).to (fun q => decX R_wFnBreaks .ret [q.1] q.2) = wFnBreaks_t x.1 x.2 := by kernel_rfl

theorem wFnBreaks_m (x : DR A_wFnBreaks.hs) : meanF (envT Try.prog C22 mtab0) noLoops Try.f4 A_wFnBreaks R_wFnBreaks x = (show Option (SumD (R_wFnBreaks.map (·.2))) from wFnBreaks x.1 x.2) := meanF_of (wFnBreaks_e x)

theorem wFnBreaks_ok : SpecOk Try.prog 4 (evFn (envT Try.prog C22 mtab0) noLoops Try.f4) := fnL_ok (envT_ok (C22_ok) (mtab0_ok _)) mixedO Try.func4 (by kernel_rfl) (c := bodyOf Try.f4) (by kernel_rfl) (loopFree_ok (by kernel_rfl))

theorem wFnBreaks_told : SpecOk Try.prog 4 (toldO A_wFnBreaks R_wFnBreaks (fun x => wFnBreaks x.1 x.2) (C22 4)) := toldO_ok (by kernel_rfl) wFnBreaks_ok (rest_ok (C22_ok) _) wFnBreaks_m

noncomputable def C23 : Tab := tab 4 (toldO A_wFnBreaks R_wFnBreaks (fun x => wFnBreaks x.1 x.2) (C22 4)) C22
theorem C23_ok : TabOk Try.prog C23 := tab_ok (wFnBreaks_told) (C22_ok)

theorem lawFnBreaks_ok : SpecOk Try.prog 4 (evFn (envT Try.prog C22 mtab0) noLoops Try.f4) := wFnBreaks_ok
theorem lawFnBreaks_says (x : DR A_wFnBreaks.hs) (h : (show Option (SumD (R_wFnBreaks.map (·.2))) from wFnBreaks x.1 x.2) = some true) : saysTrue (evFn (envT Try.prog C22 mtab0) noLoops Try.f4 (A_wFnBreaks.enc x).1) = true := law_says (x := x) ((wFnBreaks_m x).trans h)

theorem lawFnBreaks_true (x0 : List Int) (x1 : List Int) (h : wFnBreaks x0 x1 = some true) : saysTrue (evFn (envT Try.prog C22 mtab0) noLoops Try.f4 [.ds [.i .u8] x0, .ds [.i .u8] x1]) = true := (congrArg (fun l => saysTrue (evFn (envT Try.prog C22 mtab0) noLoops Try.f4 l)) (by kernel_rfl : ([.ds [.i .u8] x0, .ds [.i .u8] x1] : List V) = (A_wFnBreaks.enc (x0, x1)).1)).trans (lawFnBreaks_says (x0, x1) h)
end Go.Proofs.Ytpglfnkkmafhbaa
