/- Functions, as plain functions. What the program comes to. -/
import Derived.Test.YtpglfnkkmafhbaaGh1d
import Derived.Test.YtpglfnkkmafhbaaDc
import Derived.Test.YtpglfnkkmafhbaaNv
import Derived.KernelRfl
set_option linter.unusedVariables false
set_option linter.unusedSimpArgs false
set_option linter.constructorNameAsVariable false
namespace Go.Proofs.Ytpglfnkkmafhbaa
open Go.RowKit
set_option maxRecDepth 100000
theorem mixedO : (Try.prog).follows .mixedOrders = true := by kernel_rfl
noncomputable def C0 : Tab := tab 113 (spFB .f32 (isFin .f32)) tab0
theorem C0_ok : TabOk Try.prog C0 := tab_ok (spFB_ok Try.func113 (by kernel_rfl) (fun hx => l01Finite_c hx)) (tab0_ok _)

noncomputable def C1 : Tab := tab 65 (spFB .f32 (isFin .f32)) C0
theorem C1_ok : TabOk Try.prog C1 := tab_ok (spFB_ok Try.func65 (by kernel_rfl) (fun hx => IsFinite_c hx)) (C0_ok)

noncomputable def C2 : Tab := tab 111 (spFB .f32 isLen) C1
theorem C2_ok : TabOk Try.prog C2 := tab_ok (spFB_ok Try.func111 (by kernel_rfl) (fun hx => l02Above_c hx)) (C1_ok)

noncomputable def C3 : Tab := tab 70 (spFB .f32 isLen) C2
theorem C3_ok : TabOk Try.prog C3 := tab_ok (spFB_ok Try.func70 (by kernel_rfl) (fun hx => aLength_c hx)) (C2_ok)

noncomputable def C4 : Tab := tab 83 (spFB .f32 isMass) C3
theorem C4_ok : TabOk Try.prog C4 := tab_ok (spFB_ok Try.func83 (by kernel_rfl) (fun hx => l02Least_c hx)) (C3_ok)

noncomputable def C5 : Tab := tab 86 (spFB .f32 isMass) C4
theorem C5_ok : TabOk Try.prog C5 := tab_ok (spFB_ok Try.func86 (by kernel_rfl) (fun hx => aMass_c hx)) (C4_ok)

noncomputable def C6 : Tab := tab 114 (spFF .f32 .f32 froot) C5
theorem C6_ok : TabOk Try.prog C6 := tab_ok (spFF_ok Try.func114 (by kernel_rfl) (fun hx => l01Sqrt_c hx)) (C5_ok)

noncomputable def C7 : Tab := tab 87 (spFF .f32 .f32 froot) C6
theorem C7_ok : TabOk Try.prog C7 := tab_ok (spFF_ok Try.func87 (by kernel_rfl) (fun hx => RootNumber_c hx)) (C6_ok)

noncomputable def C8 : Tab := tab 76 (spFFtoB .f32 natEq) C7
theorem C8_ok : TabOk Try.prog C8 := tab_ok (spFFtoB_ok Try.func76 (by kernel_rfl) (fun hx hy => l01Same_c hx hy)) (C7_ok)

noncomputable def C9 : Tab := tab 106 (spFFtoB .f32 natEq) C8
theorem C9_ok : TabOk Try.prog C9 := tab_ok (spFFtoB_ok Try.func106 (by kernel_rfl) (fun hx hy => SameNumber_c hx hy)) (C8_ok)

noncomputable def C10 : Tab := tab 100 (spFB .f64 (isFin .f64)) C9
theorem C10_ok : TabOk Try.prog C10 := tab_ok (spFB_ok Try.func100 (by kernel_rfl) (fun hx => finite_c hx)) (C9_ok)

noncomputable def C11 : Tab := tab 124 (spFB .f64 (isN .f64)) C10
theorem C11_ok : TabOk Try.prog C11 := tab_ok (spFB_ok Try.func124 (by kernel_rfl) (fun hx => isNaN_c hx)) (C10_ok)

noncomputable def C12 : Tab := tab 123 (spFF .f64 .f64 (fabs .f64)) C11
theorem C12_ok : TabOk Try.prog C12 := tab_ok (spFF_ok Try.func123 (by kernel_rfl) (fun hx => abs_c hx)) (C11_ok)

noncomputable def C13 : Tab := tab 116 (spFF .f64 .f64 (fsqrt .f64)) C12
theorem C13_ok : TabOk Try.prog C13 := tab_ok (spFF_ok Try.func116 (by kernel_rfl) (fun hx => Sqrt_c hx)) (C12_ok)

noncomputable def C14 : Tab := tab 131 (spFrom) C13
theorem C14_ok : TabOk Try.prog C14 := tab_ok ((spFrom_ok (fun n w => ext_from64 n w))) (C13_ok)

def A_wb10Long : Shp := ⟨[.h, .h], [], [.sl [.i .u8], .sl [.i .u8]]⟩
def R_wb10Long : List XShp := [(.ret, ⟨[.h], [], [.b]⟩)]

theorem wb10Long_e (x : DR A_wb10Long.hs) : (evFn (envT Try.prog C14 mtab0) noLoops Try.f9 (A_wb10Long.enc x).1).to (fun q => decX R_wb10Long .ret [q.1] q.2) = wb10Long_t x.1 x.2 := by kernel_rfl

theorem wb10Long_m (x : DR A_wb10Long.hs) : meanF (envT Try.prog C14 mtab0) noLoops Try.f9 A_wb10Long R_wb10Long x = some (show SumD (R_wb10Long.map (·.2)) from wb10Long x.1 x.2) := @meanF_tot _ _ _ _ _ _ _ (wb10Long_e x) (show Inhabited (Bool) from inferInstance) (by kernel_rfl)

theorem wb10Long_ok : SpecOk Try.prog 9 (evFn (envT Try.prog C14 mtab0) noLoops Try.f9) := fnL_ok (envT_ok (C14_ok) (mtab0_ok _)) mixedO Try.func9 (by kernel_rfl) (c := bodyOf Try.f9) (by kernel_rfl) (loopFree_ok (by kernel_rfl))

theorem wb10Long_told : SpecOk Try.prog 9 (toldT A_wb10Long R_wb10Long (fun x => wb10Long x.1 x.2) (C14 9)) := toldT_ok (by kernel_rfl) wb10Long_ok (rest_ok (C14_ok) _) wb10Long_m

noncomputable def C15 : Tab := tab 9 (toldT A_wb10Long R_wb10Long (fun x => wb10Long x.1 x.2) (C14 9)) C14
theorem C15_ok : TabOk Try.prog C15 := tab_ok (wb10Long_told) (C14_ok)

def A_sl00From : Shp := ⟨[.h], [], [.sl [.i .u8]]⟩
def R_sl00From : List XShp := [(.ret, ⟨[.ref 0 0], [.cells [.h, .h, .h] false], [.sl [.i .u8], .i .i64, .i .u64]⟩)]

theorem sl00From_e (x : DR A_sl00From.hs) : (evFn (envT Try.prog C15 mtab0) noLoops Try.f63 (A_sl00From.enc x).1).to (fun q => decX R_sl00From .ret [q.1] q.2) = sl00From_t x := by kernel_rfl

theorem sl00From_m (x : DR A_sl00From.hs) : meanF (envT Try.prog C15 mtab0) noLoops Try.f63 A_sl00From R_sl00From x = some (show SumD (R_sl00From.map (·.2)) from sl00From x) := @meanF_tot _ _ _ _ _ _ _ (sl00From_e x) (show Inhabited (List Int × Int × Int) from inferInstance) (by kernel_rfl)

theorem sl00From_ok : SpecOk Try.prog 63 (evFn (envT Try.prog C15 mtab0) noLoops Try.f63) := fnL_ok (envT_ok (C15_ok) (mtab0_ok _)) mixedO Try.func63 (by kernel_rfl) (c := bodyOf Try.f63) (by kernel_rfl) (loopFree_ok (by kernel_rfl))

theorem sl00From_told : SpecOk Try.prog 63 (toldT A_sl00From R_sl00From (fun x => sl00From x) (C15 63)) := toldT_ok (by kernel_rfl) sl00From_ok (rest_ok (C15_ok) _) sl00From_m

noncomputable def C16 : Tab := tab 63 (toldT A_sl00From R_sl00From (fun x => sl00From x) (C15 63)) C15
theorem C16_ok : TabOk Try.prog C16 := tab_ok (sl00From_told) (C15_ok)

def A_sl00Src_next : Shp := ⟨[.ref 0 0], [.cells [.h, .h, .h] false], [.sl [.i .u8], .i .i64, .i .u64]⟩
def R_sl00Src_next : List XShp := [(.ret, ⟨[.h], [.cells [.h, .h, .h] false], [.i .i64, .sl [.i .u8], .i .i64, .i .u64]⟩)]

theorem sl00Src_next_e (x : DR A_sl00Src_next.hs) : (evFnM (envW Try.prog C16 mtab0 1) noLoops Try.f99 (A_sl00Src_next.enc x).1 ((A_sl00Src_next.enc x).2.map (·.blk))).to (decM R_sl00Src_next) = sl00Src_next_t x.1 x.2.1 x.2.2 := by kernel_rfl

theorem sl00Src_next_m (x : DR A_sl00Src_next.hs) : meanM (envW Try.prog C16 mtab0 1) noLoops Try.f99 A_sl00Src_next R_sl00Src_next x = (show Option (SumD (R_sl00Src_next.map (·.2))) from sl00Src_next x.1 x.2.1 x.2.2) := meanM_of (sl00Src_next_e x)

theorem sl00Src_next_ok : MSpecOk Try.prog 99 (evFnM (envW Try.prog C16 mtab0 1) noLoops Try.f99) := fnM_ok (envW_ok (C16_ok) (mtab0_ok _)) rfl mixedO Try.func99 (by kernel_rfl) (c := bodyOf Try.f99) (by kernel_rfl) (loopFree_ok (by kernel_rfl))

theorem sl00Src_next_told : MSpecOk Try.prog 99 (toldMO A_sl00Src_next R_sl00Src_next (fun x => sl00Src_next x.1 x.2.1 x.2.2) (mrest mtab0 99)) := toldMO_ok (by kernel_rfl) sl00Src_next_ok (mrest_ok (mtab0_ok _) _) sl00Src_next_m

noncomputable def M17 : MTab := mtab 99 (toldMO A_sl00Src_next R_sl00Src_next (fun x => sl00Src_next x.1 x.2.1 x.2.2) (mrest mtab0 99)) mtab0
theorem M17_ok : MTabOk Try.prog M17 := mtab_ok (sl00Src_next_told) (mtab0_ok _)

def A_sl00Src_pick : Shp := ⟨[.ref 0 0, .h], [.cells [.h, .h, .h] false], [.i .i64, .sl [.i .u8], .i .i64, .i .u64]⟩
def R_sl00Src_pick : List XShp := [(.ret, ⟨[.h], [.cells [.h, .h, .h] false], [.i .i64, .sl [.i .u8], .i .i64, .i .u64]⟩)]

theorem sl00Src_pick_e (x : DR A_sl00Src_pick.hs) : (evFnM (envW Try.prog C16 M17 1) noLoops Try.f64 (A_sl00Src_pick.enc x).1 ((A_sl00Src_pick.enc x).2.map (·.blk))).to (decM R_sl00Src_pick) = sl00Src_pick_t x.1 x.2.1 x.2.2.1 x.2.2.2 := by kernel_rfl

theorem sl00Src_pick_m (x : DR A_sl00Src_pick.hs) : meanM (envW Try.prog C16 M17 1) noLoops Try.f64 A_sl00Src_pick R_sl00Src_pick x = (show Option (SumD (R_sl00Src_pick.map (·.2))) from sl00Src_pick x.1 x.2.1 x.2.2.1 x.2.2.2) := meanM_of (sl00Src_pick_e x)

theorem sl00Src_pick_ok : MSpecOk Try.prog 64 (evFnM (envW Try.prog C16 M17 1) noLoops Try.f64) := fnM_ok (envW_ok (C16_ok) (M17_ok)) rfl mixedO Try.func64 (by kernel_rfl) (c := bodyOf Try.f64) (by kernel_rfl) (loopFree_ok (by kernel_rfl))

theorem sl00Src_pick_told : MSpecOk Try.prog 64 (toldMO A_sl00Src_pick R_sl00Src_pick (fun x => sl00Src_pick x.1 x.2.1 x.2.2.1 x.2.2.2) (mrest M17 64)) := toldMO_ok (by kernel_rfl) sl00Src_pick_ok (mrest_ok (M17_ok) _) sl00Src_pick_m

noncomputable def M18 : MTab := mtab 64 (toldMO A_sl00Src_pick R_sl00Src_pick (fun x => sl00Src_pick x.1 x.2.1 x.2.2.1 x.2.2.2) (mrest M17 64)) M17
theorem M18_ok : MTabOk Try.prog M18 := mtab_ok (sl00Src_pick_told) (M17_ok)

def H_sB10Lake_l6 : List XShp := [(.normal, ⟨[.ref 0 0, .ref 1 0, .ref 2 0, .h, .h, .h], [.cells [.nils, .nils] false, .cells [.h, .h, .h] false, .cells [.nils, .nils] false], [.f .f32, .f .f32, .i .i64, .sl [.i .u8], .i .i64, .i .u64]⟩), (.normal, ⟨[.ref 0 0, .ref 1 0, .ref 2 0, .h, .h, .h], [.cells [.nils, .nils] false, .cells [.h, .h, .h] false, .cells [.nils, .slw 3 1] false, .arr [.f .f32] false], [.f .f32, .f .f32, .i .i64, .sl [.i .u8], .i .i64, .i .u64, .sl [.f .f32]]⟩), (.normal, ⟨[.ref 0 0, .ref 1 0, .ref 2 0, .h, .h, .h], [.cells [.nils, .nils] false, .cells [.h, .h, .h] false, .cells [.slw 3 1, .nils] false, .arr [.f .f32] false], [.f .f32, .f .f32, .i .i64, .sl [.i .u8], .i .i64, .i .u64, .sl [.f .f32]]⟩), (.normal, ⟨[.ref 0 0, .ref 1 0, .ref 2 0, .h, .h, .h], [.cells [.nils, .nils] false, .cells [.h, .h, .h] false, .cells [.slw 3 1, .slw 4 1] false, .arr [.f .f32] false, .arr [.f .f32] false], [.f .f32, .f .f32, .i .i64, .sl [.i .u8], .i .i64, .i .u64, .sl [.f .f32], .sl [.f .f32]]⟩)]
def X_sB10Lake_l6 : List XShp := [(.exit 0, ⟨[.ref 0 0, .undef, .ref 1 0, .undef, .undef, .undef], [.cells [.nils, .nils] false, .cells [.nils, .nils] false], []⟩), (.exit 0, ⟨[.ref 0 0, .undef, .ref 1 0, .undef, .undef, .undef], [.cells [.nils, .nils] false, .cells [.nils, .slw 2 1] false, .arr [.f .f32] false], [.sl [.f .f32]]⟩), (.exit 0, ⟨[.ref 0 0, .undef, .ref 1 0, .undef, .undef, .undef], [.cells [.nils, .nils] false, .cells [.slw 2 1, .nils] false, .arr [.f .f32] false], [.sl [.f .f32]]⟩), (.exit 0, ⟨[.ref 0 0, .undef, .ref 1 0, .undef, .undef, .undef], [.cells [.nils, .nils] false, .cells [.slw 2 1, .slw 3 1] false, .arr [.f .f32] false, .arr [.f .f32] false], [.sl [.f .f32], .sl [.f .f32]]⟩)]

noncomputable def L_sB10Lake_l6 : Loops := (⟨48, lvT [(6, [2, 3, 4, 5, 6, 7])], mdT [(6, .exit 0, [], [3, 5, 6, 7])], fun k vs bs => .bad⟩ : Loops)

theorem sB10Lake_l6_e0 (y : DR (⟨[.ref 0 0, .ref 1 0, .ref 2 0, .h, .h, .h], [.cells [.nils, .nils] false, .cells [.h, .h, .h] false, .cells [.nils, .nils] false], [.f .f32, .f .f32, .i .i64, .sl [.i .u8], .i .i64, .i .u64]⟩ : Shp).hs) : (loopStep (envT Try.prog C16 M18) L_sB10Lake_l6 6 (loopC (bodyOf Try.f10) 6) ((⟨[.ref 0 0, .ref 1 0, .ref 2 0, .h, .h, .h], [.cells [.nils, .nils] false, .cells [.h, .h, .h] false, .cells [.nils, .nils] false], [.f .f32, .f .f32, .i .i64, .sl [.i .u8], .i .i64, .i .u64]⟩ : Shp).enc y).1 ((⟨[.ref 0 0, .ref 1 0, .ref 2 0, .h, .h, .h], [.cells [.nils, .nils] false, .cells [.h, .h, .h] false, .cells [.nils, .nils] false], [.f .f32, .f .f32, .i .i64, .sl [.i .u8], .i .i64, .i .u64]⟩ : Shp).enc y).2).to (stepH H_sB10Lake_l6 X_sB10Lake_l6) = sB10Lake_l6_t0 y.1 y.2.1 y.2.2.1 y.2.2.2.1 y.2.2.2.2.1 y.2.2.2.2.2 := by kernel_rfl

theorem sB10Lake_l6_e1 (y : DR (⟨[.ref 0 0, .ref 1 0, .ref 2 0, .h, .h, .h], [.cells [.nils, .nils] false, .cells [.h, .h, .h] false, .cells [.nils, .slw 3 1] false, .arr [.f .f32] false], [.f .f32, .f .f32, .i .i64, .sl [.i .u8], .i .i64, .i .u64, .sl [.f .f32]]⟩ : Shp).hs) : (loopStep (envT Try.prog C16 M18) L_sB10Lake_l6 6 (loopC (bodyOf Try.f10) 6) ((⟨[.ref 0 0, .ref 1 0, .ref 2 0, .h, .h, .h], [.cells [.nils, .nils] false, .cells [.h, .h, .h] false, .cells [.nils, .slw 3 1] false, .arr [.f .f32] false], [.f .f32, .f .f32, .i .i64, .sl [.i .u8], .i .i64, .i .u64, .sl [.f .f32]]⟩ : Shp).enc y).1 ((⟨[.ref 0 0, .ref 1 0, .ref 2 0, .h, .h, .h], [.cells [.nils, .nils] false, .cells [.h, .h, .h] false, .cells [.nils, .slw 3 1] false, .arr [.f .f32] false], [.f .f32, .f .f32, .i .i64, .sl [.i .u8], .i .i64, .i .u64, .sl [.f .f32]]⟩ : Shp).enc y).2).to (stepH H_sB10Lake_l6 X_sB10Lake_l6) = sB10Lake_l6_t1 y.1 y.2.1 y.2.2.1 y.2.2.2.1 y.2.2.2.2.1 y.2.2.2.2.2.1 y.2.2.2.2.2.2 := by kernel_rfl

theorem sB10Lake_l6_e2 (y : DR (⟨[.ref 0 0, .ref 1 0, .ref 2 0, .h, .h, .h], [.cells [.nils, .nils] false, .cells [.h, .h, .h] false, .cells [.slw 3 1, .nils] false, .arr [.f .f32] false], [.f .f32, .f .f32, .i .i64, .sl [.i .u8], .i .i64, .i .u64, .sl [.f .f32]]⟩ : Shp).hs) : (loopStep (envT Try.prog C16 M18) L_sB10Lake_l6 6 (loopC (bodyOf Try.f10) 6) ((⟨[.ref 0 0, .ref 1 0, .ref 2 0, .h, .h, .h], [.cells [.nils, .nils] false, .cells [.h, .h, .h] false, .cells [.slw 3 1, .nils] false, .arr [.f .f32] false], [.f .f32, .f .f32, .i .i64, .sl [.i .u8], .i .i64, .i .u64, .sl [.f .f32]]⟩ : Shp).enc y).1 ((⟨[.ref 0 0, .ref 1 0, .ref 2 0, .h, .h, .h], [.cells [.nils, .nils] false, .cells [.h, .h, .h] false, .cells [.slw 3 1, .nils] false, .arr [.f .f32] false], [.f .f32, .f .f32, .i .i64, .sl [.i .u8], .i .i64, .i .u64, .sl [.f .f32]]⟩ : Shp).enc y).2).to (stepH H_sB10Lake_l6 X_sB10Lake_l6) = sB10Lake_l6_t2 y.1 y.2.1 y.2.2.1 y.2.2.2.1 y.2.2.2.2.1 y.2.2.2.2.2.1 y.2.2.2.2.2.2 := by kernel_rfl

theorem sB10Lake_l6_e3 (y : DR (⟨[.ref 0 0, .ref 1 0, .ref 2 0, .h, .h, .h], [.cells [.nils, .nils] false, .cells [.h, .h, .h] false, .cells [.slw 3 1, .slw 4 1] false, .arr [.f .f32] false, .arr [.f .f32] false], [.f .f32, .f .f32, .i .i64, .sl [.i .u8], .i .i64, .i .u64, .sl [.f .f32], .sl [.f .f32]]⟩ : Shp).hs) : (loopStep (envT Try.prog C16 M18) L_sB10Lake_l6 6 (loopC (bodyOf Try.f10) 6) ((⟨[.ref 0 0, .ref 1 0, .ref 2 0, .h, .h, .h], [.cells [.nils, .nils] false, .cells [.h, .h, .h] false, .cells [.slw 3 1, .slw 4 1] false, .arr [.f .f32] false, .arr [.f .f32] false], [.f .f32, .f .f32, .i .i64, .sl [.i .u8], .i .i64, .i .u64, .sl [.f .f32], .sl [.f .f32]]⟩ : Shp).enc y).1 ((⟨[.ref 0 0, .ref 1 0, .ref 2 0, .h, .h, .h], [.cells [.nils, .nils] false, .cells [.h, .h, .h] false, .cells [.slw 3 1, .slw 4 1] false, .arr [.f .f32] false, .arr [.f .f32] false], [.f .f32, .f .f32, .i .i64, .sl [.i .u8], .i .i64, .i .u64, .sl [.f .f32], .sl [.f .f32]]⟩ : Shp).enc y).2).to (stepH H_sB10Lake_l6 X_sB10Lake_l6) = sB10Lake_l6_t3 y.1 y.2.1 y.2.2.1 y.2.2.2.1 y.2.2.2.2.1 y.2.2.2.2.2.1 y.2.2.2.2.2.2.1 y.2.2.2.2.2.2.2 := by kernel_rfl

theorem sB10Lake_l6_o : ∀ x : (Nat × Nat × Int × List Int × Int × Int) ⊕ (Nat × Nat × Int × List Int × Int × Int × List Nat) ⊕ (Nat × Nat × Int × List Int × Int × Int × List Nat) ⊕ (Nat × Nat × Int × List Int × Int × Int × List Nat × List Nat), meanH (envT Try.prog C16 M18) L_sB10Lake_l6 6 (loopC (bodyOf Try.f10) 6) H_sB10Lake_l6 X_sB10Lake_l6 x = sB10Lake_l6_s x
  | (.inl y) => meanH_of (sB10Lake_l6_e0 y)
  | (.inr (.inl y)) => meanH_of (sB10Lake_l6_e1 y)
  | (.inr (.inr (.inl y))) => meanH_of (sB10Lake_l6_e2 y)
  | (.inr (.inr (.inr y))) => meanH_of (sB10Lake_l6_e3 y)

theorem sB10Lake_l6_r (x : SumD (H_sB10Lake_l6.map (fun p : XShp => p.2))) : (show Option (SumD (X_sB10Lake_l6.map (fun p : XShp => p.2))) from sB10Lake_l6 x) = runL (meanH (envT Try.prog C16 M18) L_sB10Lake_l6 6 (loopC (bodyOf Try.f10) 6) H_sB10Lake_l6 X_sB10Lake_l6) x := runH_of (H := H_sB10Lake_l6) (X := X_sB10Lake_l6) (g := sB10Lake_l6_s) sB10Lake_l6_o x

theorem sB10Lake_l6_k (L : Loops) (hn : L_sB10Lake_l6.n = L.n) (hlv : L_sB10Lake_l6.lv 6 = L.lv 6) (hL : ∀ vs bs, L.loop 6 vs bs = toldH H_sB10Lake_l6 X_sB10Lake_l6 (fun x => sB10Lake_l6 x) vs bs) : LOk Try.prog (envT Try.prog C16 M18) L 6 (loopC (bodyOf Try.f10) 6) := toldH_ok (L1 := L_sB10Lake_l6) (envT_ok (C16_ok) (M18_ok)) mixedO hn hlv (loopFree_ok (by kernel_rfl)) sB10Lake_l6_r hL

def A_sB10Lake : Shp := ⟨[.h], [], [.sl [.i .u8]]⟩
def R_sB10Lake : List XShp := [(.ret, ⟨[.agg [.nils, .nils]], [], []⟩), (.ret, ⟨[.agg [.nils, .slw 0 1]], [.arr [.f .f32] false], [.sl [.f .f32]]⟩), (.ret, ⟨[.agg [.slw 0 1, .nils]], [.arr [.f .f32] false], [.sl [.f .f32]]⟩), (.ret, ⟨[.agg [.slw 0 1, .slw 1 1]], [.arr [.f .f32] false, .arr [.f .f32] false], [.sl [.f .f32], .sl [.f .f32]]⟩)]

noncomputable def L_sB10Lake : Loops := (⟨48, lvT [(6, [2, 3, 4, 5, 6, 7])], mdT [(6, .exit 0, [], [3, 5, 6, 7])], fun k vs bs => bif Nat.beq k 6 then toldH H_sB10Lake_l6 X_sB10Lake_l6 (fun x => sB10Lake_l6 x) vs bs else .bad⟩ : Loops)

theorem sB10Lake_e (x : DR A_sB10Lake.hs) : (evFn (envT Try.prog C16 M18) L_sB10Lake Try.f10 (A_sB10Lake.enc x).1).to (fun q => decX R_sB10Lake .ret [q.1] q.2) = sB10Lake_t x := by kernel_rfl

theorem sB10Lake_m (x : DR A_sB10Lake.hs) : meanF (envT Try.prog C16 M18) L_sB10Lake Try.f10 A_sB10Lake R_sB10Lake x = (show Option (SumD (R_sB10Lake.map (·.2))) from sB10Lake x) := meanF_of (sB10Lake_e x)

theorem sB10Lake_ok : SpecOk Try.prog 10 (evFn (envT Try.prog C16 M18) L_sB10Lake Try.f10) := fnL_ok (envT_ok (C16_ok) (M18_ok)) mixedO Try.func10 (by kernel_rfl) (c := bodyOf Try.f10) (by kernel_rfl) (loopsL (l := [(6, loopC (bodyOf Try.f10) 6)]) (by kernel_rfl) (lk_cons (sB10Lake_l6_k _ rfl rfl (fun _ _ => rfl)) lk_nil))

theorem sB10Lake_told : SpecOk Try.prog 10 (toldO A_sB10Lake R_sB10Lake (fun x => sB10Lake x) (C16 10)) := toldO_ok (by kernel_rfl) sB10Lake_ok (rest_ok (C16_ok) _) sB10Lake_m

noncomputable def C19 : Tab := tab 10 (toldO A_sB10Lake R_sB10Lake (fun x => sB10Lake x) (C16 10)) C16
theorem C19_ok : TabOk Try.prog C19 := tab_ok (sB10Lake_told) (C16_ok)

def A_wb10At : Shp := ⟨[.h, .h, .h], [], [.sl [.i .u8], .i .i64, .i .i64]⟩
def R_wb10At : List XShp := [(.ret, ⟨[.h], [], [.i .i64]⟩)]

theorem wb10At_e (x : DR A_wb10At.hs) : (evFn (envT Try.prog C19 M18) noLoops Try.f11 (A_wb10At.enc x).1).to (fun q => decX R_wb10At .ret [q.1] q.2) = wb10At_t x.1 x.2.1 x.2.2 := by kernel_rfl

theorem wb10At_m (x : DR A_wb10At.hs) : meanF (envT Try.prog C19 M18) noLoops Try.f11 A_wb10At R_wb10At x = (show Option (SumD (R_wb10At.map (·.2))) from wb10At x.1 x.2.1 x.2.2) := meanF_of (wb10At_e x)

theorem wb10At_ok : SpecOk Try.prog 11 (evFn (envT Try.prog C19 M18) noLoops Try.f11) := fnL_ok (envT_ok (C19_ok) (M18_ok)) mixedO Try.func11 (by kernel_rfl) (c := bodyOf Try.f11) (by kernel_rfl) (loopFree_ok (by kernel_rfl))

theorem wb10At_told : SpecOk Try.prog 11 (toldO A_wb10At R_wb10At (fun x => wb10At x.1 x.2.1 x.2.2) (C19 11)) := toldO_ok (by kernel_rfl) wb10At_ok (rest_ok (C19_ok) _) wb10At_m

noncomputable def C20 : Tab := tab 11 (toldO A_wb10At R_wb10At (fun x => wb10At x.1 x.2.1 x.2.2) (C19 11)) C19
theorem C20_ok : TabOk Try.prog C20 := tab_ok (wb10At_told) (C19_ok)

def A_iwithin : Shp := ⟨[.h, .h, .h], [], [.i .i64, .i .i64, .i .i64]⟩
def R_iwithin : List XShp := [(.ret, ⟨[.h], [], [.b]⟩)]

theorem iwithin_e (x : DR A_iwithin.hs) : (evFn (envT Try.prog C20 M18) noLoops Try.f73 (A_iwithin.enc x).1).to (fun q => decX R_iwithin .ret [q.1] q.2) = iwithin_t x.1 x.2.1 x.2.2 := by kernel_rfl

theorem iwithin_m (x : DR A_iwithin.hs) : meanF (envT Try.prog C20 M18) noLoops Try.f73 A_iwithin R_iwithin x = some (show SumD (R_iwithin.map (·.2)) from iwithin x.1 x.2.1 x.2.2) := @meanF_tot _ _ _ _ _ _ _ (iwithin_e x) (show Inhabited (Bool) from inferInstance) (by kernel_rfl)

theorem iwithin_ok : SpecOk Try.prog 73 (evFn (envT Try.prog C20 M18) noLoops Try.f73) := fnL_ok (envT_ok (C20_ok) (M18_ok)) mixedO Try.func73 (by kernel_rfl) (c := bodyOf Try.f73) (by kernel_rfl) (loopFree_ok (by kernel_rfl))

theorem iwithin_told : SpecOk Try.prog 73 (toldT A_iwithin R_iwithin (fun x => iwithin x.1 x.2.1 x.2.2) (C20 73)) := toldT_ok (by kernel_rfl) iwithin_ok (rest_ok (C20_ok) _) iwithin_m

noncomputable def C21 : Tab := tab 73 (toldT A_iwithin R_iwithin (fun x => iwithin x.1 x.2.1 x.2.2) (C20 73)) C20
theorem C21_ok : TabOk Try.prog C21 := tab_ok (iwithin_told) (C20_ok)

def A_iareMasses_1 : Shp := ⟨[.h], [], [.f .f32]⟩
def R_iareMasses_1 : List XShp := [(.ret, ⟨[.h], [], [.b]⟩)]

theorem iareMasses_1_e (x : DR A_iareMasses_1.hs) : (evFn (envT Try.prog C21 M18) noLoops Try.f104 (A_iareMasses_1.enc x).1).to (fun q => decX R_iareMasses_1 .ret [q.1] q.2) = iareMasses_1_t x := by kernel_rfl

theorem iareMasses_1_m (x : DR A_iareMasses_1.hs) : meanF (envT Try.prog C21 M18) noLoops Try.f104 A_iareMasses_1 R_iareMasses_1 x = some (show SumD (R_iareMasses_1.map (·.2)) from iareMasses_1 x) := @meanF_tot _ _ _ _ _ _ _ (iareMasses_1_e x) (show Inhabited (Bool) from inferInstance) (by kernel_rfl)

theorem iareMasses_1_ok : SpecOk Try.prog 104 (evFn (envT Try.prog C21 M18) noLoops Try.f104) := fnL_ok (envT_ok (C21_ok) (M18_ok)) mixedO Try.func104 (by kernel_rfl) (c := bodyOf Try.f104) (by kernel_rfl) (loopFree_ok (by kernel_rfl))

theorem iareMasses_1_told : SpecOk Try.prog 104 (toldT A_iareMasses_1 R_iareMasses_1 (fun x => iareMasses_1 x) (C21 104)) := toldT_ok (by kernel_rfl) iareMasses_1_ok (rest_ok (C21_ok) _) iareMasses_1_m

noncomputable def C22 : Tab := tab 104 (toldT A_iareMasses_1 R_iareMasses_1 (fun x => iareMasses_1 x) (C21 104)) C21
theorem C22_ok : TabOk Try.prog C22 := tab_ok (iareMasses_1_told) (C21_ok)

def S_lIndexFunc_iareMasses_1_l2 : Shp := ⟨[.h, .fn 104 [], .undef, .h, .h], [], [.sl [.f .f32], .i .i64, .i .i64]⟩
def X_lIndexFunc_iareMasses_1_l2 : List XShp := [(.ret, ⟨[.undef, .undef, .h, .undef, .undef], [], [.i .i64]⟩), (.exit 0, ⟨[.undef, .undef, .undef, .undef, .undef], [], []⟩)]

noncomputable def L_lIndexFunc_iareMasses_1_l2 : Loops := (⟨19, lvT [(2, [0, 1, 4, 7, 8])], mdT [(2, .normal, [], [4]), (2, .exit 0, [], [0, 1, 4, 7, 8]), (2, .ret, [], [0, 1, 7, 8])], fun k vs bs => .bad⟩ : Loops)

theorem lIndexFunc_iareMasses_1_l2_e (y0 : List Nat) (y1 : Int) (s : Int) : (loopStep (envT Try.prog C22 M18) L_lIndexFunc_iareMasses_1_l2 2 (loopC (bodyOf Try.f101) 2) (S_lIndexFunc_iareMasses_1_l2.enc (y0, y1, s)).1 (S_lIndexFunc_iareMasses_1_l2.enc (y0, y1, s)).2).to (stepD S_lIndexFunc_iareMasses_1_l2 X_lIndexFunc_iareMasses_1_l2) = (lIndexFunc_iareMasses_1_l2_t y0 y1 s).map (Sum.map (fun s : Int => (show DR S_lIndexFunc_iareMasses_1_l2.hs from (y0, y1, s))) id) := by kernel_rfl

theorem lIndexFunc_iareMasses_1_l2_r (x : DR S_lIndexFunc_iareMasses_1_l2.hs) : (lIndexFunc_iareMasses_1_l2 x.1 x.2.1 x.2.2 : Option (SumD (X_lIndexFunc_iareMasses_1_l2.map (·.2)))) = runL (meanS (envT Try.prog C22 M18) L_lIndexFunc_iareMasses_1_l2 2 (loopC (bodyOf Try.f101) 2) S_lIndexFunc_iareMasses_1_l2 X_lIndexFunc_iareMasses_1_l2) x := run_of (fun s : Int => (show DR S_lIndexFunc_iareMasses_1_l2.hs from (x.1, x.2.1, s))) (lIndexFunc_iareMasses_1_l2_e (x.1) (x.2.1)) x.2.2

theorem lIndexFunc_iareMasses_1_l2_k (L : Loops) (hn : L_lIndexFunc_iareMasses_1_l2.n = L.n) (hlv : L_lIndexFunc_iareMasses_1_l2.lv 2 = L.lv 2) (hL : ∀ vs bs, L.loop 2 vs bs = toldL S_lIndexFunc_iareMasses_1_l2 X_lIndexFunc_iareMasses_1_l2 (fun x => lIndexFunc_iareMasses_1_l2 x.1 x.2.1 x.2.2) vs bs) : LOk Try.prog (envT Try.prog C22 M18) L 2 (loopC (bodyOf Try.f101) 2) := toldL_ok (L1 := L_lIndexFunc_iareMasses_1_l2) (envT_ok (C22_ok) (M18_ok)) mixedO hn hlv (loopFree_ok (by kernel_rfl)) lIndexFunc_iareMasses_1_l2_r hL

def A_lIndexFunc_iareMasses_1 : Shp := ⟨[.h, .fn 104 []], [], [.sl [.f .f32]]⟩
def R_lIndexFunc_iareMasses_1 : List XShp := [(.ret, ⟨[.h], [], [.i .i64]⟩)]

noncomputable def L_lIndexFunc_iareMasses_1 : Loops := (⟨19, lvT [(2, [0, 1, 4, 7, 8])], mdT [(2, .normal, [], [4]), (2, .exit 0, [], [0, 1, 4, 7, 8]), (2, .ret, [], [0, 1, 7, 8])], fun k vs bs => bif Nat.beq k 2 then toldL S_lIndexFunc_iareMasses_1_l2 X_lIndexFunc_iareMasses_1_l2 (fun x => lIndexFunc_iareMasses_1_l2 x.1 x.2.1 x.2.2) vs bs else .bad⟩ : Loops)

theorem lIndexFunc_iareMasses_1_e (x : DR A_lIndexFunc_iareMasses_1.hs) : (evFn (envT Try.prog C22 M18) L_lIndexFunc_iareMasses_1 Try.f101 (A_lIndexFunc_iareMasses_1.enc x).1).to (fun q => decX R_lIndexFunc_iareMasses_1 .ret [q.1] q.2) = lIndexFunc_iareMasses_1_t x := by kernel_rfl

theorem lIndexFunc_iareMasses_1_m (x : DR A_lIndexFunc_iareMasses_1.hs) : meanF (envT Try.prog C22 M18) L_lIndexFunc_iareMasses_1 Try.f101 A_lIndexFunc_iareMasses_1 R_lIndexFunc_iareMasses_1 x = (show Option (SumD (R_lIndexFunc_iareMasses_1.map (·.2))) from lIndexFunc_iareMasses_1 x) := meanF_of (lIndexFunc_iareMasses_1_e x)

theorem lIndexFunc_iareMasses_1_ok : SpecOk Try.prog 101 (evFn (envT Try.prog C22 M18) L_lIndexFunc_iareMasses_1 Try.f101) := fnL_ok (envT_ok (C22_ok) (M18_ok)) mixedO Try.func101 (by kernel_rfl) (c := bodyOf Try.f101) (by kernel_rfl) (loopsL (l := [(2, loopC (bodyOf Try.f101) 2)]) (by kernel_rfl) (lk_cons (lIndexFunc_iareMasses_1_l2_k _ rfl rfl (fun _ _ => rfl)) lk_nil))

theorem lIndexFunc_iareMasses_1_told : SpecOk Try.prog 101 (toldO A_lIndexFunc_iareMasses_1 R_lIndexFunc_iareMasses_1 (fun x => lIndexFunc_iareMasses_1 x) (C22 101)) := toldO_ok (by kernel_rfl) lIndexFunc_iareMasses_1_ok (rest_ok (C22_ok) _) lIndexFunc_iareMasses_1_m

noncomputable def C23 : Tab := tab 101 (toldO A_lIndexFunc_iareMasses_1 R_lIndexFunc_iareMasses_1 (fun x => lIndexFunc_iareMasses_1 x) (C22 101)) C22
theorem C23_ok : TabOk Try.prog C23 := tab_ok (lIndexFunc_iareMasses_1_told) (C22_ok)

def A_lContainsFunc_iareMasses_1 : Shp := ⟨[.h, .fn 104 []], [], [.sl [.f .f32]]⟩
def R_lContainsFunc_iareMasses_1 : List XShp := [(.ret, ⟨[.h], [], [.b]⟩)]

theorem lContainsFunc_iareMasses_1_e (x : DR A_lContainsFunc_iareMasses_1.hs) : (evFn (envT Try.prog C23 M18) noLoops Try.f103 (A_lContainsFunc_iareMasses_1.enc x).1).to (fun q => decX R_lContainsFunc_iareMasses_1 .ret [q.1] q.2) = lContainsFunc_iareMasses_1_t x := by kernel_rfl

theorem lContainsFunc_iareMasses_1_m (x : DR A_lContainsFunc_iareMasses_1.hs) : meanF (envT Try.prog C23 M18) noLoops Try.f103 A_lContainsFunc_iareMasses_1 R_lContainsFunc_iareMasses_1 x = (show Option (SumD (R_lContainsFunc_iareMasses_1.map (·.2))) from lContainsFunc_iareMasses_1 x) := meanF_of (lContainsFunc_iareMasses_1_e x)

theorem lContainsFunc_iareMasses_1_ok : SpecOk Try.prog 103 (evFn (envT Try.prog C23 M18) noLoops Try.f103) := fnL_ok (envT_ok (C23_ok) (M18_ok)) mixedO Try.func103 (by kernel_rfl) (c := bodyOf Try.f103) (by kernel_rfl) (loopFree_ok (by kernel_rfl))

theorem lContainsFunc_iareMasses_1_told : SpecOk Try.prog 103 (toldO A_lContainsFunc_iareMasses_1 R_lContainsFunc_iareMasses_1 (fun x => lContainsFunc_iareMasses_1 x) (C23 103)) := toldO_ok (by kernel_rfl) lContainsFunc_iareMasses_1_ok (rest_ok (C23_ok) _) lContainsFunc_iareMasses_1_m

noncomputable def C24 : Tab := tab 103 (toldO A_lContainsFunc_iareMasses_1 R_lContainsFunc_iareMasses_1 (fun x => lContainsFunc_iareMasses_1 x) (C23 103)) C23
theorem C24_ok : TabOk Try.prog C24 := tab_ok (lContainsFunc_iareMasses_1_told) (C23_ok)

def A_iareMasses : Shp := ⟨[.h], [], [.sl [.f .f32]]⟩
def R_iareMasses : List XShp := [(.ret, ⟨[.h], [], [.b]⟩)]

theorem iareMasses_e (x : DR A_iareMasses.hs) : (evFn (envT Try.prog C24 M18) noLoops Try.f69 (A_iareMasses.enc x).1).to (fun q => decX R_iareMasses .ret [q.1] q.2) = iareMasses_t x := by kernel_rfl

theorem iareMasses_m (x : DR A_iareMasses.hs) : meanF (envT Try.prog C24 M18) noLoops Try.f69 A_iareMasses R_iareMasses x = (show Option (SumD (R_iareMasses.map (·.2))) from iareMasses x) := meanF_of (iareMasses_e x)

theorem iareMasses_ok : SpecOk Try.prog 69 (evFn (envT Try.prog C24 M18) noLoops Try.f69) := fnL_ok (envT_ok (C24_ok) (M18_ok)) mixedO Try.func69 (by kernel_rfl) (c := bodyOf Try.f69) (by kernel_rfl) (loopFree_ok (by kernel_rfl))

theorem iareMasses_told : SpecOk Try.prog 69 (toldO A_iareMasses R_iareMasses (fun x => iareMasses x) (C24 69)) := toldO_ok (by kernel_rfl) iareMasses_ok (rest_ok (C24_ok) _) iareMasses_m

noncomputable def C25 : Tab := tab 69 (toldO A_iareMasses R_iareMasses (fun x => iareMasses x) (C24 69)) C24
theorem C25_ok : TabOk Try.prog C25 := tab_ok (iareMasses_told) (C24_ok)

def S_iValidLake_l4 : Shp := ⟨[.ref 0 0, .undef, .h], [.cells [.h, .h] false], [.i .i64, .sl [.f .f32], .sl [.f .f32]]⟩
def X_iValidLake_l4 : List XShp := [(.ret, ⟨[.undef, .lb false, .undef], [], []⟩), (.exit 0, ⟨[.undef, .undef, .undef], [], []⟩)]

noncomputable def L_iValidLake_l4 : Loops := (⟨64, lvT [(4, [1, 2, 3])], mdT [(4, .normal, [], [2]), (4, .exit 0, [], [1, 2, 3]), (4, .ret, [], [1, 3])], fun k vs bs => .bad⟩ : Loops)

theorem iValidLake_l4_e (y1 : List Nat) (y2 : List Nat) (s : Int) : (loopStep (envT Try.prog C25 M18) L_iValidLake_l4 4 (loopC (bodyOf Try.f14) 4) (S_iValidLake_l4.enc (s, y1, y2)).1 (S_iValidLake_l4.enc (s, y1, y2)).2).to (stepD S_iValidLake_l4 X_iValidLake_l4) = (iValidLake_l4_t y1 y2 s).map (Sum.map (fun s : Int => (show DR S_iValidLake_l4.hs from (s, y1, y2))) id) := by kernel_rfl

theorem iValidLake_l4_r (x : DR S_iValidLake_l4.hs) : (iValidLake_l4 x.1 x.2.1 x.2.2 : Option (SumD (X_iValidLake_l4.map (·.2)))) = runL (meanS (envT Try.prog C25 M18) L_iValidLake_l4 4 (loopC (bodyOf Try.f14) 4) S_iValidLake_l4 X_iValidLake_l4) x := run_of (fun s : Int => (show DR S_iValidLake_l4.hs from (s, x.2.1, x.2.2))) (iValidLake_l4_e (x.2.1) (x.2.2)) x.1

theorem iValidLake_l4_k (L : Loops) (hn : L_iValidLake_l4.n = L.n) (hlv : L_iValidLake_l4.lv 4 = L.lv 4) (hL : ∀ vs bs, L.loop 4 vs bs = toldL S_iValidLake_l4 X_iValidLake_l4 (fun x => iValidLake_l4 x.1 x.2.1 x.2.2) vs bs) : LOk Try.prog (envT Try.prog C25 M18) L 4 (loopC (bodyOf Try.f14) 4) := toldL_ok (L1 := L_iValidLake_l4) (envT_ok (C25_ok) (M18_ok)) mixedO hn hlv (loopFree_ok (by kernel_rfl)) iValidLake_l4_r hL

def A_iValidLake : Shp := ⟨[.agg [.h, .h]], [], [.sl [.f .f32], .sl [.f .f32]]⟩
def R_iValidLake : List XShp := [(.ret, ⟨[.h], [], [.b]⟩)]

noncomputable def L_iValidLake : Loops := (⟨64, lvT [(4, [1, 2, 3])], mdT [(4, .normal, [], [2]), (4, .exit 0, [], [1, 2, 3]), (4, .ret, [], [1, 3])], fun k vs bs => bif Nat.beq k 4 then toldL S_iValidLake_l4 X_iValidLake_l4 (fun x => iValidLake_l4 x.1 x.2.1 x.2.2) vs bs else .bad⟩ : Loops)

theorem iValidLake_e (x : DR A_iValidLake.hs) : (evFn (envT Try.prog C25 M18) L_iValidLake Try.f14 (A_iValidLake.enc x).1).to (fun q => decX R_iValidLake .ret [q.1] q.2) = iValidLake_t x.1 x.2 := by kernel_rfl

theorem iValidLake_m (x : DR A_iValidLake.hs) : meanF (envT Try.prog C25 M18) L_iValidLake Try.f14 A_iValidLake R_iValidLake x = (show Option (SumD (R_iValidLake.map (·.2))) from iValidLake x.1 x.2) := meanF_of (iValidLake_e x)

theorem iValidLake_ok : SpecOk Try.prog 14 (evFn (envT Try.prog C25 M18) L_iValidLake Try.f14) := fnL_ok (envT_ok (C25_ok) (M18_ok)) mixedO Try.func14 (by kernel_rfl) (c := bodyOf Try.f14) (by kernel_rfl) (loopsL (l := [(4, loopC (bodyOf Try.f14) 4)]) (by kernel_rfl) (lk_cons (iValidLake_l4_k _ rfl rfl (fun _ _ => rfl)) lk_nil))

theorem iValidLake_told : SpecOk Try.prog 14 (toldO A_iValidLake R_iValidLake (fun x => iValidLake x.1 x.2) (C25 14)) := toldO_ok (by kernel_rfl) iValidLake_ok (rest_ok (C25_ok) _) iValidLake_m

noncomputable def C26 : Tab := tab 14 (toldO A_iValidLake R_iValidLake (fun x => iValidLake x.1 x.2) (C25 14)) C25
theorem C26_ok : TabOk Try.prog C26 := tab_ok (iValidLake_told) (C25_ok)

def A_iLake_out_1 : Shp := ⟨[.h, .dpt [.h] 0], [], [.f .f32, .f .f32]⟩
def R_iLake_out_1 : List XShp := [(.ret, ⟨[.h], [], [.b]⟩)]

theorem iLake_out_1_e (x : DR A_iLake_out_1.hs) : (evFn (envT Try.prog C26 M18) noLoops Try.f102 (A_iLake_out_1.enc x).1).to (fun q => decX R_iLake_out_1 .ret [q.1] q.2) = iLake_out_1_t x.1 x.2 := by kernel_rfl

theorem iLake_out_1_m (x : DR A_iLake_out_1.hs) : meanF (envT Try.prog C26 M18) noLoops Try.f102 A_iLake_out_1 R_iLake_out_1 x = some (show SumD (R_iLake_out_1.map (·.2)) from iLake_out_1 x.1 x.2) := @meanF_tot _ _ _ _ _ _ _ (iLake_out_1_e x) (show Inhabited (Bool) from inferInstance) (by kernel_rfl)

theorem iLake_out_1_ok : SpecOk Try.prog 102 (evFn (envT Try.prog C26 M18) noLoops Try.f102) := fnL_ok (envT_ok (C26_ok) (M18_ok)) mixedO Try.func102 (by kernel_rfl) (c := bodyOf Try.f102) (by kernel_rfl) (loopFree_ok (by kernel_rfl))

theorem iLake_out_1_told : SpecOk Try.prog 102 (toldT A_iLake_out_1 R_iLake_out_1 (fun x => iLake_out_1 x.1 x.2) (C26 102)) := toldT_ok (by kernel_rfl) iLake_out_1_ok (rest_ok (C26_ok) _) iLake_out_1_m

noncomputable def C27 : Tab := tab 102 (toldT A_iLake_out_1 R_iLake_out_1 (fun x => iLake_out_1 x.1 x.2) (C26 102)) C26
theorem C27_ok : TabOk Try.prog C27 := tab_ok (iLake_out_1_told) (C26_ok)

def S_lIndexFunc_iLake_out_1_l2 : Shp := ⟨[.h, .fn 102 [.dpt [.h] 0], .undef, .h, .h], [], [.sl [.f .f32], .f .f32, .i .i64, .i .i64]⟩
def X_lIndexFunc_iLake_out_1_l2 : List XShp := [(.ret, ⟨[.undef, .undef, .h, .undef, .undef], [], [.i .i64]⟩), (.exit 0, ⟨[.undef, .undef, .undef, .undef, .undef], [], []⟩)]

noncomputable def L_lIndexFunc_iLake_out_1_l2 : Loops := (⟨19, lvT [(2, [0, 1, 4, 7, 8])], mdT [(2, .normal, [], [4]), (2, .exit 0, [], [0, 1, 4, 7, 8]), (2, .ret, [], [0, 1, 7, 8])], fun k vs bs => .bad⟩ : Loops)

theorem lIndexFunc_iLake_out_1_l2_e (y0 : List Nat) (y1 : Nat) (y2 : Int) (s : Int) : (loopStep (envT Try.prog C27 M18) L_lIndexFunc_iLake_out_1_l2 2 (loopC (bodyOf Try.f101) 2) (S_lIndexFunc_iLake_out_1_l2.enc (y0, y1, y2, s)).1 (S_lIndexFunc_iLake_out_1_l2.enc (y0, y1, y2, s)).2).to (stepD S_lIndexFunc_iLake_out_1_l2 X_lIndexFunc_iLake_out_1_l2) = (lIndexFunc_iLake_out_1_l2_t y0 y1 y2 s).map (Sum.map (fun s : Int => (show DR S_lIndexFunc_iLake_out_1_l2.hs from (y0, y1, y2, s))) id) := by kernel_rfl

theorem lIndexFunc_iLake_out_1_l2_r (x : DR S_lIndexFunc_iLake_out_1_l2.hs) : (lIndexFunc_iLake_out_1_l2 x.1 x.2.1 x.2.2.1 x.2.2.2 : Option (SumD (X_lIndexFunc_iLake_out_1_l2.map (·.2)))) = runL (meanS (envT Try.prog C27 M18) L_lIndexFunc_iLake_out_1_l2 2 (loopC (bodyOf Try.f101) 2) S_lIndexFunc_iLake_out_1_l2 X_lIndexFunc_iLake_out_1_l2) x := run_of (fun s : Int => (show DR S_lIndexFunc_iLake_out_1_l2.hs from (x.1, x.2.1, x.2.2.1, s))) (lIndexFunc_iLake_out_1_l2_e (x.1) (x.2.1) (x.2.2.1)) x.2.2.2

theorem lIndexFunc_iLake_out_1_l2_k (L : Loops) (hn : L_lIndexFunc_iLake_out_1_l2.n = L.n) (hlv : L_lIndexFunc_iLake_out_1_l2.lv 2 = L.lv 2) (hL : ∀ vs bs, L.loop 2 vs bs = toldL S_lIndexFunc_iLake_out_1_l2 X_lIndexFunc_iLake_out_1_l2 (fun x => lIndexFunc_iLake_out_1_l2 x.1 x.2.1 x.2.2.1 x.2.2.2) vs bs) : LOk Try.prog (envT Try.prog C27 M18) L 2 (loopC (bodyOf Try.f101) 2) := toldL_ok (L1 := L_lIndexFunc_iLake_out_1_l2) (envT_ok (C27_ok) (M18_ok)) mixedO hn hlv (loopFree_ok (by kernel_rfl)) lIndexFunc_iLake_out_1_l2_r hL

def A_lIndexFunc_iLake_out_1 : Shp := ⟨[.h, .fn 102 [.dpt [.h] 0]], [], [.sl [.f .f32], .f .f32]⟩
def R_lIndexFunc_iLake_out_1 : List XShp := [(.ret, ⟨[.h], [], [.i .i64]⟩)]

noncomputable def L_lIndexFunc_iLake_out_1 : Loops := (⟨19, lvT [(2, [0, 1, 4, 7, 8])], mdT [(2, .normal, [], [4]), (2, .exit 0, [], [0, 1, 4, 7, 8]), (2, .ret, [], [0, 1, 7, 8])], fun k vs bs => bif Nat.beq k 2 then toldL S_lIndexFunc_iLake_out_1_l2 X_lIndexFunc_iLake_out_1_l2 (fun x => lIndexFunc_iLake_out_1_l2 x.1 x.2.1 x.2.2.1 x.2.2.2) vs bs else .bad⟩ : Loops)

theorem lIndexFunc_iLake_out_1_e (x : DR A_lIndexFunc_iLake_out_1.hs) : (evFn (envT Try.prog C27 M18) L_lIndexFunc_iLake_out_1 Try.f101 (A_lIndexFunc_iLake_out_1.enc x).1).to (fun q => decX R_lIndexFunc_iLake_out_1 .ret [q.1] q.2) = lIndexFunc_iLake_out_1_t x.1 x.2 := by kernel_rfl

theorem lIndexFunc_iLake_out_1_m (x : DR A_lIndexFunc_iLake_out_1.hs) : meanF (envT Try.prog C27 M18) L_lIndexFunc_iLake_out_1 Try.f101 A_lIndexFunc_iLake_out_1 R_lIndexFunc_iLake_out_1 x = (show Option (SumD (R_lIndexFunc_iLake_out_1.map (·.2))) from lIndexFunc_iLake_out_1 x.1 x.2) := meanF_of (lIndexFunc_iLake_out_1_e x)

theorem lIndexFunc_iLake_out_1_ok : SpecOk Try.prog 101 (evFn (envT Try.prog C27 M18) L_lIndexFunc_iLake_out_1 Try.f101) := fnL_ok (envT_ok (C27_ok) (M18_ok)) mixedO Try.func101 (by kernel_rfl) (c := bodyOf Try.f101) (by kernel_rfl) (loopsL (l := [(2, loopC (bodyOf Try.f101) 2)]) (by kernel_rfl) (lk_cons (lIndexFunc_iLake_out_1_l2_k _ rfl rfl (fun _ _ => rfl)) lk_nil))

theorem lIndexFunc_iLake_out_1_told : SpecOk Try.prog 101 (toldO A_lIndexFunc_iLake_out_1 R_lIndexFunc_iLake_out_1 (fun x => lIndexFunc_iLake_out_1 x.1 x.2) (C27 101)) := toldO_ok (by kernel_rfl) lIndexFunc_iLake_out_1_ok (rest_ok (C27_ok) _) lIndexFunc_iLake_out_1_m

noncomputable def C28 : Tab := tab 101 (toldO A_lIndexFunc_iLake_out_1 R_lIndexFunc_iLake_out_1 (fun x => lIndexFunc_iLake_out_1 x.1 x.2) (C27 101)) C27
theorem C28_ok : TabOk Try.prog C28 := tab_ok (lIndexFunc_iLake_out_1_told) (C27_ok)

def A_iLake_out : Shp := ⟨[.agg [.h, .h], .h], [], [.sl [.f .f32], .sl [.f .f32], .f .f32]⟩
def R_iLake_out : List XShp := [(.ret, ⟨[.h], [], [.f .f32]⟩)]

theorem iLake_out_e (x : DR A_iLake_out.hs) : (evFn (envT Try.prog C28 M18) noLoops Try.f67 (A_iLake_out.enc x).1).to (fun q => decX R_iLake_out .ret [q.1] q.2) = iLake_out_t x.1 x.2.1 x.2.2 := by kernel_rfl

theorem iLake_out_m (x : DR A_iLake_out.hs) : meanF (envT Try.prog C28 M18) noLoops Try.f67 A_iLake_out R_iLake_out x = (show Option (SumD (R_iLake_out.map (·.2))) from iLake_out x.1 x.2.1 x.2.2) := meanF_of (iLake_out_e x)

theorem iLake_out_ok : SpecOk Try.prog 67 (evFn (envT Try.prog C28 M18) noLoops Try.f67) := fnL_ok (envT_ok (C28_ok) (M18_ok)) mixedO Try.func67 (by kernel_rfl) (c := bodyOf Try.f67) (by kernel_rfl) (loopFree_ok (by kernel_rfl))

theorem iLake_out_told : SpecOk Try.prog 67 (toldO A_iLake_out R_iLake_out (fun x => iLake_out x.1 x.2.1 x.2.2) (C28 67)) := toldO_ok (by kernel_rfl) iLake_out_ok (rest_ok (C28_ok) _) iLake_out_m

noncomputable def C29 : Tab := tab 67 (toldO A_iLake_out R_iLake_out (fun x => iLake_out x.1 x.2.1 x.2.2) (C28 67)) C28
theorem C29_ok : TabOk Try.prog C29 := tab_ok (iLake_out_told) (C28_ok)

def A_ifinite32 : Shp := ⟨[.h], [], [.f .f32]⟩
def R_ifinite32 : List XShp := [(.ret, ⟨[.tup [.h, .h]], [], [.f .f32, .b]⟩)]

theorem ifinite32_e (x : DR A_ifinite32.hs) : (evFn (envT Try.prog C29 M18) noLoops Try.f66 (A_ifinite32.enc x).1).to (fun q => decX R_ifinite32 .ret [q.1] q.2) = ifinite32_t x := by kernel_rfl

theorem ifinite32_m (x : DR A_ifinite32.hs) : meanF (envT Try.prog C29 M18) noLoops Try.f66 A_ifinite32 R_ifinite32 x = some (show SumD (R_ifinite32.map (·.2)) from ifinite32 x) := @meanF_tot _ _ _ _ _ _ _ (ifinite32_e x) (show Inhabited (Nat × Bool) from inferInstance) (by kernel_rfl)

theorem ifinite32_ok : SpecOk Try.prog 66 (evFn (envT Try.prog C29 M18) noLoops Try.f66) := fnL_ok (envT_ok (C29_ok) (M18_ok)) mixedO Try.func66 (by kernel_rfl) (c := bodyOf Try.f66) (by kernel_rfl) (loopFree_ok (by kernel_rfl))

theorem ifinite32_told : SpecOk Try.prog 66 (toldT A_ifinite32 R_ifinite32 (fun x => ifinite32 x) (C29 66)) := toldT_ok (by kernel_rfl) ifinite32_ok (rest_ok (C29_ok) _) ifinite32_m

noncomputable def C30 : Tab := tab 66 (toldT A_ifinite32 R_ifinite32 (fun x => ifinite32 x) (C29 66)) C29
theorem C30_ok : TabOk Try.prog C30 := tab_ok (ifinite32_told) (C29_ok)

def A_iLakeOut : Shp := ⟨[.agg [.h, .h], .h], [], [.sl [.f .f32], .sl [.f .f32], .f .f32]⟩
def R_iLakeOut : List XShp := [(.ret, ⟨[.tup [.h, .h]], [], [.f .f32, .b]⟩)]

theorem iLakeOut_e (x : DR A_iLakeOut.hs) : (evFn (envT Try.prog C30 M18) noLoops Try.f12 (A_iLakeOut.enc x).1).to (fun q => decX R_iLakeOut .ret [q.1] q.2) = iLakeOut_t x.1 x.2.1 x.2.2 := by kernel_rfl

theorem iLakeOut_m (x : DR A_iLakeOut.hs) : meanF (envT Try.prog C30 M18) noLoops Try.f12 A_iLakeOut R_iLakeOut x = (show Option (SumD (R_iLakeOut.map (·.2))) from iLakeOut x.1 x.2.1 x.2.2) := meanF_of (iLakeOut_e x)

theorem iLakeOut_ok : SpecOk Try.prog 12 (evFn (envT Try.prog C30 M18) noLoops Try.f12) := fnL_ok (envT_ok (C30_ok) (M18_ok)) mixedO Try.func12 (by kernel_rfl) (c := bodyOf Try.f12) (by kernel_rfl) (loopFree_ok (by kernel_rfl))

theorem iLakeOut_told : SpecOk Try.prog 12 (toldO A_iLakeOut R_iLakeOut (fun x => iLakeOut x.1 x.2.1 x.2.2) (C30 12)) := toldO_ok (by kernel_rfl) iLakeOut_ok (rest_ok (C30_ok) _) iLakeOut_m

noncomputable def C31 : Tab := tab 12 (toldO A_iLakeOut R_iLakeOut (fun x => iLakeOut x.1 x.2.1 x.2.2) (C30 12)) C30
theorem C31_ok : TabOk Try.prog C31 := tab_ok (iLakeOut_told) (C30_ok)

def A_iLake_isStore : Shp := ⟨[.agg [.h, .h], .h], [], [.sl [.f .f32], .sl [.f .f32], .f .f32]⟩
def R_iLake_isStore : List XShp := [(.ret, ⟨[.h], [], [.b]⟩)]

theorem iLake_isStore_e (x : DR A_iLake_isStore.hs) : (evFn (envT Try.prog C31 M18) noLoops Try.f68 (A_iLake_isStore.enc x).1).to (fun q => decX R_iLake_isStore .ret [q.1] q.2) = iLake_isStore_t x.1 x.2.1 x.2.2 := by kernel_rfl

theorem iLake_isStore_m (x : DR A_iLake_isStore.hs) : meanF (envT Try.prog C31 M18) noLoops Try.f68 A_iLake_isStore R_iLake_isStore x = (show Option (SumD (R_iLake_isStore.map (·.2))) from iLake_isStore x.1 x.2.1 x.2.2) := meanF_of (iLake_isStore_e x)

theorem iLake_isStore_ok : SpecOk Try.prog 68 (evFn (envT Try.prog C31 M18) noLoops Try.f68) := fnL_ok (envT_ok (C31_ok) (M18_ok)) mixedO Try.func68 (by kernel_rfl) (c := bodyOf Try.f68) (by kernel_rfl) (loopFree_ok (by kernel_rfl))

theorem iLake_isStore_told : SpecOk Try.prog 68 (toldO A_iLake_isStore R_iLake_isStore (fun x => iLake_isStore x.1 x.2.1 x.2.2) (C31 68)) := toldO_ok (by kernel_rfl) iLake_isStore_ok (rest_ok (C31_ok) _) iLake_isStore_m

noncomputable def C32 : Tab := tab 68 (toldO A_iLake_isStore R_iLake_isStore (fun x => iLake_isStore x.1 x.2.1 x.2.2) (C31 68)) C31
theorem C32_ok : TabOk Try.prog C32 := tab_ok (iLake_isStore_told) (C31_ok)

def A_iStepLake_1 : Shp := ⟨[.h, .dpt [.h] 0, .dpt [.h, .h] 0, .dpt [.h] 0], [], [.f .f32, .f .f32, .sl [.f .f32], .sl [.f .f32], .f .f32]⟩
def R_iStepLake_1 : List XShp := [(.ret, ⟨[.tup [.h, .lb true]], [], [.b]⟩)]

theorem iStepLake_1_e (x : DR A_iStepLake_1.hs) : (evFn (envT Try.prog C32 M18) noLoops Try.f72 (A_iStepLake_1.enc x).1).to (fun q => decX R_iStepLake_1 .ret [q.1] q.2) = iStepLake_1_t x.1 x.2.1 x.2.2.1 x.2.2.2.1 x.2.2.2.2 := by kernel_rfl

theorem iStepLake_1_m (x : DR A_iStepLake_1.hs) : meanF (envT Try.prog C32 M18) noLoops Try.f72 A_iStepLake_1 R_iStepLake_1 x = (show Option (SumD (R_iStepLake_1.map (·.2))) from iStepLake_1 x.1 x.2.1 x.2.2.1 x.2.2.2.1 x.2.2.2.2) := meanF_of (iStepLake_1_e x)

theorem iStepLake_1_ok : SpecOk Try.prog 72 (evFn (envT Try.prog C32 M18) noLoops Try.f72) := fnL_ok (envT_ok (C32_ok) (M18_ok)) mixedO Try.func72 (by kernel_rfl) (c := bodyOf Try.f72) (by kernel_rfl) (loopFree_ok (by kernel_rfl))

theorem iStepLake_1_told : SpecOk Try.prog 72 (toldO A_iStepLake_1 R_iStepLake_1 (fun x => iStepLake_1 x.1 x.2.1 x.2.2.1 x.2.2.2.1 x.2.2.2.2) (C32 72)) := toldO_ok (by kernel_rfl) iStepLake_1_ok (rest_ok (C32_ok) _) iStepLake_1_m

noncomputable def C33 : Tab := tab 72 (toldO A_iStepLake_1 R_iStepLake_1 (fun x => iStepLake_1 x.1 x.2.1 x.2.2.1 x.2.2.2.1 x.2.2.2.2) (C32 72)) C32
theorem C33_ok : TabOk Try.prog C33 := tab_ok (iStepLake_1_told) (C32_ok)

def S_ihalve_iStepLake_1_l2 : Shp := ⟨[.h, .h, .fn 72 [.dpt [.h] 0, .dpt [.h, .h] 0, .dpt [.h] 0], .undef, .undef, .undef, .h], [], [.f .f32, .f .f32, .f .f32, .sl [.f .f32], .sl [.f .f32], .f .f32, .i .i64]⟩
def X_ihalve_iStepLake_1_l2 : List XShp := [(.exit 0, ⟨[.h, .h, .undef, .undef, .undef, .undef, .undef], [], [.f .f32, .f .f32]⟩)]

noncomputable def L_ihalve_iStepLake_1_l2 : Loops := (⟨32, lvT [(2, [0, 1, 2, 6, 7, 8, 12])], mdT [(2, .normal, [], [6, 7, 8]), (2, .exit 0, [], [2, 6, 7, 8, 12]), (2, .ret, [], [0, 1, 2, 12])], fun k vs bs => .bad⟩ : Loops)

theorem ihalve_iStepLake_1_l2_e (y2 : Nat) (y3 : List Nat) (y4 : List Nat) (y5 : Nat) (s : Nat × Nat × Int) : (loopStep (envT Try.prog C33 M18) L_ihalve_iStepLake_1_l2 2 (loopC (bodyOf Try.f71) 2) (S_ihalve_iStepLake_1_l2.enc (s.1, s.2.1, y2, y3, y4, y5, s.2.2)).1 (S_ihalve_iStepLake_1_l2.enc (s.1, s.2.1, y2, y3, y4, y5, s.2.2)).2).to (stepD S_ihalve_iStepLake_1_l2 X_ihalve_iStepLake_1_l2) = (ihalve_iStepLake_1_l2_t y2 y3 y4 y5 s.1 s.2.1 s.2.2).map (Sum.map (fun s : Nat × Nat × Int => (show DR S_ihalve_iStepLake_1_l2.hs from (s.1, s.2.1, y2, y3, y4, y5, s.2.2))) id) := by kernel_rfl

theorem ihalve_iStepLake_1_l2_r (x : DR S_ihalve_iStepLake_1_l2.hs) : (ihalve_iStepLake_1_l2 x.1 x.2.1 x.2.2.1 x.2.2.2.1 x.2.2.2.2.1 x.2.2.2.2.2.1 x.2.2.2.2.2.2 : Option (SumD (X_ihalve_iStepLake_1_l2.map (·.2)))) = runL (meanS (envT Try.prog C33 M18) L_ihalve_iStepLake_1_l2 2 (loopC (bodyOf Try.f71) 2) S_ihalve_iStepLake_1_l2 X_ihalve_iStepLake_1_l2) x := run_of (fun s : Nat × Nat × Int => (show DR S_ihalve_iStepLake_1_l2.hs from (s.1, s.2.1, x.2.2.1, x.2.2.2.1, x.2.2.2.2.1, x.2.2.2.2.2.1, s.2.2))) (ihalve_iStepLake_1_l2_e (x.2.2.1) (x.2.2.2.1) (x.2.2.2.2.1) (x.2.2.2.2.2.1)) (x.1, x.2.1, x.2.2.2.2.2.2)

theorem ihalve_iStepLake_1_l2_k (L : Loops) (hn : L_ihalve_iStepLake_1_l2.n = L.n) (hlv : L_ihalve_iStepLake_1_l2.lv 2 = L.lv 2) (hL : ∀ vs bs, L.loop 2 vs bs = toldL S_ihalve_iStepLake_1_l2 X_ihalve_iStepLake_1_l2 (fun x => ihalve_iStepLake_1_l2 x.1 x.2.1 x.2.2.1 x.2.2.2.1 x.2.2.2.2.1 x.2.2.2.2.2.1 x.2.2.2.2.2.2) vs bs) : LOk Try.prog (envT Try.prog C33 M18) L 2 (loopC (bodyOf Try.f71) 2) := toldL_ok (L1 := L_ihalve_iStepLake_1_l2) (envT_ok (C33_ok) (M18_ok)) mixedO hn hlv (loopFree_ok (by kernel_rfl)) ihalve_iStepLake_1_l2_r hL

def A_ihalve_iStepLake_1 : Shp := ⟨[.h, .h, .fn 72 [.dpt [.h] 0, .dpt [.h, .h] 0, .dpt [.h] 0]], [], [.f .f32, .f .f32, .f .f32, .sl [.f .f32], .sl [.f .f32], .f .f32]⟩
def R_ihalve_iStepLake_1 : List XShp := [(.ret, ⟨[.tup [.h, .h, .lb true]], [], [.f .f32, .f .f32]⟩)]

noncomputable def L_ihalve_iStepLake_1 : Loops := (⟨32, lvT [(2, [0, 1, 2, 6, 7, 8, 12])], mdT [(2, .normal, [], [6, 7, 8]), (2, .exit 0, [], [2, 6, 7, 8, 12]), (2, .ret, [], [0, 1, 2, 12])], fun k vs bs => bif Nat.beq k 2 then toldL S_ihalve_iStepLake_1_l2 X_ihalve_iStepLake_1_l2 (fun x => ihalve_iStepLake_1_l2 x.1 x.2.1 x.2.2.1 x.2.2.2.1 x.2.2.2.2.1 x.2.2.2.2.2.1 x.2.2.2.2.2.2) vs bs else .bad⟩ : Loops)

theorem ihalve_iStepLake_1_e (x : DR A_ihalve_iStepLake_1.hs) : (evFn (envT Try.prog C33 M18) L_ihalve_iStepLake_1 Try.f71 (A_ihalve_iStepLake_1.enc x).1).to (fun q => decX R_ihalve_iStepLake_1 .ret [q.1] q.2) = ihalve_iStepLake_1_t x.1 x.2.1 x.2.2.1 x.2.2.2.1 x.2.2.2.2.1 x.2.2.2.2.2 := by kernel_rfl

theorem ihalve_iStepLake_1_m (x : DR A_ihalve_iStepLake_1.hs) : meanF (envT Try.prog C33 M18) L_ihalve_iStepLake_1 Try.f71 A_ihalve_iStepLake_1 R_ihalve_iStepLake_1 x = (show Option (SumD (R_ihalve_iStepLake_1.map (·.2))) from ihalve_iStepLake_1 x.1 x.2.1 x.2.2.1 x.2.2.2.1 x.2.2.2.2.1 x.2.2.2.2.2) := meanF_of (ihalve_iStepLake_1_e x)

theorem ihalve_iStepLake_1_ok : SpecOk Try.prog 71 (evFn (envT Try.prog C33 M18) L_ihalve_iStepLake_1 Try.f71) := fnL_ok (envT_ok (C33_ok) (M18_ok)) mixedO Try.func71 (by kernel_rfl) (c := bodyOf Try.f71) (by kernel_rfl) (loopsL (l := [(2, loopC (bodyOf Try.f71) 2)]) (by kernel_rfl) (lk_cons (ihalve_iStepLake_1_l2_k _ rfl rfl (fun _ _ => rfl)) lk_nil))

theorem ihalve_iStepLake_1_told : SpecOk Try.prog 71 (toldO A_ihalve_iStepLake_1 R_ihalve_iStepLake_1 (fun x => ihalve_iStepLake_1 x.1 x.2.1 x.2.2.1 x.2.2.2.1 x.2.2.2.2.1 x.2.2.2.2.2) (C33 71)) := toldO_ok (by kernel_rfl) ihalve_iStepLake_1_ok (rest_ok (C33_ok) _) ihalve_iStepLake_1_m

noncomputable def C34 : Tab := tab 71 (toldO A_ihalve_iStepLake_1 R_ihalve_iStepLake_1 (fun x => ihalve_iStepLake_1 x.1 x.2.1 x.2.2.1 x.2.2.2.1 x.2.2.2.2.1 x.2.2.2.2.2) (C33 71)) C33
theorem C34_ok : TabOk Try.prog C34 := tab_ok (ihalve_iStepLake_1_told) (C33_ok)

def A_iStepLake : Shp := ⟨[.agg [.h, .h], .h, .h, .h, .h], [], [.sl [.f .f32], .sl [.f .f32], .f .f32, .f .f32, .f .f32, .f .f32]⟩
def R_iStepLake : List XShp := [(.ret, ⟨[.tup [.h, .h]], [], [.f .f32, .b]⟩)]

theorem iStepLake_e (x : DR A_iStepLake.hs) : (evFn (envT Try.prog C34 M18) noLoops Try.f13 (A_iStepLake.enc x).1).to (fun q => decX R_iStepLake .ret [q.1] q.2) = iStepLake_t x.1 x.2.1 x.2.2.1 x.2.2.2.1 x.2.2.2.2.1 x.2.2.2.2.2 := by kernel_rfl

theorem iStepLake_m (x : DR A_iStepLake.hs) : meanF (envT Try.prog C34 M18) noLoops Try.f13 A_iStepLake R_iStepLake x = (show Option (SumD (R_iStepLake.map (·.2))) from iStepLake x.1 x.2.1 x.2.2.1 x.2.2.2.1 x.2.2.2.2.1 x.2.2.2.2.2) := meanF_of (iStepLake_e x)

theorem iStepLake_ok : SpecOk Try.prog 13 (evFn (envT Try.prog C34 M18) noLoops Try.f13) := fnL_ok (envT_ok (C34_ok) (M18_ok)) mixedO Try.func13 (by kernel_rfl) (c := bodyOf Try.f13) (by kernel_rfl) (loopFree_ok (by kernel_rfl))

theorem iStepLake_told : SpecOk Try.prog 13 (toldO A_iStepLake R_iStepLake (fun x => iStepLake x.1 x.2.1 x.2.2.1 x.2.2.2.1 x.2.2.2.2.1 x.2.2.2.2.2) (C34 13)) := toldO_ok (by kernel_rfl) iStepLake_ok (rest_ok (C34_ok) _) iStepLake_m

noncomputable def C35 : Tab := tab 13 (toldO A_iStepLake R_iStepLake (fun x => iStepLake x.1 x.2.1 x.2.2.1 x.2.2.2.1 x.2.2.2.2.1 x.2.2.2.2.2) (C34 13)) C34
theorem C35_ok : TabOk Try.prog C35 := tab_ok (iStepLake_told) (C34_ok)

def S_lEqualFunc_iSameNumber_l4 : Shp := ⟨[.h, .fn 106 [], .undef, .h, .h, .h], [], [.sl [.f .f32], .sl [.f .f32], .i .i64, .i .i64]⟩
def X_lEqualFunc_iSameNumber_l4 : List XShp := [(.ret, ⟨[.undef, .undef, .lb false, .undef, .undef, .undef], [], []⟩), (.exit 0, ⟨[.undef, .undef, .undef, .undef, .undef, .undef], [], []⟩)]

noncomputable def L_lEqualFunc_iSameNumber_l4 : Loops := (⟨32, lvT [(4, [1, 2, 6, 15, 16, 17])], mdT [(4, .normal, [], [6]), (4, .exit 0, [], [1, 2, 6, 15, 16, 17]), (4, .ret, [], [1, 2, 15, 16, 17])], fun k vs bs => .bad⟩ : Loops)

theorem lEqualFunc_iSameNumber_l4_e (y0 : List Nat) (y1 : List Nat) (y2 : Int) (s : Int) : (loopStep (envT Try.prog C35 M18) L_lEqualFunc_iSameNumber_l4 4 (loopC (bodyOf Try.f105) 4) (S_lEqualFunc_iSameNumber_l4.enc (y0, y1, y2, s)).1 (S_lEqualFunc_iSameNumber_l4.enc (y0, y1, y2, s)).2).to (stepD S_lEqualFunc_iSameNumber_l4 X_lEqualFunc_iSameNumber_l4) = (lEqualFunc_iSameNumber_l4_t y0 y1 y2 s).map (Sum.map (fun s : Int => (show DR S_lEqualFunc_iSameNumber_l4.hs from (y0, y1, y2, s))) id) := by kernel_rfl

theorem lEqualFunc_iSameNumber_l4_r (x : DR S_lEqualFunc_iSameNumber_l4.hs) : (lEqualFunc_iSameNumber_l4 x.1 x.2.1 x.2.2.1 x.2.2.2 : Option (SumD (X_lEqualFunc_iSameNumber_l4.map (·.2)))) = runL (meanS (envT Try.prog C35 M18) L_lEqualFunc_iSameNumber_l4 4 (loopC (bodyOf Try.f105) 4) S_lEqualFunc_iSameNumber_l4 X_lEqualFunc_iSameNumber_l4) x := run_of (fun s : Int => (show DR S_lEqualFunc_iSameNumber_l4.hs from (x.1, x.2.1, x.2.2.1, s))) (lEqualFunc_iSameNumber_l4_e (x.1) (x.2.1) (x.2.2.1)) x.2.2.2

theorem lEqualFunc_iSameNumber_l4_k (L : Loops) (hn : L_lEqualFunc_iSameNumber_l4.n = L.n) (hlv : L_lEqualFunc_iSameNumber_l4.lv 4 = L.lv 4) (hL : ∀ vs bs, L.loop 4 vs bs = toldL S_lEqualFunc_iSameNumber_l4 X_lEqualFunc_iSameNumber_l4 (fun x => lEqualFunc_iSameNumber_l4 x.1 x.2.1 x.2.2.1 x.2.2.2) vs bs) : LOk Try.prog (envT Try.prog C35 M18) L 4 (loopC (bodyOf Try.f105) 4) := toldL_ok (L1 := L_lEqualFunc_iSameNumber_l4) (envT_ok (C35_ok) (M18_ok)) mixedO hn hlv (loopFree_ok (by kernel_rfl)) lEqualFunc_iSameNumber_l4_r hL

def A_lEqualFunc_iSameNumber : Shp := ⟨[.h, .h, .fn 106 []], [], [.sl [.f .f32], .sl [.f .f32]]⟩
def R_lEqualFunc_iSameNumber : List XShp := [(.ret, ⟨[.h], [], [.b]⟩)]

noncomputable def L_lEqualFunc_iSameNumber : Loops := (⟨32, lvT [(4, [1, 2, 6, 15, 16, 17])], mdT [(4, .normal, [], [6]), (4, .exit 0, [], [1, 2, 6, 15, 16, 17]), (4, .ret, [], [1, 2, 15, 16, 17])], fun k vs bs => bif Nat.beq k 4 then toldL S_lEqualFunc_iSameNumber_l4 X_lEqualFunc_iSameNumber_l4 (fun x => lEqualFunc_iSameNumber_l4 x.1 x.2.1 x.2.2.1 x.2.2.2) vs bs else .bad⟩ : Loops)

theorem lEqualFunc_iSameNumber_e (x : DR A_lEqualFunc_iSameNumber.hs) : (evFn (envT Try.prog C35 M18) L_lEqualFunc_iSameNumber Try.f105 (A_lEqualFunc_iSameNumber.enc x).1).to (fun q => decX R_lEqualFunc_iSameNumber .ret [q.1] q.2) = lEqualFunc_iSameNumber_t x.1 x.2 := by kernel_rfl

theorem lEqualFunc_iSameNumber_m (x : DR A_lEqualFunc_iSameNumber.hs) : meanF (envT Try.prog C35 M18) L_lEqualFunc_iSameNumber Try.f105 A_lEqualFunc_iSameNumber R_lEqualFunc_iSameNumber x = (show Option (SumD (R_lEqualFunc_iSameNumber.map (·.2))) from lEqualFunc_iSameNumber x.1 x.2) := meanF_of (lEqualFunc_iSameNumber_e x)

theorem lEqualFunc_iSameNumber_ok : SpecOk Try.prog 105 (evFn (envT Try.prog C35 M18) L_lEqualFunc_iSameNumber Try.f105) := fnL_ok (envT_ok (C35_ok) (M18_ok)) mixedO Try.func105 (by kernel_rfl) (c := bodyOf Try.f105) (by kernel_rfl) (loopsL (l := [(4, loopC (bodyOf Try.f105) 4)]) (by kernel_rfl) (lk_cons (lEqualFunc_iSameNumber_l4_k _ rfl rfl (fun _ _ => rfl)) lk_nil))

theorem lEqualFunc_iSameNumber_told : SpecOk Try.prog 105 (toldO A_lEqualFunc_iSameNumber R_lEqualFunc_iSameNumber (fun x => lEqualFunc_iSameNumber x.1 x.2) (C35 105)) := toldO_ok (by kernel_rfl) lEqualFunc_iSameNumber_ok (rest_ok (C35_ok) _) lEqualFunc_iSameNumber_m

noncomputable def C36 : Tab := tab 105 (toldO A_lEqualFunc_iSameNumber R_lEqualFunc_iSameNumber (fun x => lEqualFunc_iSameNumber x.1 x.2) (C35 105)) C35
theorem C36_ok : TabOk Try.prog C36 := tab_ok (lEqualFunc_iSameNumber_told) (C35_ok)

def A_isameNumbers : Shp := ⟨[.h, .h], [], [.sl [.f .f32], .sl [.f .f32]]⟩
def R_isameNumbers : List XShp := [(.ret, ⟨[.h], [], [.b]⟩)]

theorem isameNumbers_e (x : DR A_isameNumbers.hs) : (evFn (envT Try.prog C36 M18) noLoops Try.f74 (A_isameNumbers.enc x).1).to (fun q => decX R_isameNumbers .ret [q.1] q.2) = isameNumbers_t x.1 x.2 := by kernel_rfl

theorem isameNumbers_m (x : DR A_isameNumbers.hs) : meanF (envT Try.prog C36 M18) noLoops Try.f74 A_isameNumbers R_isameNumbers x = (show Option (SumD (R_isameNumbers.map (·.2))) from isameNumbers x.1 x.2) := meanF_of (isameNumbers_e x)

theorem isameNumbers_ok : SpecOk Try.prog 74 (evFn (envT Try.prog C36 M18) noLoops Try.f74) := fnL_ok (envT_ok (C36_ok) (M18_ok)) mixedO Try.func74 (by kernel_rfl) (c := bodyOf Try.f74) (by kernel_rfl) (loopFree_ok (by kernel_rfl))

theorem isameNumbers_told : SpecOk Try.prog 74 (toldO A_isameNumbers R_isameNumbers (fun x => isameNumbers x.1 x.2) (C36 74)) := toldO_ok (by kernel_rfl) isameNumbers_ok (rest_ok (C36_ok) _) isameNumbers_m

noncomputable def C37 : Tab := tab 74 (toldO A_isameNumbers R_isameNumbers (fun x => isameNumbers x.1 x.2) (C36 74)) C36
theorem C37_ok : TabOk Try.prog C37 := tab_ok (isameNumbers_told) (C36_ok)

def A_iSameLake : Shp := ⟨[.agg [.h, .h], .agg [.h, .h]], [], [.sl [.f .f32], .sl [.f .f32], .sl [.f .f32], .sl [.f .f32]]⟩
def R_iSameLake : List XShp := [(.ret, ⟨[.h], [], [.b]⟩)]

theorem iSameLake_e (x : DR A_iSameLake.hs) : (evFn (envT Try.prog C37 M18) noLoops Try.f15 (A_iSameLake.enc x).1).to (fun q => decX R_iSameLake .ret [q.1] q.2) = iSameLake_t x.1 x.2.1 x.2.2.1 x.2.2.2 := by kernel_rfl

theorem iSameLake_m (x : DR A_iSameLake.hs) : meanF (envT Try.prog C37 M18) noLoops Try.f15 A_iSameLake R_iSameLake x = (show Option (SumD (R_iSameLake.map (·.2))) from iSameLake x.1 x.2.1 x.2.2.1 x.2.2.2) := meanF_of (iSameLake_e x)

theorem iSameLake_ok : SpecOk Try.prog 15 (evFn (envT Try.prog C37 M18) noLoops Try.f15) := fnL_ok (envT_ok (C37_ok) (M18_ok)) mixedO Try.func15 (by kernel_rfl) (c := bodyOf Try.f15) (by kernel_rfl) (loopFree_ok (by kernel_rfl))

theorem iSameLake_told : SpecOk Try.prog 15 (toldO A_iSameLake R_iSameLake (fun x => iSameLake x.1 x.2.1 x.2.2.1 x.2.2.2) (C37 15)) := toldO_ok (by kernel_rfl) iSameLake_ok (rest_ok (C37_ok) _) iSameLake_m

noncomputable def C38 : Tab := tab 15 (toldO A_iSameLake R_iSameLake (fun x => iSameLake x.1 x.2.1 x.2.2.1 x.2.2.2) (C37 15)) C37
theorem C38_ok : TabOk Try.prog C38 := tab_ok (iSameLake_told) (C37_ok)

def A_wb10Gap : Shp := ⟨[.h, .h], [], [.f .f64, .f .f64]⟩
def R_wb10Gap : List XShp := [(.ret, ⟨[.h], [], [.f .f64]⟩)]

theorem wb10Gap_e (x : DR A_wb10Gap.hs) : (evFn (envT Try.prog C38 M18) noLoops Try.f16 (A_wb10Gap.enc x).1).to (fun q => decX R_wb10Gap .ret [q.1] q.2) = wb10Gap_t x.1 x.2 := by kernel_rfl

theorem wb10Gap_m (x : DR A_wb10Gap.hs) : meanF (envT Try.prog C38 M18) noLoops Try.f16 A_wb10Gap R_wb10Gap x = some (show SumD (R_wb10Gap.map (·.2)) from wb10Gap x.1 x.2) := @meanF_tot _ _ _ _ _ _ _ (wb10Gap_e x) (show Inhabited (Nat) from inferInstance) (by kernel_rfl)

theorem wb10Gap_ok : SpecOk Try.prog 16 (evFn (envT Try.prog C38 M18) noLoops Try.f16) := fnL_ok (envT_ok (C38_ok) (M18_ok)) mixedO Try.func16 (by kernel_rfl) (c := bodyOf Try.f16) (by kernel_rfl) (loopFree_ok (by kernel_rfl))

theorem wb10Gap_told : SpecOk Try.prog 16 (toldT A_wb10Gap R_wb10Gap (fun x => wb10Gap x.1 x.2) (C38 16)) := toldT_ok (by kernel_rfl) wb10Gap_ok (rest_ok (C38_ok) _) wb10Gap_m

noncomputable def C39 : Tab := tab 16 (toldT A_wb10Gap R_wb10Gap (fun x => wb10Gap x.1 x.2) (C38 16)) C38
theorem C39_ok : TabOk Try.prog C39 := tab_ok (wb10Gap_told) (C38_ok)

def S_sB10Rain_l3 : Shp := ⟨[.h, .ref 0 0, .slw 1 1], [.cells [.h, .h, .h] false, .arr [.f .f32] false], [.i .i64, .sl [.i .u8], .i .i64, .i .u64, .sl [.f .f32]]⟩
def X_sB10Rain_l3 : List XShp := [(.exit 0, ⟨[.undef, .undef, .slw 0 1], [.arr [.f .f32] false], [.sl [.f .f32]]⟩)]

noncomputable def L_sB10Rain_l3 : Loops := (⟨22, lvT [(3, [1, 5, 6])], mdT [(3, .exit 0, [], [1, 5])], fun k vs bs => .bad⟩ : Loops)

theorem sB10Rain_l3_e (s : Int × List Int × Int × Int × List Nat) : (loopStep (envT Try.prog C39 M18) L_sB10Rain_l3 3 (loopC (bodyOf Try.f17) 3) (S_sB10Rain_l3.enc (s.1, s.2.1, s.2.2.1, s.2.2.2.1, s.2.2.2.2)).1 (S_sB10Rain_l3.enc (s.1, s.2.1, s.2.2.1, s.2.2.2.1, s.2.2.2.2)).2).to (stepD S_sB10Rain_l3 X_sB10Rain_l3) = (sB10Rain_l3_t  s.1 s.2.1 s.2.2.1 s.2.2.2.1 s.2.2.2.2).map (Sum.map (fun s : Int × List Int × Int × Int × List Nat => (show DR S_sB10Rain_l3.hs from (s.1, s.2.1, s.2.2.1, s.2.2.2.1, s.2.2.2.2))) id) := by kernel_rfl

theorem sB10Rain_l3_r (x : DR S_sB10Rain_l3.hs) : (sB10Rain_l3 x.1 x.2.1 x.2.2.1 x.2.2.2.1 x.2.2.2.2 : Option (SumD (X_sB10Rain_l3.map (·.2)))) = runL (meanS (envT Try.prog C39 M18) L_sB10Rain_l3 3 (loopC (bodyOf Try.f17) 3) S_sB10Rain_l3 X_sB10Rain_l3) x := run_of (fun s : Int × List Int × Int × Int × List Nat => (show DR S_sB10Rain_l3.hs from (s.1, s.2.1, s.2.2.1, s.2.2.2.1, s.2.2.2.2))) (sB10Rain_l3_e ) (x.1, x.2.1, x.2.2.1, x.2.2.2.1, x.2.2.2.2)

theorem sB10Rain_l3_k (L : Loops) (hn : L_sB10Rain_l3.n = L.n) (hlv : L_sB10Rain_l3.lv 3 = L.lv 3) (hL : ∀ vs bs, L.loop 3 vs bs = toldL S_sB10Rain_l3 X_sB10Rain_l3 (fun x => sB10Rain_l3 x.1 x.2.1 x.2.2.1 x.2.2.2.1 x.2.2.2.2) vs bs) : LOk Try.prog (envT Try.prog C39 M18) L 3 (loopC (bodyOf Try.f17) 3) := toldL_ok (L1 := L_sB10Rain_l3) (envT_ok (C39_ok) (M18_ok)) mixedO hn hlv (loopFree_ok (by kernel_rfl)) sB10Rain_l3_r hL

def A_sB10Rain : Shp := ⟨[.h, .h], [], [.sl [.i .u8], .i .i64]⟩
def R_sB10Rain : List XShp := [(.ret, ⟨[.slw 0 1], [.arr [.f .f32] false], [.sl [.f .f32]]⟩)]

noncomputable def L_sB10Rain : Loops := (⟨22, lvT [(3, [1, 5, 6])], mdT [(3, .exit 0, [], [1, 5])], fun k vs bs => bif Nat.beq k 3 then toldL S_sB10Rain_l3 X_sB10Rain_l3 (fun x => sB10Rain_l3 x.1 x.2.1 x.2.2.1 x.2.2.2.1 x.2.2.2.2) vs bs else .bad⟩ : Loops)

theorem sB10Rain_e (x : DR A_sB10Rain.hs) : (evFn (envT Try.prog C39 M18) L_sB10Rain Try.f17 (A_sB10Rain.enc x).1).to (fun q => decX R_sB10Rain .ret [q.1] q.2) = sB10Rain_t x.1 x.2 := by kernel_rfl

theorem sB10Rain_m (x : DR A_sB10Rain.hs) : meanF (envT Try.prog C39 M18) L_sB10Rain Try.f17 A_sB10Rain R_sB10Rain x = (show Option (SumD (R_sB10Rain.map (·.2))) from sB10Rain x.1 x.2) := meanF_of (sB10Rain_e x)

theorem sB10Rain_ok : SpecOk Try.prog 17 (evFn (envT Try.prog C39 M18) L_sB10Rain Try.f17) := fnL_ok (envT_ok (C39_ok) (M18_ok)) mixedO Try.func17 (by kernel_rfl) (c := bodyOf Try.f17) (by kernel_rfl) (loopsL (l := [(3, loopC (bodyOf Try.f17) 3)]) (by kernel_rfl) (lk_cons (sB10Rain_l3_k _ rfl rfl (fun _ _ => rfl)) lk_nil))

theorem sB10Rain_told : SpecOk Try.prog 17 (toldO A_sB10Rain R_sB10Rain (fun x => sB10Rain x.1 x.2) (C39 17)) := toldO_ok (by kernel_rfl) sB10Rain_ok (rest_ok (C39_ok) _) sB10Rain_m

noncomputable def C40 : Tab := tab 17 (toldO A_sB10Rain R_sB10Rain (fun x => sB10Rain x.1 x.2) (C39 17)) C39
theorem C40_ok : TabOk Try.prog C40 := tab_ok (sB10Rain_told) (C39_ok)

def A_iareFinite_1 : Shp := ⟨[.h], [], [.f .f32]⟩
def R_iareFinite_1 : List XShp := [(.ret, ⟨[.h], [], [.b]⟩)]

theorem iareFinite_1_e (x : DR A_iareFinite_1.hs) : (evFn (envT Try.prog C40 M18) noLoops Try.f108 (A_iareFinite_1.enc x).1).to (fun q => decX R_iareFinite_1 .ret [q.1] q.2) = iareFinite_1_t x := by kernel_rfl

theorem iareFinite_1_m (x : DR A_iareFinite_1.hs) : meanF (envT Try.prog C40 M18) noLoops Try.f108 A_iareFinite_1 R_iareFinite_1 x = some (show SumD (R_iareFinite_1.map (·.2)) from iareFinite_1 x) := @meanF_tot _ _ _ _ _ _ _ (iareFinite_1_e x) (show Inhabited (Bool) from inferInstance) (by kernel_rfl)

theorem iareFinite_1_ok : SpecOk Try.prog 108 (evFn (envT Try.prog C40 M18) noLoops Try.f108) := fnL_ok (envT_ok (C40_ok) (M18_ok)) mixedO Try.func108 (by kernel_rfl) (c := bodyOf Try.f108) (by kernel_rfl) (loopFree_ok (by kernel_rfl))

theorem iareFinite_1_told : SpecOk Try.prog 108 (toldT A_iareFinite_1 R_iareFinite_1 (fun x => iareFinite_1 x) (C40 108)) := toldT_ok (by kernel_rfl) iareFinite_1_ok (rest_ok (C40_ok) _) iareFinite_1_m

noncomputable def C41 : Tab := tab 108 (toldT A_iareFinite_1 R_iareFinite_1 (fun x => iareFinite_1 x) (C40 108)) C40
theorem C41_ok : TabOk Try.prog C41 := tab_ok (iareFinite_1_told) (C40_ok)

def S_lIndexFunc_iareFinite_1_l2 : Shp := ⟨[.h, .fn 108 [], .undef, .h, .h], [], [.sl [.f .f32], .i .i64, .i .i64]⟩
def X_lIndexFunc_iareFinite_1_l2 : List XShp := [(.ret, ⟨[.undef, .undef, .h, .undef, .undef], [], [.i .i64]⟩), (.exit 0, ⟨[.undef, .undef, .undef, .undef, .undef], [], []⟩)]

noncomputable def L_lIndexFunc_iareFinite_1_l2 : Loops := (⟨19, lvT [(2, [0, 1, 4, 7, 8])], mdT [(2, .normal, [], [4]), (2, .exit 0, [], [0, 1, 4, 7, 8]), (2, .ret, [], [0, 1, 7, 8])], fun k vs bs => .bad⟩ : Loops)

theorem lIndexFunc_iareFinite_1_l2_e (y0 : List Nat) (y1 : Int) (s : Int) : (loopStep (envT Try.prog C41 M18) L_lIndexFunc_iareFinite_1_l2 2 (loopC (bodyOf Try.f101) 2) (S_lIndexFunc_iareFinite_1_l2.enc (y0, y1, s)).1 (S_lIndexFunc_iareFinite_1_l2.enc (y0, y1, s)).2).to (stepD S_lIndexFunc_iareFinite_1_l2 X_lIndexFunc_iareFinite_1_l2) = (lIndexFunc_iareFinite_1_l2_t y0 y1 s).map (Sum.map (fun s : Int => (show DR S_lIndexFunc_iareFinite_1_l2.hs from (y0, y1, s))) id) := by kernel_rfl

theorem lIndexFunc_iareFinite_1_l2_r (x : DR S_lIndexFunc_iareFinite_1_l2.hs) : (lIndexFunc_iareFinite_1_l2 x.1 x.2.1 x.2.2 : Option (SumD (X_lIndexFunc_iareFinite_1_l2.map (·.2)))) = runL (meanS (envT Try.prog C41 M18) L_lIndexFunc_iareFinite_1_l2 2 (loopC (bodyOf Try.f101) 2) S_lIndexFunc_iareFinite_1_l2 X_lIndexFunc_iareFinite_1_l2) x := run_of (fun s : Int => (show DR S_lIndexFunc_iareFinite_1_l2.hs from (x.1, x.2.1, s))) (lIndexFunc_iareFinite_1_l2_e (x.1) (x.2.1)) x.2.2

theorem lIndexFunc_iareFinite_1_l2_k (L : Loops) (hn : L_lIndexFunc_iareFinite_1_l2.n = L.n) (hlv : L_lIndexFunc_iareFinite_1_l2.lv 2 = L.lv 2) (hL : ∀ vs bs, L.loop 2 vs bs = toldL S_lIndexFunc_iareFinite_1_l2 X_lIndexFunc_iareFinite_1_l2 (fun x => lIndexFunc_iareFinite_1_l2 x.1 x.2.1 x.2.2) vs bs) : LOk Try.prog (envT Try.prog C41 M18) L 2 (loopC (bodyOf Try.f101) 2) := toldL_ok (L1 := L_lIndexFunc_iareFinite_1_l2) (envT_ok (C41_ok) (M18_ok)) mixedO hn hlv (loopFree_ok (by kernel_rfl)) lIndexFunc_iareFinite_1_l2_r hL

def A_lIndexFunc_iareFinite_1 : Shp := ⟨[.h, .fn 108 []], [], [.sl [.f .f32]]⟩
def R_lIndexFunc_iareFinite_1 : List XShp := [(.ret, ⟨[.h], [], [.i .i64]⟩)]

noncomputable def L_lIndexFunc_iareFinite_1 : Loops := (⟨19, lvT [(2, [0, 1, 4, 7, 8])], mdT [(2, .normal, [], [4]), (2, .exit 0, [], [0, 1, 4, 7, 8]), (2, .ret, [], [0, 1, 7, 8])], fun k vs bs => bif Nat.beq k 2 then toldL S_lIndexFunc_iareFinite_1_l2 X_lIndexFunc_iareFinite_1_l2 (fun x => lIndexFunc_iareFinite_1_l2 x.1 x.2.1 x.2.2) vs bs else .bad⟩ : Loops)

theorem lIndexFunc_iareFinite_1_e (x : DR A_lIndexFunc_iareFinite_1.hs) : (evFn (envT Try.prog C41 M18) L_lIndexFunc_iareFinite_1 Try.f101 (A_lIndexFunc_iareFinite_1.enc x).1).to (fun q => decX R_lIndexFunc_iareFinite_1 .ret [q.1] q.2) = lIndexFunc_iareFinite_1_t x := by kernel_rfl

theorem lIndexFunc_iareFinite_1_m (x : DR A_lIndexFunc_iareFinite_1.hs) : meanF (envT Try.prog C41 M18) L_lIndexFunc_iareFinite_1 Try.f101 A_lIndexFunc_iareFinite_1 R_lIndexFunc_iareFinite_1 x = (show Option (SumD (R_lIndexFunc_iareFinite_1.map (·.2))) from lIndexFunc_iareFinite_1 x) := meanF_of (lIndexFunc_iareFinite_1_e x)

theorem lIndexFunc_iareFinite_1_ok : SpecOk Try.prog 101 (evFn (envT Try.prog C41 M18) L_lIndexFunc_iareFinite_1 Try.f101) := fnL_ok (envT_ok (C41_ok) (M18_ok)) mixedO Try.func101 (by kernel_rfl) (c := bodyOf Try.f101) (by kernel_rfl) (loopsL (l := [(2, loopC (bodyOf Try.f101) 2)]) (by kernel_rfl) (lk_cons (lIndexFunc_iareFinite_1_l2_k _ rfl rfl (fun _ _ => rfl)) lk_nil))

theorem lIndexFunc_iareFinite_1_told : SpecOk Try.prog 101 (toldO A_lIndexFunc_iareFinite_1 R_lIndexFunc_iareFinite_1 (fun x => lIndexFunc_iareFinite_1 x) (C41 101)) := toldO_ok (by kernel_rfl) lIndexFunc_iareFinite_1_ok (rest_ok (C41_ok) _) lIndexFunc_iareFinite_1_m

noncomputable def C42 : Tab := tab 101 (toldO A_lIndexFunc_iareFinite_1 R_lIndexFunc_iareFinite_1 (fun x => lIndexFunc_iareFinite_1 x) (C41 101)) C41
theorem C42_ok : TabOk Try.prog C42 := tab_ok (lIndexFunc_iareFinite_1_told) (C41_ok)

def A_lContainsFunc_iareFinite_1 : Shp := ⟨[.h, .fn 108 []], [], [.sl [.f .f32]]⟩
def R_lContainsFunc_iareFinite_1 : List XShp := [(.ret, ⟨[.h], [], [.b]⟩)]

theorem lContainsFunc_iareFinite_1_e (x : DR A_lContainsFunc_iareFinite_1.hs) : (evFn (envT Try.prog C42 M18) noLoops Try.f103 (A_lContainsFunc_iareFinite_1.enc x).1).to (fun q => decX R_lContainsFunc_iareFinite_1 .ret [q.1] q.2) = lContainsFunc_iareFinite_1_t x := by kernel_rfl

theorem lContainsFunc_iareFinite_1_m (x : DR A_lContainsFunc_iareFinite_1.hs) : meanF (envT Try.prog C42 M18) noLoops Try.f103 A_lContainsFunc_iareFinite_1 R_lContainsFunc_iareFinite_1 x = (show Option (SumD (R_lContainsFunc_iareFinite_1.map (·.2))) from lContainsFunc_iareFinite_1 x) := meanF_of (lContainsFunc_iareFinite_1_e x)

theorem lContainsFunc_iareFinite_1_ok : SpecOk Try.prog 103 (evFn (envT Try.prog C42 M18) noLoops Try.f103) := fnL_ok (envT_ok (C42_ok) (M18_ok)) mixedO Try.func103 (by kernel_rfl) (c := bodyOf Try.f103) (by kernel_rfl) (loopFree_ok (by kernel_rfl))

theorem lContainsFunc_iareFinite_1_told : SpecOk Try.prog 103 (toldO A_lContainsFunc_iareFinite_1 R_lContainsFunc_iareFinite_1 (fun x => lContainsFunc_iareFinite_1 x) (C42 103)) := toldO_ok (by kernel_rfl) lContainsFunc_iareFinite_1_ok (rest_ok (C42_ok) _) lContainsFunc_iareFinite_1_m

noncomputable def C43 : Tab := tab 103 (toldO A_lContainsFunc_iareFinite_1 R_lContainsFunc_iareFinite_1 (fun x => lContainsFunc_iareFinite_1 x) (C42 103)) C42
theorem C43_ok : TabOk Try.prog C43 := tab_ok (lContainsFunc_iareFinite_1_told) (C42_ok)

def A_iareFinite : Shp := ⟨[.h], [], [.sl [.f .f32]]⟩
def R_iareFinite : List XShp := [(.ret, ⟨[.h], [], [.b]⟩)]

theorem iareFinite_e (x : DR A_iareFinite.hs) : (evFn (envT Try.prog C43 M18) noLoops Try.f79 (A_iareFinite.enc x).1).to (fun q => decX R_iareFinite .ret [q.1] q.2) = iareFinite_t x := by kernel_rfl

theorem iareFinite_m (x : DR A_iareFinite.hs) : meanF (envT Try.prog C43 M18) noLoops Try.f79 A_iareFinite R_iareFinite x = (show Option (SumD (R_iareFinite.map (·.2))) from iareFinite x) := meanF_of (iareFinite_e x)

theorem iareFinite_ok : SpecOk Try.prog 79 (evFn (envT Try.prog C43 M18) noLoops Try.f79) := fnL_ok (envT_ok (C43_ok) (M18_ok)) mixedO Try.func79 (by kernel_rfl) (c := bodyOf Try.f79) (by kernel_rfl) (loopFree_ok (by kernel_rfl))

theorem iareFinite_told : SpecOk Try.prog 79 (toldO A_iareFinite R_iareFinite (fun x => iareFinite x) (C43 79)) := toldO_ok (by kernel_rfl) iareFinite_ok (rest_ok (C43_ok) _) iareFinite_m

noncomputable def C44 : Tab := tab 79 (toldO A_iareFinite R_iareFinite (fun x => iareFinite x) (C43 79)) C43
theorem C44_ok : TabOk Try.prog C44 := tab_ok (iareFinite_told) (C43_ok)

def A_iareIns : Shp := ⟨[.h], [], [.sl [.f .f32]]⟩
def R_iareIns : List XShp := [(.ret, ⟨[.h], [], [.b]⟩)]

theorem iareIns_e (x : DR A_iareIns.hs) : (evFn (envT Try.prog C44 M18) noLoops Try.f75 (A_iareIns.enc x).1).to (fun q => decX R_iareIns .ret [q.1] q.2) = iareIns_t x := by kernel_rfl

theorem iareIns_m (x : DR A_iareIns.hs) : meanF (envT Try.prog C44 M18) noLoops Try.f75 A_iareIns R_iareIns x = (show Option (SumD (R_iareIns.map (·.2))) from iareIns x) := meanF_of (iareIns_e x)

theorem iareIns_ok : SpecOk Try.prog 75 (evFn (envT Try.prog C44 M18) noLoops Try.f75) := fnL_ok (envT_ok (C44_ok) (M18_ok)) mixedO Try.func75 (by kernel_rfl) (c := bodyOf Try.f75) (by kernel_rfl) (loopFree_ok (by kernel_rfl))

theorem iareIns_told : SpecOk Try.prog 75 (toldO A_iareIns R_iareIns (fun x => iareIns x) (C44 75)) := toldO_ok (by kernel_rfl) iareIns_ok (rest_ok (C44_ok) _) iareIns_m

noncomputable def C45 : Tab := tab 75 (toldO A_iareIns R_iareIns (fun x => iareIns x) (C44 75)) C44
theorem C45_ok : TabOk Try.prog C45 := tab_ok (iareIns_told) (C44_ok)

def S_iRouteLake_l5 : Shp := ⟨[.h, .h, .h, .ref 0 0, .undef, .undef, .undef, .slw 1 1, .slw 2 1, .h, .h], [.cells [.h, .h] false, .arr [.f .f32] false, .arr [.f .f32] false], [.f .f32, .sl [.f .f32], .f .f32, .i .i64, .i .i64, .sl [.f .f32], .sl [.f .f32], .sl [.f .f32], .sl [.f .f32]]⟩
def X_iRouteLake_l5 : List XShp := [(.ret, ⟨[.undef, .undef, .undef, .undef, .nils, .nils, .lb false, .undef, .undef, .undef, .undef], [], []⟩), (.exit 0, ⟨[.undef, .undef, .undef, .undef, .undef, .undef, .undef, .slw 0 1, .slw 1 1, .undef, .undef], [.arr [.f .f32] false, .arr [.f .f32] false], [.sl [.f .f32], .sl [.f .f32]]⟩)]

noncomputable def L_iRouteLake_l5 : Loops := (⟨84, lvT [(5, [1, 2, 3, 4, 8, 9, 10, 11, 12, 40, 41])], mdT [(5, .normal, [], [8, 9, 10]), (5, .exit 0, [], [1, 2, 3, 4, 8, 9, 10, 40, 41]), (5, .ret, [], [1, 2, 3, 4, 11, 12, 40, 41])], fun k vs bs => .bad⟩ : Loops)

theorem iRouteLake_l5_e (y1 : List Nat) (y2 : Nat) (y3 : Int) (y5 : List Nat) (y6 : List Nat) (s : Nat × Int × List Nat × List Nat) : (loopStep (envT Try.prog C45 M18) L_iRouteLake_l5 5 (loopC (bodyOf Try.f18) 5) (S_iRouteLake_l5.enc (s.1, y1, y2, y3, s.2.1, y5, y6, s.2.2.1, s.2.2.2)).1 (S_iRouteLake_l5.enc (s.1, y1, y2, y3, s.2.1, y5, y6, s.2.2.1, s.2.2.2)).2).to (stepD S_iRouteLake_l5 X_iRouteLake_l5) = (iRouteLake_l5_t y1 y2 y3 y5 y6 s.1 s.2.1 s.2.2.1 s.2.2.2).map (Sum.map (fun s : Nat × Int × List Nat × List Nat => (show DR S_iRouteLake_l5.hs from (s.1, y1, y2, y3, s.2.1, y5, y6, s.2.2.1, s.2.2.2))) id) := by kernel_rfl

theorem iRouteLake_l5_r (x : DR S_iRouteLake_l5.hs) : (iRouteLake_l5 x.1 x.2.1 x.2.2.1 x.2.2.2.1 x.2.2.2.2.1 x.2.2.2.2.2.1 x.2.2.2.2.2.2.1 x.2.2.2.2.2.2.2.1 x.2.2.2.2.2.2.2.2 : Option (SumD (X_iRouteLake_l5.map (·.2)))) = runL (meanS (envT Try.prog C45 M18) L_iRouteLake_l5 5 (loopC (bodyOf Try.f18) 5) S_iRouteLake_l5 X_iRouteLake_l5) x := run_of (fun s : Nat × Int × List Nat × List Nat => (show DR S_iRouteLake_l5.hs from (s.1, x.2.1, x.2.2.1, x.2.2.2.1, s.2.1, x.2.2.2.2.2.1, x.2.2.2.2.2.2.1, s.2.2.1, s.2.2.2))) (iRouteLake_l5_e (x.2.1) (x.2.2.1) (x.2.2.2.1) (x.2.2.2.2.2.1) (x.2.2.2.2.2.2.1)) (x.1, x.2.2.2.2.1, x.2.2.2.2.2.2.2.1, x.2.2.2.2.2.2.2.2)

theorem iRouteLake_l5_k (L : Loops) (hn : L_iRouteLake_l5.n = L.n) (hlv : L_iRouteLake_l5.lv 5 = L.lv 5) (hL : ∀ vs bs, L.loop 5 vs bs = toldL S_iRouteLake_l5 X_iRouteLake_l5 (fun x => iRouteLake_l5 x.1 x.2.1 x.2.2.1 x.2.2.2.1 x.2.2.2.2.1 x.2.2.2.2.2.1 x.2.2.2.2.2.2.1 x.2.2.2.2.2.2.2.1 x.2.2.2.2.2.2.2.2) vs bs) : LOk Try.prog (envT Try.prog C45 M18) L 5 (loopC (bodyOf Try.f18) 5) := toldL_ok (L1 := L_iRouteLake_l5) (envT_ok (C45_ok) (M18_ok)) mixedO hn hlv (loopFree_ok (by kernel_rfl)) iRouteLake_l5_r hL

def A_iRouteLake : Shp := ⟨[.agg [.h, .h], .h, .h, .h], [], [.sl [.f .f32], .sl [.f .f32], .f .f32, .sl [.f .f32], .f .f32]⟩
def R_iRouteLake : List XShp := [(.ret, ⟨[.tup [.nils, .nils, .lb false]], [], []⟩), (.ret, ⟨[.tup [.slw 0 1, .slw 1 1, .lb true]], [.arr [.f .f32] false, .arr [.f .f32] false], [.sl [.f .f32], .sl [.f .f32]]⟩)]

noncomputable def L_iRouteLake : Loops := (⟨84, lvT [(5, [1, 2, 3, 4, 8, 9, 10, 11, 12, 40, 41])], mdT [(5, .normal, [], [8, 9, 10]), (5, .exit 0, [], [1, 2, 3, 4, 8, 9, 10, 40, 41]), (5, .ret, [], [1, 2, 3, 4, 11, 12, 40, 41])], fun k vs bs => bif Nat.beq k 5 then toldL S_iRouteLake_l5 X_iRouteLake_l5 (fun x => iRouteLake_l5 x.1 x.2.1 x.2.2.1 x.2.2.2.1 x.2.2.2.2.1 x.2.2.2.2.2.1 x.2.2.2.2.2.2.1 x.2.2.2.2.2.2.2.1 x.2.2.2.2.2.2.2.2) vs bs else .bad⟩ : Loops)

theorem iRouteLake_e (x : DR A_iRouteLake.hs) : (evFn (envT Try.prog C45 M18) L_iRouteLake Try.f18 (A_iRouteLake.enc x).1).to (fun q => decX R_iRouteLake .ret [q.1] q.2) = iRouteLake_t x.1 x.2.1 x.2.2.1 x.2.2.2.1 x.2.2.2.2 := by kernel_rfl

theorem iRouteLake_m (x : DR A_iRouteLake.hs) : meanF (envT Try.prog C45 M18) L_iRouteLake Try.f18 A_iRouteLake R_iRouteLake x = (show Option (SumD (R_iRouteLake.map (·.2))) from iRouteLake x.1 x.2.1 x.2.2.1 x.2.2.2.1 x.2.2.2.2) := meanF_of (iRouteLake_e x)

theorem iRouteLake_ok : SpecOk Try.prog 18 (evFn (envT Try.prog C45 M18) L_iRouteLake Try.f18) := fnL_ok (envT_ok (C45_ok) (M18_ok)) mixedO Try.func18 (by kernel_rfl) (c := bodyOf Try.f18) (by kernel_rfl) (loopsL (l := [(5, loopC (bodyOf Try.f18) 5)]) (by kernel_rfl) (lk_cons (iRouteLake_l5_k _ rfl rfl (fun _ _ => rfl)) lk_nil))

theorem iRouteLake_told : SpecOk Try.prog 18 (toldO A_iRouteLake R_iRouteLake (fun x => iRouteLake x.1 x.2.1 x.2.2.1 x.2.2.2.1 x.2.2.2.2) (C45 18)) := toldO_ok (by kernel_rfl) iRouteLake_ok (rest_ok (C45_ok) _) iRouteLake_m

noncomputable def C46 : Tab := tab 18 (toldO A_iRouteLake R_iRouteLake (fun x => iRouteLake x.1 x.2.1 x.2.2.1 x.2.2.2.1 x.2.2.2.2) (C45 18)) C45
theorem C46_ok : TabOk Try.prog C46 := tab_ok (iRouteLake_told) (C45_ok)

def A_sSameNumber : Shp := ⟨[.h, .h], [], [.f .f32, .f .f32]⟩
def R_sSameNumber : List XShp := [(.ret, ⟨[.h], [], [.b]⟩)]

theorem sSameNumber_e (x : DR A_sSameNumber.hs) : (evFn (envT Try.prog C46 M18) noLoops Try.f19 (A_sSameNumber.enc x).1).to (fun q => decX R_sSameNumber .ret [q.1] q.2) = sSameNumber_t x.1 x.2 := by kernel_rfl

theorem sSameNumber_m (x : DR A_sSameNumber.hs) : meanF (envT Try.prog C46 M18) noLoops Try.f19 A_sSameNumber R_sSameNumber x = some (show SumD (R_sSameNumber.map (·.2)) from sSameNumber x.1 x.2) := @meanF_tot _ _ _ _ _ _ _ (sSameNumber_e x) (show Inhabited (Bool) from inferInstance) (by kernel_rfl)

theorem sSameNumber_ok : SpecOk Try.prog 19 (evFn (envT Try.prog C46 M18) noLoops Try.f19) := fnL_ok (envT_ok (C46_ok) (M18_ok)) mixedO Try.func19 (by kernel_rfl) (c := bodyOf Try.f19) (by kernel_rfl) (loopFree_ok (by kernel_rfl))

theorem sSameNumber_told : SpecOk Try.prog 19 (toldT A_sSameNumber R_sSameNumber (fun x => sSameNumber x.1 x.2) (C46 19)) := toldT_ok (by kernel_rfl) sSameNumber_ok (rest_ok (C46_ok) _) sSameNumber_m

noncomputable def C47 : Tab := tab 19 (toldT A_sSameNumber R_sSameNumber (fun x => sSameNumber x.1 x.2) (C46 19)) C46
theorem C47_ok : TabOk Try.prog C47 := tab_ok (sSameNumber_told) (C46_ok)

def S_wFnLakes_l26 : Shp := ⟨[.undef, .ref 0 0, .slw 3 1, .slw 4 1, .slw 5 1, .h, .h, .h], [.cells [.slw 1 1, .slw 2 1] false, .arr [.f .f32] false, .arr [.f .f32] false, .arr [.f .f32] false, .arr [.f .f32] false, .arr [.f .f32] false], [.f .f32, .i .i64, .i .i64, .sl [.f .f32], .sl [.f .f32], .sl [.f .f32], .sl [.f .f32], .sl [.f .f32]]⟩
def X_wFnLakes_l26 : List XShp := [(.ret, ⟨[.lb false, .undef, .undef, .undef, .undef, .undef, .undef, .undef], [], []⟩), (.exit 0, ⟨[.undef, .undef, .undef, .undef, .undef, .undef, .undef, .undef], [], []⟩)]

noncomputable def L_wFnLakes_l26 : Loops := (⟨279, lvT [(26, [4, 5, 22, 23, 24, 26, 228, 229])], mdT [(26, .normal, [], [4]), (26, .exit 0, [], [4, 5, 22, 23, 24, 26, 228, 229]), (26, .ret, [], [5, 22, 23, 24, 26, 228, 229])], fun k vs bs => .bad⟩ : Loops)

theorem wFnLakes_l26_e (y1 : Int) (y3 : List Nat) (y4 : List Nat) (y5 : List Nat) (y6 : List Nat) (y7 : List Nat) (s : Nat × Int) : (loopStep (envT Try.prog C47 M18) L_wFnLakes_l26 26 (loopC (bodyOf Try.f3) 26) (S_wFnLakes_l26.enc (s.1, y1, s.2, y3, y4, y5, y6, y7)).1 (S_wFnLakes_l26.enc (s.1, y1, s.2, y3, y4, y5, y6, y7)).2).to (stepD S_wFnLakes_l26 X_wFnLakes_l26) = (wFnLakes_l26_t y1 y3 y4 y5 y6 y7 s.1 s.2).map (Sum.map (fun s : Nat × Int => (show DR S_wFnLakes_l26.hs from (s.1, y1, s.2, y3, y4, y5, y6, y7))) id) := by kernel_rfl

theorem wFnLakes_l26_r (x : DR S_wFnLakes_l26.hs) : (wFnLakes_l26 x.1 x.2.1 x.2.2.1 x.2.2.2.1 x.2.2.2.2.1 x.2.2.2.2.2.1 x.2.2.2.2.2.2.1 x.2.2.2.2.2.2.2 : Option (SumD (X_wFnLakes_l26.map (·.2)))) = runL (meanS (envT Try.prog C47 M18) L_wFnLakes_l26 26 (loopC (bodyOf Try.f3) 26) S_wFnLakes_l26 X_wFnLakes_l26) x := run_of (fun s : Nat × Int => (show DR S_wFnLakes_l26.hs from (s.1, x.2.1, s.2, x.2.2.2.1, x.2.2.2.2.1, x.2.2.2.2.2.1, x.2.2.2.2.2.2.1, x.2.2.2.2.2.2.2))) (wFnLakes_l26_e (x.2.1) (x.2.2.2.1) (x.2.2.2.2.1) (x.2.2.2.2.2.1) (x.2.2.2.2.2.2.1) (x.2.2.2.2.2.2.2)) (x.1, x.2.2.1)

theorem wFnLakes_l26_k (L : Loops) (hn : L_wFnLakes_l26.n = L.n) (hlv : L_wFnLakes_l26.lv 26 = L.lv 26) (hL : ∀ vs bs, L.loop 26 vs bs = toldL S_wFnLakes_l26 X_wFnLakes_l26 (fun x => wFnLakes_l26 x.1 x.2.1 x.2.2.1 x.2.2.2.1 x.2.2.2.2.1 x.2.2.2.2.2.1 x.2.2.2.2.2.2.1 x.2.2.2.2.2.2.2) vs bs) : LOk Try.prog (envT Try.prog C47 M18) L 26 (loopC (bodyOf Try.f3) 26) := toldL_ok (L1 := L_wFnLakes_l26) (envT_ok (C47_ok) (M18_ok)) mixedO hn hlv (loopFree_ok (by kernel_rfl)) wFnLakes_l26_r hL

def A_wFnLakes : Shp := ⟨[.h, .h], [], [.sl [.i .u8], .sl [.i .u8]]⟩
def R_wFnLakes : List XShp := [(.ret, ⟨[.h], [], [.b]⟩)]

noncomputable def L_wFnLakes : Loops := (⟨279, lvT [(26, [4, 5, 22, 23, 24, 26, 228, 229])], mdT [(26, .normal, [], [4]), (26, .exit 0, [], [4, 5, 22, 23, 24, 26, 228, 229]), (26, .ret, [], [5, 22, 23, 24, 26, 228, 229])], fun k vs bs => bif Nat.beq k 26 then toldL S_wFnLakes_l26 X_wFnLakes_l26 (fun x => wFnLakes_l26 x.1 x.2.1 x.2.2.1 x.2.2.2.1 x.2.2.2.2.1 x.2.2.2.2.2.1 x.2.2.2.2.2.2.1 x.2.2.2.2.2.2.2) vs bs else .bad⟩ : Loops)

theorem wFnLakes_e (x : DR A_wFnLakes.hs) : (evFn (envT Try.prog C47 M18) L_wFnLakes Try.f3 (A_wFnLakes.enc x).1).to (fun q => decX R_wFnLakes .ret [q.1] q.2) = wFnLakes_t x.1 x.2 := by kernel_rfl

theorem wFnLakes_m (x : DR A_wFnLakes.hs) : meanF (envT Try.prog C47 M18) L_wFnLakes Try.f3 A_wFnLakes R_wFnLakes x = (show Option (SumD (R_wFnLakes.map (·.2))) from wFnLakes x.1 x.2) := meanF_of (wFnLakes_e x)

theorem wFnLakes_ok : SpecOk Try.prog 3 (evFn (envT Try.prog C47 M18) L_wFnLakes Try.f3) := fnL_ok (envT_ok (C47_ok) (M18_ok)) mixedO Try.func3 (by kernel_rfl) (c := bodyOf Try.f3) (by kernel_rfl) (loopsL (l := [(26, loopC (bodyOf Try.f3) 26)]) (by kernel_rfl) (lk_cons (wFnLakes_l26_k _ rfl rfl (fun _ _ => rfl)) lk_nil))

theorem wFnLakes_told : SpecOk Try.prog 3 (toldO A_wFnLakes R_wFnLakes (fun x => wFnLakes x.1 x.2) (C47 3)) := toldO_ok (by kernel_rfl) wFnLakes_ok (rest_ok (C47_ok) _) wFnLakes_m

noncomputable def C48 : Tab := tab 3 (toldO A_wFnLakes R_wFnLakes (fun x => wFnLakes x.1 x.2) (C47 3)) C47
theorem C48_ok : TabOk Try.prog C48 := tab_ok (wFnLakes_told) (C47_ok)

theorem lawFnLakes_ok : SpecOk Try.prog 3 (evFn (envT Try.prog C47 M18) L_wFnLakes Try.f3) := wFnLakes_ok
theorem lawFnLakes_says (x : DR A_wFnLakes.hs) (h : (show Option (SumD (R_wFnLakes.map (·.2))) from wFnLakes x.1 x.2) = some true) : saysTrue (evFn (envT Try.prog C47 M18) L_wFnLakes Try.f3 (A_wFnLakes.enc x).1) = true := law_says (x := x) ((wFnLakes_m x).trans h)

theorem lawFnLakes_true (x0 : List Int) (x1 : List Int) (h : wFnLakes x0 x1 = some true) : saysTrue (evFn (envT Try.prog C47 M18) L_wFnLakes Try.f3 [.ds [.i .u8] x0, .ds [.i .u8] x1]) = true := (congrArg (fun l => saysTrue (evFn (envT Try.prog C47 M18) L_wFnLakes Try.f3 l)) (by kernel_rfl : ([.ds [.i .u8] x0, .ds [.i .u8] x1] : List V) = (A_wFnLakes.enc (x0, x1)).1)).trans (lawFnLakes_says (x0, x1) h)
end Go.Proofs.Ytpglfnkkmafhbaa
