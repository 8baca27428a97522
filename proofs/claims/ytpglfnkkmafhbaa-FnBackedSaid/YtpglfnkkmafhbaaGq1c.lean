/- Functions, as plain functions. What the program comes to. -/
import Derived.Test.YtpglfnkkmafhbaaGq1d
import Derived.Test.YtpglfnkkmafhbaaDc
import Derived.Test.YtpglfnkkmafhbaaNv
import Derived.KernelRfl
set_option linter.unusedVariables false
set_option linter.unusedSimpArgs false
set_option linter.constructorNameAsVariable false
namespace Go.Proofs.Ytpglfnkkmafhbaa
open Go.RowKit
set_option maxRecDepth 100000
theorem mixedO : (Try.prog).follows .mixedOrders = true := by kernel_rfl
noncomputable def C0 : Tab := tab 113 (spFB .f32 (isFin .f32)) tab0
theorem C0_ok : TabOk Try.prog C0 := tab_ok (spFB_ok Try.func113 (by kernel_rfl) (fun hx => l01Finite_c hx)) (tab0_ok _)

noncomputable def C1 : Tab := tab 65 (spFB .f32 (isFin .f32)) C0
theorem C1_ok : TabOk Try.prog C1 := tab_ok (spFB_ok Try.func65 (by kernel_rfl) (fun hx => IsFinite_c hx)) (C0_ok)

noncomputable def C2 : Tab := tab 111 (spFB .f32 isLen) C1
theorem C2_ok : TabOk Try.prog C2 := tab_ok (spFB_ok Try.func111 (by kernel_rfl) (fun hx => l02Above_c hx)) (C1_ok)

noncomputable def C3 : Tab := tab 70 (spFB .f32 isLen) C2
theorem C3_ok : TabOk Try.prog C3 := tab_ok (spFB_ok Try.func70 (by kernel_rfl) (fun hx => aLength_c hx)) (C2_ok)

noncomputable def C4 : Tab := tab 83 (spFB .f32 isMass) C3
theorem C4_ok : TabOk Try.prog C4 := tab_ok (spFB_ok Try.func83 (by kernel_rfl) (fun hx => l02Least_c hx)) (C3_ok)

noncomputable def C5 : Tab := tab 86 (spFB .f32 isMass) C4
theorem C5_ok : TabOk Try.prog C5 := tab_ok (spFB_ok Try.func86 (by kernel_rfl) (fun hx => aMass_c hx)) (C4_ok)

noncomputable def C6 : Tab := tab 114 (spFF .f32 .f32 froot) C5
theorem C6_ok : TabOk Try.prog C6 := tab_ok (spFF_ok Try.func114 (by kernel_rfl) (fun hx => l01Sqrt_c hx)) (C5_ok)

noncomputable def C7 : Tab := tab 87 (spFF .f32 .f32 froot) C6
theorem C7_ok : TabOk Try.prog C7 := tab_ok (spFF_ok Try.func87 (by kernel_rfl) (fun hx => RootNumber_c hx)) (C6_ok)

noncomputable def C8 : Tab := tab 76 (spFFtoB .f32 natEq) C7
theorem C8_ok : TabOk Try.prog C8 := tab_ok (spFFtoB_ok Try.func76 (by kernel_rfl) (fun hx hy => l01Same_c hx hy)) (C7_ok)

noncomputable def C9 : Tab := tab 106 (spFFtoB .f32 natEq) C8
theorem C9_ok : TabOk Try.prog C9 := tab_ok (spFFtoB_ok Try.func106 (by kernel_rfl) (fun hx hy => SameNumber_c hx hy)) (C8_ok)

noncomputable def C10 : Tab := tab 100 (spFB .f64 (isFin .f64)) C9
theorem C10_ok : TabOk Try.prog C10 := tab_ok (spFB_ok Try.func100 (by kernel_rfl) (fun hx => finite_c hx)) (C9_ok)

noncomputable def C11 : Tab := tab 124 (spFB .f64 (isN .f64)) C10
theorem C11_ok : TabOk Try.prog C11 := tab_ok (spFB_ok Try.func124 (by kernel_rfl) (fun hx => isNaN_c hx)) (C10_ok)

noncomputable def C12 : Tab := tab 123 (spFF .f64 .f64 (fabs .f64)) C11
theorem C12_ok : TabOk Try.prog C12 := tab_ok (spFF_ok Try.func123 (by kernel_rfl) (fun hx => abs_c hx)) (C11_ok)

noncomputable def C13 : Tab := tab 116 (spFF .f64 .f64 (fsqrt .f64)) C12
theorem C13_ok : TabOk Try.prog C13 := tab_ok (spFF_ok Try.func116 (by kernel_rfl) (fun hx => Sqrt_c hx)) (C12_ok)

noncomputable def C14 : Tab := tab 131 (spFrom) C13
theorem C14_ok : TabOk Try.prog C14 := tab_ok ((spFrom_ok (fun n w => ext_from64 n w))) (C13_ok)

def A_wr8Long : Shp := ⟨[.h, .h], [], [.sl [.i .u8], .sl [.i .u8]]⟩
def R_wr8Long : List XShp := [(.ret, ⟨[.h], [], [.b]⟩)]

theorem wr8Long_e (x : DR A_wr8Long.hs) : (evFn (envT Try.prog C14 mtab0) noLoops Try.f35 (A_wr8Long.enc x).1).to (fun q => decX R_wr8Long .ret [q.1] q.2) = wr8Long_t x.1 x.2 := by kernel_rfl

theorem wr8Long_m (x : DR A_wr8Long.hs) : meanF (envT Try.prog C14 mtab0) noLoops Try.f35 A_wr8Long R_wr8Long x = some (show SumD (R_wr8Long.map (·.2)) from wr8Long x.1 x.2) := @meanF_tot _ _ _ _ _ _ _ (wr8Long_e x) (show Inhabited (Bool) from inferInstance) (by kernel_rfl)

theorem wr8Long_ok : SpecOk Try.prog 35 (evFn (envT Try.prog C14 mtab0) noLoops Try.f35) := fnL_ok (envT_ok (C14_ok) (mtab0_ok _)) mixedO Try.func35 (by kernel_rfl) (c := bodyOf Try.f35) (by kernel_rfl) (loopFree_ok (by kernel_rfl))

theorem wr8Long_told : SpecOk Try.prog 35 (toldT A_wr8Long R_wr8Long (fun x => wr8Long x.1 x.2) (C14 35)) := toldT_ok (by kernel_rfl) wr8Long_ok (rest_ok (C14_ok) _) wr8Long_m

noncomputable def C15 : Tab := tab 35 (toldT A_wr8Long R_wr8Long (fun x => wr8Long x.1 x.2) (C14 35)) C14
theorem C15_ok : TabOk Try.prog C15 := tab_ok (wr8Long_told) (C14_ok)

def A_sl00From : Shp := ⟨[.h], [], [.sl [.i .u8]]⟩
def R_sl00From : List XShp := [(.ret, ⟨[.ref 0 0], [.cells [.h, .h, .h] false], [.sl [.i .u8], .i .i64, .i .u64]⟩)]

theorem sl00From_e (x : DR A_sl00From.hs) : (evFn (envT Try.prog C15 mtab0) noLoops Try.f63 (A_sl00From.enc x).1).to (fun q => decX R_sl00From .ret [q.1] q.2) = sl00From_t x := by kernel_rfl

theorem sl00From_m (x : DR A_sl00From.hs) : meanF (envT Try.prog C15 mtab0) noLoops Try.f63 A_sl00From R_sl00From x = some (show SumD (R_sl00From.map (·.2)) from sl00From x) := @meanF_tot _ _ _ _ _ _ _ (sl00From_e x) (show Inhabited (List Int × Int × Int) from inferInstance) (by kernel_rfl)

theorem sl00From_ok : SpecOk Try.prog 63 (evFn (envT Try.prog C15 mtab0) noLoops Try.f63) := fnL_ok (envT_ok (C15_ok) (mtab0_ok _)) mixedO Try.func63 (by kernel_rfl) (c := bodyOf Try.f63) (by kernel_rfl) (loopFree_ok (by kernel_rfl))

theorem sl00From_told : SpecOk Try.prog 63 (toldT A_sl00From R_sl00From (fun x => sl00From x) (C15 63)) := toldT_ok (by kernel_rfl) sl00From_ok (rest_ok (C15_ok) _) sl00From_m

noncomputable def C16 : Tab := tab 63 (toldT A_sl00From R_sl00From (fun x => sl00From x) (C15 63)) C15
theorem C16_ok : TabOk Try.prog C16 := tab_ok (sl00From_told) (C15_ok)

def A_sl00Src_next : Shp := ⟨[.ref 0 0], [.cells [.h, .h, .h] false], [.sl [.i .u8], .i .i64, .i .u64]⟩
def R_sl00Src_next : List XShp := [(.ret, ⟨[.h], [.cells [.h, .h, .h] false], [.i .i64, .sl [.i .u8], .i .i64, .i .u64]⟩)]

theorem sl00Src_next_e (x : DR A_sl00Src_next.hs) : (evFnM (envW Try.prog C16 mtab0 1) noLoops Try.f99 (A_sl00Src_next.enc x).1 ((A_sl00Src_next.enc x).2.map (·.blk))).to (decM R_sl00Src_next) = sl00Src_next_t x.1 x.2.1 x.2.2 := by kernel_rfl

theorem sl00Src_next_m (x : DR A_sl00Src_next.hs) : meanM (envW Try.prog C16 mtab0 1) noLoops Try.f99 A_sl00Src_next R_sl00Src_next x = (show Option (SumD (R_sl00Src_next.map (·.2))) from sl00Src_next x.1 x.2.1 x.2.2) := meanM_of (sl00Src_next_e x)

theorem sl00Src_next_ok : MSpecOk Try.prog 99 (evFnM (envW Try.prog C16 mtab0 1) noLoops Try.f99) := fnM_ok (envW_ok (C16_ok) (mtab0_ok _)) rfl mixedO Try.func99 (by kernel_rfl) (c := bodyOf Try.f99) (by kernel_rfl) (loopFree_ok (by kernel_rfl))

theorem sl00Src_next_told : MSpecOk Try.prog 99 (toldMO A_sl00Src_next R_sl00Src_next (fun x => sl00Src_next x.1 x.2.1 x.2.2) (mrest mtab0 99)) := toldMO_ok (by kernel_rfl) sl00Src_next_ok (mrest_ok (mtab0_ok _) _) sl00Src_next_m

noncomputable def M17 : MTab := mtab 99 (toldMO A_sl00Src_next R_sl00Src_next (fun x => sl00Src_next x.1 x.2.1 x.2.2) (mrest mtab0 99)) mtab0
theorem M17_ok : MTabOk Try.prog M17 := mtab_ok (sl00Src_next_told) (mtab0_ok _)

def A_sl00Src_pick : Shp := ⟨[.ref 0 0, .h], [.cells [.h, .h, .h] false], [.i .i64, .sl [.i .u8], .i .i64, .i .u64]⟩
def R_sl00Src_pick : List XShp := [(.ret, ⟨[.h], [.cells [.h, .h, .h] false], [.i .i64, .sl [.i .u8], .i .i64, .i .u64]⟩)]

theorem sl00Src_pick_e (x : DR A_sl00Src_pick.hs) : (evFnM (envW Try.prog C16 M17 1) noLoops Try.f64 (A_sl00Src_pick.enc x).1 ((A_sl00Src_pick.enc x).2.map (·.blk))).to (decM R_sl00Src_pick) = sl00Src_pick_t x.1 x.2.1 x.2.2.1 x.2.2.2 := by kernel_rfl

theorem sl00Src_pick_m (x : DR A_sl00Src_pick.hs) : meanM (envW Try.prog C16 M17 1) noLoops Try.f64 A_sl00Src_pick R_sl00Src_pick x = (show Option (SumD (R_sl00Src_pick.map (·.2))) from sl00Src_pick x.1 x.2.1 x.2.2.1 x.2.2.2) := meanM_of (sl00Src_pick_e x)

theorem sl00Src_pick_ok : MSpecOk Try.prog 64 (evFnM (envW Try.prog C16 M17 1) noLoops Try.f64) := fnM_ok (envW_ok (C16_ok) (M17_ok)) rfl mixedO Try.func64 (by kernel_rfl) (c := bodyOf Try.f64) (by kernel_rfl) (loopFree_ok (by kernel_rfl))

theorem sl00Src_pick_told : MSpecOk Try.prog 64 (toldMO A_sl00Src_pick R_sl00Src_pick (fun x => sl00Src_pick x.1 x.2.1 x.2.2.1 x.2.2.2) (mrest M17 64)) := toldMO_ok (by kernel_rfl) sl00Src_pick_ok (mrest_ok (M17_ok) _) sl00Src_pick_m

noncomputable def M18 : MTab := mtab 64 (toldMO A_sl00Src_pick R_sl00Src_pick (fun x => sl00Src_pick x.1 x.2.1 x.2.2.1 x.2.2.2) (mrest M17 64)) M17
theorem M18_ok : MTabOk Try.prog M18 := mtab_ok (sl00Src_pick_told) (M17_ok)

def A_sl04DrawOk : Shp := ⟨[.ref 0 0], [.cells [.h, .h, .h] false], [.sl [.i .u8], .i .i64, .i .u64]⟩
def R_sl04DrawOk : List XShp := [(.ret, ⟨[.agg [.h, .h, .h, .h]], [.cells [.h, .h, .h] false], [.f .f32, .f .f32, .f .f32, .f .f32, .sl [.i .u8], .i .i64, .i .u64]⟩)]

theorem sl04DrawOk_e (x : DR A_sl04DrawOk.hs) : (evFnM (envW Try.prog C16 M18 1) noLoops Try.f89 (A_sl04DrawOk.enc x).1 ((A_sl04DrawOk.enc x).2.map (·.blk))).to (decM R_sl04DrawOk) = sl04DrawOk_t x.1 x.2.1 x.2.2 := by kernel_rfl

theorem sl04DrawOk_m (x : DR A_sl04DrawOk.hs) : meanM (envW Try.prog C16 M18 1) noLoops Try.f89 A_sl04DrawOk R_sl04DrawOk x = (show Option (SumD (R_sl04DrawOk.map (·.2))) from sl04DrawOk x.1 x.2.1 x.2.2) := meanM_of (sl04DrawOk_e x)

theorem sl04DrawOk_ok : MSpecOk Try.prog 89 (evFnM (envW Try.prog C16 M18 1) noLoops Try.f89) := fnM_ok (envW_ok (C16_ok) (M18_ok)) rfl mixedO Try.func89 (by kernel_rfl) (c := bodyOf Try.f89) (by kernel_rfl) (loopFree_ok (by kernel_rfl))

theorem sl04DrawOk_told : MSpecOk Try.prog 89 (toldMO A_sl04DrawOk R_sl04DrawOk (fun x => sl04DrawOk x.1 x.2.1 x.2.2) (mrest M18 89)) := toldMO_ok (by kernel_rfl) sl04DrawOk_ok (mrest_ok (M18_ok) _) sl04DrawOk_m

noncomputable def M19 : MTab := mtab 89 (toldMO A_sl04DrawOk R_sl04DrawOk (fun x => sl04DrawOk x.1 x.2.1 x.2.2) (mrest M18 89)) M18
theorem M19_ok : MTabOk Try.prog M19 := mtab_ok (sl04DrawOk_told) (M18_ok)

def A_sR8Section : Shp := ⟨[.h], [], [.sl [.i .u8]]⟩
def R_sR8Section : List XShp := [(.ret, ⟨[.agg [.h, .h, .h, .h]], [], [.f .f32, .f .f32, .f .f32, .f .f32]⟩)]

theorem sR8Section_e (x : DR A_sR8Section.hs) : (evFn (envT Try.prog C16 M19) noLoops Try.f36 (A_sR8Section.enc x).1).to (fun q => decX R_sR8Section .ret [q.1] q.2) = sR8Section_t x := by kernel_rfl

theorem sR8Section_m (x : DR A_sR8Section.hs) : meanF (envT Try.prog C16 M19) noLoops Try.f36 A_sR8Section R_sR8Section x = (show Option (SumD (R_sR8Section.map (·.2))) from sR8Section x) := meanF_of (sR8Section_e x)

theorem sR8Section_ok : SpecOk Try.prog 36 (evFn (envT Try.prog C16 M19) noLoops Try.f36) := fnL_ok (envT_ok (C16_ok) (M19_ok)) mixedO Try.func36 (by kernel_rfl) (c := bodyOf Try.f36) (by kernel_rfl) (loopFree_ok (by kernel_rfl))

theorem sR8Section_told : SpecOk Try.prog 36 (toldO A_sR8Section R_sR8Section (fun x => sR8Section x) (C16 36)) := toldO_ok (by kernel_rfl) sR8Section_ok (rest_ok (C16_ok) _) sR8Section_m

noncomputable def C20 : Tab := tab 36 (toldO A_sR8Section R_sR8Section (fun x => sR8Section x) (C16 36)) C16
theorem C20_ok : TabOk Try.prog C20 := tab_ok (sR8Section_told) (C16_ok)

def A_wr8At : Shp := ⟨[.h, .h, .h], [], [.sl [.i .u8], .i .i64, .i .i64]⟩
def R_wr8At : List XShp := [(.ret, ⟨[.h], [], [.i .i64]⟩)]

theorem wr8At_e (x : DR A_wr8At.hs) : (evFn (envT Try.prog C20 M19) noLoops Try.f37 (A_wr8At.enc x).1).to (fun q => decX R_wr8At .ret [q.1] q.2) = wr8At_t x.1 x.2.1 x.2.2 := by kernel_rfl

theorem wr8At_m (x : DR A_wr8At.hs) : meanF (envT Try.prog C20 M19) noLoops Try.f37 A_wr8At R_wr8At x = (show Option (SumD (R_wr8At.map (·.2))) from wr8At x.1 x.2.1 x.2.2) := meanF_of (wr8At_e x)

theorem wr8At_ok : SpecOk Try.prog 37 (evFn (envT Try.prog C20 M19) noLoops Try.f37) := fnL_ok (envT_ok (C20_ok) (M19_ok)) mixedO Try.func37 (by kernel_rfl) (c := bodyOf Try.f37) (by kernel_rfl) (loopFree_ok (by kernel_rfl))

theorem wr8At_told : SpecOk Try.prog 37 (toldO A_wr8At R_wr8At (fun x => wr8At x.1 x.2.1 x.2.2) (C20 37)) := toldO_ok (by kernel_rfl) wr8At_ok (rest_ok (C20_ok) _) wr8At_m

noncomputable def C21 : Tab := tab 37 (toldO A_wr8At R_wr8At (fun x => wr8At x.1 x.2.1 x.2.2) (C20 37)) C20
theorem C21_ok : TabOk Try.prog C21 := tab_ok (wr8At_told) (C20_ok)

def A_iareMasses_1 : Shp := ⟨[.h], [], [.f .f32]⟩
def R_iareMasses_1 : List XShp := [(.ret, ⟨[.h], [], [.b]⟩)]

theorem iareMasses_1_e (x : DR A_iareMasses_1.hs) : (evFn (envT Try.prog C21 M19) noLoops Try.f104 (A_iareMasses_1.enc x).1).to (fun q => decX R_iareMasses_1 .ret [q.1] q.2) = iareMasses_1_t x := by kernel_rfl

theorem iareMasses_1_m (x : DR A_iareMasses_1.hs) : meanF (envT Try.prog C21 M19) noLoops Try.f104 A_iareMasses_1 R_iareMasses_1 x = some (show SumD (R_iareMasses_1.map (·.2)) from iareMasses_1 x) := @meanF_tot _ _ _ _ _ _ _ (iareMasses_1_e x) (show Inhabited (Bool) from inferInstance) (by kernel_rfl)

theorem iareMasses_1_ok : SpecOk Try.prog 104 (evFn (envT Try.prog C21 M19) noLoops Try.f104) := fnL_ok (envT_ok (C21_ok) (M19_ok)) mixedO Try.func104 (by kernel_rfl) (c := bodyOf Try.f104) (by kernel_rfl) (loopFree_ok (by kernel_rfl))

theorem iareMasses_1_told : SpecOk Try.prog 104 (toldT A_iareMasses_1 R_iareMasses_1 (fun x => iareMasses_1 x) (C21 104)) := toldT_ok (by kernel_rfl) iareMasses_1_ok (rest_ok (C21_ok) _) iareMasses_1_m

noncomputable def C22 : Tab := tab 104 (toldT A_iareMasses_1 R_iareMasses_1 (fun x => iareMasses_1 x) (C21 104)) C21
theorem C22_ok : TabOk Try.prog C22 := tab_ok (iareMasses_1_told) (C21_ok)

def S_lIndexFunc_iareMasses_1_l2 : Shp := ⟨[.h, .fn 104 [], .undef, .h, .h], [], [.sl [.f .f32], .i .i64, .i .i64]⟩
def X_lIndexFunc_iareMasses_1_l2 : List XShp := [(.ret, ⟨[.undef, .undef, .h, .undef, .undef], [], [.i .i64]⟩), (.exit 0, ⟨[.undef, .undef, .undef, .undef, .undef], [], []⟩)]

noncomputable def L_lIndexFunc_iareMasses_1_l2 : Loops := (⟨19, lvT [(2, [0, 1, 4, 7, 8])], mdT [(2, .normal, [], [4]), (2, .exit 0, [], [0, 1, 4, 7, 8]), (2, .ret, [], [0, 1, 7, 8])], fun k vs bs => .bad⟩ : Loops)

theorem lIndexFunc_iareMasses_1_l2_e (y0 : List Nat) (y1 : Int) (s : Int) : (loopStep (envT Try.prog C22 M19) L_lIndexFunc_iareMasses_1_l2 2 (loopC (bodyOf Try.f101) 2) (S_lIndexFunc_iareMasses_1_l2.enc (y0, y1, s)).1 (S_lIndexFunc_iareMasses_1_l2.enc (y0, y1, s)).2).to (stepD S_lIndexFunc_iareMasses_1_l2 X_lIndexFunc_iareMasses_1_l2) = (lIndexFunc_iareMasses_1_l2_t y0 y1 s).map (Sum.map (fun s : Int => (show DR S_lIndexFunc_iareMasses_1_l2.hs from (y0, y1, s))) id) := by kernel_rfl

theorem lIndexFunc_iareMasses_1_l2_r (x : DR S_lIndexFunc_iareMasses_1_l2.hs) : (lIndexFunc_iareMasses_1_l2 x.1 x.2.1 x.2.2 : Option (SumD (X_lIndexFunc_iareMasses_1_l2.map (·.2)))) = runL (meanS (envT Try.prog C22 M19) L_lIndexFunc_iareMasses_1_l2 2 (loopC (bodyOf Try.f101) 2) S_lIndexFunc_iareMasses_1_l2 X_lIndexFunc_iareMasses_1_l2) x := run_of (fun s : Int => (show DR S_lIndexFunc_iareMasses_1_l2.hs from (x.1, x.2.1, s))) (lIndexFunc_iareMasses_1_l2_e (x.1) (x.2.1)) x.2.2

theorem lIndexFunc_iareMasses_1_l2_k (L : Loops) (hn : L_lIndexFunc_iareMasses_1_l2.n = L.n) (hlv : L_lIndexFunc_iareMasses_1_l2.lv 2 = L.lv 2) (hL : ∀ vs bs, L.loop 2 vs bs = toldL S_lIndexFunc_iareMasses_1_l2 X_lIndexFunc_iareMasses_1_l2 (fun x => lIndexFunc_iareMasses_1_l2 x.1 x.2.1 x.2.2) vs bs) : LOk Try.prog (envT Try.prog C22 M19) L 2 (loopC (bodyOf Try.f101) 2) := toldL_ok (L1 := L_lIndexFunc_iareMasses_1_l2) (envT_ok (C22_ok) (M19_ok)) mixedO hn hlv (loopFree_ok (by kernel_rfl)) lIndexFunc_iareMasses_1_l2_r hL

def A_lIndexFunc_iareMasses_1 : Shp := ⟨[.h, .fn 104 []], [], [.sl [.f .f32]]⟩
def R_lIndexFunc_iareMasses_1 : List XShp := [(.ret, ⟨[.h], [], [.i .i64]⟩)]

noncomputable def L_lIndexFunc_iareMasses_1 : Loops := (⟨19, lvT [(2, [0, 1, 4, 7, 8])], mdT [(2, .normal, [], [4]), (2, .exit 0, [], [0, 1, 4, 7, 8]), (2, .ret, [], [0, 1, 7, 8])], fun k vs bs => bif Nat.beq k 2 then toldL S_lIndexFunc_iareMasses_1_l2 X_lIndexFunc_iareMasses_1_l2 (fun x => lIndexFunc_iareMasses_1_l2 x.1 x.2.1 x.2.2) vs bs else .bad⟩ : Loops)

theorem lIndexFunc_iareMasses_1_e (x : DR A_lIndexFunc_iareMasses_1.hs) : (evFn (envT Try.prog C22 M19) L_lIndexFunc_iareMasses_1 Try.f101 (A_lIndexFunc_iareMasses_1.enc x).1).to (fun q => decX R_lIndexFunc_iareMasses_1 .ret [q.1] q.2) = lIndexFunc_iareMasses_1_t x := by kernel_rfl

theorem lIndexFunc_iareMasses_1_m (x : DR A_lIndexFunc_iareMasses_1.hs) : meanF (envT Try.prog C22 M19) L_lIndexFunc_iareMasses_1 Try.f101 A_lIndexFunc_iareMasses_1 R_lIndexFunc_iareMasses_1 x = (show Option (SumD (R_lIndexFunc_iareMasses_1.map (·.2))) from lIndexFunc_iareMasses_1 x) := meanF_of (lIndexFunc_iareMasses_1_e x)

theorem lIndexFunc_iareMasses_1_ok : SpecOk Try.prog 101 (evFn (envT Try.prog C22 M19) L_lIndexFunc_iareMasses_1 Try.f101) := fnL_ok (envT_ok (C22_ok) (M19_ok)) mixedO Try.func101 (by kernel_rfl) (c := bodyOf Try.f101) (by kernel_rfl) (loopsL (l := [(2, loopC (bodyOf Try.f101) 2)]) (by kernel_rfl) (lk_cons (lIndexFunc_iareMasses_1_l2_k _ rfl rfl (fun _ _ => rfl)) lk_nil))

theorem lIndexFunc_iareMasses_1_told : SpecOk Try.prog 101 (toldO A_lIndexFunc_iareMasses_1 R_lIndexFunc_iareMasses_1 (fun x => lIndexFunc_iareMasses_1 x) (C22 101)) := toldO_ok (by kernel_rfl) lIndexFunc_iareMasses_1_ok (rest_ok (C22_ok) _) lIndexFunc_iareMasses_1_m

noncomputable def C23 : Tab := tab 101 (toldO A_lIndexFunc_iareMasses_1 R_lIndexFunc_iareMasses_1 (fun x => lIndexFunc_iareMasses_1 x) (C22 101)) C22
theorem C23_ok : TabOk Try.prog C23 := tab_ok (lIndexFunc_iareMasses_1_told) (C22_ok)

def A_lContainsFunc_iareMasses_1 : Shp := ⟨[.h, .fn 104 []], [], [.sl [.f .f32]]⟩
def R_lContainsFunc_iareMasses_1 : List XShp := [(.ret, ⟨[.h], [], [.b]⟩)]

theorem lContainsFunc_iareMasses_1_e (x : DR A_lContainsFunc_iareMasses_1.hs) : (evFn (envT Try.prog C23 M19) noLoops Try.f103 (A_lContainsFunc_iareMasses_1.enc x).1).to (fun q => decX R_lContainsFunc_iareMasses_1 .ret [q.1] q.2) = lContainsFunc_iareMasses_1_t x := by kernel_rfl

theorem lContainsFunc_iareMasses_1_m (x : DR A_lContainsFunc_iareMasses_1.hs) : meanF (envT Try.prog C23 M19) noLoops Try.f103 A_lContainsFunc_iareMasses_1 R_lContainsFunc_iareMasses_1 x = (show Option (SumD (R_lContainsFunc_iareMasses_1.map (·.2))) from lContainsFunc_iareMasses_1 x) := meanF_of (lContainsFunc_iareMasses_1_e x)

theorem lContainsFunc_iareMasses_1_ok : SpecOk Try.prog 103 (evFn (envT Try.prog C23 M19) noLoops Try.f103) := fnL_ok (envT_ok (C23_ok) (M19_ok)) mixedO Try.func103 (by kernel_rfl) (c := bodyOf Try.f103) (by kernel_rfl) (loopFree_ok (by kernel_rfl))

theorem lContainsFunc_iareMasses_1_told : SpecOk Try.prog 103 (toldO A_lContainsFunc_iareMasses_1 R_lContainsFunc_iareMasses_1 (fun x => lContainsFunc_iareMasses_1 x) (C23 103)) := toldO_ok (by kernel_rfl) lContainsFunc_iareMasses_1_ok (rest_ok (C23_ok) _) lContainsFunc_iareMasses_1_m

noncomputable def C24 : Tab := tab 103 (toldO A_lContainsFunc_iareMasses_1 R_lContainsFunc_iareMasses_1 (fun x => lContainsFunc_iareMasses_1 x) (C23 103)) C23
theorem C24_ok : TabOk Try.prog C24 := tab_ok (lContainsFunc_iareMasses_1_told) (C23_ok)

def A_iareMasses : Shp := ⟨[.h], [], [.sl [.f .f32]]⟩
def R_iareMasses : List XShp := [(.ret, ⟨[.h], [], [.b]⟩)]

theorem iareMasses_e (x : DR A_iareMasses.hs) : (evFn (envT Try.prog C24 M19) noLoops Try.f69 (A_iareMasses.enc x).1).to (fun q => decX R_iareMasses .ret [q.1] q.2) = iareMasses_t x := by kernel_rfl

theorem iareMasses_m (x : DR A_iareMasses.hs) : meanF (envT Try.prog C24 M19) noLoops Try.f69 A_iareMasses R_iareMasses x = (show Option (SumD (R_iareMasses.map (·.2))) from iareMasses x) := meanF_of (iareMasses_e x)

theorem iareMasses_ok : SpecOk Try.prog 69 (evFn (envT Try.prog C24 M19) noLoops Try.f69) := fnL_ok (envT_ok (C24_ok) (M19_ok)) mixedO Try.func69 (by kernel_rfl) (c := bodyOf Try.f69) (by kernel_rfl) (loopFree_ok (by kernel_rfl))

theorem iareMasses_told : SpecOk Try.prog 69 (toldO A_iareMasses R_iareMasses (fun x => iareMasses x) (C24 69)) := toldO_ok (by kernel_rfl) iareMasses_ok (rest_ok (C24_ok) _) iareMasses_m

noncomputable def C25 : Tab := tab 69 (toldO A_iareMasses R_iareMasses (fun x => iareMasses x) (C24 69)) C24
theorem C25_ok : TabOk Try.prog C25 := tab_ok (iareMasses_told) (C24_ok)

def S_iareLengths_l2 : Shp := ⟨[.undef, .h, .h, .h], [], [.sl [.f .f32], .i .i64, .i .i64]⟩
def X_iareLengths_l2 : List XShp := [(.ret, ⟨[.lb false, .undef, .undef, .undef], [], []⟩), (.exit 0, ⟨[.undef, .undef, .undef, .undef], [], []⟩)]

noncomputable def L_iareLengths_l2 : Loops := (⟨15, lvT [(2, [2, 5, 6, 7])], mdT [(2, .normal, [], [2]), (2, .exit 0, [], [2, 5, 6, 7]), (2, .ret, [], [5, 6, 7])], fun k vs bs => .bad⟩ : Loops)

theorem iareLengths_l2_e (y0 : List Nat) (y1 : Int) (s : Int) : (loopStep (envT Try.prog C25 M19) L_iareLengths_l2 2 (loopC (bodyOf Try.f77) 2) (S_iareLengths_l2.enc (y0, y1, s)).1 (S_iareLengths_l2.enc (y0, y1, s)).2).to (stepD S_iareLengths_l2 X_iareLengths_l2) = (iareLengths_l2_t y0 y1 s).map (Sum.map (fun s : Int => (show DR S_iareLengths_l2.hs from (y0, y1, s))) id) := by kernel_rfl

theorem iareLengths_l2_r (x : DR S_iareLengths_l2.hs) : (iareLengths_l2 x.1 x.2.1 x.2.2 : Option (SumD (X_iareLengths_l2.map (·.2)))) = runL (meanS (envT Try.prog C25 M19) L_iareLengths_l2 2 (loopC (bodyOf Try.f77) 2) S_iareLengths_l2 X_iareLengths_l2) x := run_of (fun s : Int => (show DR S_iareLengths_l2.hs from (x.1, x.2.1, s))) (iareLengths_l2_e (x.1) (x.2.1)) x.2.2

theorem iareLengths_l2_k (L : Loops) (hn : L_iareLengths_l2.n = L.n) (hlv : L_iareLengths_l2.lv 2 = L.lv 2) (hL : ∀ vs bs, L.loop 2 vs bs = toldL S_iareLengths_l2 X_iareLengths_l2 (fun x => iareLengths_l2 x.1 x.2.1 x.2.2) vs bs) : LOk Try.prog (envT Try.prog C25 M19) L 2 (loopC (bodyOf Try.f77) 2) := toldL_ok (L1 := L_iareLengths_l2) (envT_ok (C25_ok) (M19_ok)) mixedO hn hlv (loopFree_ok (by kernel_rfl)) iareLengths_l2_r hL

def A_iareLengths : Shp := ⟨[.h], [], [.sl [.f .f32]]⟩
def R_iareLengths : List XShp := [(.ret, ⟨[.h], [], [.b]⟩)]

noncomputable def L_iareLengths : Loops := (⟨15, lvT [(2, [2, 5, 6, 7])], mdT [(2, .normal, [], [2]), (2, .exit 0, [], [2, 5, 6, 7]), (2, .ret, [], [5, 6, 7])], fun k vs bs => bif Nat.beq k 2 then toldL S_iareLengths_l2 X_iareLengths_l2 (fun x => iareLengths_l2 x.1 x.2.1 x.2.2) vs bs else .bad⟩ : Loops)

theorem iareLengths_e (x : DR A_iareLengths.hs) : (evFn (envT Try.prog C25 M19) L_iareLengths Try.f77 (A_iareLengths.enc x).1).to (fun q => decX R_iareLengths .ret [q.1] q.2) = iareLengths_t x := by kernel_rfl

theorem iareLengths_m (x : DR A_iareLengths.hs) : meanF (envT Try.prog C25 M19) L_iareLengths Try.f77 A_iareLengths R_iareLengths x = (show Option (SumD (R_iareLengths.map (·.2))) from iareLengths x) := meanF_of (iareLengths_e x)

theorem iareLengths_ok : SpecOk Try.prog 77 (evFn (envT Try.prog C25 M19) L_iareLengths Try.f77) := fnL_ok (envT_ok (C25_ok) (M19_ok)) mixedO Try.func77 (by kernel_rfl) (c := bodyOf Try.f77) (by kernel_rfl) (loopsL (l := [(2, loopC (bodyOf Try.f77) 2)]) (by kernel_rfl) (lk_cons (iareLengths_l2_k _ rfl rfl (fun _ _ => rfl)) lk_nil))

theorem iareLengths_told : SpecOk Try.prog 77 (toldO A_iareLengths R_iareLengths (fun x => iareLengths x) (C25 77)) := toldO_ok (by kernel_rfl) iareLengths_ok (rest_ok (C25_ok) _) iareLengths_m

noncomputable def C26 : Tab := tab 77 (toldO A_iareLengths R_iareLengths (fun x => iareLengths x) (C25 77)) C25
theorem C26_ok : TabOk Try.prog C26 := tab_ok (iareLengths_told) (C25_ok)

def A_iValidSection : Shp := ⟨[.agg [.h, .h, .h, .h]], [], [.f .f32, .f .f32, .f .f32, .f .f32]⟩
def R_iValidSection : List XShp := [(.ret, ⟨[.h], [], [.b]⟩)]

theorem iValidSection_e (x : DR A_iValidSection.hs) : (evFn (envT Try.prog C26 M19) noLoops Try.f117 (A_iValidSection.enc x).1).to (fun q => decX R_iValidSection .ret [q.1] q.2) = iValidSection_t x.1 x.2.1 x.2.2.1 x.2.2.2 := by kernel_rfl

theorem iValidSection_m (x : DR A_iValidSection.hs) : meanF (envT Try.prog C26 M19) noLoops Try.f117 A_iValidSection R_iValidSection x = (show Option (SumD (R_iValidSection.map (·.2))) from iValidSection x.1 x.2.1 x.2.2.1 x.2.2.2) := meanF_of (iValidSection_e x)

theorem iValidSection_ok : SpecOk Try.prog 117 (evFn (envT Try.prog C26 M19) noLoops Try.f117) := fnL_ok (envT_ok (C26_ok) (M19_ok)) mixedO Try.func117 (by kernel_rfl) (c := bodyOf Try.f117) (by kernel_rfl) (loopFree_ok (by kernel_rfl))

theorem iValidSection_told : SpecOk Try.prog 117 (toldO A_iValidSection R_iValidSection (fun x => iValidSection x.1 x.2.1 x.2.2.1 x.2.2.2) (C26 117)) := toldO_ok (by kernel_rfl) iValidSection_ok (rest_ok (C26_ok) _) iValidSection_m

noncomputable def C27 : Tab := tab 117 (toldO A_iValidSection R_iValidSection (fun x => iValidSection x.1 x.2.1 x.2.2.1 x.2.2.2) (C26 117)) C26
theorem C27_ok : TabOk Try.prog C27 := tab_ok (iValidSection_told) (C26_ok)

def A_iSection_isFlow : Shp := ⟨[.agg [.h, .h, .h, .h], .h], [], [.f .f32, .f .f32, .f .f32, .f .f32, .sl [.f .f32]]⟩
def R_iSection_isFlow : List XShp := [(.ret, ⟨[.h], [], [.b]⟩)]

theorem iSection_isFlow_e (x : DR A_iSection_isFlow.hs) : (evFn (envT Try.prog C27 M19) noLoops Try.f90 (A_iSection_isFlow.enc x).1).to (fun q => decX R_iSection_isFlow .ret [q.1] q.2) = iSection_isFlow_t x.1 x.2.1 x.2.2.1 x.2.2.2.1 x.2.2.2.2 := by kernel_rfl

theorem iSection_isFlow_m (x : DR A_iSection_isFlow.hs) : meanF (envT Try.prog C27 M19) noLoops Try.f90 A_iSection_isFlow R_iSection_isFlow x = (show Option (SumD (R_iSection_isFlow.map (·.2))) from iSection_isFlow x.1 x.2.1 x.2.2.1 x.2.2.2.1 x.2.2.2.2) := meanF_of (iSection_isFlow_e x)

theorem iSection_isFlow_ok : SpecOk Try.prog 90 (evFn (envT Try.prog C27 M19) noLoops Try.f90) := fnL_ok (envT_ok (C27_ok) (M19_ok)) mixedO Try.func90 (by kernel_rfl) (c := bodyOf Try.f90) (by kernel_rfl) (loopFree_ok (by kernel_rfl))

theorem iSection_isFlow_told : SpecOk Try.prog 90 (toldO A_iSection_isFlow R_iSection_isFlow (fun x => iSection_isFlow x.1 x.2.1 x.2.2.1 x.2.2.2.1 x.2.2.2.2) (C27 90)) := toldO_ok (by kernel_rfl) iSection_isFlow_ok (rest_ok (C27_ok) _) iSection_isFlow_m

noncomputable def C28 : Tab := tab 90 (toldO A_iSection_isFlow R_iSection_isFlow (fun x => iSection_isFlow x.1 x.2.1 x.2.2.1 x.2.2.2.1 x.2.2.2.2) (C27 90)) C27
theorem C28_ok : TabOk Try.prog C28 := tab_ok (iSection_isFlow_told) (C27_ok)

def A_ifinite32 : Shp := ⟨[.h], [], [.f .f32]⟩
def R_ifinite32 : List XShp := [(.ret, ⟨[.tup [.h, .h]], [], [.f .f32, .b]⟩)]

theorem ifinite32_e (x : DR A_ifinite32.hs) : (evFn (envT Try.prog C28 M19) noLoops Try.f66 (A_ifinite32.enc x).1).to (fun q => decX R_ifinite32 .ret [q.1] q.2) = ifinite32_t x := by kernel_rfl

theorem ifinite32_m (x : DR A_ifinite32.hs) : meanF (envT Try.prog C28 M19) noLoops Try.f66 A_ifinite32 R_ifinite32 x = some (show SumD (R_ifinite32.map (·.2)) from ifinite32 x) := @meanF_tot _ _ _ _ _ _ _ (ifinite32_e x) (show Inhabited (Nat × Bool) from inferInstance) (by kernel_rfl)

theorem ifinite32_ok : SpecOk Try.prog 66 (evFn (envT Try.prog C28 M19) noLoops Try.f66) := fnL_ok (envT_ok (C28_ok) (M19_ok)) mixedO Try.func66 (by kernel_rfl) (c := bodyOf Try.f66) (by kernel_rfl) (loopFree_ok (by kernel_rfl))

theorem ifinite32_told : SpecOk Try.prog 66 (toldT A_ifinite32 R_ifinite32 (fun x => ifinite32 x) (C28 66)) := toldT_ok (by kernel_rfl) ifinite32_ok (rest_ok (C28_ok) _) ifinite32_m

noncomputable def C29 : Tab := tab 66 (toldT A_ifinite32 R_ifinite32 (fun x => ifinite32 x) (C28 66)) C28
theorem C29_ok : TabOk Try.prog C29 := tab_ok (ifinite32_told) (C28_ok)

def A_iAreaAt : Shp := ⟨[.agg [.h, .h, .h, .h], .h], [], [.f .f32, .f .f32, .f .f32, .f .f32, .f .f32]⟩
def R_iAreaAt : List XShp := [(.ret, ⟨[.tup [.h, .h]], [], [.f .f32, .b]⟩)]

theorem iAreaAt_e (x : DR A_iAreaAt.hs) : (evFn (envT Try.prog C29 M19) noLoops Try.f49 (A_iAreaAt.enc x).1).to (fun q => decX R_iAreaAt .ret [q.1] q.2) = iAreaAt_t x.1 x.2.1 x.2.2.1 x.2.2.2.1 x.2.2.2.2 := by kernel_rfl

theorem iAreaAt_m (x : DR A_iAreaAt.hs) : meanF (envT Try.prog C29 M19) noLoops Try.f49 A_iAreaAt R_iAreaAt x = (show Option (SumD (R_iAreaAt.map (·.2))) from iAreaAt x.1 x.2.1 x.2.2.1 x.2.2.2.1 x.2.2.2.2) := meanF_of (iAreaAt_e x)

theorem iAreaAt_ok : SpecOk Try.prog 49 (evFn (envT Try.prog C29 M19) noLoops Try.f49) := fnL_ok (envT_ok (C29_ok) (M19_ok)) mixedO Try.func49 (by kernel_rfl) (c := bodyOf Try.f49) (by kernel_rfl) (loopFree_ok (by kernel_rfl))

theorem iAreaAt_told : SpecOk Try.prog 49 (toldO A_iAreaAt R_iAreaAt (fun x => iAreaAt x.1 x.2.1 x.2.2.1 x.2.2.2.1 x.2.2.2.2) (C29 49)) := toldO_ok (by kernel_rfl) iAreaAt_ok (rest_ok (C29_ok) _) iAreaAt_m

noncomputable def C30 : Tab := tab 49 (toldO A_iAreaAt R_iAreaAt (fun x => iAreaAt x.1 x.2.1 x.2.2.1 x.2.2.2.1 x.2.2.2.2) (C29 49)) C29
theorem C30_ok : TabOk Try.prog C30 := tab_ok (iAreaAt_told) (C29_ok)

def A_iWetAt : Shp := ⟨[.agg [.h, .h, .h, .h], .h], [], [.f .f32, .f .f32, .f .f32, .f .f32, .f .f32]⟩
def R_iWetAt : List XShp := [(.ret, ⟨[.tup [.h, .h]], [], [.f .f32, .b]⟩)]

theorem iWetAt_e (x : DR A_iWetAt.hs) : (evFn (envT Try.prog C30 M19) noLoops Try.f50 (A_iWetAt.enc x).1).to (fun q => decX R_iWetAt .ret [q.1] q.2) = iWetAt_t x.1 x.2.1 x.2.2.1 x.2.2.2.1 x.2.2.2.2 := by kernel_rfl

theorem iWetAt_m (x : DR A_iWetAt.hs) : meanF (envT Try.prog C30 M19) noLoops Try.f50 A_iWetAt R_iWetAt x = (show Option (SumD (R_iWetAt.map (·.2))) from iWetAt x.1 x.2.1 x.2.2.1 x.2.2.2.1 x.2.2.2.2) := meanF_of (iWetAt_e x)

theorem iWetAt_ok : SpecOk Try.prog 50 (evFn (envT Try.prog C30 M19) noLoops Try.f50) := fnL_ok (envT_ok (C30_ok) (M19_ok)) mixedO Try.func50 (by kernel_rfl) (c := bodyOf Try.f50) (by kernel_rfl) (loopFree_ok (by kernel_rfl))

theorem iWetAt_told : SpecOk Try.prog 50 (toldO A_iWetAt R_iWetAt (fun x => iWetAt x.1 x.2.1 x.2.2.1 x.2.2.2.1 x.2.2.2.2) (C30 50)) := toldO_ok (by kernel_rfl) iWetAt_ok (rest_ok (C30_ok) _) iWetAt_m

noncomputable def C31 : Tab := tab 50 (toldO A_iWetAt R_iWetAt (fun x => iWetAt x.1 x.2.1 x.2.2.1 x.2.2.2.1 x.2.2.2.2) (C30 50)) C30
theorem C31_ok : TabOk Try.prog C31 := tab_ok (iWetAt_told) (C30_ok)

def A_iMiddleAt : Shp := ⟨[.agg [.h, .h, .h, .h], .h], [], [.f .f32, .f .f32, .f .f32, .f .f32, .f .f32]⟩
def R_iMiddleAt : List XShp := [(.ret, ⟨[.tup [.h, .h]], [], [.f .f32, .b]⟩)]

theorem iMiddleAt_e (x : DR A_iMiddleAt.hs) : (evFn (envT Try.prog C31 M19) noLoops Try.f51 (A_iMiddleAt.enc x).1).to (fun q => decX R_iMiddleAt .ret [q.1] q.2) = iMiddleAt_t x.1 x.2.1 x.2.2.1 x.2.2.2.1 x.2.2.2.2 := by kernel_rfl

theorem iMiddleAt_m (x : DR A_iMiddleAt.hs) : meanF (envT Try.prog C31 M19) noLoops Try.f51 A_iMiddleAt R_iMiddleAt x = (show Option (SumD (R_iMiddleAt.map (·.2))) from iMiddleAt x.1 x.2.1 x.2.2.1 x.2.2.2.1 x.2.2.2.2) := meanF_of (iMiddleAt_e x)

theorem iMiddleAt_ok : SpecOk Try.prog 51 (evFn (envT Try.prog C31 M19) noLoops Try.f51) := fnL_ok (envT_ok (C31_ok) (M19_ok)) mixedO Try.func51 (by kernel_rfl) (c := bodyOf Try.f51) (by kernel_rfl) (loopFree_ok (by kernel_rfl))

theorem iMiddleAt_told : SpecOk Try.prog 51 (toldO A_iMiddleAt R_iMiddleAt (fun x => iMiddleAt x.1 x.2.1 x.2.2.1 x.2.2.2.1 x.2.2.2.2) (C31 51)) := toldO_ok (by kernel_rfl) iMiddleAt_ok (rest_ok (C31_ok) _) iMiddleAt_m

noncomputable def C32 : Tab := tab 51 (toldO A_iMiddleAt R_iMiddleAt (fun x => iMiddleAt x.1 x.2.1 x.2.2.1 x.2.2.2.1 x.2.2.2.2) (C31 51)) C31
theorem C32_ok : TabOk Try.prog C32 := tab_ok (iMiddleAt_told) (C31_ok)

def A_mNaN : Shp := ⟨[], [], []⟩
def R_mNaN : List XShp := [(.ret, ⟨[.h], [], [.f .f64]⟩)]

theorem mNaN_e (x : DR A_mNaN.hs) : (evFn (envT Try.prog C32 M19) noLoops Try.f119 (A_mNaN.enc x).1).to (fun q => decX R_mNaN .ret [q.1] q.2) = mNaN_t := by kernel_rfl

theorem mNaN_m (x : DR A_mNaN.hs) : meanF (envT Try.prog C32 M19) noLoops Try.f119 A_mNaN R_mNaN x = some (show SumD (R_mNaN.map (·.2)) from mNaN) := @meanF_tot _ _ _ _ _ _ _ (mNaN_e x) (show Inhabited (Nat) from inferInstance) (by kernel_rfl)

theorem mNaN_ok : SpecOk Try.prog 119 (evFn (envT Try.prog C32 M19) noLoops Try.f119) := fnL_ok (envT_ok (C32_ok) (M19_ok)) mixedO Try.func119 (by kernel_rfl) (c := bodyOf Try.f119) (by kernel_rfl) (loopFree_ok (by kernel_rfl))

theorem mNaN_told : SpecOk Try.prog 119 (toldT A_mNaN R_mNaN (fun x => mNaN) (C32 119)) := toldT_ok (by kernel_rfl) mNaN_ok (rest_ok (C32_ok) _) mNaN_m

noncomputable def C33 : Tab := tab 119 (toldT A_mNaN R_mNaN (fun x => mNaN) (C32 119)) C32
theorem C33_ok : TabOk Try.prog C33 := tab_ok (mNaN_told) (C32_ok)

def A_mInf : Shp := ⟨[.h], [], [.i .i64]⟩
def R_mInf : List XShp := [(.ret, ⟨[.h], [], [.f .f64]⟩)]

theorem mInf_e (x : DR A_mInf.hs) : (evFn (envT Try.prog C33 M19) noLoops Try.f118 (A_mInf.enc x).1).to (fun q => decX R_mInf .ret [q.1] q.2) = mInf_t x := by kernel_rfl

theorem mInf_m (x : DR A_mInf.hs) : meanF (envT Try.prog C33 M19) noLoops Try.f118 A_mInf R_mInf x = some (show SumD (R_mInf.map (·.2)) from mInf x) := @meanF_tot _ _ _ _ _ _ _ (mInf_e x) (show Inhabited (Nat) from inferInstance) (by kernel_rfl)

theorem mInf_ok : SpecOk Try.prog 118 (evFn (envT Try.prog C33 M19) noLoops Try.f118) := fnL_ok (envT_ok (C33_ok) (M19_ok)) mixedO Try.func118 (by kernel_rfl) (c := bodyOf Try.f118) (by kernel_rfl) (loopFree_ok (by kernel_rfl))

theorem mInf_told : SpecOk Try.prog 118 (toldT A_mInf R_mInf (fun x => mInf x) (C33 118)) := toldT_ok (by kernel_rfl) mInf_ok (rest_ok (C33_ok) _) mInf_m

noncomputable def C34 : Tab := tab 118 (toldT A_mInf R_mInf (fun x => mInf x) (C33 118)) C33
theorem C34_ok : TabOk Try.prog C34 := tab_ok (mInf_told) (C33_ok)

def S_inaturalLog_l2 : Shp := ⟨[.h, .h], [], [.f .f64, .f .f64]⟩
def X_inaturalLog_l2 : List XShp := [(.exit 0, ⟨[.h, .h], [], [.f .f64, .f .f64]⟩)]

noncomputable def L_inaturalLog_l2 : Loops := (⟨46, lvT [(9, [3, 4, 5, 6, 7]), (4, [0, 3]), (2, [0, 3])], mdT [(9, .exit 4, [], [5, 7])], fun k vs bs => .bad⟩ : Loops)

theorem inaturalLog_l2_e (s : Nat × Nat) : (loopStep (envT Try.prog C34 M19) L_inaturalLog_l2 2 (loopC (bodyOf Try.f132) 2) (S_inaturalLog_l2.enc (s.1, s.2)).1 (S_inaturalLog_l2.enc (s.1, s.2)).2).to (stepD S_inaturalLog_l2 X_inaturalLog_l2) = (inaturalLog_l2_t  s.1 s.2).map (Sum.map (fun s : Nat × Nat => (show DR S_inaturalLog_l2.hs from (s.1, s.2))) id) := by kernel_rfl

theorem inaturalLog_l2_r (x : DR S_inaturalLog_l2.hs) : (inaturalLog_l2 x.1 x.2 : Option (SumD (X_inaturalLog_l2.map (·.2)))) = runL (meanS (envT Try.prog C34 M19) L_inaturalLog_l2 2 (loopC (bodyOf Try.f132) 2) S_inaturalLog_l2 X_inaturalLog_l2) x := run_of (fun s : Nat × Nat => (show DR S_inaturalLog_l2.hs from (s.1, s.2))) (inaturalLog_l2_e ) (x.1, x.2)

theorem inaturalLog_l2_k (L : Loops) (hn : L_inaturalLog_l2.n = L.n) (hlv : L_inaturalLog_l2.lv 2 = L.lv 2) (hL : ∀ vs bs, L.loop 2 vs bs = toldL S_inaturalLog_l2 X_inaturalLog_l2 (fun x => inaturalLog_l2 x.1 x.2) vs bs) : LOk Try.prog (envT Try.prog C34 M19) L 2 (loopC (bodyOf Try.f132) 2) := toldL_ok (L1 := L_inaturalLog_l2) (envT_ok (C34_ok) (M19_ok)) mixedO hn hlv (loopFree_ok (by kernel_rfl)) inaturalLog_l2_r hL

def S_inaturalLog_l4 : Shp := ⟨[.h, .h], [], [.f .f64, .f .f64]⟩
def X_inaturalLog_l4 : List XShp := [(.exit 2, ⟨[.h, .h], [], [.f .f64, .f .f64]⟩)]

noncomputable def L_inaturalLog_l4 : Loops := (⟨46, lvT [(9, [3, 4, 5, 6, 7]), (4, [0, 3]), (2, [0, 3])], mdT [(9, .exit 4, [], [5, 7])], fun k vs bs => .bad⟩ : Loops)

theorem inaturalLog_l4_e (s : Nat × Nat) : (loopStep (envT Try.prog C34 M19) L_inaturalLog_l4 4 (loopC (bodyOf Try.f132) 4) (S_inaturalLog_l4.enc (s.1, s.2)).1 (S_inaturalLog_l4.enc (s.1, s.2)).2).to (stepD S_inaturalLog_l4 X_inaturalLog_l4) = (inaturalLog_l4_t  s.1 s.2).map (Sum.map (fun s : Nat × Nat => (show DR S_inaturalLog_l4.hs from (s.1, s.2))) id) := by kernel_rfl

theorem inaturalLog_l4_r (x : DR S_inaturalLog_l4.hs) : (inaturalLog_l4 x.1 x.2 : Option (SumD (X_inaturalLog_l4.map (·.2)))) = runL (meanS (envT Try.prog C34 M19) L_inaturalLog_l4 4 (loopC (bodyOf Try.f132) 4) S_inaturalLog_l4 X_inaturalLog_l4) x := run_of (fun s : Nat × Nat => (show DR S_inaturalLog_l4.hs from (s.1, s.2))) (inaturalLog_l4_e ) (x.1, x.2)

theorem inaturalLog_l4_k (L : Loops) (hn : L_inaturalLog_l4.n = L.n) (hlv : L_inaturalLog_l4.lv 4 = L.lv 4) (hL : ∀ vs bs, L.loop 4 vs bs = toldL S_inaturalLog_l4 X_inaturalLog_l4 (fun x => inaturalLog_l4 x.1 x.2) vs bs) : LOk Try.prog (envT Try.prog C34 M19) L 4 (loopC (bodyOf Try.f132) 4) := toldL_ok (L1 := L_inaturalLog_l4) (envT_ok (C34_ok) (M19_ok)) mixedO hn hlv (loopFree_ok (by kernel_rfl)) inaturalLog_l4_r hL

def S_inaturalLog_l9 : Shp := ⟨[.h, .h, .h, .h, .h], [], [.f .f64, .f .f64, .f .f64, .f .f64, .i .i64]⟩
def X_inaturalLog_l9 : List XShp := [(.exit 4, ⟨[.h, .h, .undef, .h, .undef], [], [.f .f64, .f .f64, .f .f64]⟩)]

noncomputable def L_inaturalLog_l9 : Loops := (⟨46, lvT [(9, [3, 4, 5, 6, 7]), (4, [0, 3]), (2, [0, 3])], mdT [(9, .exit 4, [], [5, 7])], fun k vs bs => .bad⟩ : Loops)

theorem inaturalLog_l9_e (y0 : Nat) (y1 : Nat) (y2 : Nat) (s : Nat × Int) : (loopStep (envT Try.prog C34 M19) L_inaturalLog_l9 9 (loopC (bodyOf Try.f132) 9) (S_inaturalLog_l9.enc (y0, y1, y2, s.1, s.2)).1 (S_inaturalLog_l9.enc (y0, y1, y2, s.1, s.2)).2).to (stepD S_inaturalLog_l9 X_inaturalLog_l9) = (inaturalLog_l9_t y0 y1 y2 s.1 s.2).map (Sum.map (fun s : Nat × Int => (show DR S_inaturalLog_l9.hs from (y0, y1, y2, s.1, s.2))) id) := by kernel_rfl

theorem inaturalLog_l9_r (x : DR S_inaturalLog_l9.hs) : (inaturalLog_l9 x.1 x.2.1 x.2.2.1 x.2.2.2.1 x.2.2.2.2 : Option (SumD (X_inaturalLog_l9.map (·.2)))) = runL (meanS (envT Try.prog C34 M19) L_inaturalLog_l9 9 (loopC (bodyOf Try.f132) 9) S_inaturalLog_l9 X_inaturalLog_l9) x := run_of (fun s : Nat × Int => (show DR S_inaturalLog_l9.hs from (x.1, x.2.1, x.2.2.1, s.1, s.2))) (inaturalLog_l9_e (x.1) (x.2.1) (x.2.2.1)) (x.2.2.2.1, x.2.2.2.2)

theorem inaturalLog_l9_k (L : Loops) (hn : L_inaturalLog_l9.n = L.n) (hlv : L_inaturalLog_l9.lv 9 = L.lv 9) (hL : ∀ vs bs, L.loop 9 vs bs = toldL S_inaturalLog_l9 X_inaturalLog_l9 (fun x => inaturalLog_l9 x.1 x.2.1 x.2.2.1 x.2.2.2.1 x.2.2.2.2) vs bs) : LOk Try.prog (envT Try.prog C34 M19) L 9 (loopC (bodyOf Try.f132) 9) := toldL_ok (L1 := L_inaturalLog_l9) (envT_ok (C34_ok) (M19_ok)) mixedO hn hlv (loopFree_ok (by kernel_rfl)) inaturalLog_l9_r hL

def A_inaturalLog : Shp := ⟨[.h], [], [.f .f64]⟩
def R_inaturalLog : List XShp := [(.ret, ⟨[.h], [], [.f .f64]⟩)]

noncomputable def L_inaturalLog : Loops := (⟨46, lvT [(9, [3, 4, 5, 6, 7]), (4, [0, 3]), (2, [0, 3])], mdT [(9, .exit 4, [], [5, 7])], fun k vs bs => bif Nat.beq k 9 then toldL S_inaturalLog_l9 X_inaturalLog_l9 (fun x => inaturalLog_l9 x.1 x.2.1 x.2.2.1 x.2.2.2.1 x.2.2.2.2) vs bs else bif Nat.beq k 4 then toldL S_inaturalLog_l4 X_inaturalLog_l4 (fun x => inaturalLog_l4 x.1 x.2) vs bs else bif Nat.beq k 2 then toldL S_inaturalLog_l2 X_inaturalLog_l2 (fun x => inaturalLog_l2 x.1 x.2) vs bs else .bad⟩ : Loops)

theorem inaturalLog_e (x : DR A_inaturalLog.hs) : (evFn (envT Try.prog C34 M19) L_inaturalLog Try.f132 (A_inaturalLog.enc x).1).to (fun q => decX R_inaturalLog .ret [q.1] q.2) = inaturalLog_t x := by kernel_rfl

theorem inaturalLog_m (x : DR A_inaturalLog.hs) : meanF (envT Try.prog C34 M19) L_inaturalLog Try.f132 A_inaturalLog R_inaturalLog x = (show Option (SumD (R_inaturalLog.map (·.2))) from inaturalLog x) := meanF_of (inaturalLog_e x)

theorem inaturalLog_ok : SpecOk Try.prog 132 (evFn (envT Try.prog C34 M19) L_inaturalLog Try.f132) := fnL_ok (envT_ok (C34_ok) (M19_ok)) mixedO Try.func132 (by kernel_rfl) (c := bodyOf Try.f132) (by kernel_rfl) (loopsL (l := [(2, loopC (bodyOf Try.f132) 2), (4, loopC (bodyOf Try.f132) 4), (9, loopC (bodyOf Try.f132) 9)]) (by kernel_rfl) (lk_cons (inaturalLog_l2_k _ rfl rfl (fun _ _ => rfl)) (lk_cons (inaturalLog_l4_k _ rfl rfl (fun _ _ => rfl)) (lk_cons (inaturalLog_l9_k _ rfl rfl (fun _ _ => rfl)) lk_nil))))

theorem inaturalLog_told : SpecOk Try.prog 132 (toldO A_inaturalLog R_inaturalLog (fun x => inaturalLog x) (C34 132)) := toldO_ok (by kernel_rfl) inaturalLog_ok (rest_ok (C34_ok) _) inaturalLog_m

noncomputable def C35 : Tab := tab 132 (toldO A_inaturalLog R_inaturalLog (fun x => inaturalLog x) (C34 132)) C34
theorem C35_ok : TabOk Try.prog C35 := tab_ok (inaturalLog_told) (C34_ok)

def A_ilogarithm : Shp := ⟨[.h], [], [.f .f32]⟩
def R_ilogarithm : List XShp := [(.ret, ⟨[.h], [], [.f .f64]⟩)]

theorem ilogarithm_e (x : DR A_ilogarithm.hs) : (evFn (envT Try.prog C35 M19) noLoops Try.f120 (A_ilogarithm.enc x).1).to (fun q => decX R_ilogarithm .ret [q.1] q.2) = ilogarithm_t x := by kernel_rfl

theorem ilogarithm_m (x : DR A_ilogarithm.hs) : meanF (envT Try.prog C35 M19) noLoops Try.f120 A_ilogarithm R_ilogarithm x = (show Option (SumD (R_ilogarithm.map (·.2))) from ilogarithm x) := meanF_of (ilogarithm_e x)

theorem ilogarithm_ok : SpecOk Try.prog 120 (evFn (envT Try.prog C35 M19) noLoops Try.f120) := fnL_ok (envT_ok (C35_ok) (M19_ok)) mixedO Try.func120 (by kernel_rfl) (c := bodyOf Try.f120) (by kernel_rfl) (loopFree_ok (by kernel_rfl))

theorem ilogarithm_told : SpecOk Try.prog 120 (toldO A_ilogarithm R_ilogarithm (fun x => ilogarithm x) (C35 120)) := toldO_ok (by kernel_rfl) ilogarithm_ok (rest_ok (C35_ok) _) ilogarithm_m

noncomputable def C36 : Tab := tab 120 (toldO A_ilogarithm R_ilogarithm (fun x => ilogarithm x) (C35 120)) C35
theorem C36_ok : TabOk Try.prog C36 := tab_ok (ilogarithm_told) (C35_ok)

def A_iLogNumber : Shp := ⟨[.h], [], [.f .f32]⟩
def R_iLogNumber : List XShp := [(.ret, ⟨[.h], [], [.f .f32]⟩)]

theorem iLogNumber_e (x : DR A_iLogNumber.hs) : (evFn (envT Try.prog C36 M19) noLoops Try.f94 (A_iLogNumber.enc x).1).to (fun q => decX R_iLogNumber .ret [q.1] q.2) = iLogNumber_t x := by kernel_rfl

theorem iLogNumber_m (x : DR A_iLogNumber.hs) : meanF (envT Try.prog C36 M19) noLoops Try.f94 A_iLogNumber R_iLogNumber x = (show Option (SumD (R_iLogNumber.map (·.2))) from iLogNumber x) := meanF_of (iLogNumber_e x)

theorem iLogNumber_ok : SpecOk Try.prog 94 (evFn (envT Try.prog C36 M19) noLoops Try.f94) := fnL_ok (envT_ok (C36_ok) (M19_ok)) mixedO Try.func94 (by kernel_rfl) (c := bodyOf Try.f94) (by kernel_rfl) (loopFree_ok (by kernel_rfl))

theorem iLogNumber_told : SpecOk Try.prog 94 (toldO A_iLogNumber R_iLogNumber (fun x => iLogNumber x) (C36 94)) := toldO_ok (by kernel_rfl) iLogNumber_ok (rest_ok (C36_ok) _) iLogNumber_m

noncomputable def C37 : Tab := tab 94 (toldO A_iLogNumber R_iLogNumber (fun x => iLogNumber x) (C36 94)) C36
theorem C37_ok : TabOk Try.prog C37 := tab_ok (iLogNumber_told) (C36_ok)

def S_iExpNumber_l7 : Shp := ⟨[.h, .h, .h], [], [.f .f64, .f .f64, .i .i64]⟩
def X_iExpNumber_l7 : List XShp := [(.exit 1, ⟨[.undef, .h, .undef], [], [.f .f64]⟩)]

noncomputable def L_iExpNumber_l7 : Loops := (⟨36, lvT [(11, [4, 28]), (7, [3, 4, 5])], mdT [(11, .exit 3, [], [28]), (7, .exit 1, [], [3, 5])], fun k vs bs => .bad⟩ : Loops)

theorem iExpNumber_l7_e (y0 : Nat) (s : Nat × Int) : (loopStep (envT Try.prog C37 M19) L_iExpNumber_l7 7 (loopC (bodyOf Try.f93) 7) (S_iExpNumber_l7.enc (y0, s.1, s.2)).1 (S_iExpNumber_l7.enc (y0, s.1, s.2)).2).to (stepD S_iExpNumber_l7 X_iExpNumber_l7) = (iExpNumber_l7_t y0 s.1 s.2).map (Sum.map (fun s : Nat × Int => (show DR S_iExpNumber_l7.hs from (y0, s.1, s.2))) id) := by kernel_rfl

theorem iExpNumber_l7_r (x : DR S_iExpNumber_l7.hs) : (iExpNumber_l7 x.1 x.2.1 x.2.2 : Option (SumD (X_iExpNumber_l7.map (·.2)))) = runL (meanS (envT Try.prog C37 M19) L_iExpNumber_l7 7 (loopC (bodyOf Try.f93) 7) S_iExpNumber_l7 X_iExpNumber_l7) x := run_of (fun s : Nat × Int => (show DR S_iExpNumber_l7.hs from (x.1, s.1, s.2))) (iExpNumber_l7_e (x.1)) (x.2.1, x.2.2)

theorem iExpNumber_l7_k (L : Loops) (hn : L_iExpNumber_l7.n = L.n) (hlv : L_iExpNumber_l7.lv 7 = L.lv 7) (hL : ∀ vs bs, L.loop 7 vs bs = toldL S_iExpNumber_l7 X_iExpNumber_l7 (fun x => iExpNumber_l7 x.1 x.2.1 x.2.2) vs bs) : LOk Try.prog (envT Try.prog C37 M19) L 7 (loopC (bodyOf Try.f93) 7) := toldL_ok (L1 := L_iExpNumber_l7) (envT_ok (C37_ok) (M19_ok)) mixedO hn hlv (loopFree_ok (by kernel_rfl)) iExpNumber_l7_r hL

def S_iExpNumber_l11 : Shp := ⟨[.h, .h], [], [.f .f64, .i .i64]⟩
def X_iExpNumber_l11 : List XShp := [(.exit 3, ⟨[.h, .undef], [], [.f .f64]⟩)]

noncomputable def L_iExpNumber_l11 : Loops := (⟨36, lvT [(11, [4, 28]), (7, [3, 4, 5])], mdT [(11, .exit 3, [], [28]), (7, .exit 1, [], [3, 5])], fun k vs bs => .bad⟩ : Loops)

theorem iExpNumber_l11_e (s : Nat × Int) : (loopStep (envT Try.prog C37 M19) L_iExpNumber_l11 11 (loopC (bodyOf Try.f93) 11) (S_iExpNumber_l11.enc (s.1, s.2)).1 (S_iExpNumber_l11.enc (s.1, s.2)).2).to (stepD S_iExpNumber_l11 X_iExpNumber_l11) = (iExpNumber_l11_t  s.1 s.2).map (Sum.map (fun s : Nat × Int => (show DR S_iExpNumber_l11.hs from (s.1, s.2))) id) := by kernel_rfl

theorem iExpNumber_l11_r (x : DR S_iExpNumber_l11.hs) : (iExpNumber_l11 x.1 x.2 : Option (SumD (X_iExpNumber_l11.map (·.2)))) = runL (meanS (envT Try.prog C37 M19) L_iExpNumber_l11 11 (loopC (bodyOf Try.f93) 11) S_iExpNumber_l11 X_iExpNumber_l11) x := run_of (fun s : Nat × Int => (show DR S_iExpNumber_l11.hs from (s.1, s.2))) (iExpNumber_l11_e ) (x.1, x.2)

theorem iExpNumber_l11_k (L : Loops) (hn : L_iExpNumber_l11.n = L.n) (hlv : L_iExpNumber_l11.lv 11 = L.lv 11) (hL : ∀ vs bs, L.loop 11 vs bs = toldL S_iExpNumber_l11 X_iExpNumber_l11 (fun x => iExpNumber_l11 x.1 x.2) vs bs) : LOk Try.prog (envT Try.prog C37 M19) L 11 (loopC (bodyOf Try.f93) 11) := toldL_ok (L1 := L_iExpNumber_l11) (envT_ok (C37_ok) (M19_ok)) mixedO hn hlv (loopFree_ok (by kernel_rfl)) iExpNumber_l11_r hL

def A_iExpNumber : Shp := ⟨[.h], [], [.f .f32]⟩
def R_iExpNumber : List XShp := [(.ret, ⟨[.h], [], [.f .f32]⟩)]

noncomputable def L_iExpNumber : Loops := (⟨36, lvT [(11, [4, 28]), (7, [3, 4, 5])], mdT [(11, .exit 3, [], [28]), (7, .exit 1, [], [3, 5])], fun k vs bs => bif Nat.beq k 11 then toldL S_iExpNumber_l11 X_iExpNumber_l11 (fun x => iExpNumber_l11 x.1 x.2) vs bs else bif Nat.beq k 7 then toldL S_iExpNumber_l7 X_iExpNumber_l7 (fun x => iExpNumber_l7 x.1 x.2.1 x.2.2) vs bs else .bad⟩ : Loops)

theorem iExpNumber_e (x : DR A_iExpNumber.hs) : (evFn (envT Try.prog C37 M19) L_iExpNumber Try.f93 (A_iExpNumber.enc x).1).to (fun q => decX R_iExpNumber .ret [q.1] q.2) = iExpNumber_t x := by kernel_rfl

theorem iExpNumber_m (x : DR A_iExpNumber.hs) : meanF (envT Try.prog C37 M19) L_iExpNumber Try.f93 A_iExpNumber R_iExpNumber x = (show Option (SumD (R_iExpNumber.map (·.2))) from iExpNumber x) := meanF_of (iExpNumber_e x)

theorem iExpNumber_ok : SpecOk Try.prog 93 (evFn (envT Try.prog C37 M19) L_iExpNumber Try.f93) := fnL_ok (envT_ok (C37_ok) (M19_ok)) mixedO Try.func93 (by kernel_rfl) (c := bodyOf Try.f93) (by kernel_rfl) (loopsL (l := [(7, loopC (bodyOf Try.f93) 7), (11, loopC (bodyOf Try.f93) 11)]) (by kernel_rfl) (lk_cons (iExpNumber_l7_k _ rfl rfl (fun _ _ => rfl)) (lk_cons (iExpNumber_l11_k _ rfl rfl (fun _ _ => rfl)) lk_nil)))

theorem iExpNumber_told : SpecOk Try.prog 93 (toldO A_iExpNumber R_iExpNumber (fun x => iExpNumber x) (C37 93)) := toldO_ok (by kernel_rfl) iExpNumber_ok (rest_ok (C37_ok) _) iExpNumber_m

noncomputable def C38 : Tab := tab 93 (toldO A_iExpNumber R_iExpNumber (fun x => iExpNumber x) (C37 93)) C37
theorem C38_ok : TabOk Try.prog C38 := tab_ok (iExpNumber_told) (C37_ok)

def A_iFlowAt : Shp := ⟨[.agg [.h, .h, .h, .h], .h], [], [.f .f32, .f .f32, .f .f32, .f .f32, .f .f32]⟩
def R_iFlowAt : List XShp := [(.ret, ⟨[.tup [.h, .h]], [], [.f .f32, .b]⟩)]

theorem iFlowAt_e (x : DR A_iFlowAt.hs) : (evFn (envT Try.prog C38 M19) noLoops Try.f40 (A_iFlowAt.enc x).1).to (fun q => decX R_iFlowAt .ret [q.1] q.2) = iFlowAt_t x.1 x.2.1 x.2.2.1 x.2.2.2.1 x.2.2.2.2 := by kernel_rfl

theorem iFlowAt_m (x : DR A_iFlowAt.hs) : meanF (envT Try.prog C38 M19) noLoops Try.f40 A_iFlowAt R_iFlowAt x = (show Option (SumD (R_iFlowAt.map (·.2))) from iFlowAt x.1 x.2.1 x.2.2.1 x.2.2.2.1 x.2.2.2.2) := meanF_of (iFlowAt_e x)

theorem iFlowAt_ok : SpecOk Try.prog 40 (evFn (envT Try.prog C38 M19) noLoops Try.f40) := fnL_ok (envT_ok (C38_ok) (M19_ok)) mixedO Try.func40 (by kernel_rfl) (c := bodyOf Try.f40) (by kernel_rfl) (loopFree_ok (by kernel_rfl))

theorem iFlowAt_told : SpecOk Try.prog 40 (toldO A_iFlowAt R_iFlowAt (fun x => iFlowAt x.1 x.2.1 x.2.2.1 x.2.2.2.1 x.2.2.2.2) (C38 40)) := toldO_ok (by kernel_rfl) iFlowAt_ok (rest_ok (C38_ok) _) iFlowAt_m

noncomputable def C39 : Tab := tab 40 (toldO A_iFlowAt R_iFlowAt (fun x => iFlowAt x.1 x.2.1 x.2.2.1 x.2.2.2.1 x.2.2.2.2) (C38 40)) C38
theorem C39_ok : TabOk Try.prog C39 := tab_ok (iFlowAt_told) (C38_ok)

def A_iNormalDepth_1 : Shp := ⟨[.h, .dpt [.h, .h, .h, .h] 0, .dpt [.h] 0], [], [.f .f32, .f .f32, .f .f32, .f .f32, .f .f32, .f .f32]⟩
def R_iNormalDepth_1 : List XShp := [(.ret, ⟨[.tup [.h, .h]], [], [.b, .b]⟩)]

theorem iNormalDepth_1_e (x : DR A_iNormalDepth_1.hs) : (evFn (envT Try.prog C39 M19) noLoops Try.f91 (A_iNormalDepth_1.enc x).1).to (fun q => decX R_iNormalDepth_1 .ret [q.1] q.2) = iNormalDepth_1_t x.1 x.2.1 x.2.2.1 x.2.2.2.1 x.2.2.2.2.1 x.2.2.2.2.2 := by kernel_rfl

theorem iNormalDepth_1_m (x : DR A_iNormalDepth_1.hs) : meanF (envT Try.prog C39 M19) noLoops Try.f91 A_iNormalDepth_1 R_iNormalDepth_1 x = (show Option (SumD (R_iNormalDepth_1.map (·.2))) from iNormalDepth_1 x.1 x.2.1 x.2.2.1 x.2.2.2.1 x.2.2.2.2.1 x.2.2.2.2.2) := meanF_of (iNormalDepth_1_e x)

theorem iNormalDepth_1_ok : SpecOk Try.prog 91 (evFn (envT Try.prog C39 M19) noLoops Try.f91) := fnL_ok (envT_ok (C39_ok) (M19_ok)) mixedO Try.func91 (by kernel_rfl) (c := bodyOf Try.f91) (by kernel_rfl) (loopFree_ok (by kernel_rfl))

theorem iNormalDepth_1_told : SpecOk Try.prog 91 (toldO A_iNormalDepth_1 R_iNormalDepth_1 (fun x => iNormalDepth_1 x.1 x.2.1 x.2.2.1 x.2.2.2.1 x.2.2.2.2.1 x.2.2.2.2.2) (C39 91)) := toldO_ok (by kernel_rfl) iNormalDepth_1_ok (rest_ok (C39_ok) _) iNormalDepth_1_m

noncomputable def C40 : Tab := tab 91 (toldO A_iNormalDepth_1 R_iNormalDepth_1 (fun x => iNormalDepth_1 x.1 x.2.1 x.2.2.1 x.2.2.2.1 x.2.2.2.2.1 x.2.2.2.2.2) (C39 91)) C39
theorem C40_ok : TabOk Try.prog C40 := tab_ok (iNormalDepth_1_told) (C39_ok)

def S_ihalve_iNormalDepth_1_l2 : Shp := ⟨[.h, .h, .fn 91 [.dpt [.h, .h, .h, .h] 0, .dpt [.h] 0], .undef, .undef, .undef, .h], [], [.f .f32, .f .f32, .f .f32, .f .f32, .f .f32, .f .f32, .f .f32, .i .i64]⟩
def X_ihalve_iNormalDepth_1_l2 : List XShp := [(.ret, ⟨[.undef, .undef, .undef, .h, .h, .lb false, .undef], [], [.f .f32, .f .f32]⟩), (.exit 0, ⟨[.h, .h, .undef, .undef, .undef, .undef, .undef], [], [.f .f32, .f .f32]⟩)]

noncomputable def L_ihalve_iNormalDepth_1_l2 : Loops := (⟨32, lvT [(2, [0, 1, 2, 6, 7, 8, 12])], mdT [(2, .normal, [], [6, 7, 8]), (2, .exit 0, [], [2, 6, 7, 8, 12]), (2, .ret, [], [0, 1, 2, 12])], fun k vs bs => .bad⟩ : Loops)

theorem ihalve_iNormalDepth_1_l2_e (y2 : Nat) (y3 : Nat) (y4 : Nat) (y5 : Nat) (y6 : Nat) (s : Nat × Nat × Int) : (loopStep (envT Try.prog C40 M19) L_ihalve_iNormalDepth_1_l2 2 (loopC (bodyOf Try.f71) 2) (S_ihalve_iNormalDepth_1_l2.enc (s.1, s.2.1, y2, y3, y4, y5, y6, s.2.2)).1 (S_ihalve_iNormalDepth_1_l2.enc (s.1, s.2.1, y2, y3, y4, y5, y6, s.2.2)).2).to (stepD S_ihalve_iNormalDepth_1_l2 X_ihalve_iNormalDepth_1_l2) = (ihalve_iNormalDepth_1_l2_t y2 y3 y4 y5 y6 s.1 s.2.1 s.2.2).map (Sum.map (fun s : Nat × Nat × Int => (show DR S_ihalve_iNormalDepth_1_l2.hs from (s.1, s.2.1, y2, y3, y4, y5, y6, s.2.2))) id) := by kernel_rfl

theorem ihalve_iNormalDepth_1_l2_r (x : DR S_ihalve_iNormalDepth_1_l2.hs) : (ihalve_iNormalDepth_1_l2 x.1 x.2.1 x.2.2.1 x.2.2.2.1 x.2.2.2.2.1 x.2.2.2.2.2.1 x.2.2.2.2.2.2.1 x.2.2.2.2.2.2.2 : Option (SumD (X_ihalve_iNormalDepth_1_l2.map (·.2)))) = runL (meanS (envT Try.prog C40 M19) L_ihalve_iNormalDepth_1_l2 2 (loopC (bodyOf Try.f71) 2) S_ihalve_iNormalDepth_1_l2 X_ihalve_iNormalDepth_1_l2) x := run_of (fun s : Nat × Nat × Int => (show DR S_ihalve_iNormalDepth_1_l2.hs from (s.1, s.2.1, x.2.2.1, x.2.2.2.1, x.2.2.2.2.1, x.2.2.2.2.2.1, x.2.2.2.2.2.2.1, s.2.2))) (ihalve_iNormalDepth_1_l2_e (x.2.2.1) (x.2.2.2.1) (x.2.2.2.2.1) (x.2.2.2.2.2.1) (x.2.2.2.2.2.2.1)) (x.1, x.2.1, x.2.2.2.2.2.2.2)

theorem ihalve_iNormalDepth_1_l2_k (L : Loops) (hn : L_ihalve_iNormalDepth_1_l2.n = L.n) (hlv : L_ihalve_iNormalDepth_1_l2.lv 2 = L.lv 2) (hL : ∀ vs bs, L.loop 2 vs bs = toldL S_ihalve_iNormalDepth_1_l2 X_ihalve_iNormalDepth_1_l2 (fun x => ihalve_iNormalDepth_1_l2 x.1 x.2.1 x.2.2.1 x.2.2.2.1 x.2.2.2.2.1 x.2.2.2.2.2.1 x.2.2.2.2.2.2.1 x.2.2.2.2.2.2.2) vs bs) : LOk Try.prog (envT Try.prog C40 M19) L 2 (loopC (bodyOf Try.f71) 2) := toldL_ok (L1 := L_ihalve_iNormalDepth_1_l2) (envT_ok (C40_ok) (M19_ok)) mixedO hn hlv (loopFree_ok (by kernel_rfl)) ihalve_iNormalDepth_1_l2_r hL

def A_ihalve_iNormalDepth_1 : Shp := ⟨[.h, .h, .fn 91 [.dpt [.h, .h, .h, .h] 0, .dpt [.h] 0]], [], [.f .f32, .f .f32, .f .f32, .f .f32, .f .f32, .f .f32, .f .f32]⟩
def R_ihalve_iNormalDepth_1 : List XShp := [(.ret, ⟨[.tup [.h, .h, .h]], [], [.f .f32, .f .f32, .b]⟩)]

noncomputable def L_ihalve_iNormalDepth_1 : Loops := (⟨32, lvT [(2, [0, 1, 2, 6, 7, 8, 12])], mdT [(2, .normal, [], [6, 7, 8]), (2, .exit 0, [], [2, 6, 7, 8, 12]), (2, .ret, [], [0, 1, 2, 12])], fun k vs bs => bif Nat.beq k 2 then toldL S_ihalve_iNormalDepth_1_l2 X_ihalve_iNormalDepth_1_l2 (fun x => ihalve_iNormalDepth_1_l2 x.1 x.2.1 x.2.2.1 x.2.2.2.1 x.2.2.2.2.1 x.2.2.2.2.2.1 x.2.2.2.2.2.2.1 x.2.2.2.2.2.2.2) vs bs else .bad⟩ : Loops)

theorem ihalve_iNormalDepth_1_e (x : DR A_ihalve_iNormalDepth_1.hs) : (evFn (envT Try.prog C40 M19) L_ihalve_iNormalDepth_1 Try.f71 (A_ihalve_iNormalDepth_1.enc x).1).to (fun q => decX R_ihalve_iNormalDepth_1 .ret [q.1] q.2) = ihalve_iNormalDepth_1_t x.1 x.2.1 x.2.2.1 x.2.2.2.1 x.2.2.2.2.1 x.2.2.2.2.2.1 x.2.2.2.2.2.2 := by kernel_rfl

theorem ihalve_iNormalDepth_1_m (x : DR A_ihalve_iNormalDepth_1.hs) : meanF (envT Try.prog C40 M19) L_ihalve_iNormalDepth_1 Try.f71 A_ihalve_iNormalDepth_1 R_ihalve_iNormalDepth_1 x = (show Option (SumD (R_ihalve_iNormalDepth_1.map (·.2))) from ihalve_iNormalDepth_1 x.1 x.2.1 x.2.2.1 x.2.2.2.1 x.2.2.2.2.1 x.2.2.2.2.2.1 x.2.2.2.2.2.2) := meanF_of (ihalve_iNormalDepth_1_e x)

theorem ihalve_iNormalDepth_1_ok : SpecOk Try.prog 71 (evFn (envT Try.prog C40 M19) L_ihalve_iNormalDepth_1 Try.f71) := fnL_ok (envT_ok (C40_ok) (M19_ok)) mixedO Try.func71 (by kernel_rfl) (c := bodyOf Try.f71) (by kernel_rfl) (loopsL (l := [(2, loopC (bodyOf Try.f71) 2)]) (by kernel_rfl) (lk_cons (ihalve_iNormalDepth_1_l2_k _ rfl rfl (fun _ _ => rfl)) lk_nil))

theorem ihalve_iNormalDepth_1_told : SpecOk Try.prog 71 (toldO A_ihalve_iNormalDepth_1 R_ihalve_iNormalDepth_1 (fun x => ihalve_iNormalDepth_1 x.1 x.2.1 x.2.2.1 x.2.2.2.1 x.2.2.2.2.1 x.2.2.2.2.2.1 x.2.2.2.2.2.2) (C40 71)) := toldO_ok (by kernel_rfl) ihalve_iNormalDepth_1_ok (rest_ok (C40_ok) _) ihalve_iNormalDepth_1_m

noncomputable def C41 : Tab := tab 71 (toldO A_ihalve_iNormalDepth_1 R_ihalve_iNormalDepth_1 (fun x => ihalve_iNormalDepth_1 x.1 x.2.1 x.2.2.1 x.2.2.2.1 x.2.2.2.2.1 x.2.2.2.2.2.1 x.2.2.2.2.2.2) (C40 71)) C40
theorem C41_ok : TabOk Try.prog C41 := tab_ok (ihalve_iNormalDepth_1_told) (C40_ok)

def A_iNormalDepth : Shp := ⟨[.agg [.h, .h, .h, .h], .h], [], [.f .f32, .f .f32, .f .f32, .f .f32, .f .f32]⟩
def R_iNormalDepth : List XShp := [(.ret, ⟨[.tup [.h, .h]], [], [.f .f32, .b]⟩)]

theorem iNormalDepth_e (x : DR A_iNormalDepth.hs) : (evFn (envT Try.prog C41 M19) noLoops Try.f38 (A_iNormalDepth.enc x).1).to (fun q => decX R_iNormalDepth .ret [q.1] q.2) = iNormalDepth_t x.1 x.2.1 x.2.2.1 x.2.2.2.1 x.2.2.2.2 := by kernel_rfl

theorem iNormalDepth_m (x : DR A_iNormalDepth.hs) : meanF (envT Try.prog C41 M19) noLoops Try.f38 A_iNormalDepth R_iNormalDepth x = (show Option (SumD (R_iNormalDepth.map (·.2))) from iNormalDepth x.1 x.2.1 x.2.2.1 x.2.2.2.1 x.2.2.2.2) := meanF_of (iNormalDepth_e x)

theorem iNormalDepth_ok : SpecOk Try.prog 38 (evFn (envT Try.prog C41 M19) noLoops Try.f38) := fnL_ok (envT_ok (C41_ok) (M19_ok)) mixedO Try.func38 (by kernel_rfl) (c := bodyOf Try.f38) (by kernel_rfl) (loopFree_ok (by kernel_rfl))

theorem iNormalDepth_told : SpecOk Try.prog 38 (toldO A_iNormalDepth R_iNormalDepth (fun x => iNormalDepth x.1 x.2.1 x.2.2.1 x.2.2.2.1 x.2.2.2.2) (C41 38)) := toldO_ok (by kernel_rfl) iNormalDepth_ok (rest_ok (C41_ok) _) iNormalDepth_m

noncomputable def C42 : Tab := tab 38 (toldO A_iNormalDepth R_iNormalDepth (fun x => iNormalDepth x.1 x.2.1 x.2.2.1 x.2.2.2.1 x.2.2.2.2) (C41 38)) C41
theorem C42_ok : TabOk Try.prog C42 := tab_ok (iNormalDepth_told) (C41_ok)

def A_iTopAt : Shp := ⟨[.agg [.h, .h, .h, .h], .h], [], [.f .f32, .f .f32, .f .f32, .f .f32, .f .f32]⟩
def R_iTopAt : List XShp := [(.ret, ⟨[.tup [.h, .h]], [], [.f .f32, .b]⟩)]

theorem iTopAt_e (x : DR A_iTopAt.hs) : (evFn (envT Try.prog C42 M19) noLoops Try.f52 (A_iTopAt.enc x).1).to (fun q => decX R_iTopAt .ret [q.1] q.2) = iTopAt_t x.1 x.2.1 x.2.2.1 x.2.2.2.1 x.2.2.2.2 := by kernel_rfl

theorem iTopAt_m (x : DR A_iTopAt.hs) : meanF (envT Try.prog C42 M19) noLoops Try.f52 A_iTopAt R_iTopAt x = (show Option (SumD (R_iTopAt.map (·.2))) from iTopAt x.1 x.2.1 x.2.2.1 x.2.2.2.1 x.2.2.2.2) := meanF_of (iTopAt_e x)

theorem iTopAt_ok : SpecOk Try.prog 52 (evFn (envT Try.prog C42 M19) noLoops Try.f52) := fnL_ok (envT_ok (C42_ok) (M19_ok)) mixedO Try.func52 (by kernel_rfl) (c := bodyOf Try.f52) (by kernel_rfl) (loopFree_ok (by kernel_rfl))

theorem iTopAt_told : SpecOk Try.prog 52 (toldO A_iTopAt R_iTopAt (fun x => iTopAt x.1 x.2.1 x.2.2.1 x.2.2.2.1 x.2.2.2.2) (C42 52)) := toldO_ok (by kernel_rfl) iTopAt_ok (rest_ok (C42_ok) _) iTopAt_m

noncomputable def C43 : Tab := tab 52 (toldO A_iTopAt R_iTopAt (fun x => iTopAt x.1 x.2.1 x.2.2.1 x.2.2.2.1 x.2.2.2.2) (C42 52)) C42
theorem C43_ok : TabOk Try.prog C43 := tab_ok (iTopAt_told) (C42_ok)

def A_iCriticalDepth_1 : Shp := ⟨[.h, .dpt [.h, .h, .h, .h] 0, .dpt [.h] 0], [], [.f .f32, .f .f32, .f .f32, .f .f32, .f .f32, .f .f32]⟩
def R_iCriticalDepth_1 : List XShp := [(.ret, ⟨[.tup [.h, .h]], [], [.b, .b]⟩)]

theorem iCriticalDepth_1_e (x : DR A_iCriticalDepth_1.hs) : (evFn (envT Try.prog C43 M19) noLoops Try.f92 (A_iCriticalDepth_1.enc x).1).to (fun q => decX R_iCriticalDepth_1 .ret [q.1] q.2) = iCriticalDepth_1_t x.1 x.2.1 x.2.2.1 x.2.2.2.1 x.2.2.2.2.1 x.2.2.2.2.2 := by kernel_rfl

theorem iCriticalDepth_1_m (x : DR A_iCriticalDepth_1.hs) : meanF (envT Try.prog C43 M19) noLoops Try.f92 A_iCriticalDepth_1 R_iCriticalDepth_1 x = (show Option (SumD (R_iCriticalDepth_1.map (·.2))) from iCriticalDepth_1 x.1 x.2.1 x.2.2.1 x.2.2.2.1 x.2.2.2.2.1 x.2.2.2.2.2) := meanF_of (iCriticalDepth_1_e x)

theorem iCriticalDepth_1_ok : SpecOk Try.prog 92 (evFn (envT Try.prog C43 M19) noLoops Try.f92) := fnL_ok (envT_ok (C43_ok) (M19_ok)) mixedO Try.func92 (by kernel_rfl) (c := bodyOf Try.f92) (by kernel_rfl) (loopFree_ok (by kernel_rfl))

theorem iCriticalDepth_1_told : SpecOk Try.prog 92 (toldO A_iCriticalDepth_1 R_iCriticalDepth_1 (fun x => iCriticalDepth_1 x.1 x.2.1 x.2.2.1 x.2.2.2.1 x.2.2.2.2.1 x.2.2.2.2.2) (C43 92)) := toldO_ok (by kernel_rfl) iCriticalDepth_1_ok (rest_ok (C43_ok) _) iCriticalDepth_1_m

noncomputable def C44 : Tab := tab 92 (toldO A_iCriticalDepth_1 R_iCriticalDepth_1 (fun x => iCriticalDepth_1 x.1 x.2.1 x.2.2.1 x.2.2.2.1 x.2.2.2.2.1 x.2.2.2.2.2) (C43 92)) C43
theorem C44_ok : TabOk Try.prog C44 := tab_ok (iCriticalDepth_1_told) (C43_ok)

def S_ihalve_iCriticalDepth_1_l2 : Shp := ⟨[.h, .h, .fn 92 [.dpt [.h, .h, .h, .h] 0, .dpt [.h] 0], .undef, .undef, .undef, .h], [], [.f .f32, .f .f32, .f .f32, .f .f32, .f .f32, .f .f32, .f .f32, .i .i64]⟩
def X_ihalve_iCriticalDepth_1_l2 : List XShp := [(.ret, ⟨[.undef, .undef, .undef, .h, .h, .lb false, .undef], [], [.f .f32, .f .f32]⟩), (.exit 0, ⟨[.h, .h, .undef, .undef, .undef, .undef, .undef], [], [.f .f32, .f .f32]⟩)]

noncomputable def L_ihalve_iCriticalDepth_1_l2 : Loops := (⟨32, lvT [(2, [0, 1, 2, 6, 7, 8, 12])], mdT [(2, .normal, [], [6, 7, 8]), (2, .exit 0, [], [2, 6, 7, 8, 12]), (2, .ret, [], [0, 1, 2, 12])], fun k vs bs => .bad⟩ : Loops)

theorem ihalve_iCriticalDepth_1_l2_e (y2 : Nat) (y3 : Nat) (y4 : Nat) (y5 : Nat) (y6 : Nat) (s : Nat × Nat × Int) : (loopStep (envT Try.prog C44 M19) L_ihalve_iCriticalDepth_1_l2 2 (loopC (bodyOf Try.f71) 2) (S_ihalve_iCriticalDepth_1_l2.enc (s.1, s.2.1, y2, y3, y4, y5, y6, s.2.2)).1 (S_ihalve_iCriticalDepth_1_l2.enc (s.1, s.2.1, y2, y3, y4, y5, y6, s.2.2)).2).to (stepD S_ihalve_iCriticalDepth_1_l2 X_ihalve_iCriticalDepth_1_l2) = (ihalve_iCriticalDepth_1_l2_t y2 y3 y4 y5 y6 s.1 s.2.1 s.2.2).map (Sum.map (fun s : Nat × Nat × Int => (show DR S_ihalve_iCriticalDepth_1_l2.hs from (s.1, s.2.1, y2, y3, y4, y5, y6, s.2.2))) id) := by kernel_rfl

theorem ihalve_iCriticalDepth_1_l2_r (x : DR S_ihalve_iCriticalDepth_1_l2.hs) : (ihalve_iCriticalDepth_1_l2 x.1 x.2.1 x.2.2.1 x.2.2.2.1 x.2.2.2.2.1 x.2.2.2.2.2.1 x.2.2.2.2.2.2.1 x.2.2.2.2.2.2.2 : Option (SumD (X_ihalve_iCriticalDepth_1_l2.map (·.2)))) = runL (meanS (envT Try.prog C44 M19) L_ihalve_iCriticalDepth_1_l2 2 (loopC (bodyOf Try.f71) 2) S_ihalve_iCriticalDepth_1_l2 X_ihalve_iCriticalDepth_1_l2) x := run_of (fun s : Nat × Nat × Int => (show DR S_ihalve_iCriticalDepth_1_l2.hs from (s.1, s.2.1, x.2.2.1, x.2.2.2.1, x.2.2.2.2.1, x.2.2.2.2.2.1, x.2.2.2.2.2.2.1, s.2.2))) (ihalve_iCriticalDepth_1_l2_e (x.2.2.1) (x.2.2.2.1) (x.2.2.2.2.1) (x.2.2.2.2.2.1) (x.2.2.2.2.2.2.1)) (x.1, x.2.1, x.2.2.2.2.2.2.2)

theorem ihalve_iCriticalDepth_1_l2_k (L : Loops) (hn : L_ihalve_iCriticalDepth_1_l2.n = L.n) (hlv : L_ihalve_iCriticalDepth_1_l2.lv 2 = L.lv 2) (hL : ∀ vs bs, L.loop 2 vs bs = toldL S_ihalve_iCriticalDepth_1_l2 X_ihalve_iCriticalDepth_1_l2 (fun x => ihalve_iCriticalDepth_1_l2 x.1 x.2.1 x.2.2.1 x.2.2.2.1 x.2.2.2.2.1 x.2.2.2.2.2.1 x.2.2.2.2.2.2.1 x.2.2.2.2.2.2.2) vs bs) : LOk Try.prog (envT Try.prog C44 M19) L 2 (loopC (bodyOf Try.f71) 2) := toldL_ok (L1 := L_ihalve_iCriticalDepth_1_l2) (envT_ok (C44_ok) (M19_ok)) mixedO hn hlv (loopFree_ok (by kernel_rfl)) ihalve_iCriticalDepth_1_l2_r hL

def A_ihalve_iCriticalDepth_1 : Shp := ⟨[.h, .h, .fn 92 [.dpt [.h, .h, .h, .h] 0, .dpt [.h] 0]], [], [.f .f32, .f .f32, .f .f32, .f .f32, .f .f32, .f .f32, .f .f32]⟩
def R_ihalve_iCriticalDepth_1 : List XShp := [(.ret, ⟨[.tup [.h, .h, .h]], [], [.f .f32, .f .f32, .b]⟩)]

noncomputable def L_ihalve_iCriticalDepth_1 : Loops := (⟨32, lvT [(2, [0, 1, 2, 6, 7, 8, 12])], mdT [(2, .normal, [], [6, 7, 8]), (2, .exit 0, [], [2, 6, 7, 8, 12]), (2, .ret, [], [0, 1, 2, 12])], fun k vs bs => bif Nat.beq k 2 then toldL S_ihalve_iCriticalDepth_1_l2 X_ihalve_iCriticalDepth_1_l2 (fun x => ihalve_iCriticalDepth_1_l2 x.1 x.2.1 x.2.2.1 x.2.2.2.1 x.2.2.2.2.1 x.2.2.2.2.2.1 x.2.2.2.2.2.2.1 x.2.2.2.2.2.2.2) vs bs else .bad⟩ : Loops)

theorem ihalve_iCriticalDepth_1_e (x : DR A_ihalve_iCriticalDepth_1.hs) : (evFn (envT Try.prog C44 M19) L_ihalve_iCriticalDepth_1 Try.f71 (A_ihalve_iCriticalDepth_1.enc x).1).to (fun q => decX R_ihalve_iCriticalDepth_1 .ret [q.1] q.2) = ihalve_iCriticalDepth_1_t x.1 x.2.1 x.2.2.1 x.2.2.2.1 x.2.2.2.2.1 x.2.2.2.2.2.1 x.2.2.2.2.2.2 := by kernel_rfl

theorem ihalve_iCriticalDepth_1_m (x : DR A_ihalve_iCriticalDepth_1.hs) : meanF (envT Try.prog C44 M19) L_ihalve_iCriticalDepth_1 Try.f71 A_ihalve_iCriticalDepth_1 R_ihalve_iCriticalDepth_1 x = (show Option (SumD (R_ihalve_iCriticalDepth_1.map (·.2))) from ihalve_iCriticalDepth_1 x.1 x.2.1 x.2.2.1 x.2.2.2.1 x.2.2.2.2.1 x.2.2.2.2.2.1 x.2.2.2.2.2.2) := meanF_of (ihalve_iCriticalDepth_1_e x)

theorem ihalve_iCriticalDepth_1_ok : SpecOk Try.prog 71 (evFn (envT Try.prog C44 M19) L_ihalve_iCriticalDepth_1 Try.f71) := fnL_ok (envT_ok (C44_ok) (M19_ok)) mixedO Try.func71 (by kernel_rfl) (c := bodyOf Try.f71) (by kernel_rfl) (loopsL (l := [(2, loopC (bodyOf Try.f71) 2)]) (by kernel_rfl) (lk_cons (ihalve_iCriticalDepth_1_l2_k _ rfl rfl (fun _ _ => rfl)) lk_nil))

theorem ihalve_iCriticalDepth_1_told : SpecOk Try.prog 71 (toldO A_ihalve_iCriticalDepth_1 R_ihalve_iCriticalDepth_1 (fun x => ihalve_iCriticalDepth_1 x.1 x.2.1 x.2.2.1 x.2.2.2.1 x.2.2.2.2.1 x.2.2.2.2.2.1 x.2.2.2.2.2.2) (C44 71)) := toldO_ok (by kernel_rfl) ihalve_iCriticalDepth_1_ok (rest_ok (C44_ok) _) ihalve_iCriticalDepth_1_m

noncomputable def C45 : Tab := tab 71 (toldO A_ihalve_iCriticalDepth_1 R_ihalve_iCriticalDepth_1 (fun x => ihalve_iCriticalDepth_1 x.1 x.2.1 x.2.2.1 x.2.2.2.1 x.2.2.2.2.1 x.2.2.2.2.2.1 x.2.2.2.2.2.2) (C44 71)) C44
theorem C45_ok : TabOk Try.prog C45 := tab_ok (ihalve_iCriticalDepth_1_told) (C44_ok)

def A_iCriticalDepth : Shp := ⟨[.agg [.h, .h, .h, .h], .h], [], [.f .f32, .f .f32, .f .f32, .f .f32, .f .f32]⟩
def R_iCriticalDepth : List XShp := [(.ret, ⟨[.tup [.h, .h]], [], [.f .f32, .b]⟩)]

theorem iCriticalDepth_e (x : DR A_iCriticalDepth.hs) : (evFn (envT Try.prog C45 M19) noLoops Try.f39 (A_iCriticalDepth.enc x).1).to (fun q => decX R_iCriticalDepth .ret [q.1] q.2) = iCriticalDepth_t x.1 x.2.1 x.2.2.1 x.2.2.2.1 x.2.2.2.2 := by kernel_rfl

theorem iCriticalDepth_m (x : DR A_iCriticalDepth.hs) : meanF (envT Try.prog C45 M19) noLoops Try.f39 A_iCriticalDepth R_iCriticalDepth x = (show Option (SumD (R_iCriticalDepth.map (·.2))) from iCriticalDepth x.1 x.2.1 x.2.2.1 x.2.2.2.1 x.2.2.2.2) := meanF_of (iCriticalDepth_e x)

theorem iCriticalDepth_ok : SpecOk Try.prog 39 (evFn (envT Try.prog C45 M19) noLoops Try.f39) := fnL_ok (envT_ok (C45_ok) (M19_ok)) mixedO Try.func39 (by kernel_rfl) (c := bodyOf Try.f39) (by kernel_rfl) (loopFree_ok (by kernel_rfl))

theorem iCriticalDepth_told : SpecOk Try.prog 39 (toldO A_iCriticalDepth R_iCriticalDepth (fun x => iCriticalDepth x.1 x.2.1 x.2.2.1 x.2.2.2.1 x.2.2.2.2) (C45 39)) := toldO_ok (by kernel_rfl) iCriticalDepth_ok (rest_ok (C45_ok) _) iCriticalDepth_m

noncomputable def C46 : Tab := tab 39 (toldO A_iCriticalDepth R_iCriticalDepth (fun x => iCriticalDepth x.1 x.2.1 x.2.2.1 x.2.2.2.1 x.2.2.2.2) (C45 39)) C45
theorem C46_ok : TabOk Try.prog C46 := tab_ok (iCriticalDepth_told) (C45_ok)

def A_iSpeedAt : Shp := ⟨[.agg [.h, .h, .h, .h], .h, .h], [], [.f .f32, .f .f32, .f .f32, .f .f32, .f .f32, .f .f32]⟩
def R_iSpeedAt : List XShp := [(.ret, ⟨[.tup [.h, .h]], [], [.f .f32, .b]⟩)]

theorem iSpeedAt_e (x : DR A_iSpeedAt.hs) : (evFn (envT Try.prog C46 M19) noLoops Try.f53 (A_iSpeedAt.enc x).1).to (fun q => decX R_iSpeedAt .ret [q.1] q.2) = iSpeedAt_t x.1 x.2.1 x.2.2.1 x.2.2.2.1 x.2.2.2.2.1 x.2.2.2.2.2 := by kernel_rfl

theorem iSpeedAt_m (x : DR A_iSpeedAt.hs) : meanF (envT Try.prog C46 M19) noLoops Try.f53 A_iSpeedAt R_iSpeedAt x = (show Option (SumD (R_iSpeedAt.map (·.2))) from iSpeedAt x.1 x.2.1 x.2.2.1 x.2.2.2.1 x.2.2.2.2.1 x.2.2.2.2.2) := meanF_of (iSpeedAt_e x)

theorem iSpeedAt_ok : SpecOk Try.prog 53 (evFn (envT Try.prog C46 M19) noLoops Try.f53) := fnL_ok (envT_ok (C46_ok) (M19_ok)) mixedO Try.func53 (by kernel_rfl) (c := bodyOf Try.f53) (by kernel_rfl) (loopFree_ok (by kernel_rfl))

theorem iSpeedAt_told : SpecOk Try.prog 53 (toldO A_iSpeedAt R_iSpeedAt (fun x => iSpeedAt x.1 x.2.1 x.2.2.1 x.2.2.2.1 x.2.2.2.2.1 x.2.2.2.2.2) (C46 53)) := toldO_ok (by kernel_rfl) iSpeedAt_ok (rest_ok (C46_ok) _) iSpeedAt_m

noncomputable def C47 : Tab := tab 53 (toldO A_iSpeedAt R_iSpeedAt (fun x => iSpeedAt x.1 x.2.1 x.2.2.1 x.2.2.2.1 x.2.2.2.2.1 x.2.2.2.2.2) (C46 53)) C46
theorem C47_ok : TabOk Try.prog C47 := tab_ok (iSpeedAt_told) (C46_ok)

def A_iSteepnessAt : Shp := ⟨[.agg [.h, .h, .h, .h], .h, .h], [], [.f .f32, .f .f32, .f .f32, .f .f32, .f .f32, .f .f32]⟩
def R_iSteepnessAt : List XShp := [(.ret, ⟨[.tup [.h, .h]], [], [.f .f32, .b]⟩)]

theorem iSteepnessAt_e (x : DR A_iSteepnessAt.hs) : (evFn (envT Try.prog C47 M19) noLoops Try.f54 (A_iSteepnessAt.enc x).1).to (fun q => decX R_iSteepnessAt .ret [q.1] q.2) = iSteepnessAt_t x.1 x.2.1 x.2.2.1 x.2.2.2.1 x.2.2.2.2.1 x.2.2.2.2.2 := by kernel_rfl

theorem iSteepnessAt_m (x : DR A_iSteepnessAt.hs) : meanF (envT Try.prog C47 M19) noLoops Try.f54 A_iSteepnessAt R_iSteepnessAt x = (show Option (SumD (R_iSteepnessAt.map (·.2))) from iSteepnessAt x.1 x.2.1 x.2.2.1 x.2.2.2.1 x.2.2.2.2.1 x.2.2.2.2.2) := meanF_of (iSteepnessAt_e x)

theorem iSteepnessAt_ok : SpecOk Try.prog 54 (evFn (envT Try.prog C47 M19) noLoops Try.f54) := fnL_ok (envT_ok (C47_ok) (M19_ok)) mixedO Try.func54 (by kernel_rfl) (c := bodyOf Try.f54) (by kernel_rfl) (loopFree_ok (by kernel_rfl))

theorem iSteepnessAt_told : SpecOk Try.prog 54 (toldO A_iSteepnessAt R_iSteepnessAt (fun x => iSteepnessAt x.1 x.2.1 x.2.2.1 x.2.2.2.1 x.2.2.2.2.1 x.2.2.2.2.2) (C47 54)) := toldO_ok (by kernel_rfl) iSteepnessAt_ok (rest_ok (C47_ok) _) iSteepnessAt_m

noncomputable def C48 : Tab := tab 54 (toldO A_iSteepnessAt R_iSteepnessAt (fun x => iSteepnessAt x.1 x.2.1 x.2.2.1 x.2.2.2.1 x.2.2.2.2.1 x.2.2.2.2.2) (C47 54)) C47
theorem C48_ok : TabOk Try.prog C48 := tab_ok (iSteepnessAt_told) (C47_ok)

def A_iareFinite_1 : Shp := ⟨[.h], [], [.f .f32]⟩
def R_iareFinite_1 : List XShp := [(.ret, ⟨[.h], [], [.b]⟩)]

theorem iareFinite_1_e (x : DR A_iareFinite_1.hs) : (evFn (envT Try.prog C48 M19) noLoops Try.f108 (A_iareFinite_1.enc x).1).to (fun q => decX R_iareFinite_1 .ret [q.1] q.2) = iareFinite_1_t x := by kernel_rfl

theorem iareFinite_1_m (x : DR A_iareFinite_1.hs) : meanF (envT Try.prog C48 M19) noLoops Try.f108 A_iareFinite_1 R_iareFinite_1 x = some (show SumD (R_iareFinite_1.map (·.2)) from iareFinite_1 x) := @meanF_tot _ _ _ _ _ _ _ (iareFinite_1_e x) (show Inhabited (Bool) from inferInstance) (by kernel_rfl)

theorem iareFinite_1_ok : SpecOk Try.prog 108 (evFn (envT Try.prog C48 M19) noLoops Try.f108) := fnL_ok (envT_ok (C48_ok) (M19_ok)) mixedO Try.func108 (by kernel_rfl) (c := bodyOf Try.f108) (by kernel_rfl) (loopFree_ok (by kernel_rfl))

theorem iareFinite_1_told : SpecOk Try.prog 108 (toldT A_iareFinite_1 R_iareFinite_1 (fun x => iareFinite_1 x) (C48 108)) := toldT_ok (by kernel_rfl) iareFinite_1_ok (rest_ok (C48_ok) _) iareFinite_1_m

noncomputable def C49 : Tab := tab 108 (toldT A_iareFinite_1 R_iareFinite_1 (fun x => iareFinite_1 x) (C48 108)) C48
theorem C49_ok : TabOk Try.prog C49 := tab_ok (iareFinite_1_told) (C48_ok)

def S_lIndexFunc_iareFinite_1_l2 : Shp := ⟨[.h, .fn 108 [], .undef, .h, .h], [], [.sl [.f .f32], .i .i64, .i .i64]⟩
def X_lIndexFunc_iareFinite_1_l2 : List XShp := [(.ret, ⟨[.undef, .undef, .h, .undef, .undef], [], [.i .i64]⟩), (.exit 0, ⟨[.undef, .undef, .undef, .undef, .undef], [], []⟩)]

noncomputable def L_lIndexFunc_iareFinite_1_l2 : Loops := (⟨19, lvT [(2, [0, 1, 4, 7, 8])], mdT [(2, .normal, [], [4]), (2, .exit 0, [], [0, 1, 4, 7, 8]), (2, .ret, [], [0, 1, 7, 8])], fun k vs bs => .bad⟩ : Loops)

theorem lIndexFunc_iareFinite_1_l2_e (y0 : List Nat) (y1 : Int) (s : Int) : (loopStep (envT Try.prog C49 M19) L_lIndexFunc_iareFinite_1_l2 2 (loopC (bodyOf Try.f101) 2) (S_lIndexFunc_iareFinite_1_l2.enc (y0, y1, s)).1 (S_lIndexFunc_iareFinite_1_l2.enc (y0, y1, s)).2).to (stepD S_lIndexFunc_iareFinite_1_l2 X_lIndexFunc_iareFinite_1_l2) = (lIndexFunc_iareFinite_1_l2_t y0 y1 s).map (Sum.map (fun s : Int => (show DR S_lIndexFunc_iareFinite_1_l2.hs from (y0, y1, s))) id) := by kernel_rfl

theorem lIndexFunc_iareFinite_1_l2_r (x : DR S_lIndexFunc_iareFinite_1_l2.hs) : (lIndexFunc_iareFinite_1_l2 x.1 x.2.1 x.2.2 : Option (SumD (X_lIndexFunc_iareFinite_1_l2.map (·.2)))) = runL (meanS (envT Try.prog C49 M19) L_lIndexFunc_iareFinite_1_l2 2 (loopC (bodyOf Try.f101) 2) S_lIndexFunc_iareFinite_1_l2 X_lIndexFunc_iareFinite_1_l2) x := run_of (fun s : Int => (show DR S_lIndexFunc_iareFinite_1_l2.hs from (x.1, x.2.1, s))) (lIndexFunc_iareFinite_1_l2_e (x.1) (x.2.1)) x.2.2

theorem lIndexFunc_iareFinite_1_l2_k (L : Loops) (hn : L_lIndexFunc_iareFinite_1_l2.n = L.n) (hlv : L_lIndexFunc_iareFinite_1_l2.lv 2 = L.lv 2) (hL : ∀ vs bs, L.loop 2 vs bs = toldL S_lIndexFunc_iareFinite_1_l2 X_lIndexFunc_iareFinite_1_l2 (fun x => lIndexFunc_iareFinite_1_l2 x.1 x.2.1 x.2.2) vs bs) : LOk Try.prog (envT Try.prog C49 M19) L 2 (loopC (bodyOf Try.f101) 2) := toldL_ok (L1 := L_lIndexFunc_iareFinite_1_l2) (envT_ok (C49_ok) (M19_ok)) mixedO hn hlv (loopFree_ok (by kernel_rfl)) lIndexFunc_iareFinite_1_l2_r hL

def A_lIndexFunc_iareFinite_1 : Shp := ⟨[.h, .fn 108 []], [], [.sl [.f .f32]]⟩
def R_lIndexFunc_iareFinite_1 : List XShp := [(.ret, ⟨[.h], [], [.i .i64]⟩)]

noncomputable def L_lIndexFunc_iareFinite_1 : Loops := (⟨19, lvT [(2, [0, 1, 4, 7, 8])], mdT [(2, .normal, [], [4]), (2, .exit 0, [], [0, 1, 4, 7, 8]), (2, .ret, [], [0, 1, 7, 8])], fun k vs bs => bif Nat.beq k 2 then toldL S_lIndexFunc_iareFinite_1_l2 X_lIndexFunc_iareFinite_1_l2 (fun x => lIndexFunc_iareFinite_1_l2 x.1 x.2.1 x.2.2) vs bs else .bad⟩ : Loops)

theorem lIndexFunc_iareFinite_1_e (x : DR A_lIndexFunc_iareFinite_1.hs) : (evFn (envT Try.prog C49 M19) L_lIndexFunc_iareFinite_1 Try.f101 (A_lIndexFunc_iareFinite_1.enc x).1).to (fun q => decX R_lIndexFunc_iareFinite_1 .ret [q.1] q.2) = lIndexFunc_iareFinite_1_t x := by kernel_rfl

theorem lIndexFunc_iareFinite_1_m (x : DR A_lIndexFunc_iareFinite_1.hs) : meanF (envT Try.prog C49 M19) L_lIndexFunc_iareFinite_1 Try.f101 A_lIndexFunc_iareFinite_1 R_lIndexFunc_iareFinite_1 x = (show Option (SumD (R_lIndexFunc_iareFinite_1.map (·.2))) from lIndexFunc_iareFinite_1 x) := meanF_of (lIndexFunc_iareFinite_1_e x)

theorem lIndexFunc_iareFinite_1_ok : SpecOk Try.prog 101 (evFn (envT Try.prog C49 M19) L_lIndexFunc_iareFinite_1 Try.f101) := fnL_ok (envT_ok (C49_ok) (M19_ok)) mixedO Try.func101 (by kernel_rfl) (c := bodyOf Try.f101) (by kernel_rfl) (loopsL (l := [(2, loopC (bodyOf Try.f101) 2)]) (by kernel_rfl) (lk_cons (lIndexFunc_iareFinite_1_l2_k _ rfl rfl (fun _ _ => rfl)) lk_nil))

theorem lIndexFunc_iareFinite_1_told : SpecOk Try.prog 101 (toldO A_lIndexFunc_iareFinite_1 R_lIndexFunc_iareFinite_1 (fun x => lIndexFunc_iareFinite_1 x) (C49 101)) := toldO_ok (by kernel_rfl) lIndexFunc_iareFinite_1_ok (rest_ok (C49_ok) _) lIndexFunc_iareFinite_1_m

noncomputable def C50 : Tab := tab 101 (toldO A_lIndexFunc_iareFinite_1 R_lIndexFunc_iareFinite_1 (fun x => lIndexFunc_iareFinite_1 x) (C49 101)) C49
theorem C50_ok : TabOk Try.prog C50 := tab_ok (lIndexFunc_iareFinite_1_told) (C49_ok)

def A_lContainsFunc_iareFinite_1 : Shp := ⟨[.h, .fn 108 []], [], [.sl [.f .f32]]⟩
def R_lContainsFunc_iareFinite_1 : List XShp := [(.ret, ⟨[.h], [], [.b]⟩)]

theorem lContainsFunc_iareFinite_1_e (x : DR A_lContainsFunc_iareFinite_1.hs) : (evFn (envT Try.prog C50 M19) noLoops Try.f103 (A_lContainsFunc_iareFinite_1.enc x).1).to (fun q => decX R_lContainsFunc_iareFinite_1 .ret [q.1] q.2) = lContainsFunc_iareFinite_1_t x := by kernel_rfl

theorem lContainsFunc_iareFinite_1_m (x : DR A_lContainsFunc_iareFinite_1.hs) : meanF (envT Try.prog C50 M19) noLoops Try.f103 A_lContainsFunc_iareFinite_1 R_lContainsFunc_iareFinite_1 x = (show Option (SumD (R_lContainsFunc_iareFinite_1.map (·.2))) from lContainsFunc_iareFinite_1 x) := meanF_of (lContainsFunc_iareFinite_1_e x)

theorem lContainsFunc_iareFinite_1_ok : SpecOk Try.prog 103 (evFn (envT Try.prog C50 M19) noLoops Try.f103) := fnL_ok (envT_ok (C50_ok) (M19_ok)) mixedO Try.func103 (by kernel_rfl) (c := bodyOf Try.f103) (by kernel_rfl) (loopFree_ok (by kernel_rfl))

theorem lContainsFunc_iareFinite_1_told : SpecOk Try.prog 103 (toldO A_lContainsFunc_iareFinite_1 R_lContainsFunc_iareFinite_1 (fun x => lContainsFunc_iareFinite_1 x) (C50 103)) := toldO_ok (by kernel_rfl) lContainsFunc_iareFinite_1_ok (rest_ok (C50_ok) _) lContainsFunc_iareFinite_1_m

noncomputable def C51 : Tab := tab 103 (toldO A_lContainsFunc_iareFinite_1 R_lContainsFunc_iareFinite_1 (fun x => lContainsFunc_iareFinite_1 x) (C50 103)) C50
theorem C51_ok : TabOk Try.prog C51 := tab_ok (lContainsFunc_iareFinite_1_told) (C50_ok)

def A_iareFinite : Shp := ⟨[.h], [], [.sl [.f .f32]]⟩
def R_iareFinite : List XShp := [(.ret, ⟨[.h], [], [.b]⟩)]

theorem iareFinite_e (x : DR A_iareFinite.hs) : (evFn (envT Try.prog C51 M19) noLoops Try.f79 (A_iareFinite.enc x).1).to (fun q => decX R_iareFinite .ret [q.1] q.2) = iareFinite_t x := by kernel_rfl

theorem iareFinite_m (x : DR A_iareFinite.hs) : meanF (envT Try.prog C51 M19) noLoops Try.f79 A_iareFinite R_iareFinite x = (show Option (SumD (R_iareFinite.map (·.2))) from iareFinite x) := meanF_of (iareFinite_e x)

theorem iareFinite_ok : SpecOk Try.prog 79 (evFn (envT Try.prog C51 M19) noLoops Try.f79) := fnL_ok (envT_ok (C51_ok) (M19_ok)) mixedO Try.func79 (by kernel_rfl) (c := bodyOf Try.f79) (by kernel_rfl) (loopFree_ok (by kernel_rfl))

theorem iareFinite_told : SpecOk Try.prog 79 (toldO A_iareFinite R_iareFinite (fun x => iareFinite x) (C51 79)) := toldO_ok (by kernel_rfl) iareFinite_ok (rest_ok (C51_ok) _) iareFinite_m

noncomputable def C52 : Tab := tab 79 (toldO A_iareFinite R_iareFinite (fun x => iareFinite x) (C51 79)) C51
theorem C52_ok : TabOk Try.prog C52 := tab_ok (iareFinite_told) (C51_ok)

def A_iWeirOver : Shp := ⟨[.h, .h, .h, .h], [], [.f .f32, .f .f32, .f .f32, .f .f32]⟩
def R_iWeirOver : List XShp := [(.ret, ⟨[.tup [.h, .h]], [], [.f .f32, .b]⟩)]

theorem iWeirOver_e (x : DR A_iWeirOver.hs) : (evFn (envT Try.prog C52 M19) noLoops Try.f57 (A_iWeirOver.enc x).1).to (fun q => decX R_iWeirOver .ret [q.1] q.2) = iWeirOver_t x.1 x.2.1 x.2.2.1 x.2.2.2 := by kernel_rfl

theorem iWeirOver_m (x : DR A_iWeirOver.hs) : meanF (envT Try.prog C52 M19) noLoops Try.f57 A_iWeirOver R_iWeirOver x = (show Option (SumD (R_iWeirOver.map (·.2))) from iWeirOver x.1 x.2.1 x.2.2.1 x.2.2.2) := meanF_of (iWeirOver_e x)

theorem iWeirOver_ok : SpecOk Try.prog 57 (evFn (envT Try.prog C52 M19) noLoops Try.f57) := fnL_ok (envT_ok (C52_ok) (M19_ok)) mixedO Try.func57 (by kernel_rfl) (c := bodyOf Try.f57) (by kernel_rfl) (loopFree_ok (by kernel_rfl))

theorem iWeirOver_told : SpecOk Try.prog 57 (toldO A_iWeirOver R_iWeirOver (fun x => iWeirOver x.1 x.2.1 x.2.2.1 x.2.2.2) (C52 57)) := toldO_ok (by kernel_rfl) iWeirOver_ok (rest_ok (C52_ok) _) iWeirOver_m

noncomputable def C53 : Tab := tab 57 (toldO A_iWeirOver R_iWeirOver (fun x => iWeirOver x.1 x.2.1 x.2.2.1 x.2.2.2) (C52 57)) C52
theorem C53_ok : TabOk Try.prog C53 := tab_ok (iWeirOver_told) (C52_ok)

def A_iHeadAt : Shp := ⟨[.agg [.h, .h, .h, .h], .h, .h], [], [.f .f32, .f .f32, .f .f32, .f .f32, .f .f32, .f .f32]⟩
def R_iHeadAt : List XShp := [(.ret, ⟨[.tup [.h, .h]], [], [.f .f32, .b]⟩)]

theorem iHeadAt_e (x : DR A_iHeadAt.hs) : (evFn (envT Try.prog C53 M19) noLoops Try.f45 (A_iHeadAt.enc x).1).to (fun q => decX R_iHeadAt .ret [q.1] q.2) = iHeadAt_t x.1 x.2.1 x.2.2.1 x.2.2.2.1 x.2.2.2.2.1 x.2.2.2.2.2 := by kernel_rfl

theorem iHeadAt_m (x : DR A_iHeadAt.hs) : meanF (envT Try.prog C53 M19) noLoops Try.f45 A_iHeadAt R_iHeadAt x = (show Option (SumD (R_iHeadAt.map (·.2))) from iHeadAt x.1 x.2.1 x.2.2.1 x.2.2.2.1 x.2.2.2.2.1 x.2.2.2.2.2) := meanF_of (iHeadAt_e x)

theorem iHeadAt_ok : SpecOk Try.prog 45 (evFn (envT Try.prog C53 M19) noLoops Try.f45) := fnL_ok (envT_ok (C53_ok) (M19_ok)) mixedO Try.func45 (by kernel_rfl) (c := bodyOf Try.f45) (by kernel_rfl) (loopFree_ok (by kernel_rfl))

theorem iHeadAt_told : SpecOk Try.prog 45 (toldO A_iHeadAt R_iHeadAt (fun x => iHeadAt x.1 x.2.1 x.2.2.1 x.2.2.2.1 x.2.2.2.2.1 x.2.2.2.2.2) (C53 45)) := toldO_ok (by kernel_rfl) iHeadAt_ok (rest_ok (C53_ok) _) iHeadAt_m

noncomputable def C54 : Tab := tab 45 (toldO A_iHeadAt R_iHeadAt (fun x => iHeadAt x.1 x.2.1 x.2.2.1 x.2.2.2.1 x.2.2.2.2.1 x.2.2.2.2.2) (C53 45)) C53
theorem C54_ok : TabOk Try.prog C54 := tab_ok (iHeadAt_told) (C53_ok)

def A_iBackStep_1 : Shp := ⟨[.h, .dpt [.h, .h, .h, .h] 0, .dpt [.h] 0, .dpt [.h] 0, .dpt [.h] 0, .dpt [.h] 0], [], [.f .f32, .f .f32, .f .f32, .f .f32, .f .f32, .f .f32, .f .f32, .f .f32, .f .f32]⟩
def R_iBackStep_1 : List XShp := [(.ret, ⟨[.tup [.h, .h]], [], [.b, .b]⟩)]

theorem iBackStep_1_e (x : DR A_iBackStep_1.hs) : (evFn (envT Try.prog C54 M19) noLoops Try.f96 (A_iBackStep_1.enc x).1).to (fun q => decX R_iBackStep_1 .ret [q.1] q.2) = iBackStep_1_t x.1 x.2.1 x.2.2.1 x.2.2.2.1 x.2.2.2.2.1 x.2.2.2.2.2.1 x.2.2.2.2.2.2.1 x.2.2.2.2.2.2.2.1 x.2.2.2.2.2.2.2.2 := by kernel_rfl

theorem iBackStep_1_m (x : DR A_iBackStep_1.hs) : meanF (envT Try.prog C54 M19) noLoops Try.f96 A_iBackStep_1 R_iBackStep_1 x = (show Option (SumD (R_iBackStep_1.map (·.2))) from iBackStep_1 x.1 x.2.1 x.2.2.1 x.2.2.2.1 x.2.2.2.2.1 x.2.2.2.2.2.1 x.2.2.2.2.2.2.1 x.2.2.2.2.2.2.2.1 x.2.2.2.2.2.2.2.2) := meanF_of (iBackStep_1_e x)

theorem iBackStep_1_ok : SpecOk Try.prog 96 (evFn (envT Try.prog C54 M19) noLoops Try.f96) := fnL_ok (envT_ok (C54_ok) (M19_ok)) mixedO Try.func96 (by kernel_rfl) (c := bodyOf Try.f96) (by kernel_rfl) (loopFree_ok (by kernel_rfl))

theorem iBackStep_1_told : SpecOk Try.prog 96 (toldO A_iBackStep_1 R_iBackStep_1 (fun x => iBackStep_1 x.1 x.2.1 x.2.2.1 x.2.2.2.1 x.2.2.2.2.1 x.2.2.2.2.2.1 x.2.2.2.2.2.2.1 x.2.2.2.2.2.2.2.1 x.2.2.2.2.2.2.2.2) (C54 96)) := toldO_ok (by kernel_rfl) iBackStep_1_ok (rest_ok (C54_ok) _) iBackStep_1_m

noncomputable def C55 : Tab := tab 96 (toldO A_iBackStep_1 R_iBackStep_1 (fun x => iBackStep_1 x.1 x.2.1 x.2.2.1 x.2.2.2.1 x.2.2.2.2.1 x.2.2.2.2.2.1 x.2.2.2.2.2.2.1 x.2.2.2.2.2.2.2.1 x.2.2.2.2.2.2.2.2) (C54 96)) C54
theorem C55_ok : TabOk Try.prog C55 := tab_ok (iBackStep_1_told) (C54_ok)

def S_ihalve_iBackStep_1_l2 : Shp := ⟨[.h, .h, .fn 96 [.dpt [.h, .h, .h, .h] 0, .dpt [.h] 0, .dpt [.h] 0, .dpt [.h] 0, .dpt [.h] 0], .undef, .undef, .undef, .h], [], [.f .f32, .f .f32, .f .f32, .f .f32, .f .f32, .f .f32, .f .f32, .f .f32, .f .f32, .f .f32, .i .i64]⟩
def X_ihalve_iBackStep_1_l2 : List XShp := [(.ret, ⟨[.undef, .undef, .undef, .h, .h, .lb false, .undef], [], [.f .f32, .f .f32]⟩), (.exit 0, ⟨[.h, .h, .undef, .undef, .undef, .undef, .undef], [], [.f .f32, .f .f32]⟩)]

noncomputable def L_ihalve_iBackStep_1_l2 : Loops := (⟨32, lvT [(2, [0, 1, 2, 6, 7, 8, 12])], mdT [(2, .normal, [], [6, 7, 8]), (2, .exit 0, [], [2, 6, 7, 8, 12]), (2, .ret, [], [0, 1, 2, 12])], fun k vs bs => .bad⟩ : Loops)

theorem ihalve_iBackStep_1_l2_e (y2 : Nat) (y3 : Nat) (y4 : Nat) (y5 : Nat) (y6 : Nat) (y7 : Nat) (y8 : Nat) (y9 : Nat) (s : Nat × Nat × Int) : (loopStep (envT Try.prog C55 M19) L_ihalve_iBackStep_1_l2 2 (loopC (bodyOf Try.f71) 2) (S_ihalve_iBackStep_1_l2.enc (s.1, s.2.1, y2, y3, y4, y5, y6, y7, y8, y9, s.2.2)).1 (S_ihalve_iBackStep_1_l2.enc (s.1, s.2.1, y2, y3, y4, y5, y6, y7, y8, y9, s.2.2)).2).to (stepD S_ihalve_iBackStep_1_l2 X_ihalve_iBackStep_1_l2) = (ihalve_iBackStep_1_l2_t y2 y3 y4 y5 y6 y7 y8 y9 s.1 s.2.1 s.2.2).map (Sum.map (fun s : Nat × Nat × Int => (show DR S_ihalve_iBackStep_1_l2.hs from (s.1, s.2.1, y2, y3, y4, y5, y6, y7, y8, y9, s.2.2))) id) := by kernel_rfl

theorem ihalve_iBackStep_1_l2_r (x : DR S_ihalve_iBackStep_1_l2.hs) : (ihalve_iBackStep_1_l2 x.1 x.2.1 x.2.2.1 x.2.2.2.1 x.2.2.2.2.1 x.2.2.2.2.2.1 x.2.2.2.2.2.2.1 x.2.2.2.2.2.2.2.1 x.2.2.2.2.2.2.2.2.1 x.2.2.2.2.2.2.2.2.2.1 x.2.2.2.2.2.2.2.2.2.2 : Option (SumD (X_ihalve_iBackStep_1_l2.map (·.2)))) = runL (meanS (envT Try.prog C55 M19) L_ihalve_iBackStep_1_l2 2 (loopC (bodyOf Try.f71) 2) S_ihalve_iBackStep_1_l2 X_ihalve_iBackStep_1_l2) x := run_of (fun s : Nat × Nat × Int => (show DR S_ihalve_iBackStep_1_l2.hs from (s.1, s.2.1, x.2.2.1, x.2.2.2.1, x.2.2.2.2.1, x.2.2.2.2.2.1, x.2.2.2.2.2.2.1, x.2.2.2.2.2.2.2.1, x.2.2.2.2.2.2.2.2.1, x.2.2.2.2.2.2.2.2.2.1, s.2.2))) (ihalve_iBackStep_1_l2_e (x.2.2.1) (x.2.2.2.1) (x.2.2.2.2.1) (x.2.2.2.2.2.1) (x.2.2.2.2.2.2.1) (x.2.2.2.2.2.2.2.1) (x.2.2.2.2.2.2.2.2.1) (x.2.2.2.2.2.2.2.2.2.1)) (x.1, x.2.1, x.2.2.2.2.2.2.2.2.2.2)

theorem ihalve_iBackStep_1_l2_k (L : Loops) (hn : L_ihalve_iBackStep_1_l2.n = L.n) (hlv : L_ihalve_iBackStep_1_l2.lv 2 = L.lv 2) (hL : ∀ vs bs, L.loop 2 vs bs = toldL S_ihalve_iBackStep_1_l2 X_ihalve_iBackStep_1_l2 (fun x => ihalve_iBackStep_1_l2 x.1 x.2.1 x.2.2.1 x.2.2.2.1 x.2.2.2.2.1 x.2.2.2.2.2.1 x.2.2.2.2.2.2.1 x.2.2.2.2.2.2.2.1 x.2.2.2.2.2.2.2.2.1 x.2.2.2.2.2.2.2.2.2.1 x.2.2.2.2.2.2.2.2.2.2) vs bs) : LOk Try.prog (envT Try.prog C55 M19) L 2 (loopC (bodyOf Try.f71) 2) := toldL_ok (L1 := L_ihalve_iBackStep_1_l2) (envT_ok (C55_ok) (M19_ok)) mixedO hn hlv (loopFree_ok (by kernel_rfl)) ihalve_iBackStep_1_l2_r hL

def A_ihalve_iBackStep_1 : Shp := ⟨[.h, .h, .fn 96 [.dpt [.h, .h, .h, .h] 0, .dpt [.h] 0, .dpt [.h] 0, .dpt [.h] 0, .dpt [.h] 0]], [], [.f .f32, .f .f32, .f .f32, .f .f32, .f .f32, .f .f32, .f .f32, .f .f32, .f .f32, .f .f32]⟩
def R_ihalve_iBackStep_1 : List XShp := [(.ret, ⟨[.tup [.h, .h, .h]], [], [.f .f32, .f .f32, .b]⟩)]

noncomputable def L_ihalve_iBackStep_1 : Loops := (⟨32, lvT [(2, [0, 1, 2, 6, 7, 8, 12])], mdT [(2, .normal, [], [6, 7, 8]), (2, .exit 0, [], [2, 6, 7, 8, 12]), (2, .ret, [], [0, 1, 2, 12])], fun k vs bs => bif Nat.beq k 2 then toldL S_ihalve_iBackStep_1_l2 X_ihalve_iBackStep_1_l2 (fun x => ihalve_iBackStep_1_l2 x.1 x.2.1 x.2.2.1 x.2.2.2.1 x.2.2.2.2.1 x.2.2.2.2.2.1 x.2.2.2.2.2.2.1 x.2.2.2.2.2.2.2.1 x.2.2.2.2.2.2.2.2.1 x.2.2.2.2.2.2.2.2.2.1 x.2.2.2.2.2.2.2.2.2.2) vs bs else .bad⟩ : Loops)

theorem ihalve_iBackStep_1_e (x : DR A_ihalve_iBackStep_1.hs) : (evFn (envT Try.prog C55 M19) L_ihalve_iBackStep_1 Try.f71 (A_ihalve_iBackStep_1.enc x).1).to (fun q => decX R_ihalve_iBackStep_1 .ret [q.1] q.2) = ihalve_iBackStep_1_t x.1 x.2.1 x.2.2.1 x.2.2.2.1 x.2.2.2.2.1 x.2.2.2.2.2.1 x.2.2.2.2.2.2.1 x.2.2.2.2.2.2.2.1 x.2.2.2.2.2.2.2.2.1 x.2.2.2.2.2.2.2.2.2 := by kernel_rfl

theorem ihalve_iBackStep_1_m (x : DR A_ihalve_iBackStep_1.hs) : meanF (envT Try.prog C55 M19) L_ihalve_iBackStep_1 Try.f71 A_ihalve_iBackStep_1 R_ihalve_iBackStep_1 x = (show Option (SumD (R_ihalve_iBackStep_1.map (·.2))) from ihalve_iBackStep_1 x.1 x.2.1 x.2.2.1 x.2.2.2.1 x.2.2.2.2.1 x.2.2.2.2.2.1 x.2.2.2.2.2.2.1 x.2.2.2.2.2.2.2.1 x.2.2.2.2.2.2.2.2.1 x.2.2.2.2.2.2.2.2.2) := meanF_of (ihalve_iBackStep_1_e x)

theorem ihalve_iBackStep_1_ok : SpecOk Try.prog 71 (evFn (envT Try.prog C55 M19) L_ihalve_iBackStep_1 Try.f71) := fnL_ok (envT_ok (C55_ok) (M19_ok)) mixedO Try.func71 (by kernel_rfl) (c := bodyOf Try.f71) (by kernel_rfl) (loopsL (l := [(2, loopC (bodyOf Try.f71) 2)]) (by kernel_rfl) (lk_cons (ihalve_iBackStep_1_l2_k _ rfl rfl (fun _ _ => rfl)) lk_nil))

theorem ihalve_iBackStep_1_told : SpecOk Try.prog 71 (toldO A_ihalve_iBackStep_1 R_ihalve_iBackStep_1 (fun x => ihalve_iBackStep_1 x.1 x.2.1 x.2.2.1 x.2.2.2.1 x.2.2.2.2.1 x.2.2.2.2.2.1 x.2.2.2.2.2.2.1 x.2.2.2.2.2.2.2.1 x.2.2.2.2.2.2.2.2.1 x.2.2.2.2.2.2.2.2.2) (C55 71)) := toldO_ok (by kernel_rfl) ihalve_iBackStep_1_ok (rest_ok (C55_ok) _) ihalve_iBackStep_1_m

noncomputable def C56 : Tab := tab 71 (toldO A_ihalve_iBackStep_1 R_ihalve_iBackStep_1 (fun x => ihalve_iBackStep_1 x.1 x.2.1 x.2.2.1 x.2.2.2.1 x.2.2.2.2.1 x.2.2.2.2.2.1 x.2.2.2.2.2.2.1 x.2.2.2.2.2.2.2.1 x.2.2.2.2.2.2.2.2.1 x.2.2.2.2.2.2.2.2.2) (C55 71)) C55
theorem C56_ok : TabOk Try.prog C56 := tab_ok (ihalve_iBackStep_1_told) (C55_ok)

def A_iBackStep : Shp := ⟨[.agg [.h, .h, .h, .h], .h, .h, .h], [], [.f .f32, .f .f32, .f .f32, .f .f32, .f .f32, .f .f32, .f .f32]⟩
def R_iBackStep : List XShp := [(.ret, ⟨[.tup [.h, .h]], [], [.f .f32, .b]⟩)]

theorem iBackStep_e (x : DR A_iBackStep.hs) : (evFn (envT Try.prog C56 M19) noLoops Try.f55 (A_iBackStep.enc x).1).to (fun q => decX R_iBackStep .ret [q.1] q.2) = iBackStep_t x.1 x.2.1 x.2.2.1 x.2.2.2.1 x.2.2.2.2.1 x.2.2.2.2.2.1 x.2.2.2.2.2.2 := by kernel_rfl

theorem iBackStep_m (x : DR A_iBackStep.hs) : meanF (envT Try.prog C56 M19) noLoops Try.f55 A_iBackStep R_iBackStep x = (show Option (SumD (R_iBackStep.map (·.2))) from iBackStep x.1 x.2.1 x.2.2.1 x.2.2.2.1 x.2.2.2.2.1 x.2.2.2.2.2.1 x.2.2.2.2.2.2) := meanF_of (iBackStep_e x)

theorem iBackStep_ok : SpecOk Try.prog 55 (evFn (envT Try.prog C56 M19) noLoops Try.f55) := fnL_ok (envT_ok (C56_ok) (M19_ok)) mixedO Try.func55 (by kernel_rfl) (c := bodyOf Try.f55) (by kernel_rfl) (loopFree_ok (by kernel_rfl))

theorem iBackStep_told : SpecOk Try.prog 55 (toldO A_iBackStep R_iBackStep (fun x => iBackStep x.1 x.2.1 x.2.2.1 x.2.2.2.1 x.2.2.2.2.1 x.2.2.2.2.2.1 x.2.2.2.2.2.2) (C56 55)) := toldO_ok (by kernel_rfl) iBackStep_ok (rest_ok (C56_ok) _) iBackStep_m

noncomputable def C57 : Tab := tab 55 (toldO A_iBackStep R_iBackStep (fun x => iBackStep x.1 x.2.1 x.2.2.1 x.2.2.2.1 x.2.2.2.2.1 x.2.2.2.2.2.1 x.2.2.2.2.2.2) (C56 55)) C56
theorem C57_ok : TabOk Try.prog C57 := tab_ok (iBackStep_told) (C56_ok)

def A_iLevelFor : Shp := ⟨[.h, .h, .h], [], [.f .f32, .f .f32, .f .f32]⟩
def R_iLevelFor : List XShp := [(.ret, ⟨[.tup [.h, .h]], [], [.f .f32, .b]⟩)]

theorem iLevelFor_e (x : DR A_iLevelFor.hs) : (evFn (envT Try.prog C57 M19) noLoops Try.f58 (A_iLevelFor.enc x).1).to (fun q => decX R_iLevelFor .ret [q.1] q.2) = iLevelFor_t x.1 x.2.1 x.2.2 := by kernel_rfl

theorem iLevelFor_m (x : DR A_iLevelFor.hs) : meanF (envT Try.prog C57 M19) noLoops Try.f58 A_iLevelFor R_iLevelFor x = (show Option (SumD (R_iLevelFor.map (·.2))) from iLevelFor x.1 x.2.1 x.2.2) := meanF_of (iLevelFor_e x)

theorem iLevelFor_ok : SpecOk Try.prog 58 (evFn (envT Try.prog C57 M19) noLoops Try.f58) := fnL_ok (envT_ok (C57_ok) (M19_ok)) mixedO Try.func58 (by kernel_rfl) (c := bodyOf Try.f58) (by kernel_rfl) (loopFree_ok (by kernel_rfl))

theorem iLevelFor_told : SpecOk Try.prog 58 (toldO A_iLevelFor R_iLevelFor (fun x => iLevelFor x.1 x.2.1 x.2.2) (C57 58)) := toldO_ok (by kernel_rfl) iLevelFor_ok (rest_ok (C57_ok) _) iLevelFor_m

noncomputable def C58 : Tab := tab 58 (toldO A_iLevelFor R_iLevelFor (fun x => iLevelFor x.1 x.2.1 x.2.2) (C57 58)) C57
theorem C58_ok : TabOk Try.prog C58 := tab_ok (iLevelFor_told) (C57_ok)

def A_wr8Gap : Shp := ⟨[.h, .h], [], [.f .f64, .f .f64]⟩
def R_wr8Gap : List XShp := [(.ret, ⟨[.h], [], [.f .f64]⟩)]

theorem wr8Gap_e (x : DR A_wr8Gap.hs) : (evFn (envT Try.prog C58 M19) noLoops Try.f43 (A_wr8Gap.enc x).1).to (fun q => decX R_wr8Gap .ret [q.1] q.2) = wr8Gap_t x.1 x.2 := by kernel_rfl

theorem wr8Gap_m (x : DR A_wr8Gap.hs) : meanF (envT Try.prog C58 M19) noLoops Try.f43 A_wr8Gap R_wr8Gap x = some (show SumD (R_wr8Gap.map (·.2)) from wr8Gap x.1 x.2) := @meanF_tot _ _ _ _ _ _ _ (wr8Gap_e x) (show Inhabited (Nat) from inferInstance) (by kernel_rfl)

theorem wr8Gap_ok : SpecOk Try.prog 43 (evFn (envT Try.prog C58 M19) noLoops Try.f43) := fnL_ok (envT_ok (C58_ok) (M19_ok)) mixedO Try.func43 (by kernel_rfl) (c := bodyOf Try.f43) (by kernel_rfl) (loopFree_ok (by kernel_rfl))

theorem wr8Gap_told : SpecOk Try.prog 43 (toldT A_wr8Gap R_wr8Gap (fun x => wr8Gap x.1 x.2) (C58 43)) := toldT_ok (by kernel_rfl) wr8Gap_ok (rest_ok (C58_ok) _) wr8Gap_m

noncomputable def C59 : Tab := tab 43 (toldT A_wr8Gap R_wr8Gap (fun x => wr8Gap x.1 x.2) (C58 43)) C58
theorem C59_ok : TabOk Try.prog C59 := tab_ok (wr8Gap_told) (C58_ok)

def A_iGateUnder : Shp := ⟨[.h, .h, .h, .h], [], [.f .f32, .f .f32, .f .f32, .f .f32]⟩
def R_iGateUnder : List XShp := [(.ret, ⟨[.tup [.h, .h]], [], [.f .f32, .b]⟩)]

theorem iGateUnder_e (x : DR A_iGateUnder.hs) : (evFn (envT Try.prog C59 M19) noLoops Try.f59 (A_iGateUnder.enc x).1).to (fun q => decX R_iGateUnder .ret [q.1] q.2) = iGateUnder_t x.1 x.2.1 x.2.2.1 x.2.2.2 := by kernel_rfl

theorem iGateUnder_m (x : DR A_iGateUnder.hs) : meanF (envT Try.prog C59 M19) noLoops Try.f59 A_iGateUnder R_iGateUnder x = (show Option (SumD (R_iGateUnder.map (·.2))) from iGateUnder x.1 x.2.1 x.2.2.1 x.2.2.2) := meanF_of (iGateUnder_e x)

theorem iGateUnder_ok : SpecOk Try.prog 59 (evFn (envT Try.prog C59 M19) noLoops Try.f59) := fnL_ok (envT_ok (C59_ok) (M19_ok)) mixedO Try.func59 (by kernel_rfl) (c := bodyOf Try.f59) (by kernel_rfl) (loopFree_ok (by kernel_rfl))

theorem iGateUnder_told : SpecOk Try.prog 59 (toldO A_iGateUnder R_iGateUnder (fun x => iGateUnder x.1 x.2.1 x.2.2.1 x.2.2.2) (C59 59)) := toldO_ok (by kernel_rfl) iGateUnder_ok (rest_ok (C59_ok) _) iGateUnder_m

noncomputable def C60 : Tab := tab 59 (toldO A_iGateUnder R_iGateUnder (fun x => iGateUnder x.1 x.2.1 x.2.2.1 x.2.2.2) (C59 59)) C59
theorem C60_ok : TabOk Try.prog C60 := tab_ok (iGateUnder_told) (C59_ok)

def A_iwithin : Shp := ⟨[.h, .h, .h], [], [.i .i64, .i .i64, .i .i64]⟩
def R_iwithin : List XShp := [(.ret, ⟨[.h], [], [.b]⟩)]

theorem iwithin_e (x : DR A_iwithin.hs) : (evFn (envT Try.prog C60 M19) noLoops Try.f73 (A_iwithin.enc x).1).to (fun q => decX R_iwithin .ret [q.1] q.2) = iwithin_t x.1 x.2.1 x.2.2 := by kernel_rfl

theorem iwithin_m (x : DR A_iwithin.hs) : meanF (envT Try.prog C60 M19) noLoops Try.f73 A_iwithin R_iwithin x = some (show SumD (R_iwithin.map (·.2)) from iwithin x.1 x.2.1 x.2.2) := @meanF_tot _ _ _ _ _ _ _ (iwithin_e x) (show Inhabited (Bool) from inferInstance) (by kernel_rfl)

theorem iwithin_ok : SpecOk Try.prog 73 (evFn (envT Try.prog C60 M19) noLoops Try.f73) := fnL_ok (envT_ok (C60_ok) (M19_ok)) mixedO Try.func73 (by kernel_rfl) (c := bodyOf Try.f73) (by kernel_rfl) (loopFree_ok (by kernel_rfl))

theorem iwithin_told : SpecOk Try.prog 73 (toldT A_iwithin R_iwithin (fun x => iwithin x.1 x.2.1 x.2.2) (C60 73)) := toldT_ok (by kernel_rfl) iwithin_ok (rest_ok (C60_ok) _) iwithin_m

noncomputable def C61 : Tab := tab 73 (toldT A_iwithin R_iwithin (fun x => iwithin x.1 x.2.1 x.2.2) (C60 73)) C60
theorem C61_ok : TabOk Try.prog C61 := tab_ok (iwithin_told) (C60_ok)

def S_iBackWater_l5 : Shp := ⟨[.h, .h, .h, .ref 0 0, .undef, .undef, .slw 1 1, .h, .h], [.cells [.h, .h, .h, .h] false, .arr [.f .f32] false], [.f .f32, .f .f32, .f .f32, .i .i64, .i .i64, .f .f32, .f .f32, .f .f32, .f .f32, .sl [.f .f32]]⟩
def X_iBackWater_l5 : List XShp := [(.ret, ⟨[.undef, .undef, .undef, .undef, .nils, .lb false, .undef, .undef, .undef], [], []⟩), (.exit 0, ⟨[.undef, .undef, .undef, .undef, .undef, .undef, .slw 0 1, .undef, .undef], [.arr [.f .f32] false], [.sl [.f .f32]]⟩)]

noncomputable def L_iBackWater_l5 : Loops := (⟨48, lvT [(5, [1, 2, 3, 5, 10, 11, 12, 28, 29])], mdT [(5, .normal, [], [10, 11]), (5, .exit 0, [], [1, 2, 3, 5, 10, 11, 28, 29]), (5, .ret, [], [1, 2, 3, 5, 12, 28, 29])], fun k vs bs => .bad⟩ : Loops)

theorem iBackWater_l5_e (y1 : Nat) (y2 : Nat) (y3 : Int) (y5 : Nat) (y6 : Nat) (y7 : Nat) (y8 : Nat) (s : Nat × Int × List Nat) : (loopStep (envT Try.prog C61 M19) L_iBackWater_l5 5 (loopC (bodyOf Try.f56) 5) (S_iBackWater_l5.enc (s.1, y1, y2, y3, s.2.1, y5, y6, y7, y8, s.2.2)).1 (S_iBackWater_l5.enc (s.1, y1, y2, y3, s.2.1, y5, y6, y7, y8, s.2.2)).2).to (stepD S_iBackWater_l5 X_iBackWater_l5) = (iBackWater_l5_t y1 y2 y3 y5 y6 y7 y8 s.1 s.2.1 s.2.2).map (Sum.map (fun s : Nat × Int × List Nat => (show DR S_iBackWater_l5.hs from (s.1, y1, y2, y3, s.2.1, y5, y6, y7, y8, s.2.2))) id) := by kernel_rfl

theorem iBackWater_l5_r (x : DR S_iBackWater_l5.hs) : (iBackWater_l5 x.1 x.2.1 x.2.2.1 x.2.2.2.1 x.2.2.2.2.1 x.2.2.2.2.2.1 x.2.2.2.2.2.2.1 x.2.2.2.2.2.2.2.1 x.2.2.2.2.2.2.2.2.1 x.2.2.2.2.2.2.2.2.2 : Option (SumD (X_iBackWater_l5.map (·.2)))) = runL (meanS (envT Try.prog C61 M19) L_iBackWater_l5 5 (loopC (bodyOf Try.f56) 5) S_iBackWater_l5 X_iBackWater_l5) x := run_of (fun s : Nat × Int × List Nat => (show DR S_iBackWater_l5.hs from (s.1, x.2.1, x.2.2.1, x.2.2.2.1, s.2.1, x.2.2.2.2.2.1, x.2.2.2.2.2.2.1, x.2.2.2.2.2.2.2.1, x.2.2.2.2.2.2.2.2.1, s.2.2))) (iBackWater_l5_e (x.2.1) (x.2.2.1) (x.2.2.2.1) (x.2.2.2.2.2.1) (x.2.2.2.2.2.2.1) (x.2.2.2.2.2.2.2.1) (x.2.2.2.2.2.2.2.2.1)) (x.1, x.2.2.2.2.1, x.2.2.2.2.2.2.2.2.2)

theorem iBackWater_l5_k (L : Loops) (hn : L_iBackWater_l5.n = L.n) (hlv : L_iBackWater_l5.lv 5 = L.lv 5) (hL : ∀ vs bs, L.loop 5 vs bs = toldL S_iBackWater_l5 X_iBackWater_l5 (fun x => iBackWater_l5 x.1 x.2.1 x.2.2.1 x.2.2.2.1 x.2.2.2.2.1 x.2.2.2.2.2.1 x.2.2.2.2.2.2.1 x.2.2.2.2.2.2.2.1 x.2.2.2.2.2.2.2.2.1 x.2.2.2.2.2.2.2.2.2) vs bs) : LOk Try.prog (envT Try.prog C61 M19) L 5 (loopC (bodyOf Try.f56) 5) := toldL_ok (L1 := L_iBackWater_l5) (envT_ok (C61_ok) (M19_ok)) mixedO hn hlv (loopFree_ok (by kernel_rfl)) iBackWater_l5_r hL

def A_iBackWater : Shp := ⟨[.agg [.h, .h, .h, .h], .h, .h, .h, .h], [], [.f .f32, .f .f32, .f .f32, .f .f32, .f .f32, .f .f32, .f .f32, .i .i64]⟩
def R_iBackWater : List XShp := [(.ret, ⟨[.tup [.nils, .lb false]], [], []⟩), (.ret, ⟨[.tup [.slw 0 1, .lb true]], [.arr [.f .f32] false], [.sl [.f .f32]]⟩)]

noncomputable def L_iBackWater : Loops := (⟨48, lvT [(5, [1, 2, 3, 5, 10, 11, 12, 28, 29])], mdT [(5, .normal, [], [10, 11]), (5, .exit 0, [], [1, 2, 3, 5, 10, 11, 28, 29]), (5, .ret, [], [1, 2, 3, 5, 12, 28, 29])], fun k vs bs => bif Nat.beq k 5 then toldL S_iBackWater_l5 X_iBackWater_l5 (fun x => iBackWater_l5 x.1 x.2.1 x.2.2.1 x.2.2.2.1 x.2.2.2.2.1 x.2.2.2.2.2.1 x.2.2.2.2.2.2.1 x.2.2.2.2.2.2.2.1 x.2.2.2.2.2.2.2.2.1 x.2.2.2.2.2.2.2.2.2) vs bs else .bad⟩ : Loops)

theorem iBackWater_e (x : DR A_iBackWater.hs) : (evFn (envT Try.prog C61 M19) L_iBackWater Try.f56 (A_iBackWater.enc x).1).to (fun q => decX R_iBackWater .ret [q.1] q.2) = iBackWater_t x.1 x.2.1 x.2.2.1 x.2.2.2.1 x.2.2.2.2.1 x.2.2.2.2.2.1 x.2.2.2.2.2.2.1 x.2.2.2.2.2.2.2 := by kernel_rfl

theorem iBackWater_m (x : DR A_iBackWater.hs) : meanF (envT Try.prog C61 M19) L_iBackWater Try.f56 A_iBackWater R_iBackWater x = (show Option (SumD (R_iBackWater.map (·.2))) from iBackWater x.1 x.2.1 x.2.2.1 x.2.2.2.1 x.2.2.2.2.1 x.2.2.2.2.2.1 x.2.2.2.2.2.2.1 x.2.2.2.2.2.2.2) := meanF_of (iBackWater_e x)

theorem iBackWater_ok : SpecOk Try.prog 56 (evFn (envT Try.prog C61 M19) L_iBackWater Try.f56) := fnL_ok (envT_ok (C61_ok) (M19_ok)) mixedO Try.func56 (by kernel_rfl) (c := bodyOf Try.f56) (by kernel_rfl) (loopsL (l := [(5, loopC (bodyOf Try.f56) 5)]) (by kernel_rfl) (lk_cons (iBackWater_l5_k _ rfl rfl (fun _ _ => rfl)) lk_nil))

theorem iBackWater_told : SpecOk Try.prog 56 (toldO A_iBackWater R_iBackWater (fun x => iBackWater x.1 x.2.1 x.2.2.1 x.2.2.2.1 x.2.2.2.2.1 x.2.2.2.2.2.1 x.2.2.2.2.2.2.1 x.2.2.2.2.2.2.2) (C61 56)) := toldO_ok (by kernel_rfl) iBackWater_ok (rest_ok (C61_ok) _) iBackWater_m

noncomputable def C62 : Tab := tab 56 (toldO A_iBackWater R_iBackWater (fun x => iBackWater x.1 x.2.1 x.2.2.1 x.2.2.2.1 x.2.2.2.2.1 x.2.2.2.2.2.1 x.2.2.2.2.2.2.1 x.2.2.2.2.2.2.2) (C61 56)) C61
theorem C62_ok : TabOk Try.prog C62 := tab_ok (iBackWater_told) (C61_ok)

def A_iCulvertFlow : Shp := ⟨[.h, .h, .h, .h, .h], [], [.f .f32, .f .f32, .f .f32, .f .f32, .f .f32]⟩
def R_iCulvertFlow : List XShp := [(.ret, ⟨[.tup [.h, .h]], [], [.f .f32, .b]⟩)]

theorem iCulvertFlow_e (x : DR A_iCulvertFlow.hs) : (evFn (envT Try.prog C62 M19) noLoops Try.f60 (A_iCulvertFlow.enc x).1).to (fun q => decX R_iCulvertFlow .ret [q.1] q.2) = iCulvertFlow_t x.1 x.2.1 x.2.2.1 x.2.2.2.1 x.2.2.2.2 := by kernel_rfl

theorem iCulvertFlow_m (x : DR A_iCulvertFlow.hs) : meanF (envT Try.prog C62 M19) noLoops Try.f60 A_iCulvertFlow R_iCulvertFlow x = (show Option (SumD (R_iCulvertFlow.map (·.2))) from iCulvertFlow x.1 x.2.1 x.2.2.1 x.2.2.2.1 x.2.2.2.2) := meanF_of (iCulvertFlow_e x)

theorem iCulvertFlow_ok : SpecOk Try.prog 60 (evFn (envT Try.prog C62 M19) noLoops Try.f60) := fnL_ok (envT_ok (C62_ok) (M19_ok)) mixedO Try.func60 (by kernel_rfl) (c := bodyOf Try.f60) (by kernel_rfl) (loopFree_ok (by kernel_rfl))

theorem iCulvertFlow_told : SpecOk Try.prog 60 (toldO A_iCulvertFlow R_iCulvertFlow (fun x => iCulvertFlow x.1 x.2.1 x.2.2.1 x.2.2.2.1 x.2.2.2.2) (C62 60)) := toldO_ok (by kernel_rfl) iCulvertFlow_ok (rest_ok (C62_ok) _) iCulvertFlow_m

noncomputable def C63 : Tab := tab 60 (toldO A_iCulvertFlow R_iCulvertFlow (fun x => iCulvertFlow x.1 x.2.1 x.2.2.1 x.2.2.2.1 x.2.2.2.2) (C62 60)) C62
theorem C63_ok : TabOk Try.prog C63 := tab_ok (iCulvertFlow_told) (C62_ok)

def A_ipipe : Shp := ⟨[.h], [], [.f .f32]⟩
def R_ipipe : List XShp := [(.ret, ⟨[.h], [], [.f .f32]⟩)]

theorem ipipe_e (x : DR A_ipipe.hs) : (evFn (envT Try.prog C63 M19) noLoops Try.f97 (A_ipipe.enc x).1).to (fun q => decX R_ipipe .ret [q.1] q.2) = ipipe_t x := by kernel_rfl

theorem ipipe_m (x : DR A_ipipe.hs) : meanF (envT Try.prog C63 M19) noLoops Try.f97 A_ipipe R_ipipe x = some (show SumD (R_ipipe.map (·.2)) from ipipe x) := @meanF_tot _ _ _ _ _ _ _ (ipipe_e x) (show Inhabited (Nat) from inferInstance) (by kernel_rfl)

theorem ipipe_ok : SpecOk Try.prog 97 (evFn (envT Try.prog C63 M19) noLoops Try.f97) := fnL_ok (envT_ok (C63_ok) (M19_ok)) mixedO Try.func97 (by kernel_rfl) (c := bodyOf Try.f97) (by kernel_rfl) (loopFree_ok (by kernel_rfl))

theorem ipipe_told : SpecOk Try.prog 97 (toldT A_ipipe R_ipipe (fun x => ipipe x) (C63 97)) := toldT_ok (by kernel_rfl) ipipe_ok (rest_ok (C63_ok) _) ipipe_m

noncomputable def C64 : Tab := tab 97 (toldT A_ipipe R_ipipe (fun x => ipipe x) (C63 97)) C63
theorem C64_ok : TabOk Try.prog C64 := tab_ok (ipipe_told) (C63_ok)

def A_iPipeFlow : Shp := ⟨[.h, .h, .h, .h], [], [.f .f32, .f .f32, .f .f32, .f .f32]⟩
def R_iPipeFlow : List XShp := [(.ret, ⟨[.tup [.h, .h]], [], [.f .f32, .b]⟩)]

theorem iPipeFlow_e (x : DR A_iPipeFlow.hs) : (evFn (envT Try.prog C64 M19) noLoops Try.f61 (A_iPipeFlow.enc x).1).to (fun q => decX R_iPipeFlow .ret [q.1] q.2) = iPipeFlow_t x.1 x.2.1 x.2.2.1 x.2.2.2 := by kernel_rfl

theorem iPipeFlow_m (x : DR A_iPipeFlow.hs) : meanF (envT Try.prog C64 M19) noLoops Try.f61 A_iPipeFlow R_iPipeFlow x = (show Option (SumD (R_iPipeFlow.map (·.2))) from iPipeFlow x.1 x.2.1 x.2.2.1 x.2.2.2) := meanF_of (iPipeFlow_e x)

theorem iPipeFlow_ok : SpecOk Try.prog 61 (evFn (envT Try.prog C64 M19) noLoops Try.f61) := fnL_ok (envT_ok (C64_ok) (M19_ok)) mixedO Try.func61 (by kernel_rfl) (c := bodyOf Try.f61) (by kernel_rfl) (loopFree_ok (by kernel_rfl))

theorem iPipeFlow_told : SpecOk Try.prog 61 (toldO A_iPipeFlow R_iPipeFlow (fun x => iPipeFlow x.1 x.2.1 x.2.2.1 x.2.2.2) (C64 61)) := toldO_ok (by kernel_rfl) iPipeFlow_ok (rest_ok (C64_ok) _) iPipeFlow_m

noncomputable def C65 : Tab := tab 61 (toldO A_iPipeFlow R_iPipeFlow (fun x => iPipeFlow x.1 x.2.1 x.2.2.1 x.2.2.2) (C64 61)) C64
theorem C65_ok : TabOk Try.prog C65 := tab_ok (iPipeFlow_told) (C64_ok)

def A_iabsolute : Shp := ⟨[.h], [], [.f .f32]⟩
def R_iabsolute : List XShp := [(.ret, ⟨[.h], [], [.f .f32]⟩)]

theorem iabsolute_e (x : DR A_iabsolute.hs) : (evFn (envT Try.prog C65 M19) noLoops Try.f98 (A_iabsolute.enc x).1).to (fun q => decX R_iabsolute .ret [q.1] q.2) = iabsolute_t x := by kernel_rfl

theorem iabsolute_m (x : DR A_iabsolute.hs) : meanF (envT Try.prog C65 M19) noLoops Try.f98 A_iabsolute R_iabsolute x = (show Option (SumD (R_iabsolute.map (·.2))) from iabsolute x) := meanF_of (iabsolute_e x)

theorem iabsolute_ok : SpecOk Try.prog 98 (evFn (envT Try.prog C65 M19) noLoops Try.f98) := fnL_ok (envT_ok (C65_ok) (M19_ok)) mixedO Try.func98 (by kernel_rfl) (c := bodyOf Try.f98) (by kernel_rfl) (loopFree_ok (by kernel_rfl))

theorem iabsolute_told : SpecOk Try.prog 98 (toldO A_iabsolute R_iabsolute (fun x => iabsolute x) (C65 98)) := toldO_ok (by kernel_rfl) iabsolute_ok (rest_ok (C65_ok) _) iabsolute_m

noncomputable def C66 : Tab := tab 98 (toldO A_iabsolute R_iabsolute (fun x => iabsolute x) (C65 98)) C65
theorem C66_ok : TabOk Try.prog C66 := tab_ok (iabsolute_told) (C65_ok)

def A_iPipeLoss : Shp := ⟨[.h, .h, .h, .h], [], [.f .f32, .f .f32, .f .f32, .f .f32]⟩
def R_iPipeLoss : List XShp := [(.ret, ⟨[.tup [.h, .h]], [], [.f .f32, .b]⟩)]

theorem iPipeLoss_e (x : DR A_iPipeLoss.hs) : (evFn (envT Try.prog C66 M19) noLoops Try.f62 (A_iPipeLoss.enc x).1).to (fun q => decX R_iPipeLoss .ret [q.1] q.2) = iPipeLoss_t x.1 x.2.1 x.2.2.1 x.2.2.2 := by kernel_rfl

theorem iPipeLoss_m (x : DR A_iPipeLoss.hs) : meanF (envT Try.prog C66 M19) noLoops Try.f62 A_iPipeLoss R_iPipeLoss x = (show Option (SumD (R_iPipeLoss.map (·.2))) from iPipeLoss x.1 x.2.1 x.2.2.1 x.2.2.2) := meanF_of (iPipeLoss_e x)

theorem iPipeLoss_ok : SpecOk Try.prog 62 (evFn (envT Try.prog C66 M19) noLoops Try.f62) := fnL_ok (envT_ok (C66_ok) (M19_ok)) mixedO Try.func62 (by kernel_rfl) (c := bodyOf Try.f62) (by kernel_rfl) (loopFree_ok (by kernel_rfl))

theorem iPipeLoss_told : SpecOk Try.prog 62 (toldO A_iPipeLoss R_iPipeLoss (fun x => iPipeLoss x.1 x.2.1 x.2.2.1 x.2.2.2) (C66 62)) := toldO_ok (by kernel_rfl) iPipeLoss_ok (rest_ok (C66_ok) _) iPipeLoss_m

noncomputable def C67 : Tab := tab 62 (toldO A_iPipeLoss R_iPipeLoss (fun x => iPipeLoss x.1 x.2.1 x.2.2.1 x.2.2.2) (C66 62)) C66
theorem C67_ok : TabOk Try.prog C67 := tab_ok (iPipeLoss_told) (C66_ok)

def A_wFnBacked : Shp := ⟨[.h, .h], [], [.sl [.i .u8], .sl [.i .u8]]⟩
def R_wFnBacked : List XShp := [(.ret, ⟨[.h], [], [.b]⟩)]

theorem wFnBacked_e (x : DR A_wFnBacked.hs) : (evFn (envT Try.prog C67 M19) noLoops Try.f8 (A_wFnBacked.enc x).1).to (fun q => decX R_wFnBacked .ret [q.1] q.2) = wFnBacked_t x.1 x.2 := by kernel_rfl

theorem wFnBacked_m (x : DR A_wFnBacked.hs) : meanF (envT Try.prog C67 M19) noLoops Try.f8 A_wFnBacked R_wFnBacked x = (show Option (SumD (R_wFnBacked.map (·.2))) from wFnBacked x.1 x.2) := meanF_of (wFnBacked_e x)

theorem wFnBacked_ok : SpecOk Try.prog 8 (evFn (envT Try.prog C67 M19) noLoops Try.f8) := fnL_ok (envT_ok (C67_ok) (M19_ok)) mixedO Try.func8 (by kernel_rfl) (c := bodyOf Try.f8) (by kernel_rfl) (loopFree_ok (by kernel_rfl))

theorem wFnBacked_told : SpecOk Try.prog 8 (toldO A_wFnBacked R_wFnBacked (fun x => wFnBacked x.1 x.2) (C67 8)) := toldO_ok (by kernel_rfl) wFnBacked_ok (rest_ok (C67_ok) _) wFnBacked_m

noncomputable def C68 : Tab := tab 8 (toldO A_wFnBacked R_wFnBacked (fun x => wFnBacked x.1 x.2) (C67 8)) C67
theorem C68_ok : TabOk Try.prog C68 := tab_ok (wFnBacked_told) (C67_ok)

theorem lawFnBacked_ok : SpecOk Try.prog 8 (evFn (envT Try.prog C67 M19) noLoops Try.f8) := wFnBacked_ok
theorem lawFnBacked_says (x : DR A_wFnBacked.hs) (h : (show Option (SumD (R_wFnBacked.map (·.2))) from wFnBacked x.1 x.2) = some true) : saysTrue (evFn (envT Try.prog C67 M19) noLoops Try.f8 (A_wFnBacked.enc x).1) = true := law_says (x := x) ((wFnBacked_m x).trans h)

theorem lawFnBacked_true (x0 : List Int) (x1 : List Int) (h : wFnBacked x0 x1 = some true) : saysTrue (evFn (envT Try.prog C67 M19) noLoops Try.f8 [.ds [.i .u8] x0, .ds [.i .u8] x1]) = true := (congrArg (fun l => saysTrue (evFn (envT Try.prog C67 M19) noLoops Try.f8 l)) (by kernel_rfl : ([.ds [.i .u8] x0, .ds [.i .u8] x1] : List V) = (A_wFnBacked.enc (x0, x1)).1)).trans (lawFnBacked_says (x0, x1) h)
end Go.Proofs.Ytpglfnkkmafhbaa
