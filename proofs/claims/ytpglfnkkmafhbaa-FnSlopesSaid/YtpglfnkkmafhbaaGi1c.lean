/- Functions, as plain functions. What the program comes to. -/
import Derived.Test.YtpglfnkkmafhbaaGi1d
import Derived.Test.YtpglfnkkmafhbaaDc
import Derived.Test.YtpglfnkkmafhbaaNv
import Derived.KernelRfl
set_option linter.unusedVariables false
set_option linter.unusedSimpArgs false
set_option linter.constructorNameAsVariable false
namespace Go.Proofs.Ytpglfnkkmafhbaa
open Go.RowKit
set_option maxRecDepth 100000
theorem mixedO : (Try.prog).follows .mixedOrders = true := by kernel_rfl
noncomputable def C0 : Tab := tab 113 (spFB .f32 (isFin .f32)) tab0
theorem C0_ok : TabOk Try.prog C0 := tab_ok (spFB_ok Try.func113 (by kernel_rfl) (fun hx => l01Finite_c hx)) (tab0_ok _)

noncomputable def C1 : Tab := tab 65 (spFB .f32 (isFin .f32)) C0
theorem C1_ok : TabOk Try.prog C1 := tab_ok (spFB_ok Try.func65 (by kernel_rfl) (fun hx => IsFinite_c hx)) (C0_ok)

noncomputable def C2 : Tab := tab 111 (spFB .f32 isLen) C1
theorem C2_ok : TabOk Try.prog C2 := tab_ok (spFB_ok Try.func111 (by kernel_rfl) (fun hx => l02Above_c hx)) (C1_ok)

noncomputable def C3 : Tab := tab 70 (spFB .f32 isLen) C2
theorem C3_ok : TabOk Try.prog C3 := tab_ok (spFB_ok Try.func70 (by kernel_rfl) (fun hx => aLength_c hx)) (C2_ok)

noncomputable def C4 : Tab := tab 83 (spFB .f32 isMass) C3
theorem C4_ok : TabOk Try.prog C4 := tab_ok (spFB_ok Try.func83 (by kernel_rfl) (fun hx => l02Least_c hx)) (C3_ok)

noncomputable def C5 : Tab := tab 86 (spFB .f32 isMass) C4
theorem C5_ok : TabOk Try.prog C5 := tab_ok (spFB_ok Try.func86 (by kernel_rfl) (fun hx => aMass_c hx)) (C4_ok)

noncomputable def C6 : Tab := tab 114 (spFF .f32 .f32 froot) C5
theorem C6_ok : TabOk Try.prog C6 := tab_ok (spFF_ok Try.func114 (by kernel_rfl) (fun hx => l01Sqrt_c hx)) (C5_ok)

noncomputable def C7 : Tab := tab 87 (spFF .f32 .f32 froot) C6
theorem C7_ok : TabOk Try.prog C7 := tab_ok (spFF_ok Try.func87 (by kernel_rfl) (fun hx => RootNumber_c hx)) (C6_ok)

noncomputable def C8 : Tab := tab 76 (spFFtoB .f32 natEq) C7
theorem C8_ok : TabOk Try.prog C8 := tab_ok (spFFtoB_ok Try.func76 (by kernel_rfl) (fun hx hy => l01Same_c hx hy)) (C7_ok)

noncomputable def C9 : Tab := tab 106 (spFFtoB .f32 natEq) C8
theorem C9_ok : TabOk Try.prog C9 := tab_ok (spFFtoB_ok Try.func106 (by kernel_rfl) (fun hx hy => SameNumber_c hx hy)) (C8_ok)

noncomputable def C10 : Tab := tab 100 (spFB .f64 (isFin .f64)) C9
theorem C10_ok : TabOk Try.prog C10 := tab_ok (spFB_ok Try.func100 (by kernel_rfl) (fun hx => finite_c hx)) (C9_ok)

noncomputable def C11 : Tab := tab 124 (spFB .f64 (isN .f64)) C10
theorem C11_ok : TabOk Try.prog C11 := tab_ok (spFB_ok Try.func124 (by kernel_rfl) (fun hx => isNaN_c hx)) (C10_ok)

noncomputable def C12 : Tab := tab 123 (spFF .f64 .f64 (fabs .f64)) C11
theorem C12_ok : TabOk Try.prog C12 := tab_ok (spFF_ok Try.func123 (by kernel_rfl) (fun hx => abs_c hx)) (C11_ok)

noncomputable def C13 : Tab := tab 116 (spFF .f64 .f64 (fsqrt .f64)) C12
theorem C13_ok : TabOk Try.prog C13 := tab_ok (spFF_ok Try.func116 (by kernel_rfl) (fun hx => Sqrt_c hx)) (C12_ok)

noncomputable def C14 : Tab := tab 131 (spFrom) C13
theorem C14_ok : TabOk Try.prog C14 := tab_ok ((spFrom_ok (fun n w => ext_from64 n w))) (C13_ok)

def A_wb10Long : Shp := ⟨[.h, .h], [], [.sl [.i .u8], .sl [.i .u8]]⟩
def R_wb10Long : List XShp := [(.ret, ⟨[.h], [], [.b]⟩)]

theorem wb10Long_e (x : DR A_wb10Long.hs) : (evFn (envT Try.prog C14 mtab0) noLoops Try.f9 (A_wb10Long.enc x).1).to (fun q => decX R_wb10Long .ret [q.1] q.2) = wb10Long_t x.1 x.2 := by kernel_rfl

theorem wb10Long_m (x : DR A_wb10Long.hs) : meanF (envT Try.prog C14 mtab0) noLoops Try.f9 A_wb10Long R_wb10Long x = some (show SumD (R_wb10Long.map (·.2)) from wb10Long x.1 x.2) := @meanF_tot _ _ _ _ _ _ _ (wb10Long_e x) (show Inhabited (Bool) from inferInstance) (by kernel_rfl)

theorem wb10Long_ok : SpecOk Try.prog 9 (evFn (envT Try.prog C14 mtab0) noLoops Try.f9) := fnL_ok (envT_ok (C14_ok) (mtab0_ok _)) mixedO Try.func9 (by kernel_rfl) (c := bodyOf Try.f9) (by kernel_rfl) (loopFree_ok (by kernel_rfl))

theorem wb10Long_told : SpecOk Try.prog 9 (toldT A_wb10Long R_wb10Long (fun x => wb10Long x.1 x.2) (C14 9)) := toldT_ok (by kernel_rfl) wb10Long_ok (rest_ok (C14_ok) _) wb10Long_m

noncomputable def C15 : Tab := tab 9 (toldT A_wb10Long R_wb10Long (fun x => wb10Long x.1 x.2) (C14 9)) C14
theorem C15_ok : TabOk Try.prog C15 := tab_ok (wb10Long_told) (C14_ok)

def A_wb10At : Shp := ⟨[.h, .h, .h], [], [.sl [.i .u8], .i .i64, .i .i64]⟩
def R_wb10At : List XShp := [(.ret, ⟨[.h], [], [.i .i64]⟩)]

theorem wb10At_e (x : DR A_wb10At.hs) : (evFn (envT Try.prog C15 mtab0) noLoops Try.f11 (A_wb10At.enc x).1).to (fun q => decX R_wb10At .ret [q.1] q.2) = wb10At_t x.1 x.2.1 x.2.2 := by kernel_rfl

theorem wb10At_m (x : DR A_wb10At.hs) : meanF (envT Try.prog C15 mtab0) noLoops Try.f11 A_wb10At R_wb10At x = (show Option (SumD (R_wb10At.map (·.2))) from wb10At x.1 x.2.1 x.2.2) := meanF_of (wb10At_e x)

theorem wb10At_ok : SpecOk Try.prog 11 (evFn (envT Try.prog C15 mtab0) noLoops Try.f11) := fnL_ok (envT_ok (C15_ok) (mtab0_ok _)) mixedO Try.func11 (by kernel_rfl) (c := bodyOf Try.f11) (by kernel_rfl) (loopFree_ok (by kernel_rfl))

theorem wb10At_told : SpecOk Try.prog 11 (toldO A_wb10At R_wb10At (fun x => wb10At x.1 x.2.1 x.2.2) (C15 11)) := toldO_ok (by kernel_rfl) wb10At_ok (rest_ok (C15_ok) _) wb10At_m

noncomputable def C16 : Tab := tab 11 (toldO A_wb10At R_wb10At (fun x => wb10At x.1 x.2.1 x.2.2) (C15 11)) C15
theorem C16_ok : TabOk Try.prog C16 := tab_ok (wb10At_told) (C15_ok)

def A_sl00From : Shp := ⟨[.h], [], [.sl [.i .u8]]⟩
def R_sl00From : List XShp := [(.ret, ⟨[.ref 0 0], [.cells [.h, .h, .h] false], [.sl [.i .u8], .i .i64, .i .u64]⟩)]

theorem sl00From_e (x : DR A_sl00From.hs) : (evFn (envT Try.prog C16 mtab0) noLoops Try.f63 (A_sl00From.enc x).1).to (fun q => decX R_sl00From .ret [q.1] q.2) = sl00From_t x := by kernel_rfl

theorem sl00From_m (x : DR A_sl00From.hs) : meanF (envT Try.prog C16 mtab0) noLoops Try.f63 A_sl00From R_sl00From x = some (show SumD (R_sl00From.map (·.2)) from sl00From x) := @meanF_tot _ _ _ _ _ _ _ (sl00From_e x) (show Inhabited (List Int × Int × Int) from inferInstance) (by kernel_rfl)

theorem sl00From_ok : SpecOk Try.prog 63 (evFn (envT Try.prog C16 mtab0) noLoops Try.f63) := fnL_ok (envT_ok (C16_ok) (mtab0_ok _)) mixedO Try.func63 (by kernel_rfl) (c := bodyOf Try.f63) (by kernel_rfl) (loopFree_ok (by kernel_rfl))

theorem sl00From_told : SpecOk Try.prog 63 (toldT A_sl00From R_sl00From (fun x => sl00From x) (C16 63)) := toldT_ok (by kernel_rfl) sl00From_ok (rest_ok (C16_ok) _) sl00From_m

noncomputable def C17 : Tab := tab 63 (toldT A_sl00From R_sl00From (fun x => sl00From x) (C16 63)) C16
theorem C17_ok : TabOk Try.prog C17 := tab_ok (sl00From_told) (C16_ok)

def A_sl00Src_next : Shp := ⟨[.ref 0 0], [.cells [.h, .h, .h] false], [.sl [.i .u8], .i .i64, .i .u64]⟩
def R_sl00Src_next : List XShp := [(.ret, ⟨[.h], [.cells [.h, .h, .h] false], [.i .i64, .sl [.i .u8], .i .i64, .i .u64]⟩)]

theorem sl00Src_next_e (x : DR A_sl00Src_next.hs) : (evFnM (envW Try.prog C17 mtab0 1) noLoops Try.f99 (A_sl00Src_next.enc x).1 ((A_sl00Src_next.enc x).2.map (·.blk))).to (decM R_sl00Src_next) = sl00Src_next_t x.1 x.2.1 x.2.2 := by kernel_rfl

theorem sl00Src_next_m (x : DR A_sl00Src_next.hs) : meanM (envW Try.prog C17 mtab0 1) noLoops Try.f99 A_sl00Src_next R_sl00Src_next x = (show Option (SumD (R_sl00Src_next.map (·.2))) from sl00Src_next x.1 x.2.1 x.2.2) := meanM_of (sl00Src_next_e x)

theorem sl00Src_next_ok : MSpecOk Try.prog 99 (evFnM (envW Try.prog C17 mtab0 1) noLoops Try.f99) := fnM_ok (envW_ok (C17_ok) (mtab0_ok _)) rfl mixedO Try.func99 (by kernel_rfl) (c := bodyOf Try.f99) (by kernel_rfl) (loopFree_ok (by kernel_rfl))

theorem sl00Src_next_told : MSpecOk Try.prog 99 (toldMO A_sl00Src_next R_sl00Src_next (fun x => sl00Src_next x.1 x.2.1 x.2.2) (mrest mtab0 99)) := toldMO_ok (by kernel_rfl) sl00Src_next_ok (mrest_ok (mtab0_ok _) _) sl00Src_next_m

noncomputable def M18 : MTab := mtab 99 (toldMO A_sl00Src_next R_sl00Src_next (fun x => sl00Src_next x.1 x.2.1 x.2.2) (mrest mtab0 99)) mtab0
theorem M18_ok : MTabOk Try.prog M18 := mtab_ok (sl00Src_next_told) (mtab0_ok _)

def A_sl00Src_pick : Shp := ⟨[.ref 0 0, .h], [.cells [.h, .h, .h] false], [.i .i64, .sl [.i .u8], .i .i64, .i .u64]⟩
def R_sl00Src_pick : List XShp := [(.ret, ⟨[.h], [.cells [.h, .h, .h] false], [.i .i64, .sl [.i .u8], .i .i64, .i .u64]⟩)]

theorem sl00Src_pick_e (x : DR A_sl00Src_pick.hs) : (evFnM (envW Try.prog C17 M18 1) noLoops Try.f64 (A_sl00Src_pick.enc x).1 ((A_sl00Src_pick.enc x).2.map (·.blk))).to (decM R_sl00Src_pick) = sl00Src_pick_t x.1 x.2.1 x.2.2.1 x.2.2.2 := by kernel_rfl

theorem sl00Src_pick_m (x : DR A_sl00Src_pick.hs) : meanM (envW Try.prog C17 M18 1) noLoops Try.f64 A_sl00Src_pick R_sl00Src_pick x = (show Option (SumD (R_sl00Src_pick.map (·.2))) from sl00Src_pick x.1 x.2.1 x.2.2.1 x.2.2.2) := meanM_of (sl00Src_pick_e x)

theorem sl00Src_pick_ok : MSpecOk Try.prog 64 (evFnM (envW Try.prog C17 M18 1) noLoops Try.f64) := fnM_ok (envW_ok (C17_ok) (M18_ok)) rfl mixedO Try.func64 (by kernel_rfl) (c := bodyOf Try.f64) (by kernel_rfl) (loopFree_ok (by kernel_rfl))

theorem sl00Src_pick_told : MSpecOk Try.prog 64 (toldMO A_sl00Src_pick R_sl00Src_pick (fun x => sl00Src_pick x.1 x.2.1 x.2.2.1 x.2.2.2) (mrest M18 64)) := toldMO_ok (by kernel_rfl) sl00Src_pick_ok (mrest_ok (M18_ok) _) sl00Src_pick_m

noncomputable def M19 : MTab := mtab 64 (toldMO A_sl00Src_pick R_sl00Src_pick (fun x => sl00Src_pick x.1 x.2.1 x.2.2.1 x.2.2.2) (mrest M18 64)) M18
theorem M19_ok : MTabOk Try.prog M19 := mtab_ok (sl00Src_pick_told) (M18_ok)

def S_sB10Rain_l3 : Shp := ⟨[.h, .ref 0 0, .slw 1 1], [.cells [.h, .h, .h] false, .arr [.f .f32] false], [.i .i64, .sl [.i .u8], .i .i64, .i .u64, .sl [.f .f32]]⟩
def X_sB10Rain_l3 : List XShp := [(.exit 0, ⟨[.undef, .undef, .slw 0 1], [.arr [.f .f32] false], [.sl [.f .f32]]⟩)]

noncomputable def L_sB10Rain_l3 : Loops := (⟨22, lvT [(3, [1, 5, 6])], mdT [(3, .exit 0, [], [1, 5])], fun k vs bs => .bad⟩ : Loops)

theorem sB10Rain_l3_e (s : Int × List Int × Int × Int × List Nat) : (loopStep (envT Try.prog C17 M19) L_sB10Rain_l3 3 (loopC (bodyOf Try.f17) 3) (S_sB10Rain_l3.enc (s.1, s.2.1, s.2.2.1, s.2.2.2.1, s.2.2.2.2)).1 (S_sB10Rain_l3.enc (s.1, s.2.1, s.2.2.1, s.2.2.2.1, s.2.2.2.2)).2).to (stepD S_sB10Rain_l3 X_sB10Rain_l3) = (sB10Rain_l3_t  s.1 s.2.1 s.2.2.1 s.2.2.2.1 s.2.2.2.2).map (Sum.map (fun s : Int × List Int × Int × Int × List Nat => (show DR S_sB10Rain_l3.hs from (s.1, s.2.1, s.2.2.1, s.2.2.2.1, s.2.2.2.2))) id) := by kernel_rfl

theorem sB10Rain_l3_r (x : DR S_sB10Rain_l3.hs) : (sB10Rain_l3 x.1 x.2.1 x.2.2.1 x.2.2.2.1 x.2.2.2.2 : Option (SumD (X_sB10Rain_l3.map (·.2)))) = runL (meanS (envT Try.prog C17 M19) L_sB10Rain_l3 3 (loopC (bodyOf Try.f17) 3) S_sB10Rain_l3 X_sB10Rain_l3) x := run_of (fun s : Int × List Int × Int × Int × List Nat => (show DR S_sB10Rain_l3.hs from (s.1, s.2.1, s.2.2.1, s.2.2.2.1, s.2.2.2.2))) (sB10Rain_l3_e ) (x.1, x.2.1, x.2.2.1, x.2.2.2.1, x.2.2.2.2)

theorem sB10Rain_l3_k (L : Loops) (hn : L_sB10Rain_l3.n = L.n) (hlv : L_sB10Rain_l3.lv 3 = L.lv 3) (hL : ∀ vs bs, L.loop 3 vs bs = toldL S_sB10Rain_l3 X_sB10Rain_l3 (fun x => sB10Rain_l3 x.1 x.2.1 x.2.2.1 x.2.2.2.1 x.2.2.2.2) vs bs) : LOk Try.prog (envT Try.prog C17 M19) L 3 (loopC (bodyOf Try.f17) 3) := toldL_ok (L1 := L_sB10Rain_l3) (envT_ok (C17_ok) (M19_ok)) mixedO hn hlv (loopFree_ok (by kernel_rfl)) sB10Rain_l3_r hL

def A_sB10Rain : Shp := ⟨[.h, .h], [], [.sl [.i .u8], .i .i64]⟩
def R_sB10Rain : List XShp := [(.ret, ⟨[.slw 0 1], [.arr [.f .f32] false], [.sl [.f .f32]]⟩)]

noncomputable def L_sB10Rain : Loops := (⟨22, lvT [(3, [1, 5, 6])], mdT [(3, .exit 0, [], [1, 5])], fun k vs bs => bif Nat.beq k 3 then toldL S_sB10Rain_l3 X_sB10Rain_l3 (fun x => sB10Rain_l3 x.1 x.2.1 x.2.2.1 x.2.2.2.1 x.2.2.2.2) vs bs else .bad⟩ : Loops)

theorem sB10Rain_e (x : DR A_sB10Rain.hs) : (evFn (envT Try.prog C17 M19) L_sB10Rain Try.f17 (A_sB10Rain.enc x).1).to (fun q => decX R_sB10Rain .ret [q.1] q.2) = sB10Rain_t x.1 x.2 := by kernel_rfl

theorem sB10Rain_m (x : DR A_sB10Rain.hs) : meanF (envT Try.prog C17 M19) L_sB10Rain Try.f17 A_sB10Rain R_sB10Rain x = (show Option (SumD (R_sB10Rain.map (·.2))) from sB10Rain x.1 x.2) := meanF_of (sB10Rain_e x)

theorem sB10Rain_ok : SpecOk Try.prog 17 (evFn (envT Try.prog C17 M19) L_sB10Rain Try.f17) := fnL_ok (envT_ok (C17_ok) (M19_ok)) mixedO Try.func17 (by kernel_rfl) (c := bodyOf Try.f17) (by kernel_rfl) (loopsL (l := [(3, loopC (bodyOf Try.f17) 3)]) (by kernel_rfl) (lk_cons (sB10Rain_l3_k _ rfl rfl (fun _ _ => rfl)) lk_nil))

theorem sB10Rain_told : SpecOk Try.prog 17 (toldO A_sB10Rain R_sB10Rain (fun x => sB10Rain x.1 x.2) (C17 17)) := toldO_ok (by kernel_rfl) sB10Rain_ok (rest_ok (C17_ok) _) sB10Rain_m

noncomputable def C20 : Tab := tab 17 (toldO A_sB10Rain R_sB10Rain (fun x => sB10Rain x.1 x.2) (C17 17)) C17
theorem C20_ok : TabOk Try.prog C20 := tab_ok (sB10Rain_told) (C17_ok)

def S_sl05Slope_l3 : Shp := ⟨[.h, .h, .h, .h, .undef, .h, .h], [], [.sl [.f .f32], .f .f32, .f .f32, .f .f32, .i .i64, .i .i64]⟩
def X_sl05Slope_l3 : List XShp := [(.ret, ⟨[.undef, .undef, .undef, .undef, .lb false, .undef, .undef], [], []⟩), (.exit 0, ⟨[.undef, .h, .h, .h, .undef, .h, .undef], [], [.f .f32, .f .f32, .f .f32, .i .i64]⟩)]

noncomputable def L_sl05Slope_l3 : Loops := (⟨46, lvT [(3, [0, 1, 2, 3, 8, 9, 10])], mdT [(3, .normal, [], [8]), (3, .exit 0, [], [0, 8, 10]), (3, .ret, [], [0, 1, 2, 3, 9, 10])], fun k vs bs => .bad⟩ : Loops)

theorem sl05Slope_l3_e (y0 : List Nat) (y1 : Nat) (y2 : Nat) (y3 : Nat) (y4 : Int) (s : Int) : (loopStep (envT Try.prog C20 M19) L_sl05Slope_l3 3 (loopC (bodyOf Try.f81) 3) (S_sl05Slope_l3.enc (y0, y1, y2, y3, y4, s)).1 (S_sl05Slope_l3.enc (y0, y1, y2, y3, y4, s)).2).to (stepD S_sl05Slope_l3 X_sl05Slope_l3) = (sl05Slope_l3_t y0 y1 y2 y3 y4 s).map (Sum.map (fun s : Int => (show DR S_sl05Slope_l3.hs from (y0, y1, y2, y3, y4, s))) id) := by kernel_rfl

theorem sl05Slope_l3_r (x : DR S_sl05Slope_l3.hs) : (sl05Slope_l3 x.1 x.2.1 x.2.2.1 x.2.2.2.1 x.2.2.2.2.1 x.2.2.2.2.2 : Option (SumD (X_sl05Slope_l3.map (·.2)))) = runL (meanS (envT Try.prog C20 M19) L_sl05Slope_l3 3 (loopC (bodyOf Try.f81) 3) S_sl05Slope_l3 X_sl05Slope_l3) x := run_of (fun s : Int => (show DR S_sl05Slope_l3.hs from (x.1, x.2.1, x.2.2.1, x.2.2.2.1, x.2.2.2.2.1, s))) (sl05Slope_l3_e (x.1) (x.2.1) (x.2.2.1) (x.2.2.2.1) (x.2.2.2.2.1)) x.2.2.2.2.2

theorem sl05Slope_l3_k (L : Loops) (hn : L_sl05Slope_l3.n = L.n) (hlv : L_sl05Slope_l3.lv 3 = L.lv 3) (hL : ∀ vs bs, L.loop 3 vs bs = toldL S_sl05Slope_l3 X_sl05Slope_l3 (fun x => sl05Slope_l3 x.1 x.2.1 x.2.2.1 x.2.2.2.1 x.2.2.2.2.1 x.2.2.2.2.2) vs bs) : LOk Try.prog (envT Try.prog C20 M19) L 3 (loopC (bodyOf Try.f81) 3) := toldL_ok (L1 := L_sl05Slope_l3) (envT_ok (C20_ok) (M19_ok)) mixedO hn hlv (loopFree_ok (by kernel_rfl)) sl05Slope_l3_r hL

def A_sl05Slope : Shp := ⟨[.h, .h, .h, .h], [], [.sl [.f .f32], .f .f32, .f .f32, .f .f32]⟩
def R_sl05Slope : List XShp := [(.ret, ⟨[.h], [], [.b]⟩)]

noncomputable def L_sl05Slope : Loops := (⟨46, lvT [(3, [0, 1, 2, 3, 8, 9, 10])], mdT [(3, .normal, [], [8]), (3, .exit 0, [], [0, 8, 10]), (3, .ret, [], [0, 1, 2, 3, 9, 10])], fun k vs bs => bif Nat.beq k 3 then toldL S_sl05Slope_l3 X_sl05Slope_l3 (fun x => sl05Slope_l3 x.1 x.2.1 x.2.2.1 x.2.2.2.1 x.2.2.2.2.1 x.2.2.2.2.2) vs bs else .bad⟩ : Loops)

theorem sl05Slope_e (x : DR A_sl05Slope.hs) : (evFn (envT Try.prog C20 M19) L_sl05Slope Try.f81 (A_sl05Slope.enc x).1).to (fun q => decX R_sl05Slope .ret [q.1] q.2) = sl05Slope_t x.1 x.2.1 x.2.2.1 x.2.2.2 := by kernel_rfl

theorem sl05Slope_m (x : DR A_sl05Slope.hs) : meanF (envT Try.prog C20 M19) L_sl05Slope Try.f81 A_sl05Slope R_sl05Slope x = (show Option (SumD (R_sl05Slope.map (·.2))) from sl05Slope x.1 x.2.1 x.2.2.1 x.2.2.2) := meanF_of (sl05Slope_e x)

theorem sl05Slope_ok : SpecOk Try.prog 81 (evFn (envT Try.prog C20 M19) L_sl05Slope Try.f81) := fnL_ok (envT_ok (C20_ok) (M19_ok)) mixedO Try.func81 (by kernel_rfl) (c := bodyOf Try.f81) (by kernel_rfl) (loopsL (l := [(3, loopC (bodyOf Try.f81) 3)]) (by kernel_rfl) (lk_cons (sl05Slope_l3_k _ rfl rfl (fun _ _ => rfl)) lk_nil))

theorem sl05Slope_told : SpecOk Try.prog 81 (toldO A_sl05Slope R_sl05Slope (fun x => sl05Slope x.1 x.2.1 x.2.2.1 x.2.2.2) (C20 81)) := toldO_ok (by kernel_rfl) sl05Slope_ok (rest_ok (C20_ok) _) sl05Slope_m

noncomputable def C21 : Tab := tab 81 (toldO A_sl05Slope R_sl05Slope (fun x => sl05Slope x.1 x.2.1 x.2.2.1 x.2.2.2) (C20 81)) C20
theorem C21_ok : TabOk Try.prog C21 := tab_ok (sl05Slope_told) (C20_ok)

def S_sl02Finite_l2 : Shp := ⟨[.h, .undef, .h], [], [.sl [.f .f32], .i .i64]⟩
def X_sl02Finite_l2 : List XShp := [(.ret, ⟨[.undef, .lb false, .undef], [], []⟩), (.exit 0, ⟨[.undef, .undef, .undef], [], []⟩)]

noncomputable def L_sl02Finite_l2 : Loops := (⟨16, lvT [(2, [0, 2, 3])], mdT [(2, .normal, [], [2]), (2, .exit 0, [], [0, 2, 3]), (2, .ret, [], [0, 3])], fun k vs bs => .bad⟩ : Loops)

theorem sl02Finite_l2_e (y0 : List Nat) (s : Int) : (loopStep (envT Try.prog C21 M19) L_sl02Finite_l2 2 (loopC (bodyOf Try.f112) 2) (S_sl02Finite_l2.enc (y0, s)).1 (S_sl02Finite_l2.enc (y0, s)).2).to (stepD S_sl02Finite_l2 X_sl02Finite_l2) = (sl02Finite_l2_t y0 s).map (Sum.map (fun s : Int => (show DR S_sl02Finite_l2.hs from (y0, s))) id) := by kernel_rfl

theorem sl02Finite_l2_r (x : DR S_sl02Finite_l2.hs) : (sl02Finite_l2 x.1 x.2 : Option (SumD (X_sl02Finite_l2.map (·.2)))) = runL (meanS (envT Try.prog C21 M19) L_sl02Finite_l2 2 (loopC (bodyOf Try.f112) 2) S_sl02Finite_l2 X_sl02Finite_l2) x := run_of (fun s : Int => (show DR S_sl02Finite_l2.hs from (x.1, s))) (sl02Finite_l2_e (x.1)) x.2

theorem sl02Finite_l2_k (L : Loops) (hn : L_sl02Finite_l2.n = L.n) (hlv : L_sl02Finite_l2.lv 2 = L.lv 2) (hL : ∀ vs bs, L.loop 2 vs bs = toldL S_sl02Finite_l2 X_sl02Finite_l2 (fun x => sl02Finite_l2 x.1 x.2) vs bs) : LOk Try.prog (envT Try.prog C21 M19) L 2 (loopC (bodyOf Try.f112) 2) := toldL_ok (L1 := L_sl02Finite_l2) (envT_ok (C21_ok) (M19_ok)) mixedO hn hlv (loopFree_ok (by kernel_rfl)) sl02Finite_l2_r hL

def A_sl02Finite : Shp := ⟨[.h], [], [.sl [.f .f32]]⟩
def R_sl02Finite : List XShp := [(.ret, ⟨[.h], [], [.b]⟩)]

noncomputable def L_sl02Finite : Loops := (⟨16, lvT [(2, [0, 2, 3])], mdT [(2, .normal, [], [2]), (2, .exit 0, [], [0, 2, 3]), (2, .ret, [], [0, 3])], fun k vs bs => bif Nat.beq k 2 then toldL S_sl02Finite_l2 X_sl02Finite_l2 (fun x => sl02Finite_l2 x.1 x.2) vs bs else .bad⟩ : Loops)

theorem sl02Finite_e (x : DR A_sl02Finite.hs) : (evFn (envT Try.prog C21 M19) L_sl02Finite Try.f112 (A_sl02Finite.enc x).1).to (fun q => decX R_sl02Finite .ret [q.1] q.2) = sl02Finite_t x := by kernel_rfl

theorem sl02Finite_m (x : DR A_sl02Finite.hs) : meanF (envT Try.prog C21 M19) L_sl02Finite Try.f112 A_sl02Finite R_sl02Finite x = (show Option (SumD (R_sl02Finite.map (·.2))) from sl02Finite x) := meanF_of (sl02Finite_e x)

theorem sl02Finite_ok : SpecOk Try.prog 112 (evFn (envT Try.prog C21 M19) L_sl02Finite Try.f112) := fnL_ok (envT_ok (C21_ok) (M19_ok)) mixedO Try.func112 (by kernel_rfl) (c := bodyOf Try.f112) (by kernel_rfl) (loopsL (l := [(2, loopC (bodyOf Try.f112) 2)]) (by kernel_rfl) (lk_cons (sl02Finite_l2_k _ rfl rfl (fun _ _ => rfl)) lk_nil))

theorem sl02Finite_told : SpecOk Try.prog 112 (toldO A_sl02Finite R_sl02Finite (fun x => sl02Finite x) (C21 112)) := toldO_ok (by kernel_rfl) sl02Finite_ok (rest_ok (C21_ok) _) sl02Finite_m

noncomputable def C22 : Tab := tab 112 (toldO A_sl02Finite R_sl02Finite (fun x => sl02Finite x) (C21 112)) C21
theorem C22_ok : TabOk Try.prog C22 := tab_ok (sl02Finite_told) (C21_ok)

def A_sl05Ins : Shp := ⟨[.h], [], [.sl [.f .f32]]⟩
def R_sl05Ins : List XShp := [(.ret, ⟨[.h], [], [.b]⟩)]

theorem sl05Ins_e (x : DR A_sl05Ins.hs) : (evFn (envT Try.prog C22 M19) noLoops Try.f82 (A_sl05Ins.enc x).1).to (fun q => decX R_sl05Ins .ret [q.1] q.2) = sl05Ins_t x := by kernel_rfl

theorem sl05Ins_m (x : DR A_sl05Ins.hs) : meanF (envT Try.prog C22 M19) noLoops Try.f82 A_sl05Ins R_sl05Ins x = (show Option (SumD (R_sl05Ins.map (·.2))) from sl05Ins x) := meanF_of (sl05Ins_e x)

theorem sl05Ins_ok : SpecOk Try.prog 82 (evFn (envT Try.prog C22 M19) noLoops Try.f82) := fnL_ok (envT_ok (C22_ok) (M19_ok)) mixedO Try.func82 (by kernel_rfl) (c := bodyOf Try.f82) (by kernel_rfl) (loopFree_ok (by kernel_rfl))

theorem sl05Ins_told : SpecOk Try.prog 82 (toldO A_sl05Ins R_sl05Ins (fun x => sl05Ins x) (C22 82)) := toldO_ok (by kernel_rfl) sl05Ins_ok (rest_ok (C22_ok) _) sl05Ins_m

noncomputable def C23 : Tab := tab 82 (toldO A_sl05Ins R_sl05Ins (fun x => sl05Ins x) (C22 82)) C22
theorem C23_ok : TabOk Try.prog C23 := tab_ok (sl05Ins_told) (C22_ok)

def A_sl05Flow : Shp := ⟨[.h, .h], [], [.f .f32, .f .f32]⟩
def R_sl05Flow : List XShp := [(.ret, ⟨[.h], [], [.f .f32]⟩)]

theorem sl05Flow_e (x : DR A_sl05Flow.hs) : (evFn (envT Try.prog C23 M19) noLoops Try.f115 (A_sl05Flow.enc x).1).to (fun q => decX R_sl05Flow .ret [q.1] q.2) = sl05Flow_t x.1 x.2 := by kernel_rfl

theorem sl05Flow_m (x : DR A_sl05Flow.hs) : meanF (envT Try.prog C23 M19) noLoops Try.f115 A_sl05Flow R_sl05Flow x = some (show SumD (R_sl05Flow.map (·.2)) from sl05Flow x.1 x.2) := @meanF_tot _ _ _ _ _ _ _ (sl05Flow_e x) (show Inhabited (Nat) from inferInstance) (by kernel_rfl)

theorem sl05Flow_ok : SpecOk Try.prog 115 (evFn (envT Try.prog C23 M19) noLoops Try.f115) := fnL_ok (envT_ok (C23_ok) (M19_ok)) mixedO Try.func115 (by kernel_rfl) (c := bodyOf Try.f115) (by kernel_rfl) (loopFree_ok (by kernel_rfl))

theorem sl05Flow_told : SpecOk Try.prog 115 (toldT A_sl05Flow R_sl05Flow (fun x => sl05Flow x.1 x.2) (C23 115)) := toldT_ok (by kernel_rfl) sl05Flow_ok (rest_ok (C23_ok) _) sl05Flow_m

noncomputable def C24 : Tab := tab 115 (toldT A_sl05Flow R_sl05Flow (fun x => sl05Flow x.1 x.2) (C23 115)) C23
theorem C24_ok : TabOk Try.prog C24 := tab_ok (sl05Flow_told) (C23_ok)

def S_sl05Wave_l4 : Shp := ⟨[.h, .h, .h, .h, .h, .undef, .undef, .undef, .h, .slw 0 1, .h, .h], [.arr [.f .f32] false], [.sl [.f .f32], .f .f32, .f .f32, .f .f32, .f .f32, .f .f32, .i .i64, .i .i64, .sl [.f .f32]]⟩
def X_sl05Wave_l4 : List XShp := [(.ret, ⟨[.undef, .undef, .undef, .undef, .undef, .nils, .h, .lb false, .undef, .undef, .undef, .undef], [], [.f .f32]⟩), (.exit 0, ⟨[.h, .h, .undef, .undef, .undef, .undef, .undef, .undef, .h, .slw 0 1, .undef, .undef], [.arr [.f .f32] false], [.sl [.f .f32], .f .f32, .f .f32, .sl [.f .f32]]⟩)]

noncomputable def L_sl05Wave_l4 : Loops := (⟨102, lvT [(12, [0, 1, 13, 14, 16, 54, 55]), (4, [0, 1, 2, 3, 4, 10, 11, 12, 13, 14, 26, 27])], mdT [(12, .exit 2, [], [0, 1, 13, 54, 55]), (4, .normal, [], [10, 11, 12]), (4, .exit 0, [], [2, 3, 4, 10, 11, 12, 26, 27]), (4, .ret, [], [0, 1, 2, 3, 4, 13, 14, 26, 27])], fun k vs bs => .bad⟩ : Loops)

theorem sl05Wave_l4_e (y0 : List Nat) (y1 : Nat) (y2 : Nat) (y3 : Nat) (y4 : Nat) (y5 : Nat) (y6 : Int) (s : Int × List Nat) : (loopStep (envT Try.prog C24 M19) L_sl05Wave_l4 4 (loopC (bodyOf Try.f84) 4) (S_sl05Wave_l4.enc (y0, y1, y2, y3, y4, y5, y6, s.1, s.2)).1 (S_sl05Wave_l4.enc (y0, y1, y2, y3, y4, y5, y6, s.1, s.2)).2).to (stepD S_sl05Wave_l4 X_sl05Wave_l4) = (sl05Wave_l4_t y0 y1 y2 y3 y4 y5 y6 s.1 s.2).map (Sum.map (fun s : Int × List Nat => (show DR S_sl05Wave_l4.hs from (y0, y1, y2, y3, y4, y5, y6, s.1, s.2))) id) := by kernel_rfl

theorem sl05Wave_l4_r (x : DR S_sl05Wave_l4.hs) : (sl05Wave_l4 x.1 x.2.1 x.2.2.1 x.2.2.2.1 x.2.2.2.2.1 x.2.2.2.2.2.1 x.2.2.2.2.2.2.1 x.2.2.2.2.2.2.2.1 x.2.2.2.2.2.2.2.2 : Option (SumD (X_sl05Wave_l4.map (·.2)))) = runL (meanS (envT Try.prog C24 M19) L_sl05Wave_l4 4 (loopC (bodyOf Try.f84) 4) S_sl05Wave_l4 X_sl05Wave_l4) x := run_of (fun s : Int × List Nat => (show DR S_sl05Wave_l4.hs from (x.1, x.2.1, x.2.2.1, x.2.2.2.1, x.2.2.2.2.1, x.2.2.2.2.2.1, x.2.2.2.2.2.2.1, s.1, s.2))) (sl05Wave_l4_e (x.1) (x.2.1) (x.2.2.1) (x.2.2.2.1) (x.2.2.2.2.1) (x.2.2.2.2.2.1) (x.2.2.2.2.2.2.1)) (x.2.2.2.2.2.2.2.1, x.2.2.2.2.2.2.2.2)

theorem sl05Wave_l4_k (L : Loops) (hn : L_sl05Wave_l4.n = L.n) (hlv : L_sl05Wave_l4.lv 4 = L.lv 4) (hL : ∀ vs bs, L.loop 4 vs bs = toldL S_sl05Wave_l4 X_sl05Wave_l4 (fun x => sl05Wave_l4 x.1 x.2.1 x.2.2.1 x.2.2.2.1 x.2.2.2.2.1 x.2.2.2.2.2.1 x.2.2.2.2.2.2.1 x.2.2.2.2.2.2.2.1 x.2.2.2.2.2.2.2.2) vs bs) : LOk Try.prog (envT Try.prog C24 M19) L 4 (loopC (bodyOf Try.f84) 4) := toldL_ok (L1 := L_sl05Wave_l4) (envT_ok (C24_ok) (M19_ok)) mixedO hn hlv (loopFree_ok (by kernel_rfl)) sl05Wave_l4_r hL

def S_sl05Wave_l12 : Shp := ⟨[.h, .h, .h, .slw 0 1, .slw 1 1, .h, .h], [.arr [.f .f32] false, .arr [.f .f32] false], [.sl [.f .f32], .f .f32, .f .f32, .i .i64, .i .i64, .sl [.f .f32], .sl [.f .f32]]⟩
def X_sl05Wave_l12 : List XShp := [(.exit 2, ⟨[.undef, .undef, .undef, .slw 0 1, .slw 1 1, .undef, .undef], [.arr [.f .f32] false, .arr [.f .f32] false], [.sl [.f .f32], .sl [.f .f32]]⟩)]

noncomputable def L_sl05Wave_l12 : Loops := (⟨102, lvT [(12, [0, 1, 13, 14, 16, 54, 55]), (4, [0, 1, 2, 3, 4, 10, 11, 12, 13, 14, 26, 27])], mdT [(12, .exit 2, [], [0, 1, 13, 54, 55]), (4, .normal, [], [10, 11, 12]), (4, .exit 0, [], [2, 3, 4, 10, 11, 12, 26, 27]), (4, .ret, [], [0, 1, 2, 3, 4, 13, 14, 26, 27])], fun k vs bs => .bad⟩ : Loops)

theorem sl05Wave_l12_e (y0 : List Nat) (y1 : Nat) (y2 : Nat) (y3 : Int) (y5 : List Nat) (s : Int × List Nat) : (loopStep (envT Try.prog C24 M19) L_sl05Wave_l12 12 (loopC (bodyOf Try.f84) 12) (S_sl05Wave_l12.enc (y0, y1, y2, y3, s.1, y5, s.2)).1 (S_sl05Wave_l12.enc (y0, y1, y2, y3, s.1, y5, s.2)).2).to (stepD S_sl05Wave_l12 X_sl05Wave_l12) = (sl05Wave_l12_t y0 y1 y2 y3 y5 s.1 s.2).map (Sum.map (fun s : Int × List Nat => (show DR S_sl05Wave_l12.hs from (y0, y1, y2, y3, s.1, y5, s.2))) id) := by kernel_rfl

theorem sl05Wave_l12_r (x : DR S_sl05Wave_l12.hs) : (sl05Wave_l12 x.1 x.2.1 x.2.2.1 x.2.2.2.1 x.2.2.2.2.1 x.2.2.2.2.2.1 x.2.2.2.2.2.2 : Option (SumD (X_sl05Wave_l12.map (·.2)))) = runL (meanS (envT Try.prog C24 M19) L_sl05Wave_l12 12 (loopC (bodyOf Try.f84) 12) S_sl05Wave_l12 X_sl05Wave_l12) x := run_of (fun s : Int × List Nat => (show DR S_sl05Wave_l12.hs from (x.1, x.2.1, x.2.2.1, x.2.2.2.1, s.1, x.2.2.2.2.2.1, s.2))) (sl05Wave_l12_e (x.1) (x.2.1) (x.2.2.1) (x.2.2.2.1) (x.2.2.2.2.2.1)) (x.2.2.2.2.1, x.2.2.2.2.2.2)

theorem sl05Wave_l12_k (L : Loops) (hn : L_sl05Wave_l12.n = L.n) (hlv : L_sl05Wave_l12.lv 12 = L.lv 12) (hL : ∀ vs bs, L.loop 12 vs bs = toldL S_sl05Wave_l12 X_sl05Wave_l12 (fun x => sl05Wave_l12 x.1 x.2.1 x.2.2.1 x.2.2.2.1 x.2.2.2.2.1 x.2.2.2.2.2.1 x.2.2.2.2.2.2) vs bs) : LOk Try.prog (envT Try.prog C24 M19) L 12 (loopC (bodyOf Try.f84) 12) := toldL_ok (L1 := L_sl05Wave_l12) (envT_ok (C24_ok) (M19_ok)) mixedO hn hlv (loopFree_ok (by kernel_rfl)) sl05Wave_l12_r hL

def A_sl05Wave : Shp := ⟨[.h, .h, .h, .h, .h], [], [.sl [.f .f32], .f .f32, .f .f32, .f .f32, .f .f32]⟩
def R_sl05Wave : List XShp := [(.ret, ⟨[.tup [.nils, .h, .lb false]], [], [.f .f32]⟩), (.ret, ⟨[.tup [.slw 0 1, .h, .lb true]], [.arr [.f .f32] false], [.f .f32, .sl [.f .f32]]⟩)]

noncomputable def L_sl05Wave : Loops := (⟨102, lvT [(12, [0, 1, 13, 14, 16, 54, 55]), (4, [0, 1, 2, 3, 4, 10, 11, 12, 13, 14, 26, 27])], mdT [(12, .exit 2, [], [0, 1, 13, 54, 55]), (4, .normal, [], [10, 11, 12]), (4, .exit 0, [], [2, 3, 4, 10, 11, 12, 26, 27]), (4, .ret, [], [0, 1, 2, 3, 4, 13, 14, 26, 27])], fun k vs bs => bif Nat.beq k 12 then toldL S_sl05Wave_l12 X_sl05Wave_l12 (fun x => sl05Wave_l12 x.1 x.2.1 x.2.2.1 x.2.2.2.1 x.2.2.2.2.1 x.2.2.2.2.2.1 x.2.2.2.2.2.2) vs bs else bif Nat.beq k 4 then toldL S_sl05Wave_l4 X_sl05Wave_l4 (fun x => sl05Wave_l4 x.1 x.2.1 x.2.2.1 x.2.2.2.1 x.2.2.2.2.1 x.2.2.2.2.2.1 x.2.2.2.2.2.2.1 x.2.2.2.2.2.2.2.1 x.2.2.2.2.2.2.2.2) vs bs else .bad⟩ : Loops)

theorem sl05Wave_e (x : DR A_sl05Wave.hs) : (evFn (envT Try.prog C24 M19) L_sl05Wave Try.f84 (A_sl05Wave.enc x).1).to (fun q => decX R_sl05Wave .ret [q.1] q.2) = sl05Wave_t x.1 x.2.1 x.2.2.1 x.2.2.2.1 x.2.2.2.2 := by kernel_rfl

theorem sl05Wave_m (x : DR A_sl05Wave.hs) : meanF (envT Try.prog C24 M19) L_sl05Wave Try.f84 A_sl05Wave R_sl05Wave x = (show Option (SumD (R_sl05Wave.map (·.2))) from sl05Wave x.1 x.2.1 x.2.2.1 x.2.2.2.1 x.2.2.2.2) := meanF_of (sl05Wave_e x)

theorem sl05Wave_ok : SpecOk Try.prog 84 (evFn (envT Try.prog C24 M19) L_sl05Wave Try.f84) := fnL_ok (envT_ok (C24_ok) (M19_ok)) mixedO Try.func84 (by kernel_rfl) (c := bodyOf Try.f84) (by kernel_rfl) (loopsL (l := [(4, loopC (bodyOf Try.f84) 4), (12, loopC (bodyOf Try.f84) 12)]) (by kernel_rfl) (lk_cons (sl05Wave_l4_k _ rfl rfl (fun _ _ => rfl)) (lk_cons (sl05Wave_l12_k _ rfl rfl (fun _ _ => rfl)) lk_nil)))

theorem sl05Wave_told : SpecOk Try.prog 84 (toldO A_sl05Wave R_sl05Wave (fun x => sl05Wave x.1 x.2.1 x.2.2.1 x.2.2.2.1 x.2.2.2.2) (C24 84)) := toldO_ok (by kernel_rfl) sl05Wave_ok (rest_ok (C24_ok) _) sl05Wave_m

noncomputable def C25 : Tab := tab 84 (toldO A_sl05Wave R_sl05Wave (fun x => sl05Wave x.1 x.2.1 x.2.2.1 x.2.2.2.1 x.2.2.2.2) (C24 84)) C24
theorem C25_ok : TabOk Try.prog C25 := tab_ok (sl05Wave_told) (C24_ok)

def S_sRunWave_l6 : Shp := ⟨[.h, .h, .h, .h, .undef, .undef, .undef, .slw 0 1, .slw 1 1, .h, .h], [.arr [.f .f32] false, .arr [.f .f32] false], [.sl [.f .f32], .f .f32, .f .f32, .f .f32, .i .i64, .i .i64, .sl [.f .f32], .sl [.f .f32]]⟩
def X_sRunWave_l6 : List XShp := [(.ret, ⟨[.undef, .undef, .undef, .undef, .nils, .nils, .lb false, .undef, .undef, .undef, .undef], [], []⟩), (.exit 0, ⟨[.undef, .undef, .undef, .undef, .undef, .undef, .undef, .slw 0 1, .slw 1 1, .undef, .undef], [.arr [.f .f32] false, .arr [.f .f32] false], [.sl [.f .f32], .sl [.f .f32]]⟩)]

noncomputable def L_sRunWave_l6 : Loops := (⟨68, lvT [(6, [1, 2, 3, 4, 10, 11, 12, 13, 14, 35, 36])], mdT [(6, .normal, [], [10, 11, 12]), (6, .exit 0, [], [1, 2, 3, 4, 10, 11, 12, 35, 36]), (6, .ret, [], [1, 2, 3, 4, 13, 14, 35, 36])], fun k vs bs => .bad⟩ : Loops)

theorem sRunWave_l6_e (y0 : List Nat) (y1 : Nat) (y2 : Nat) (y3 : Nat) (y4 : Int) (s : Int × List Nat × List Nat) : (loopStep (envT Try.prog C25 M19) L_sRunWave_l6 6 (loopC (bodyOf Try.f30) 6) (S_sRunWave_l6.enc (y0, y1, y2, y3, y4, s.1, s.2.1, s.2.2)).1 (S_sRunWave_l6.enc (y0, y1, y2, y3, y4, s.1, s.2.1, s.2.2)).2).to (stepD S_sRunWave_l6 X_sRunWave_l6) = (sRunWave_l6_t y0 y1 y2 y3 y4 s.1 s.2.1 s.2.2).map (Sum.map (fun s : Int × List Nat × List Nat => (show DR S_sRunWave_l6.hs from (y0, y1, y2, y3, y4, s.1, s.2.1, s.2.2))) id) := by kernel_rfl

theorem sRunWave_l6_r (x : DR S_sRunWave_l6.hs) : (sRunWave_l6 x.1 x.2.1 x.2.2.1 x.2.2.2.1 x.2.2.2.2.1 x.2.2.2.2.2.1 x.2.2.2.2.2.2.1 x.2.2.2.2.2.2.2 : Option (SumD (X_sRunWave_l6.map (·.2)))) = runL (meanS (envT Try.prog C25 M19) L_sRunWave_l6 6 (loopC (bodyOf Try.f30) 6) S_sRunWave_l6 X_sRunWave_l6) x := run_of (fun s : Int × List Nat × List Nat => (show DR S_sRunWave_l6.hs from (x.1, x.2.1, x.2.2.1, x.2.2.2.1, x.2.2.2.2.1, s.1, s.2.1, s.2.2))) (sRunWave_l6_e (x.1) (x.2.1) (x.2.2.1) (x.2.2.2.1) (x.2.2.2.2.1)) (x.2.2.2.2.2.1, x.2.2.2.2.2.2.1, x.2.2.2.2.2.2.2)

theorem sRunWave_l6_k (L : Loops) (hn : L_sRunWave_l6.n = L.n) (hlv : L_sRunWave_l6.lv 6 = L.lv 6) (hL : ∀ vs bs, L.loop 6 vs bs = toldL S_sRunWave_l6 X_sRunWave_l6 (fun x => sRunWave_l6 x.1 x.2.1 x.2.2.1 x.2.2.2.1 x.2.2.2.2.1 x.2.2.2.2.2.1 x.2.2.2.2.2.2.1 x.2.2.2.2.2.2.2) vs bs) : LOk Try.prog (envT Try.prog C25 M19) L 6 (loopC (bodyOf Try.f30) 6) := toldL_ok (L1 := L_sRunWave_l6) (envT_ok (C25_ok) (M19_ok)) mixedO hn hlv (loopFree_ok (by kernel_rfl)) sRunWave_l6_r hL

def A_sRunWave : Shp := ⟨[.h, .h, .h, .h, .h], [], [.sl [.f .f32], .sl [.f .f32], .f .f32, .f .f32, .f .f32]⟩
def R_sRunWave : List XShp := [(.ret, ⟨[.tup [.nils, .nils, .lb false]], [], []⟩), (.ret, ⟨[.tup [.slw 0 1, .slw 1 1, .lb true]], [.arr [.f .f32] false, .arr [.f .f32] false], [.sl [.f .f32], .sl [.f .f32]]⟩)]

noncomputable def L_sRunWave : Loops := (⟨68, lvT [(6, [1, 2, 3, 4, 10, 11, 12, 13, 14, 35, 36])], mdT [(6, .normal, [], [10, 11, 12]), (6, .exit 0, [], [1, 2, 3, 4, 10, 11, 12, 35, 36]), (6, .ret, [], [1, 2, 3, 4, 13, 14, 35, 36])], fun k vs bs => bif Nat.beq k 6 then toldL S_sRunWave_l6 X_sRunWave_l6 (fun x => sRunWave_l6 x.1 x.2.1 x.2.2.1 x.2.2.2.1 x.2.2.2.2.1 x.2.2.2.2.2.1 x.2.2.2.2.2.2.1 x.2.2.2.2.2.2.2) vs bs else .bad⟩ : Loops)

theorem sRunWave_e (x : DR A_sRunWave.hs) : (evFn (envT Try.prog C25 M19) L_sRunWave Try.f30 (A_sRunWave.enc x).1).to (fun q => decX R_sRunWave .ret [q.1] q.2) = sRunWave_t x.1 x.2.1 x.2.2.1 x.2.2.2.1 x.2.2.2.2 := by kernel_rfl

theorem sRunWave_m (x : DR A_sRunWave.hs) : meanF (envT Try.prog C25 M19) L_sRunWave Try.f30 A_sRunWave R_sRunWave x = (show Option (SumD (R_sRunWave.map (·.2))) from sRunWave x.1 x.2.1 x.2.2.1 x.2.2.2.1 x.2.2.2.2) := meanF_of (sRunWave_e x)

theorem sRunWave_ok : SpecOk Try.prog 30 (evFn (envT Try.prog C25 M19) L_sRunWave Try.f30) := fnL_ok (envT_ok (C25_ok) (M19_ok)) mixedO Try.func30 (by kernel_rfl) (c := bodyOf Try.f30) (by kernel_rfl) (loopsL (l := [(6, loopC (bodyOf Try.f30) 6)]) (by kernel_rfl) (lk_cons (sRunWave_l6_k _ rfl rfl (fun _ _ => rfl)) lk_nil))

theorem sRunWave_told : SpecOk Try.prog 30 (toldO A_sRunWave R_sRunWave (fun x => sRunWave x.1 x.2.1 x.2.2.1 x.2.2.2.1 x.2.2.2.2) (C25 30)) := toldO_ok (by kernel_rfl) sRunWave_ok (rest_ok (C25_ok) _) sRunWave_m

noncomputable def C26 : Tab := tab 30 (toldO A_sRunWave R_sRunWave (fun x => sRunWave x.1 x.2.1 x.2.2.1 x.2.2.2.1 x.2.2.2.2) (C25 30)) C25
theorem C26_ok : TabOk Try.prog C26 := tab_ok (sRunWave_told) (C25_ok)

def A_iwithin : Shp := ⟨[.h, .h, .h], [], [.i .i64, .i .i64, .i .i64]⟩
def R_iwithin : List XShp := [(.ret, ⟨[.h], [], [.b]⟩)]

theorem iwithin_e (x : DR A_iwithin.hs) : (evFn (envT Try.prog C26 M19) noLoops Try.f73 (A_iwithin.enc x).1).to (fun q => decX R_iwithin .ret [q.1] q.2) = iwithin_t x.1 x.2.1 x.2.2 := by kernel_rfl

theorem iwithin_m (x : DR A_iwithin.hs) : meanF (envT Try.prog C26 M19) noLoops Try.f73 A_iwithin R_iwithin x = some (show SumD (R_iwithin.map (·.2)) from iwithin x.1 x.2.1 x.2.2) := @meanF_tot _ _ _ _ _ _ _ (iwithin_e x) (show Inhabited (Bool) from inferInstance) (by kernel_rfl)

theorem iwithin_ok : SpecOk Try.prog 73 (evFn (envT Try.prog C26 M19) noLoops Try.f73) := fnL_ok (envT_ok (C26_ok) (M19_ok)) mixedO Try.func73 (by kernel_rfl) (c := bodyOf Try.f73) (by kernel_rfl) (loopFree_ok (by kernel_rfl))

theorem iwithin_told : SpecOk Try.prog 73 (toldT A_iwithin R_iwithin (fun x => iwithin x.1 x.2.1 x.2.2) (C26 73)) := toldT_ok (by kernel_rfl) iwithin_ok (rest_ok (C26_ok) _) iwithin_m

noncomputable def C27 : Tab := tab 73 (toldT A_iwithin R_iwithin (fun x => iwithin x.1 x.2.1 x.2.2) (C26 73)) C26
theorem C27_ok : TabOk Try.prog C27 := tab_ok (iwithin_told) (C26_ok)

def A_iareMasses_1 : Shp := ⟨[.h], [], [.f .f32]⟩
def R_iareMasses_1 : List XShp := [(.ret, ⟨[.h], [], [.b]⟩)]

theorem iareMasses_1_e (x : DR A_iareMasses_1.hs) : (evFn (envT Try.prog C27 M19) noLoops Try.f104 (A_iareMasses_1.enc x).1).to (fun q => decX R_iareMasses_1 .ret [q.1] q.2) = iareMasses_1_t x := by kernel_rfl

theorem iareMasses_1_m (x : DR A_iareMasses_1.hs) : meanF (envT Try.prog C27 M19) noLoops Try.f104 A_iareMasses_1 R_iareMasses_1 x = some (show SumD (R_iareMasses_1.map (·.2)) from iareMasses_1 x) := @meanF_tot _ _ _ _ _ _ _ (iareMasses_1_e x) (show Inhabited (Bool) from inferInstance) (by kernel_rfl)

theorem iareMasses_1_ok : SpecOk Try.prog 104 (evFn (envT Try.prog C27 M19) noLoops Try.f104) := fnL_ok (envT_ok (C27_ok) (M19_ok)) mixedO Try.func104 (by kernel_rfl) (c := bodyOf Try.f104) (by kernel_rfl) (loopFree_ok (by kernel_rfl))

theorem iareMasses_1_told : SpecOk Try.prog 104 (toldT A_iareMasses_1 R_iareMasses_1 (fun x => iareMasses_1 x) (C27 104)) := toldT_ok (by kernel_rfl) iareMasses_1_ok (rest_ok (C27_ok) _) iareMasses_1_m

noncomputable def C28 : Tab := tab 104 (toldT A_iareMasses_1 R_iareMasses_1 (fun x => iareMasses_1 x) (C27 104)) C27
theorem C28_ok : TabOk Try.prog C28 := tab_ok (iareMasses_1_told) (C27_ok)

def S_lIndexFunc_iareMasses_1_l2 : Shp := ⟨[.h, .fn 104 [], .undef, .h, .h], [], [.sl [.f .f32], .i .i64, .i .i64]⟩
def X_lIndexFunc_iareMasses_1_l2 : List XShp := [(.ret, ⟨[.undef, .undef, .h, .undef, .undef], [], [.i .i64]⟩), (.exit 0, ⟨[.undef, .undef, .undef, .undef, .undef], [], []⟩)]

noncomputable def L_lIndexFunc_iareMasses_1_l2 : Loops := (⟨19, lvT [(2, [0, 1, 4, 7, 8])], mdT [(2, .normal, [], [4]), (2, .exit 0, [], [0, 1, 4, 7, 8]), (2, .ret, [], [0, 1, 7, 8])], fun k vs bs => .bad⟩ : Loops)

theorem lIndexFunc_iareMasses_1_l2_e (y0 : List Nat) (y1 : Int) (s : Int) : (loopStep (envT Try.prog C28 M19) L_lIndexFunc_iareMasses_1_l2 2 (loopC (bodyOf Try.f101) 2) (S_lIndexFunc_iareMasses_1_l2.enc (y0, y1, s)).1 (S_lIndexFunc_iareMasses_1_l2.enc (y0, y1, s)).2).to (stepD S_lIndexFunc_iareMasses_1_l2 X_lIndexFunc_iareMasses_1_l2) = (lIndexFunc_iareMasses_1_l2_t y0 y1 s).map (Sum.map (fun s : Int => (show DR S_lIndexFunc_iareMasses_1_l2.hs from (y0, y1, s))) id) := by kernel_rfl

theorem lIndexFunc_iareMasses_1_l2_r (x : DR S_lIndexFunc_iareMasses_1_l2.hs) : (lIndexFunc_iareMasses_1_l2 x.1 x.2.1 x.2.2 : Option (SumD (X_lIndexFunc_iareMasses_1_l2.map (·.2)))) = runL (meanS (envT Try.prog C28 M19) L_lIndexFunc_iareMasses_1_l2 2 (loopC (bodyOf Try.f101) 2) S_lIndexFunc_iareMasses_1_l2 X_lIndexFunc_iareMasses_1_l2) x := run_of (fun s : Int => (show DR S_lIndexFunc_iareMasses_1_l2.hs from (x.1, x.2.1, s))) (lIndexFunc_iareMasses_1_l2_e (x.1) (x.2.1)) x.2.2

theorem lIndexFunc_iareMasses_1_l2_k (L : Loops) (hn : L_lIndexFunc_iareMasses_1_l2.n = L.n) (hlv : L_lIndexFunc_iareMasses_1_l2.lv 2 = L.lv 2) (hL : ∀ vs bs, L.loop 2 vs bs = toldL S_lIndexFunc_iareMasses_1_l2 X_lIndexFunc_iareMasses_1_l2 (fun x => lIndexFunc_iareMasses_1_l2 x.1 x.2.1 x.2.2) vs bs) : LOk Try.prog (envT Try.prog C28 M19) L 2 (loopC (bodyOf Try.f101) 2) := toldL_ok (L1 := L_lIndexFunc_iareMasses_1_l2) (envT_ok (C28_ok) (M19_ok)) mixedO hn hlv (loopFree_ok (by kernel_rfl)) lIndexFunc_iareMasses_1_l2_r hL

def A_lIndexFunc_iareMasses_1 : Shp := ⟨[.h, .fn 104 []], [], [.sl [.f .f32]]⟩
def R_lIndexFunc_iareMasses_1 : List XShp := [(.ret, ⟨[.h], [], [.i .i64]⟩)]

noncomputable def L_lIndexFunc_iareMasses_1 : Loops := (⟨19, lvT [(2, [0, 1, 4, 7, 8])], mdT [(2, .normal, [], [4]), (2, .exit 0, [], [0, 1, 4, 7, 8]), (2, .ret, [], [0, 1, 7, 8])], fun k vs bs => bif Nat.beq k 2 then toldL S_lIndexFunc_iareMasses_1_l2 X_lIndexFunc_iareMasses_1_l2 (fun x => lIndexFunc_iareMasses_1_l2 x.1 x.2.1 x.2.2) vs bs else .bad⟩ : Loops)

theorem lIndexFunc_iareMasses_1_e (x : DR A_lIndexFunc_iareMasses_1.hs) : (evFn (envT Try.prog C28 M19) L_lIndexFunc_iareMasses_1 Try.f101 (A_lIndexFunc_iareMasses_1.enc x).1).to (fun q => decX R_lIndexFunc_iareMasses_1 .ret [q.1] q.2) = lIndexFunc_iareMasses_1_t x := by kernel_rfl

theorem lIndexFunc_iareMasses_1_m (x : DR A_lIndexFunc_iareMasses_1.hs) : meanF (envT Try.prog C28 M19) L_lIndexFunc_iareMasses_1 Try.f101 A_lIndexFunc_iareMasses_1 R_lIndexFunc_iareMasses_1 x = (show Option (SumD (R_lIndexFunc_iareMasses_1.map (·.2))) from lIndexFunc_iareMasses_1 x) := meanF_of (lIndexFunc_iareMasses_1_e x)

theorem lIndexFunc_iareMasses_1_ok : SpecOk Try.prog 101 (evFn (envT Try.prog C28 M19) L_lIndexFunc_iareMasses_1 Try.f101) := fnL_ok (envT_ok (C28_ok) (M19_ok)) mixedO Try.func101 (by kernel_rfl) (c := bodyOf Try.f101) (by kernel_rfl) (loopsL (l := [(2, loopC (bodyOf Try.f101) 2)]) (by kernel_rfl) (lk_cons (lIndexFunc_iareMasses_1_l2_k _ rfl rfl (fun _ _ => rfl)) lk_nil))

theorem lIndexFunc_iareMasses_1_told : SpecOk Try.prog 101 (toldO A_lIndexFunc_iareMasses_1 R_lIndexFunc_iareMasses_1 (fun x => lIndexFunc_iareMasses_1 x) (C28 101)) := toldO_ok (by kernel_rfl) lIndexFunc_iareMasses_1_ok (rest_ok (C28_ok) _) lIndexFunc_iareMasses_1_m

noncomputable def C29 : Tab := tab 101 (toldO A_lIndexFunc_iareMasses_1 R_lIndexFunc_iareMasses_1 (fun x => lIndexFunc_iareMasses_1 x) (C28 101)) C28
theorem C29_ok : TabOk Try.prog C29 := tab_ok (lIndexFunc_iareMasses_1_told) (C28_ok)

def A_lContainsFunc_iareMasses_1 : Shp := ⟨[.h, .fn 104 []], [], [.sl [.f .f32]]⟩
def R_lContainsFunc_iareMasses_1 : List XShp := [(.ret, ⟨[.h], [], [.b]⟩)]

theorem lContainsFunc_iareMasses_1_e (x : DR A_lContainsFunc_iareMasses_1.hs) : (evFn (envT Try.prog C29 M19) noLoops Try.f103 (A_lContainsFunc_iareMasses_1.enc x).1).to (fun q => decX R_lContainsFunc_iareMasses_1 .ret [q.1] q.2) = lContainsFunc_iareMasses_1_t x := by kernel_rfl

theorem lContainsFunc_iareMasses_1_m (x : DR A_lContainsFunc_iareMasses_1.hs) : meanF (envT Try.prog C29 M19) noLoops Try.f103 A_lContainsFunc_iareMasses_1 R_lContainsFunc_iareMasses_1 x = (show Option (SumD (R_lContainsFunc_iareMasses_1.map (·.2))) from lContainsFunc_iareMasses_1 x) := meanF_of (lContainsFunc_iareMasses_1_e x)

theorem lContainsFunc_iareMasses_1_ok : SpecOk Try.prog 103 (evFn (envT Try.prog C29 M19) noLoops Try.f103) := fnL_ok (envT_ok (C29_ok) (M19_ok)) mixedO Try.func103 (by kernel_rfl) (c := bodyOf Try.f103) (by kernel_rfl) (loopFree_ok (by kernel_rfl))

theorem lContainsFunc_iareMasses_1_told : SpecOk Try.prog 103 (toldO A_lContainsFunc_iareMasses_1 R_lContainsFunc_iareMasses_1 (fun x => lContainsFunc_iareMasses_1 x) (C29 103)) := toldO_ok (by kernel_rfl) lContainsFunc_iareMasses_1_ok (rest_ok (C29_ok) _) lContainsFunc_iareMasses_1_m

noncomputable def C30 : Tab := tab 103 (toldO A_lContainsFunc_iareMasses_1 R_lContainsFunc_iareMasses_1 (fun x => lContainsFunc_iareMasses_1 x) (C29 103)) C29
theorem C30_ok : TabOk Try.prog C30 := tab_ok (lContainsFunc_iareMasses_1_told) (C29_ok)

def A_iareMasses : Shp := ⟨[.h], [], [.sl [.f .f32]]⟩
def R_iareMasses : List XShp := [(.ret, ⟨[.h], [], [.b]⟩)]

theorem iareMasses_e (x : DR A_iareMasses.hs) : (evFn (envT Try.prog C30 M19) noLoops Try.f69 (A_iareMasses.enc x).1).to (fun q => decX R_iareMasses .ret [q.1] q.2) = iareMasses_t x := by kernel_rfl

theorem iareMasses_m (x : DR A_iareMasses.hs) : meanF (envT Try.prog C30 M19) noLoops Try.f69 A_iareMasses R_iareMasses x = (show Option (SumD (R_iareMasses.map (·.2))) from iareMasses x) := meanF_of (iareMasses_e x)

theorem iareMasses_ok : SpecOk Try.prog 69 (evFn (envT Try.prog C30 M19) noLoops Try.f69) := fnL_ok (envT_ok (C30_ok) (M19_ok)) mixedO Try.func69 (by kernel_rfl) (c := bodyOf Try.f69) (by kernel_rfl) (loopFree_ok (by kernel_rfl))

theorem iareMasses_told : SpecOk Try.prog 69 (toldO A_iareMasses R_iareMasses (fun x => iareMasses x) (C30 69)) := toldO_ok (by kernel_rfl) iareMasses_ok (rest_ok (C30_ok) _) iareMasses_m

noncomputable def C31 : Tab := tab 69 (toldO A_iareMasses R_iareMasses (fun x => iareMasses x) (C30 69)) C30
theorem C31_ok : TabOk Try.prog C31 := tab_ok (iareMasses_told) (C30_ok)

def S_iareLengths_l2 : Shp := ⟨[.undef, .h, .h, .h], [], [.sl [.f .f32], .i .i64, .i .i64]⟩
def X_iareLengths_l2 : List XShp := [(.ret, ⟨[.lb false, .undef, .undef, .undef], [], []⟩), (.exit 0, ⟨[.undef, .undef, .undef, .undef], [], []⟩)]

noncomputable def L_iareLengths_l2 : Loops := (⟨15, lvT [(2, [2, 5, 6, 7])], mdT [(2, .normal, [], [2]), (2, .exit 0, [], [2, 5, 6, 7]), (2, .ret, [], [5, 6, 7])], fun k vs bs => .bad⟩ : Loops)

theorem iareLengths_l2_e (y0 : List Nat) (y1 : Int) (s : Int) : (loopStep (envT Try.prog C31 M19) L_iareLengths_l2 2 (loopC (bodyOf Try.f77) 2) (S_iareLengths_l2.enc (y0, y1, s)).1 (S_iareLengths_l2.enc (y0, y1, s)).2).to (stepD S_iareLengths_l2 X_iareLengths_l2) = (iareLengths_l2_t y0 y1 s).map (Sum.map (fun s : Int => (show DR S_iareLengths_l2.hs from (y0, y1, s))) id) := by kernel_rfl

theorem iareLengths_l2_r (x : DR S_iareLengths_l2.hs) : (iareLengths_l2 x.1 x.2.1 x.2.2 : Option (SumD (X_iareLengths_l2.map (·.2)))) = runL (meanS (envT Try.prog C31 M19) L_iareLengths_l2 2 (loopC (bodyOf Try.f77) 2) S_iareLengths_l2 X_iareLengths_l2) x := run_of (fun s : Int => (show DR S_iareLengths_l2.hs from (x.1, x.2.1, s))) (iareLengths_l2_e (x.1) (x.2.1)) x.2.2

theorem iareLengths_l2_k (L : Loops) (hn : L_iareLengths_l2.n = L.n) (hlv : L_iareLengths_l2.lv 2 = L.lv 2) (hL : ∀ vs bs, L.loop 2 vs bs = toldL S_iareLengths_l2 X_iareLengths_l2 (fun x => iareLengths_l2 x.1 x.2.1 x.2.2) vs bs) : LOk Try.prog (envT Try.prog C31 M19) L 2 (loopC (bodyOf Try.f77) 2) := toldL_ok (L1 := L_iareLengths_l2) (envT_ok (C31_ok) (M19_ok)) mixedO hn hlv (loopFree_ok (by kernel_rfl)) iareLengths_l2_r hL

def A_iareLengths : Shp := ⟨[.h], [], [.sl [.f .f32]]⟩
def R_iareLengths : List XShp := [(.ret, ⟨[.h], [], [.b]⟩)]

noncomputable def L_iareLengths : Loops := (⟨15, lvT [(2, [2, 5, 6, 7])], mdT [(2, .normal, [], [2]), (2, .exit 0, [], [2, 5, 6, 7]), (2, .ret, [], [5, 6, 7])], fun k vs bs => bif Nat.beq k 2 then toldL S_iareLengths_l2 X_iareLengths_l2 (fun x => iareLengths_l2 x.1 x.2.1 x.2.2) vs bs else .bad⟩ : Loops)

theorem iareLengths_e (x : DR A_iareLengths.hs) : (evFn (envT Try.prog C31 M19) L_iareLengths Try.f77 (A_iareLengths.enc x).1).to (fun q => decX R_iareLengths .ret [q.1] q.2) = iareLengths_t x := by kernel_rfl

theorem iareLengths_m (x : DR A_iareLengths.hs) : meanF (envT Try.prog C31 M19) L_iareLengths Try.f77 A_iareLengths R_iareLengths x = (show Option (SumD (R_iareLengths.map (·.2))) from iareLengths x) := meanF_of (iareLengths_e x)

theorem iareLengths_ok : SpecOk Try.prog 77 (evFn (envT Try.prog C31 M19) L_iareLengths Try.f77) := fnL_ok (envT_ok (C31_ok) (M19_ok)) mixedO Try.func77 (by kernel_rfl) (c := bodyOf Try.f77) (by kernel_rfl) (loopsL (l := [(2, loopC (bodyOf Try.f77) 2)]) (by kernel_rfl) (lk_cons (iareLengths_l2_k _ rfl rfl (fun _ _ => rfl)) lk_nil))

theorem iareLengths_told : SpecOk Try.prog 77 (toldO A_iareLengths R_iareLengths (fun x => iareLengths x) (C31 77)) := toldO_ok (by kernel_rfl) iareLengths_ok (rest_ok (C31_ok) _) iareLengths_m

noncomputable def C32 : Tab := tab 77 (toldO A_iareLengths R_iareLengths (fun x => iareLengths x) (C31 77)) C31
theorem C32_ok : TabOk Try.prog C32 := tab_ok (iareLengths_told) (C31_ok)

def A_iisWave : Shp := ⟨[.h, .h, .h, .h], [], [.sl [.f .f32], .f .f32, .f .f32, .f .f32]⟩
def R_iisWave : List XShp := [(.ret, ⟨[.h], [], [.b]⟩)]

theorem iisWave_e (x : DR A_iisWave.hs) : (evFn (envT Try.prog C32 M19) noLoops Try.f85 (A_iisWave.enc x).1).to (fun q => decX R_iisWave .ret [q.1] q.2) = iisWave_t x.1 x.2.1 x.2.2.1 x.2.2.2 := by kernel_rfl

theorem iisWave_m (x : DR A_iisWave.hs) : meanF (envT Try.prog C32 M19) noLoops Try.f85 A_iisWave R_iisWave x = (show Option (SumD (R_iisWave.map (·.2))) from iisWave x.1 x.2.1 x.2.2.1 x.2.2.2) := meanF_of (iisWave_e x)

theorem iisWave_ok : SpecOk Try.prog 85 (evFn (envT Try.prog C32 M19) noLoops Try.f85) := fnL_ok (envT_ok (C32_ok) (M19_ok)) mixedO Try.func85 (by kernel_rfl) (c := bodyOf Try.f85) (by kernel_rfl) (loopFree_ok (by kernel_rfl))

theorem iisWave_told : SpecOk Try.prog 85 (toldO A_iisWave R_iisWave (fun x => iisWave x.1 x.2.1 x.2.2.1 x.2.2.2) (C32 85)) := toldO_ok (by kernel_rfl) iisWave_ok (rest_ok (C32_ok) _) iisWave_m

noncomputable def C33 : Tab := tab 85 (toldO A_iisWave R_iisWave (fun x => iisWave x.1 x.2.1 x.2.2.1 x.2.2.2) (C32 85)) C32
theorem C33_ok : TabOk Try.prog C33 := tab_ok (iisWave_told) (C32_ok)

def A_iareFinite_1 : Shp := ⟨[.h], [], [.f .f32]⟩
def R_iareFinite_1 : List XShp := [(.ret, ⟨[.h], [], [.b]⟩)]

theorem iareFinite_1_e (x : DR A_iareFinite_1.hs) : (evFn (envT Try.prog C33 M19) noLoops Try.f108 (A_iareFinite_1.enc x).1).to (fun q => decX R_iareFinite_1 .ret [q.1] q.2) = iareFinite_1_t x := by kernel_rfl

theorem iareFinite_1_m (x : DR A_iareFinite_1.hs) : meanF (envT Try.prog C33 M19) noLoops Try.f108 A_iareFinite_1 R_iareFinite_1 x = some (show SumD (R_iareFinite_1.map (·.2)) from iareFinite_1 x) := @meanF_tot _ _ _ _ _ _ _ (iareFinite_1_e x) (show Inhabited (Bool) from inferInstance) (by kernel_rfl)

theorem iareFinite_1_ok : SpecOk Try.prog 108 (evFn (envT Try.prog C33 M19) noLoops Try.f108) := fnL_ok (envT_ok (C33_ok) (M19_ok)) mixedO Try.func108 (by kernel_rfl) (c := bodyOf Try.f108) (by kernel_rfl) (loopFree_ok (by kernel_rfl))

theorem iareFinite_1_told : SpecOk Try.prog 108 (toldT A_iareFinite_1 R_iareFinite_1 (fun x => iareFinite_1 x) (C33 108)) := toldT_ok (by kernel_rfl) iareFinite_1_ok (rest_ok (C33_ok) _) iareFinite_1_m

noncomputable def C34 : Tab := tab 108 (toldT A_iareFinite_1 R_iareFinite_1 (fun x => iareFinite_1 x) (C33 108)) C33
theorem C34_ok : TabOk Try.prog C34 := tab_ok (iareFinite_1_told) (C33_ok)

def S_lIndexFunc_iareFinite_1_l2 : Shp := ⟨[.h, .fn 108 [], .undef, .h, .h], [], [.sl [.f .f32], .i .i64, .i .i64]⟩
def X_lIndexFunc_iareFinite_1_l2 : List XShp := [(.ret, ⟨[.undef, .undef, .h, .undef, .undef], [], [.i .i64]⟩), (.exit 0, ⟨[.undef, .undef, .undef, .undef, .undef], [], []⟩)]

noncomputable def L_lIndexFunc_iareFinite_1_l2 : Loops := (⟨19, lvT [(2, [0, 1, 4, 7, 8])], mdT [(2, .normal, [], [4]), (2, .exit 0, [], [0, 1, 4, 7, 8]), (2, .ret, [], [0, 1, 7, 8])], fun k vs bs => .bad⟩ : Loops)

theorem lIndexFunc_iareFinite_1_l2_e (y0 : List Nat) (y1 : Int) (s : Int) : (loopStep (envT Try.prog C34 M19) L_lIndexFunc_iareFinite_1_l2 2 (loopC (bodyOf Try.f101) 2) (S_lIndexFunc_iareFinite_1_l2.enc (y0, y1, s)).1 (S_lIndexFunc_iareFinite_1_l2.enc (y0, y1, s)).2).to (stepD S_lIndexFunc_iareFinite_1_l2 X_lIndexFunc_iareFinite_1_l2) = (lIndexFunc_iareFinite_1_l2_t y0 y1 s).map (Sum.map (fun s : Int => (show DR S_lIndexFunc_iareFinite_1_l2.hs from (y0, y1, s))) id) := by kernel_rfl

theorem lIndexFunc_iareFinite_1_l2_r (x : DR S_lIndexFunc_iareFinite_1_l2.hs) : (lIndexFunc_iareFinite_1_l2 x.1 x.2.1 x.2.2 : Option (SumD (X_lIndexFunc_iareFinite_1_l2.map (·.2)))) = runL (meanS (envT Try.prog C34 M19) L_lIndexFunc_iareFinite_1_l2 2 (loopC (bodyOf Try.f101) 2) S_lIndexFunc_iareFinite_1_l2 X_lIndexFunc_iareFinite_1_l2) x := run_of (fun s : Int => (show DR S_lIndexFunc_iareFinite_1_l2.hs from (x.1, x.2.1, s))) (lIndexFunc_iareFinite_1_l2_e (x.1) (x.2.1)) x.2.2

theorem lIndexFunc_iareFinite_1_l2_k (L : Loops) (hn : L_lIndexFunc_iareFinite_1_l2.n = L.n) (hlv : L_lIndexFunc_iareFinite_1_l2.lv 2 = L.lv 2) (hL : ∀ vs bs, L.loop 2 vs bs = toldL S_lIndexFunc_iareFinite_1_l2 X_lIndexFunc_iareFinite_1_l2 (fun x => lIndexFunc_iareFinite_1_l2 x.1 x.2.1 x.2.2) vs bs) : LOk Try.prog (envT Try.prog C34 M19) L 2 (loopC (bodyOf Try.f101) 2) := toldL_ok (L1 := L_lIndexFunc_iareFinite_1_l2) (envT_ok (C34_ok) (M19_ok)) mixedO hn hlv (loopFree_ok (by kernel_rfl)) lIndexFunc_iareFinite_1_l2_r hL

def A_lIndexFunc_iareFinite_1 : Shp := ⟨[.h, .fn 108 []], [], [.sl [.f .f32]]⟩
def R_lIndexFunc_iareFinite_1 : List XShp := [(.ret, ⟨[.h], [], [.i .i64]⟩)]

noncomputable def L_lIndexFunc_iareFinite_1 : Loops := (⟨19, lvT [(2, [0, 1, 4, 7, 8])], mdT [(2, .normal, [], [4]), (2, .exit 0, [], [0, 1, 4, 7, 8]), (2, .ret, [], [0, 1, 7, 8])], fun k vs bs => bif Nat.beq k 2 then toldL S_lIndexFunc_iareFinite_1_l2 X_lIndexFunc_iareFinite_1_l2 (fun x => lIndexFunc_iareFinite_1_l2 x.1 x.2.1 x.2.2) vs bs else .bad⟩ : Loops)

theorem lIndexFunc_iareFinite_1_e (x : DR A_lIndexFunc_iareFinite_1.hs) : (evFn (envT Try.prog C34 M19) L_lIndexFunc_iareFinite_1 Try.f101 (A_lIndexFunc_iareFinite_1.enc x).1).to (fun q => decX R_lIndexFunc_iareFinite_1 .ret [q.1] q.2) = lIndexFunc_iareFinite_1_t x := by kernel_rfl

theorem lIndexFunc_iareFinite_1_m (x : DR A_lIndexFunc_iareFinite_1.hs) : meanF (envT Try.prog C34 M19) L_lIndexFunc_iareFinite_1 Try.f101 A_lIndexFunc_iareFinite_1 R_lIndexFunc_iareFinite_1 x = (show Option (SumD (R_lIndexFunc_iareFinite_1.map (·.2))) from lIndexFunc_iareFinite_1 x) := meanF_of (lIndexFunc_iareFinite_1_e x)

theorem lIndexFunc_iareFinite_1_ok : SpecOk Try.prog 101 (evFn (envT Try.prog C34 M19) L_lIndexFunc_iareFinite_1 Try.f101) := fnL_ok (envT_ok (C34_ok) (M19_ok)) mixedO Try.func101 (by kernel_rfl) (c := bodyOf Try.f101) (by kernel_rfl) (loopsL (l := [(2, loopC (bodyOf Try.f101) 2)]) (by kernel_rfl) (lk_cons (lIndexFunc_iareFinite_1_l2_k _ rfl rfl (fun _ _ => rfl)) lk_nil))

theorem lIndexFunc_iareFinite_1_told : SpecOk Try.prog 101 (toldO A_lIndexFunc_iareFinite_1 R_lIndexFunc_iareFinite_1 (fun x => lIndexFunc_iareFinite_1 x) (C34 101)) := toldO_ok (by kernel_rfl) lIndexFunc_iareFinite_1_ok (rest_ok (C34_ok) _) lIndexFunc_iareFinite_1_m

noncomputable def C35 : Tab := tab 101 (toldO A_lIndexFunc_iareFinite_1 R_lIndexFunc_iareFinite_1 (fun x => lIndexFunc_iareFinite_1 x) (C34 101)) C34
theorem C35_ok : TabOk Try.prog C35 := tab_ok (lIndexFunc_iareFinite_1_told) (C34_ok)

def A_lContainsFunc_iareFinite_1 : Shp := ⟨[.h, .fn 108 []], [], [.sl [.f .f32]]⟩
def R_lContainsFunc_iareFinite_1 : List XShp := [(.ret, ⟨[.h], [], [.b]⟩)]

theorem lContainsFunc_iareFinite_1_e (x : DR A_lContainsFunc_iareFinite_1.hs) : (evFn (envT Try.prog C35 M19) noLoops Try.f103 (A_lContainsFunc_iareFinite_1.enc x).1).to (fun q => decX R_lContainsFunc_iareFinite_1 .ret [q.1] q.2) = lContainsFunc_iareFinite_1_t x := by kernel_rfl

theorem lContainsFunc_iareFinite_1_m (x : DR A_lContainsFunc_iareFinite_1.hs) : meanF (envT Try.prog C35 M19) noLoops Try.f103 A_lContainsFunc_iareFinite_1 R_lContainsFunc_iareFinite_1 x = (show Option (SumD (R_lContainsFunc_iareFinite_1.map (·.2))) from lContainsFunc_iareFinite_1 x) := meanF_of (lContainsFunc_iareFinite_1_e x)

theorem lContainsFunc_iareFinite_1_ok : SpecOk Try.prog 103 (evFn (envT Try.prog C35 M19) noLoops Try.f103) := fnL_ok (envT_ok (C35_ok) (M19_ok)) mixedO Try.func103 (by kernel_rfl) (c := bodyOf Try.f103) (by kernel_rfl) (loopFree_ok (by kernel_rfl))

theorem lContainsFunc_iareFinite_1_told : SpecOk Try.prog 103 (toldO A_lContainsFunc_iareFinite_1 R_lContainsFunc_iareFinite_1 (fun x => lContainsFunc_iareFinite_1 x) (C35 103)) := toldO_ok (by kernel_rfl) lContainsFunc_iareFinite_1_ok (rest_ok (C35_ok) _) lContainsFunc_iareFinite_1_m

noncomputable def C36 : Tab := tab 103 (toldO A_lContainsFunc_iareFinite_1 R_lContainsFunc_iareFinite_1 (fun x => lContainsFunc_iareFinite_1 x) (C35 103)) C35
theorem C36_ok : TabOk Try.prog C36 := tab_ok (lContainsFunc_iareFinite_1_told) (C35_ok)

def A_iareFinite : Shp := ⟨[.h], [], [.sl [.f .f32]]⟩
def R_iareFinite : List XShp := [(.ret, ⟨[.h], [], [.b]⟩)]

theorem iareFinite_e (x : DR A_iareFinite.hs) : (evFn (envT Try.prog C36 M19) noLoops Try.f79 (A_iareFinite.enc x).1).to (fun q => decX R_iareFinite .ret [q.1] q.2) = iareFinite_t x := by kernel_rfl

theorem iareFinite_m (x : DR A_iareFinite.hs) : meanF (envT Try.prog C36 M19) noLoops Try.f79 A_iareFinite R_iareFinite x = (show Option (SumD (R_iareFinite.map (·.2))) from iareFinite x) := meanF_of (iareFinite_e x)

theorem iareFinite_ok : SpecOk Try.prog 79 (evFn (envT Try.prog C36 M19) noLoops Try.f79) := fnL_ok (envT_ok (C36_ok) (M19_ok)) mixedO Try.func79 (by kernel_rfl) (c := bodyOf Try.f79) (by kernel_rfl) (loopFree_ok (by kernel_rfl))

theorem iareFinite_told : SpecOk Try.prog 79 (toldO A_iareFinite R_iareFinite (fun x => iareFinite x) (C36 79)) := toldO_ok (by kernel_rfl) iareFinite_ok (rest_ok (C36_ok) _) iareFinite_m

noncomputable def C37 : Tab := tab 79 (toldO A_iareFinite R_iareFinite (fun x => iareFinite x) (C36 79)) C36
theorem C37_ok : TabOk Try.prog C37 := tab_ok (iareFinite_told) (C36_ok)

def A_iareIns : Shp := ⟨[.h], [], [.sl [.f .f32]]⟩
def R_iareIns : List XShp := [(.ret, ⟨[.h], [], [.b]⟩)]

theorem iareIns_e (x : DR A_iareIns.hs) : (evFn (envT Try.prog C37 M19) noLoops Try.f75 (A_iareIns.enc x).1).to (fun q => decX R_iareIns .ret [q.1] q.2) = iareIns_t x := by kernel_rfl

theorem iareIns_m (x : DR A_iareIns.hs) : meanF (envT Try.prog C37 M19) noLoops Try.f75 A_iareIns R_iareIns x = (show Option (SumD (R_iareIns.map (·.2))) from iareIns x) := meanF_of (iareIns_e x)

theorem iareIns_ok : SpecOk Try.prog 75 (evFn (envT Try.prog C37 M19) noLoops Try.f75) := fnL_ok (envT_ok (C37_ok) (M19_ok)) mixedO Try.func75 (by kernel_rfl) (c := bodyOf Try.f75) (by kernel_rfl) (loopFree_ok (by kernel_rfl))

theorem iareIns_told : SpecOk Try.prog 75 (toldO A_iareIns R_iareIns (fun x => iareIns x) (C37 75)) := toldO_ok (by kernel_rfl) iareIns_ok (rest_ok (C37_ok) _) iareIns_m

noncomputable def C38 : Tab := tab 75 (toldO A_iareIns R_iareIns (fun x => iareIns x) (C37 75)) C37
theorem C38_ok : TabOk Try.prog C38 := tab_ok (iareIns_told) (C37_ok)

def A_iwaveFlow : Shp := ⟨[.h, .h], [], [.f .f32, .f .f32]⟩
def R_iwaveFlow : List XShp := [(.ret, ⟨[.h], [], [.f .f32]⟩)]

theorem iwaveFlow_e (x : DR A_iwaveFlow.hs) : (evFn (envT Try.prog C38 M19) noLoops Try.f88 (A_iwaveFlow.enc x).1).to (fun q => decX R_iwaveFlow .ret [q.1] q.2) = iwaveFlow_t x.1 x.2 := by kernel_rfl

theorem iwaveFlow_m (x : DR A_iwaveFlow.hs) : meanF (envT Try.prog C38 M19) noLoops Try.f88 A_iwaveFlow R_iwaveFlow x = some (show SumD (R_iwaveFlow.map (·.2)) from iwaveFlow x.1 x.2) := @meanF_tot _ _ _ _ _ _ _ (iwaveFlow_e x) (show Inhabited (Nat) from inferInstance) (by kernel_rfl)

theorem iwaveFlow_ok : SpecOk Try.prog 88 (evFn (envT Try.prog C38 M19) noLoops Try.f88) := fnL_ok (envT_ok (C38_ok) (M19_ok)) mixedO Try.func88 (by kernel_rfl) (c := bodyOf Try.f88) (by kernel_rfl) (loopFree_ok (by kernel_rfl))

theorem iwaveFlow_told : SpecOk Try.prog 88 (toldT A_iwaveFlow R_iwaveFlow (fun x => iwaveFlow x.1 x.2) (C38 88)) := toldT_ok (by kernel_rfl) iwaveFlow_ok (rest_ok (C38_ok) _) iwaveFlow_m

noncomputable def C39 : Tab := tab 88 (toldT A_iwaveFlow R_iwaveFlow (fun x => iwaveFlow x.1 x.2) (C38 88)) C38
theorem C39_ok : TabOk Try.prog C39 := tab_ok (iwaveFlow_told) (C38_ok)

def S_iStepWave_l5 : Shp := ⟨[.h, .h, .h, .undef, .undef, .undef, .slw 0 1, .h, .h, .h, .h], [.arr [.f .f32] false], [.f .f32, .f .f32, .f .f32, .f .f32, .sl [.f .f32], .i .i64, .i .i64, .sl [.f .f32]]⟩
def X_iStepWave_l5 : List XShp := [(.ret, ⟨[.undef, .undef, .undef, .nils, .h, .lb false, .undef, .undef, .undef, .undef, .undef], [], [.f .f32]⟩), (.exit 0, ⟨[.undef, .undef, .undef, .undef, .undef, .undef, .slw 0 1, .h, .undef, .undef, .undef], [.arr [.f .f32] false], [.f .f32, .sl [.f .f32]]⟩)]

noncomputable def L_iStepWave_l5 : Loops := (⟨77, lvT [(5, [2, 3, 4, 10, 11, 12, 13, 14, 32, 33, 34])], mdT [(5, .normal, [], [10, 11, 12]), (5, .exit 0, [], [2, 3, 4, 10, 11, 12, 32, 33, 34]), (5, .ret, [], [2, 3, 4, 13, 14, 32, 33, 34])], fun k vs bs => .bad⟩ : Loops)

theorem iStepWave_l5_e (y0 : Nat) (y1 : Nat) (y2 : Nat) (y4 : List Nat) (y5 : Int) (s : Nat × Int × List Nat) : (loopStep (envT Try.prog C39 M19) L_iStepWave_l5 5 (loopC (bodyOf Try.f33) 5) (S_iStepWave_l5.enc (y0, y1, y2, s.1, y4, y5, s.2.1, s.2.2)).1 (S_iStepWave_l5.enc (y0, y1, y2, s.1, y4, y5, s.2.1, s.2.2)).2).to (stepD S_iStepWave_l5 X_iStepWave_l5) = (iStepWave_l5_t y0 y1 y2 y4 y5 s.1 s.2.1 s.2.2).map (Sum.map (fun s : Nat × Int × List Nat => (show DR S_iStepWave_l5.hs from (y0, y1, y2, s.1, y4, y5, s.2.1, s.2.2))) id) := by kernel_rfl

theorem iStepWave_l5_r (x : DR S_iStepWave_l5.hs) : (iStepWave_l5 x.1 x.2.1 x.2.2.1 x.2.2.2.1 x.2.2.2.2.1 x.2.2.2.2.2.1 x.2.2.2.2.2.2.1 x.2.2.2.2.2.2.2 : Option (SumD (X_iStepWave_l5.map (·.2)))) = runL (meanS (envT Try.prog C39 M19) L_iStepWave_l5 5 (loopC (bodyOf Try.f33) 5) S_iStepWave_l5 X_iStepWave_l5) x := run_of (fun s : Nat × Int × List Nat => (show DR S_iStepWave_l5.hs from (x.1, x.2.1, x.2.2.1, s.1, x.2.2.2.2.1, x.2.2.2.2.2.1, s.2.1, s.2.2))) (iStepWave_l5_e (x.1) (x.2.1) (x.2.2.1) (x.2.2.2.2.1) (x.2.2.2.2.2.1)) (x.2.2.2.1, x.2.2.2.2.2.2.1, x.2.2.2.2.2.2.2)

theorem iStepWave_l5_k (L : Loops) (hn : L_iStepWave_l5.n = L.n) (hlv : L_iStepWave_l5.lv 5 = L.lv 5) (hL : ∀ vs bs, L.loop 5 vs bs = toldL S_iStepWave_l5 X_iStepWave_l5 (fun x => iStepWave_l5 x.1 x.2.1 x.2.2.1 x.2.2.2.1 x.2.2.2.2.1 x.2.2.2.2.2.1 x.2.2.2.2.2.2.1 x.2.2.2.2.2.2.2) vs bs) : LOk Try.prog (envT Try.prog C39 M19) L 5 (loopC (bodyOf Try.f33) 5) := toldL_ok (L1 := L_iStepWave_l5) (envT_ok (C39_ok) (M19_ok)) mixedO hn hlv (loopFree_ok (by kernel_rfl)) iStepWave_l5_r hL

def A_iStepWave : Shp := ⟨[.h, .h, .h, .h, .h], [], [.sl [.f .f32], .f .f32, .f .f32, .f .f32, .f .f32]⟩
def R_iStepWave : List XShp := [(.ret, ⟨[.tup [.nils, .h, .lb false]], [], [.f .f32]⟩), (.ret, ⟨[.tup [.slw 0 1, .h, .lb true]], [.arr [.f .f32] false], [.f .f32, .sl [.f .f32]]⟩)]

noncomputable def L_iStepWave : Loops := (⟨77, lvT [(5, [2, 3, 4, 10, 11, 12, 13, 14, 32, 33, 34])], mdT [(5, .normal, [], [10, 11, 12]), (5, .exit 0, [], [2, 3, 4, 10, 11, 12, 32, 33, 34]), (5, .ret, [], [2, 3, 4, 13, 14, 32, 33, 34])], fun k vs bs => bif Nat.beq k 5 then toldL S_iStepWave_l5 X_iStepWave_l5 (fun x => iStepWave_l5 x.1 x.2.1 x.2.2.1 x.2.2.2.1 x.2.2.2.2.1 x.2.2.2.2.2.1 x.2.2.2.2.2.2.1 x.2.2.2.2.2.2.2) vs bs else .bad⟩ : Loops)

theorem iStepWave_e (x : DR A_iStepWave.hs) : (evFn (envT Try.prog C39 M19) L_iStepWave Try.f33 (A_iStepWave.enc x).1).to (fun q => decX R_iStepWave .ret [q.1] q.2) = iStepWave_t x.1 x.2.1 x.2.2.1 x.2.2.2.1 x.2.2.2.2 := by kernel_rfl

theorem iStepWave_m (x : DR A_iStepWave.hs) : meanF (envT Try.prog C39 M19) L_iStepWave Try.f33 A_iStepWave R_iStepWave x = (show Option (SumD (R_iStepWave.map (·.2))) from iStepWave x.1 x.2.1 x.2.2.1 x.2.2.2.1 x.2.2.2.2) := meanF_of (iStepWave_e x)

theorem iStepWave_ok : SpecOk Try.prog 33 (evFn (envT Try.prog C39 M19) L_iStepWave Try.f33) := fnL_ok (envT_ok (C39_ok) (M19_ok)) mixedO Try.func33 (by kernel_rfl) (c := bodyOf Try.f33) (by kernel_rfl) (loopsL (l := [(5, loopC (bodyOf Try.f33) 5)]) (by kernel_rfl) (lk_cons (iStepWave_l5_k _ rfl rfl (fun _ _ => rfl)) lk_nil))

theorem iStepWave_told : SpecOk Try.prog 33 (toldO A_iStepWave R_iStepWave (fun x => iStepWave x.1 x.2.1 x.2.2.1 x.2.2.2.1 x.2.2.2.2) (C39 33)) := toldO_ok (by kernel_rfl) iStepWave_ok (rest_ok (C39_ok) _) iStepWave_m

noncomputable def C40 : Tab := tab 33 (toldO A_iStepWave R_iStepWave (fun x => iStepWave x.1 x.2.1 x.2.2.1 x.2.2.2.1 x.2.2.2.2) (C39 33)) C39
theorem C40_ok : TabOk Try.prog C40 := tab_ok (iStepWave_told) (C39_ok)

def H_iRunWave_l5 : List XShp := [(.normal, ⟨[.h, .h, .h, .h, .undef, .undef, .undef, .slw 0 1, .h, .h, .h], [.arr [.f .f32] false], [.sl [.f .f32], .f .f32, .f .f32, .f .f32, .sl [.f .f32], .i .i64, .i .i64, .sl [.f .f32]]⟩), (.normal, ⟨[.slw 0 1, .h, .h, .h, .undef, .undef, .undef, .slw 1 1, .h, .h, .h], [.arr [.f .f32] false, .arr [.f .f32] false], [.f .f32, .f .f32, .f .f32, .sl [.f .f32], .i .i64, .i .i64, .sl [.f .f32], .sl [.f .f32]]⟩)]
def X_iRunWave_l5 : List XShp := [(.ret, ⟨[.undef, .undef, .undef, .undef, .nils, .nils, .lb false, .undef, .undef, .undef, .undef], [], []⟩), (.exit 0, ⟨[.h, .undef, .undef, .undef, .undef, .undef, .undef, .slw 0 1, .undef, .undef, .undef], [.arr [.f .f32] false], [.sl [.f .f32], .sl [.f .f32]]⟩), (.exit 0, ⟨[.slw 0 1, .undef, .undef, .undef, .undef, .undef, .undef, .slw 1 1, .undef, .undef, .undef], [.arr [.f .f32] false, .arr [.f .f32] false], [.sl [.f .f32], .sl [.f .f32]]⟩)]

noncomputable def L_iRunWave_l5 : Loops := (⟨57, lvT [(5, [0, 2, 3, 4, 10, 11, 12, 13, 31, 32, 33])], mdT [(5, .normal, [], [10, 11, 12]), (5, .exit 0, [], [2, 3, 4, 10, 11, 12, 31, 32, 33]), (5, .ret, [], [0, 2, 3, 4, 13, 31, 32, 33])], fun k vs bs => .bad⟩ : Loops)

theorem iRunWave_l5_e0 (y : DR (⟨[.h, .h, .h, .h, .undef, .undef, .undef, .slw 0 1, .h, .h, .h], [.arr [.f .f32] false], [.sl [.f .f32], .f .f32, .f .f32, .f .f32, .sl [.f .f32], .i .i64, .i .i64, .sl [.f .f32]]⟩ : Shp).hs) : (loopStep (envT Try.prog C40 M19) L_iRunWave_l5 5 (loopC (bodyOf Try.f31) 5) ((⟨[.h, .h, .h, .h, .undef, .undef, .undef, .slw 0 1, .h, .h, .h], [.arr [.f .f32] false], [.sl [.f .f32], .f .f32, .f .f32, .f .f32, .sl [.f .f32], .i .i64, .i .i64, .sl [.f .f32]]⟩ : Shp).enc y).1 ((⟨[.h, .h, .h, .h, .undef, .undef, .undef, .slw 0 1, .h, .h, .h], [.arr [.f .f32] false], [.sl [.f .f32], .f .f32, .f .f32, .f .f32, .sl [.f .f32], .i .i64, .i .i64, .sl [.f .f32]]⟩ : Shp).enc y).2).to (stepH H_iRunWave_l5 X_iRunWave_l5) = iRunWave_l5_t0 y.1 y.2.1 y.2.2.1 y.2.2.2.1 y.2.2.2.2.1 y.2.2.2.2.2.1 y.2.2.2.2.2.2.1 y.2.2.2.2.2.2.2 := by kernel_rfl

theorem iRunWave_l5_e1 (y : DR (⟨[.slw 0 1, .h, .h, .h, .undef, .undef, .undef, .slw 1 1, .h, .h, .h], [.arr [.f .f32] false, .arr [.f .f32] false], [.f .f32, .f .f32, .f .f32, .sl [.f .f32], .i .i64, .i .i64, .sl [.f .f32], .sl [.f .f32]]⟩ : Shp).hs) : (loopStep (envT Try.prog C40 M19) L_iRunWave_l5 5 (loopC (bodyOf Try.f31) 5) ((⟨[.slw 0 1, .h, .h, .h, .undef, .undef, .undef, .slw 1 1, .h, .h, .h], [.arr [.f .f32] false, .arr [.f .f32] false], [.f .f32, .f .f32, .f .f32, .sl [.f .f32], .i .i64, .i .i64, .sl [.f .f32], .sl [.f .f32]]⟩ : Shp).enc y).1 ((⟨[.slw 0 1, .h, .h, .h, .undef, .undef, .undef, .slw 1 1, .h, .h, .h], [.arr [.f .f32] false, .arr [.f .f32] false], [.f .f32, .f .f32, .f .f32, .sl [.f .f32], .i .i64, .i .i64, .sl [.f .f32], .sl [.f .f32]]⟩ : Shp).enc y).2).to (stepH H_iRunWave_l5 X_iRunWave_l5) = iRunWave_l5_t1 y.1 y.2.1 y.2.2.1 y.2.2.2.1 y.2.2.2.2.1 y.2.2.2.2.2.1 y.2.2.2.2.2.2.1 y.2.2.2.2.2.2.2 := by kernel_rfl

theorem iRunWave_l5_o : ∀ x : (List Nat × Nat × Nat × Nat × List Nat × Int × Int × List Nat) ⊕ (Nat × Nat × Nat × List Nat × Int × Int × List Nat × List Nat), meanH (envT Try.prog C40 M19) L_iRunWave_l5 5 (loopC (bodyOf Try.f31) 5) H_iRunWave_l5 X_iRunWave_l5 x = iRunWave_l5_s x
  | (.inl y) => meanH_of (iRunWave_l5_e0 y)
  | (.inr y) => meanH_of (iRunWave_l5_e1 y)

theorem iRunWave_l5_r (x : SumD (H_iRunWave_l5.map (fun p : XShp => p.2))) : (show Option (SumD (X_iRunWave_l5.map (fun p : XShp => p.2))) from iRunWave_l5 x) = runL (meanH (envT Try.prog C40 M19) L_iRunWave_l5 5 (loopC (bodyOf Try.f31) 5) H_iRunWave_l5 X_iRunWave_l5) x := runH_of (H := H_iRunWave_l5) (X := X_iRunWave_l5) (g := iRunWave_l5_s) iRunWave_l5_o x

theorem iRunWave_l5_k (L : Loops) (hn : L_iRunWave_l5.n = L.n) (hlv : L_iRunWave_l5.lv 5 = L.lv 5) (hL : ∀ vs bs, L.loop 5 vs bs = toldH H_iRunWave_l5 X_iRunWave_l5 (fun x => iRunWave_l5 x) vs bs) : LOk Try.prog (envT Try.prog C40 M19) L 5 (loopC (bodyOf Try.f31) 5) := toldH_ok (L1 := L_iRunWave_l5) (envT_ok (C40_ok) (M19_ok)) mixedO hn hlv (loopFree_ok (by kernel_rfl)) iRunWave_l5_r hL

def A_iRunWave : Shp := ⟨[.h, .h, .h, .h, .h], [], [.sl [.f .f32], .sl [.f .f32], .f .f32, .f .f32, .f .f32]⟩
def R_iRunWave : List XShp := [(.ret, ⟨[.tup [.nils, .nils, .lb false]], [], []⟩), (.ret, ⟨[.tup [.h, .slw 0 1, .lb true]], [.arr [.f .f32] false], [.sl [.f .f32], .sl [.f .f32]]⟩), (.ret, ⟨[.tup [.slw 0 1, .slw 1 1, .lb true]], [.arr [.f .f32] false, .arr [.f .f32] false], [.sl [.f .f32], .sl [.f .f32]]⟩)]

noncomputable def L_iRunWave : Loops := (⟨57, lvT [(5, [0, 2, 3, 4, 10, 11, 12, 13, 31, 32, 33])], mdT [(5, .normal, [], [10, 11, 12]), (5, .exit 0, [], [2, 3, 4, 10, 11, 12, 31, 32, 33]), (5, .ret, [], [0, 2, 3, 4, 13, 31, 32, 33])], fun k vs bs => bif Nat.beq k 5 then toldH H_iRunWave_l5 X_iRunWave_l5 (fun x => iRunWave_l5 x) vs bs else .bad⟩ : Loops)

theorem iRunWave_e (x : DR A_iRunWave.hs) : (evFn (envT Try.prog C40 M19) L_iRunWave Try.f31 (A_iRunWave.enc x).1).to (fun q => decX R_iRunWave .ret [q.1] q.2) = iRunWave_t x.1 x.2.1 x.2.2.1 x.2.2.2.1 x.2.2.2.2 := by kernel_rfl

theorem iRunWave_m (x : DR A_iRunWave.hs) : meanF (envT Try.prog C40 M19) L_iRunWave Try.f31 A_iRunWave R_iRunWave x = (show Option (SumD (R_iRunWave.map (·.2))) from iRunWave x.1 x.2.1 x.2.2.1 x.2.2.2.1 x.2.2.2.2) := meanF_of (iRunWave_e x)

theorem iRunWave_ok : SpecOk Try.prog 31 (evFn (envT Try.prog C40 M19) L_iRunWave Try.f31) := fnL_ok (envT_ok (C40_ok) (M19_ok)) mixedO Try.func31 (by kernel_rfl) (c := bodyOf Try.f31) (by kernel_rfl) (loopsL (l := [(5, loopC (bodyOf Try.f31) 5)]) (by kernel_rfl) (lk_cons (iRunWave_l5_k _ rfl rfl (fun _ _ => rfl)) lk_nil))

theorem iRunWave_told : SpecOk Try.prog 31 (toldO A_iRunWave R_iRunWave (fun x => iRunWave x.1 x.2.1 x.2.2.1 x.2.2.2.1 x.2.2.2.2) (C40 31)) := toldO_ok (by kernel_rfl) iRunWave_ok (rest_ok (C40_ok) _) iRunWave_m

noncomputable def C41 : Tab := tab 31 (toldO A_iRunWave R_iRunWave (fun x => iRunWave x.1 x.2.1 x.2.2.1 x.2.2.2.1 x.2.2.2.2) (C40 31)) C40
theorem C41_ok : TabOk Try.prog C41 := tab_ok (iRunWave_told) (C40_ok)

def S_wb10Total_l3 : Shp := ⟨[.h, .h, .h, .h], [], [.sl [.f .f32], .f .f64, .i .i64, .i .i64]⟩
def X_wb10Total_l3 : List XShp := [(.exit 0, ⟨[.undef, .h, .undef, .undef], [], [.f .f64]⟩)]

noncomputable def L_wb10Total_l3 : Loops := (⟨19, lvT [(3, [0, 3, 6, 7])], mdT [(3, .exit 0, [], [0, 6, 7])], fun k vs bs => .bad⟩ : Loops)

theorem wb10Total_l3_e (y0 : List Nat) (y2 : Int) (s : Nat × Int) : (loopStep (envT Try.prog C41 M19) L_wb10Total_l3 3 (loopC (bodyOf Try.f32) 3) (S_wb10Total_l3.enc (y0, s.1, y2, s.2)).1 (S_wb10Total_l3.enc (y0, s.1, y2, s.2)).2).to (stepD S_wb10Total_l3 X_wb10Total_l3) = (wb10Total_l3_t y0 y2 s.1 s.2).map (Sum.map (fun s : Nat × Int => (show DR S_wb10Total_l3.hs from (y0, s.1, y2, s.2))) id) := by kernel_rfl

theorem wb10Total_l3_r (x : DR S_wb10Total_l3.hs) : (wb10Total_l3 x.1 x.2.1 x.2.2.1 x.2.2.2 : Option (SumD (X_wb10Total_l3.map (·.2)))) = runL (meanS (envT Try.prog C41 M19) L_wb10Total_l3 3 (loopC (bodyOf Try.f32) 3) S_wb10Total_l3 X_wb10Total_l3) x := run_of (fun s : Nat × Int => (show DR S_wb10Total_l3.hs from (x.1, s.1, x.2.2.1, s.2))) (wb10Total_l3_e (x.1) (x.2.2.1)) (x.2.1, x.2.2.2)

theorem wb10Total_l3_k (L : Loops) (hn : L_wb10Total_l3.n = L.n) (hlv : L_wb10Total_l3.lv 3 = L.lv 3) (hL : ∀ vs bs, L.loop 3 vs bs = toldL S_wb10Total_l3 X_wb10Total_l3 (fun x => wb10Total_l3 x.1 x.2.1 x.2.2.1 x.2.2.2) vs bs) : LOk Try.prog (envT Try.prog C41 M19) L 3 (loopC (bodyOf Try.f32) 3) := toldL_ok (L1 := L_wb10Total_l3) (envT_ok (C41_ok) (M19_ok)) mixedO hn hlv (loopFree_ok (by kernel_rfl)) wb10Total_l3_r hL

def A_wb10Total : Shp := ⟨[.h], [], [.sl [.f .f32]]⟩
def R_wb10Total : List XShp := [(.ret, ⟨[.h], [], [.f .f64]⟩)]

noncomputable def L_wb10Total : Loops := (⟨19, lvT [(3, [0, 3, 6, 7])], mdT [(3, .exit 0, [], [0, 6, 7])], fun k vs bs => bif Nat.beq k 3 then toldL S_wb10Total_l3 X_wb10Total_l3 (fun x => wb10Total_l3 x.1 x.2.1 x.2.2.1 x.2.2.2) vs bs else .bad⟩ : Loops)

theorem wb10Total_e (x : DR A_wb10Total.hs) : (evFn (envT Try.prog C41 M19) L_wb10Total Try.f32 (A_wb10Total.enc x).1).to (fun q => decX R_wb10Total .ret [q.1] q.2) = wb10Total_t x := by kernel_rfl

theorem wb10Total_m (x : DR A_wb10Total.hs) : meanF (envT Try.prog C41 M19) L_wb10Total Try.f32 A_wb10Total R_wb10Total x = (show Option (SumD (R_wb10Total.map (·.2))) from wb10Total x) := meanF_of (wb10Total_e x)

theorem wb10Total_ok : SpecOk Try.prog 32 (evFn (envT Try.prog C41 M19) L_wb10Total Try.f32) := fnL_ok (envT_ok (C41_ok) (M19_ok)) mixedO Try.func32 (by kernel_rfl) (c := bodyOf Try.f32) (by kernel_rfl) (loopsL (l := [(3, loopC (bodyOf Try.f32) 3)]) (by kernel_rfl) (lk_cons (wb10Total_l3_k _ rfl rfl (fun _ _ => rfl)) lk_nil))

theorem wb10Total_told : SpecOk Try.prog 32 (toldO A_wb10Total R_wb10Total (fun x => wb10Total x) (C41 32)) := toldO_ok (by kernel_rfl) wb10Total_ok (rest_ok (C41_ok) _) wb10Total_m

noncomputable def C42 : Tab := tab 32 (toldO A_wb10Total R_wb10Total (fun x => wb10Total x) (C41 32)) C41
theorem C42_ok : TabOk Try.prog C42 := tab_ok (wb10Total_told) (C41_ok)

def A_wb10Gap : Shp := ⟨[.h, .h], [], [.f .f64, .f .f64]⟩
def R_wb10Gap : List XShp := [(.ret, ⟨[.h], [], [.f .f64]⟩)]

theorem wb10Gap_e (x : DR A_wb10Gap.hs) : (evFn (envT Try.prog C42 M19) noLoops Try.f16 (A_wb10Gap.enc x).1).to (fun q => decX R_wb10Gap .ret [q.1] q.2) = wb10Gap_t x.1 x.2 := by kernel_rfl

theorem wb10Gap_m (x : DR A_wb10Gap.hs) : meanF (envT Try.prog C42 M19) noLoops Try.f16 A_wb10Gap R_wb10Gap x = some (show SumD (R_wb10Gap.map (·.2)) from wb10Gap x.1 x.2) := @meanF_tot _ _ _ _ _ _ _ (wb10Gap_e x) (show Inhabited (Nat) from inferInstance) (by kernel_rfl)

theorem wb10Gap_ok : SpecOk Try.prog 16 (evFn (envT Try.prog C42 M19) noLoops Try.f16) := fnL_ok (envT_ok (C42_ok) (M19_ok)) mixedO Try.func16 (by kernel_rfl) (c := bodyOf Try.f16) (by kernel_rfl) (loopFree_ok (by kernel_rfl))

theorem wb10Gap_told : SpecOk Try.prog 16 (toldT A_wb10Gap R_wb10Gap (fun x => wb10Gap x.1 x.2) (C42 16)) := toldT_ok (by kernel_rfl) wb10Gap_ok (rest_ok (C42_ok) _) wb10Gap_m

noncomputable def C43 : Tab := tab 16 (toldT A_wb10Gap R_wb10Gap (fun x => wb10Gap x.1 x.2) (C42 16)) C42
theorem C43_ok : TabOk Try.prog C43 := tab_ok (wb10Gap_told) (C42_ok)

def A_ifinite32 : Shp := ⟨[.h], [], [.f .f32]⟩
def R_ifinite32 : List XShp := [(.ret, ⟨[.tup [.h, .h]], [], [.f .f32, .b]⟩)]

theorem ifinite32_e (x : DR A_ifinite32.hs) : (evFn (envT Try.prog C43 M19) noLoops Try.f66 (A_ifinite32.enc x).1).to (fun q => decX R_ifinite32 .ret [q.1] q.2) = ifinite32_t x := by kernel_rfl

theorem ifinite32_m (x : DR A_ifinite32.hs) : meanF (envT Try.prog C43 M19) noLoops Try.f66 A_ifinite32 R_ifinite32 x = some (show SumD (R_ifinite32.map (·.2)) from ifinite32 x) := @meanF_tot _ _ _ _ _ _ _ (ifinite32_e x) (show Inhabited (Nat × Bool) from inferInstance) (by kernel_rfl)

theorem ifinite32_ok : SpecOk Try.prog 66 (evFn (envT Try.prog C43 M19) noLoops Try.f66) := fnL_ok (envT_ok (C43_ok) (M19_ok)) mixedO Try.func66 (by kernel_rfl) (c := bodyOf Try.f66) (by kernel_rfl) (loopFree_ok (by kernel_rfl))

theorem ifinite32_told : SpecOk Try.prog 66 (toldT A_ifinite32 R_ifinite32 (fun x => ifinite32 x) (C43 66)) := toldT_ok (by kernel_rfl) ifinite32_ok (rest_ok (C43_ok) _) ifinite32_m

noncomputable def C44 : Tab := tab 66 (toldT A_ifinite32 R_ifinite32 (fun x => ifinite32 x) (C43 66)) C43
theorem C44_ok : TabOk Try.prog C44 := tab_ok (ifinite32_told) (C43_ok)

def A_iWaveFlow : Shp := ⟨[.h, .h], [], [.f .f32, .f .f32]⟩
def R_iWaveFlow : List XShp := [(.ret, ⟨[.tup [.h, .h]], [], [.f .f32, .b]⟩)]

theorem iWaveFlow_e (x : DR A_iWaveFlow.hs) : (evFn (envT Try.prog C44 M19) noLoops Try.f34 (A_iWaveFlow.enc x).1).to (fun q => decX R_iWaveFlow .ret [q.1] q.2) = iWaveFlow_t x.1 x.2 := by kernel_rfl

theorem iWaveFlow_m (x : DR A_iWaveFlow.hs) : meanF (envT Try.prog C44 M19) noLoops Try.f34 A_iWaveFlow R_iWaveFlow x = some (show SumD (R_iWaveFlow.map (·.2)) from iWaveFlow x.1 x.2) := @meanF_tot _ _ _ _ _ _ _ (iWaveFlow_e x) (show Inhabited (Nat × Bool) from inferInstance) (by kernel_rfl)

theorem iWaveFlow_ok : SpecOk Try.prog 34 (evFn (envT Try.prog C44 M19) noLoops Try.f34) := fnL_ok (envT_ok (C44_ok) (M19_ok)) mixedO Try.func34 (by kernel_rfl) (c := bodyOf Try.f34) (by kernel_rfl) (loopFree_ok (by kernel_rfl))

theorem iWaveFlow_told : SpecOk Try.prog 34 (toldT A_iWaveFlow R_iWaveFlow (fun x => iWaveFlow x.1 x.2) (C44 34)) := toldT_ok (by kernel_rfl) iWaveFlow_ok (rest_ok (C44_ok) _) iWaveFlow_m

noncomputable def C45 : Tab := tab 34 (toldT A_iWaveFlow R_iWaveFlow (fun x => iWaveFlow x.1 x.2) (C44 34)) C44
theorem C45_ok : TabOk Try.prog C45 := tab_ok (iWaveFlow_told) (C44_ok)

def A_sSameNumber : Shp := ⟨[.h, .h], [], [.f .f32, .f .f32]⟩
def R_sSameNumber : List XShp := [(.ret, ⟨[.h], [], [.b]⟩)]

theorem sSameNumber_e (x : DR A_sSameNumber.hs) : (evFn (envT Try.prog C45 M19) noLoops Try.f19 (A_sSameNumber.enc x).1).to (fun q => decX R_sSameNumber .ret [q.1] q.2) = sSameNumber_t x.1 x.2 := by kernel_rfl

theorem sSameNumber_m (x : DR A_sSameNumber.hs) : meanF (envT Try.prog C45 M19) noLoops Try.f19 A_sSameNumber R_sSameNumber x = some (show SumD (R_sSameNumber.map (·.2)) from sSameNumber x.1 x.2) := @meanF_tot _ _ _ _ _ _ _ (sSameNumber_e x) (show Inhabited (Bool) from inferInstance) (by kernel_rfl)

theorem sSameNumber_ok : SpecOk Try.prog 19 (evFn (envT Try.prog C45 M19) noLoops Try.f19) := fnL_ok (envT_ok (C45_ok) (M19_ok)) mixedO Try.func19 (by kernel_rfl) (c := bodyOf Try.f19) (by kernel_rfl) (loopFree_ok (by kernel_rfl))

theorem sSameNumber_told : SpecOk Try.prog 19 (toldT A_sSameNumber R_sSameNumber (fun x => sSameNumber x.1 x.2) (C45 19)) := toldT_ok (by kernel_rfl) sSameNumber_ok (rest_ok (C45_ok) _) sSameNumber_m

noncomputable def C46 : Tab := tab 19 (toldT A_sSameNumber R_sSameNumber (fun x => sSameNumber x.1 x.2) (C45 19)) C45
theorem C46_ok : TabOk Try.prog C46 := tab_ok (sSameNumber_told) (C45_ok)

def S_wb10List_l4 : Shp := ⟨[.h, .h, .undef, .h, .h], [], [.sl [.f .f32], .sl [.f .f32], .i .i64, .i .i64]⟩
def X_wb10List_l4 : List XShp := [(.ret, ⟨[.undef, .undef, .lb false, .undef, .undef], [], []⟩), (.exit 0, ⟨[.undef, .undef, .undef, .undef, .undef], [], []⟩)]

noncomputable def L_wb10List_l4 : Loops := (⟨27, lvT [(4, [0, 1, 4, 12, 13])], mdT [(4, .normal, [], [4]), (4, .exit 0, [], [0, 1, 4, 12, 13]), (4, .ret, [], [0, 1, 12, 13])], fun k vs bs => .bad⟩ : Loops)

theorem wb10List_l4_e (y0 : List Nat) (y1 : List Nat) (y2 : Int) (s : Int) : (loopStep (envT Try.prog C46 M19) L_wb10List_l4 4 (loopC (bodyOf Try.f29) 4) (S_wb10List_l4.enc (y0, y1, y2, s)).1 (S_wb10List_l4.enc (y0, y1, y2, s)).2).to (stepD S_wb10List_l4 X_wb10List_l4) = (wb10List_l4_t y0 y1 y2 s).map (Sum.map (fun s : Int => (show DR S_wb10List_l4.hs from (y0, y1, y2, s))) id) := by kernel_rfl

theorem wb10List_l4_r (x : DR S_wb10List_l4.hs) : (wb10List_l4 x.1 x.2.1 x.2.2.1 x.2.2.2 : Option (SumD (X_wb10List_l4.map (·.2)))) = runL (meanS (envT Try.prog C46 M19) L_wb10List_l4 4 (loopC (bodyOf Try.f29) 4) S_wb10List_l4 X_wb10List_l4) x := run_of (fun s : Int => (show DR S_wb10List_l4.hs from (x.1, x.2.1, x.2.2.1, s))) (wb10List_l4_e (x.1) (x.2.1) (x.2.2.1)) x.2.2.2

theorem wb10List_l4_k (L : Loops) (hn : L_wb10List_l4.n = L.n) (hlv : L_wb10List_l4.lv 4 = L.lv 4) (hL : ∀ vs bs, L.loop 4 vs bs = toldL S_wb10List_l4 X_wb10List_l4 (fun x => wb10List_l4 x.1 x.2.1 x.2.2.1 x.2.2.2) vs bs) : LOk Try.prog (envT Try.prog C46 M19) L 4 (loopC (bodyOf Try.f29) 4) := toldL_ok (L1 := L_wb10List_l4) (envT_ok (C46_ok) (M19_ok)) mixedO hn hlv (loopFree_ok (by kernel_rfl)) wb10List_l4_r hL

def A_wb10List : Shp := ⟨[.h, .h], [], [.sl [.f .f32], .sl [.f .f32]]⟩
def R_wb10List : List XShp := [(.ret, ⟨[.h], [], [.b]⟩)]

noncomputable def L_wb10List : Loops := (⟨27, lvT [(4, [0, 1, 4, 12, 13])], mdT [(4, .normal, [], [4]), (4, .exit 0, [], [0, 1, 4, 12, 13]), (4, .ret, [], [0, 1, 12, 13])], fun k vs bs => bif Nat.beq k 4 then toldL S_wb10List_l4 X_wb10List_l4 (fun x => wb10List_l4 x.1 x.2.1 x.2.2.1 x.2.2.2) vs bs else .bad⟩ : Loops)

theorem wb10List_e (x : DR A_wb10List.hs) : (evFn (envT Try.prog C46 M19) L_wb10List Try.f29 (A_wb10List.enc x).1).to (fun q => decX R_wb10List .ret [q.1] q.2) = wb10List_t x.1 x.2 := by kernel_rfl

theorem wb10List_m (x : DR A_wb10List.hs) : meanF (envT Try.prog C46 M19) L_wb10List Try.f29 A_wb10List R_wb10List x = (show Option (SumD (R_wb10List.map (·.2))) from wb10List x.1 x.2) := meanF_of (wb10List_e x)

theorem wb10List_ok : SpecOk Try.prog 29 (evFn (envT Try.prog C46 M19) L_wb10List Try.f29) := fnL_ok (envT_ok (C46_ok) (M19_ok)) mixedO Try.func29 (by kernel_rfl) (c := bodyOf Try.f29) (by kernel_rfl) (loopsL (l := [(4, loopC (bodyOf Try.f29) 4)]) (by kernel_rfl) (lk_cons (wb10List_l4_k _ rfl rfl (fun _ _ => rfl)) lk_nil))

theorem wb10List_told : SpecOk Try.prog 29 (toldO A_wb10List R_wb10List (fun x => wb10List x.1 x.2) (C46 29)) := toldO_ok (by kernel_rfl) wb10List_ok (rest_ok (C46_ok) _) wb10List_m

noncomputable def C47 : Tab := tab 29 (toldO A_wb10List R_wb10List (fun x => wb10List x.1 x.2) (C46 29)) C46
theorem C47_ok : TabOk Try.prog C47 := tab_ok (wb10List_told) (C46_ok)

def H_wFnSlopes_l15 : List XShp := [(.normal, ⟨[.undef, .slw 0 1, .slw 1 1, .h, .slw 2 1, .slw 0 1, .h, .h], [.arr [.f .f32] true, .arr [.f .f32] true, .arr [.f .f32] false], [.sl [.f .f32], .i .i64, .i .i64, .sl [.f .f32], .sl [.f .f32], .sl [.f .f32]]⟩), (.normal, ⟨[.undef, .slw 0 1, .slw 1 1, .slw 2 1, .slw 3 1, .slw 0 1, .h, .h], [.arr [.f .f32] false, .arr [.f .f32] false, .arr [.f .f32] false, .arr [.f .f32] false], [.i .i64, .i .i64, .sl [.f .f32], .sl [.f .f32], .sl [.f .f32], .sl [.f .f32]]⟩), (.normal, ⟨[.undef, .slw 0 1, .slw 1 1, .h, .slw 2 1, .slw 3 1, .h, .h], [.arr [.f .f32] true, .arr [.f .f32] true, .arr [.f .f32] false, .arr [.f .f32] false], [.sl [.f .f32], .i .i64, .i .i64, .sl [.f .f32], .sl [.f .f32], .sl [.f .f32], .sl [.f .f32]]⟩), (.normal, ⟨[.undef, .slw 0 1, .slw 1 1, .slw 2 1, .slw 3 1, .slw 4 1, .h, .h], [.arr [.f .f32] false, .arr [.f .f32] false, .arr [.f .f32] false, .arr [.f .f32] false, .arr [.f .f32] false], [.i .i64, .i .i64, .sl [.f .f32], .sl [.f .f32], .sl [.f .f32], .sl [.f .f32], .sl [.f .f32]]⟩)]
def X_wFnSlopes_l15 : List XShp := [(.ret, ⟨[.lb false, .undef, .undef, .undef, .undef, .undef, .undef, .undef], [], []⟩), (.exit 0, ⟨[.undef, .undef, .undef, .h, .undef, .slw 0 1, .undef, .undef], [.arr [.f .f32] true], [.sl [.f .f32], .sl [.f .f32]]⟩), (.exit 0, ⟨[.undef, .undef, .undef, .slw 0 1, .undef, .slw 1 1, .undef, .undef], [.arr [.f .f32] false, .arr [.f .f32] false], [.sl [.f .f32], .sl [.f .f32]]⟩), (.exit 0, ⟨[.undef, .undef, .undef, .h, .undef, .slw 0 1, .undef, .undef], [.arr [.f .f32] false], [.sl [.f .f32], .sl [.f .f32]]⟩)]

noncomputable def L_wFnSlopes_l15 : Loops := (⟨154, lvT [(15, [4, 5, 6, 10, 11, 13, 87, 88])], mdT [(15, .normal, [], [4]), (15, .exit 0, [], [4, 5, 6, 11, 87, 88]), (15, .ret, [], [5, 6, 10, 11, 13, 87, 88])], fun k vs bs => .bad⟩ : Loops)

theorem wFnSlopes_l15_e0 (y : DR (⟨[.undef, .slw 0 1, .slw 1 1, .h, .slw 2 1, .slw 0 1, .h, .h], [.arr [.f .f32] true, .arr [.f .f32] true, .arr [.f .f32] false], [.sl [.f .f32], .i .i64, .i .i64, .sl [.f .f32], .sl [.f .f32], .sl [.f .f32]]⟩ : Shp).hs) : (loopStep (envT Try.prog C47 M19) L_wFnSlopes_l15 15 (loopC (bodyOf Try.f6) 15) ((⟨[.undef, .slw 0 1, .slw 1 1, .h, .slw 2 1, .slw 0 1, .h, .h], [.arr [.f .f32] true, .arr [.f .f32] true, .arr [.f .f32] false], [.sl [.f .f32], .i .i64, .i .i64, .sl [.f .f32], .sl [.f .f32], .sl [.f .f32]]⟩ : Shp).enc y).1 ((⟨[.undef, .slw 0 1, .slw 1 1, .h, .slw 2 1, .slw 0 1, .h, .h], [.arr [.f .f32] true, .arr [.f .f32] true, .arr [.f .f32] false], [.sl [.f .f32], .i .i64, .i .i64, .sl [.f .f32], .sl [.f .f32], .sl [.f .f32]]⟩ : Shp).enc y).2).to (stepH H_wFnSlopes_l15 X_wFnSlopes_l15) = wFnSlopes_l15_t0 y.1 y.2.1 y.2.2.1 y.2.2.2.1 y.2.2.2.2.1 y.2.2.2.2.2 := by kernel_rfl

theorem wFnSlopes_l15_e1 (y : DR (⟨[.undef, .slw 0 1, .slw 1 1, .slw 2 1, .slw 3 1, .slw 0 1, .h, .h], [.arr [.f .f32] false, .arr [.f .f32] false, .arr [.f .f32] false, .arr [.f .f32] false], [.i .i64, .i .i64, .sl [.f .f32], .sl [.f .f32], .sl [.f .f32], .sl [.f .f32]]⟩ : Shp).hs) : (loopStep (envT Try.prog C47 M19) L_wFnSlopes_l15 15 (loopC (bodyOf Try.f6) 15) ((⟨[.undef, .slw 0 1, .slw 1 1, .slw 2 1, .slw 3 1, .slw 0 1, .h, .h], [.arr [.f .f32] false, .arr [.f .f32] false, .arr [.f .f32] false, .arr [.f .f32] false], [.i .i64, .i .i64, .sl [.f .f32], .sl [.f .f32], .sl [.f .f32], .sl [.f .f32]]⟩ : Shp).enc y).1 ((⟨[.undef, .slw 0 1, .slw 1 1, .slw 2 1, .slw 3 1, .slw 0 1, .h, .h], [.arr [.f .f32] false, .arr [.f .f32] false, .arr [.f .f32] false, .arr [.f .f32] false], [.i .i64, .i .i64, .sl [.f .f32], .sl [.f .f32], .sl [.f .f32], .sl [.f .f32]]⟩ : Shp).enc y).2).to (stepH H_wFnSlopes_l15 X_wFnSlopes_l15) = wFnSlopes_l15_t1 y.1 y.2.1 y.2.2.1 y.2.2.2.1 y.2.2.2.2.1 y.2.2.2.2.2 := by kernel_rfl

theorem wFnSlopes_l15_e2 (y : DR (⟨[.undef, .slw 0 1, .slw 1 1, .h, .slw 2 1, .slw 3 1, .h, .h], [.arr [.f .f32] true, .arr [.f .f32] true, .arr [.f .f32] false, .arr [.f .f32] false], [.sl [.f .f32], .i .i64, .i .i64, .sl [.f .f32], .sl [.f .f32], .sl [.f .f32], .sl [.f .f32]]⟩ : Shp).hs) : (loopStep (envT Try.prog C47 M19) L_wFnSlopes_l15 15 (loopC (bodyOf Try.f6) 15) ((⟨[.undef, .slw 0 1, .slw 1 1, .h, .slw 2 1, .slw 3 1, .h, .h], [.arr [.f .f32] true, .arr [.f .f32] true, .arr [.f .f32] false, .arr [.f .f32] false], [.sl [.f .f32], .i .i64, .i .i64, .sl [.f .f32], .sl [.f .f32], .sl [.f .f32], .sl [.f .f32]]⟩ : Shp).enc y).1 ((⟨[.undef, .slw 0 1, .slw 1 1, .h, .slw 2 1, .slw 3 1, .h, .h], [.arr [.f .f32] true, .arr [.f .f32] true, .arr [.f .f32] false, .arr [.f .f32] false], [.sl [.f .f32], .i .i64, .i .i64, .sl [.f .f32], .sl [.f .f32], .sl [.f .f32], .sl [.f .f32]]⟩ : Shp).enc y).2).to (stepH H_wFnSlopes_l15 X_wFnSlopes_l15) = wFnSlopes_l15_t2 y.1 y.2.1 y.2.2.1 y.2.2.2.1 y.2.2.2.2.1 y.2.2.2.2.2.1 y.2.2.2.2.2.2 := by kernel_rfl

theorem wFnSlopes_l15_e3 (y : DR (⟨[.undef, .slw 0 1, .slw 1 1, .slw 2 1, .slw 3 1, .slw 4 1, .h, .h], [.arr [.f .f32] false, .arr [.f .f32] false, .arr [.f .f32] false, .arr [.f .f32] false, .arr [.f .f32] false], [.i .i64, .i .i64, .sl [.f .f32], .sl [.f .f32], .sl [.f .f32], .sl [.f .f32], .sl [.f .f32]]⟩ : Shp).hs) : (loopStep (envT Try.prog C47 M19) L_wFnSlopes_l15 15 (loopC (bodyOf Try.f6) 15) ((⟨[.undef, .slw 0 1, .slw 1 1, .slw 2 1, .slw 3 1, .slw 4 1, .h, .h], [.arr [.f .f32] false, .arr [.f .f32] false, .arr [.f .f32] false, .arr [.f .f32] false, .arr [.f .f32] false], [.i .i64, .i .i64, .sl [.f .f32], .sl [.f .f32], .sl [.f .f32], .sl [.f .f32], .sl [.f .f32]]⟩ : Shp).enc y).1 ((⟨[.undef, .slw 0 1, .slw 1 1, .slw 2 1, .slw 3 1, .slw 4 1, .h, .h], [.arr [.f .f32] false, .arr [.f .f32] false, .arr [.f .f32] false, .arr [.f .f32] false, .arr [.f .f32] false], [.i .i64, .i .i64, .sl [.f .f32], .sl [.f .f32], .sl [.f .f32], .sl [.f .f32], .sl [.f .f32]]⟩ : Shp).enc y).2).to (stepH H_wFnSlopes_l15 X_wFnSlopes_l15) = wFnSlopes_l15_t3 y.1 y.2.1 y.2.2.1 y.2.2.2.1 y.2.2.2.2.1 y.2.2.2.2.2.1 y.2.2.2.2.2.2 := by kernel_rfl

theorem wFnSlopes_l15_o : ∀ x : (List Nat × Int × Int × List Nat × List Nat × List Nat) ⊕ (Int × Int × List Nat × List Nat × List Nat × List Nat) ⊕ (List Nat × Int × Int × List Nat × List Nat × List Nat × List Nat) ⊕ (Int × Int × List Nat × List Nat × List Nat × List Nat × List Nat), meanH (envT Try.prog C47 M19) L_wFnSlopes_l15 15 (loopC (bodyOf Try.f6) 15) H_wFnSlopes_l15 X_wFnSlopes_l15 x = wFnSlopes_l15_s x
  | (.inl y) => meanH_of (wFnSlopes_l15_e0 y)
  | (.inr (.inl y)) => meanH_of (wFnSlopes_l15_e1 y)
  | (.inr (.inr (.inl y))) => meanH_of (wFnSlopes_l15_e2 y)
  | (.inr (.inr (.inr y))) => meanH_of (wFnSlopes_l15_e3 y)

theorem wFnSlopes_l15_r (x : SumD (H_wFnSlopes_l15.map (fun p : XShp => p.2))) : (show Option (SumD (X_wFnSlopes_l15.map (fun p : XShp => p.2))) from wFnSlopes_l15 x) = runL (meanH (envT Try.prog C47 M19) L_wFnSlopes_l15 15 (loopC (bodyOf Try.f6) 15) H_wFnSlopes_l15 X_wFnSlopes_l15) x := runH_of (H := H_wFnSlopes_l15) (X := X_wFnSlopes_l15) (g := wFnSlopes_l15_s) wFnSlopes_l15_o x

theorem wFnSlopes_l15_k (L : Loops) (hn : L_wFnSlopes_l15.n = L.n) (hlv : L_wFnSlopes_l15.lv 15 = L.lv 15) (hL : ∀ vs bs, L.loop 15 vs bs = toldH H_wFnSlopes_l15 X_wFnSlopes_l15 (fun x => wFnSlopes_l15 x) vs bs) : LOk Try.prog (envT Try.prog C47 M19) L 15 (loopC (bodyOf Try.f6) 15) := toldH_ok (L1 := L_wFnSlopes_l15) (envT_ok (C47_ok) (M19_ok)) mixedO hn hlv (loopFree_ok (by kernel_rfl)) wFnSlopes_l15_r hL

def A_wFnSlopes : Shp := ⟨[.h, .h], [], [.sl [.i .u8], .sl [.i .u8]]⟩
def R_wFnSlopes : List XShp := [(.ret, ⟨[.h], [], [.b]⟩)]

noncomputable def L_wFnSlopes : Loops := (⟨154, lvT [(15, [4, 5, 6, 10, 11, 13, 87, 88])], mdT [(15, .normal, [], [4]), (15, .exit 0, [], [4, 5, 6, 11, 87, 88]), (15, .ret, [], [5, 6, 10, 11, 13, 87, 88])], fun k vs bs => bif Nat.beq k 15 then toldH H_wFnSlopes_l15 X_wFnSlopes_l15 (fun x => wFnSlopes_l15 x) vs bs else .bad⟩ : Loops)

theorem wFnSlopes_e (x : DR A_wFnSlopes.hs) : (evFn (envT Try.prog C47 M19) L_wFnSlopes Try.f6 (A_wFnSlopes.enc x).1).to (fun q => decX R_wFnSlopes .ret [q.1] q.2) = wFnSlopes_t x.1 x.2 := by kernel_rfl

theorem wFnSlopes_m (x : DR A_wFnSlopes.hs) : meanF (envT Try.prog C47 M19) L_wFnSlopes Try.f6 A_wFnSlopes R_wFnSlopes x = (show Option (SumD (R_wFnSlopes.map (·.2))) from wFnSlopes x.1 x.2) := meanF_of (wFnSlopes_e x)

theorem wFnSlopes_ok : SpecOk Try.prog 6 (evFn (envT Try.prog C47 M19) L_wFnSlopes Try.f6) := fnL_ok (envT_ok (C47_ok) (M19_ok)) mixedO Try.func6 (by kernel_rfl) (c := bodyOf Try.f6) (by kernel_rfl) (loopsL (l := [(15, loopC (bodyOf Try.f6) 15)]) (by kernel_rfl) (lk_cons (wFnSlopes_l15_k _ rfl rfl (fun _ _ => rfl)) lk_nil))

theorem wFnSlopes_told : SpecOk Try.prog 6 (toldO A_wFnSlopes R_wFnSlopes (fun x => wFnSlopes x.1 x.2) (C47 6)) := toldO_ok (by kernel_rfl) wFnSlopes_ok (rest_ok (C47_ok) _) wFnSlopes_m

noncomputable def C48 : Tab := tab 6 (toldO A_wFnSlopes R_wFnSlopes (fun x => wFnSlopes x.1 x.2) (C47 6)) C47
theorem C48_ok : TabOk Try.prog C48 := tab_ok (wFnSlopes_told) (C47_ok)

theorem lawFnSlopes_ok : SpecOk Try.prog 6 (evFn (envT Try.prog C47 M19) L_wFnSlopes Try.f6) := wFnSlopes_ok
theorem lawFnSlopes_says (x : DR A_wFnSlopes.hs) (h : (show Option (SumD (R_wFnSlopes.map (·.2))) from wFnSlopes x.1 x.2) = some true) : saysTrue (evFn (envT Try.prog C47 M19) L_wFnSlopes Try.f6 (A_wFnSlopes.enc x).1) = true := law_says (x := x) ((wFnSlopes_m x).trans h)

theorem lawFnSlopes_true (x0 : List Int) (x1 : List Int) (h : wFnSlopes x0 x1 = some true) : saysTrue (evFn (envT Try.prog C47 M19) L_wFnSlopes Try.f6 [.ds [.i .u8] x0, .ds [.i .u8] x1]) = true := (congrArg (fun l => saysTrue (evFn (envT Try.prog C47 M19) L_wFnSlopes Try.f6 l)) (by kernel_rfl : ([.ds [.i .u8] x0, .ds [.i .u8] x1] : List V) = (A_wFnSlopes.enc (x0, x1)).1)).trans (lawFnSlopes_says (x0, x1) h)
end Go.Proofs.Ytpglfnkkmafhbaa
