/- Functions, as plain functions. What the program comes to. -/
import Derived.Test.YtpglfnkkmafhbaaHd1d
import Derived.Test.YtpglfnkkmafhbaaDc
import Derived.Test.YtpglfnkkmafhbaaNv
import Derived.KernelRfl
set_option linter.unusedVariables false
set_option linter.unusedSimpArgs false
set_option linter.constructorNameAsVariable false
namespace Go.Proofs.Ytpglfnkkmafhbaa
open Go.RowKit
set_option maxRecDepth 100000
theorem mixedO : (Try.prog).follows .mixedOrders = true := by kernel_rfl
noncomputable def C0 : Tab := tab 113 (spFB .f32 (isFin .f32)) tab0
theorem C0_ok : TabOk Try.prog C0 := tab_ok (spFB_ok Try.func113 (by kernel_rfl) (fun hx => l01Finite_c hx)) (tab0_ok _)

noncomputable def C1 : Tab := tab 65 (spFB .f32 (isFin .f32)) C0
theorem C1_ok : TabOk Try.prog C1 := tab_ok (spFB_ok Try.func65 (by kernel_rfl) (fun hx => IsFinite_c hx)) (C0_ok)

noncomputable def C2 : Tab := tab 111 (spFB .f32 isLen) C1
theorem C2_ok : TabOk Try.prog C2 := tab_ok (spFB_ok Try.func111 (by kernel_rfl) (fun hx => l02Above_c hx)) (C1_ok)

noncomputable def C3 : Tab := tab 70 (spFB .f32 isLen) C2
theorem C3_ok : TabOk Try.prog C3 := tab_ok (spFB_ok Try.func70 (by kernel_rfl) (fun hx => aLength_c hx)) (C2_ok)

noncomputable def C4 : Tab := tab 83 (spFB .f32 isMass) C3
theorem C4_ok : TabOk Try.prog C4 := tab_ok (spFB_ok Try.func83 (by kernel_rfl) (fun hx => l02Least_c hx)) (C3_ok)

noncomputable def C5 : Tab := tab 86 (spFB .f32 isMass) C4
theorem C5_ok : TabOk Try.prog C5 := tab_ok (spFB_ok Try.func86 (by kernel_rfl) (fun hx => aMass_c hx)) (C4_ok)

noncomputable def C6 : Tab := tab 114 (spFF .f32 .f32 froot) C5
theorem C6_ok : TabOk Try.prog C6 := tab_ok (spFF_ok Try.func114 (by kernel_rfl) (fun hx => l01Sqrt_c hx)) (C5_ok)

noncomputable def C7 : Tab := tab 87 (spFF .f32 .f32 froot) C6
theorem C7_ok : TabOk Try.prog C7 := tab_ok (spFF_ok Try.func87 (by kernel_rfl) (fun hx => RootNumber_c hx)) (C6_ok)

noncomputable def C8 : Tab := tab 76 (spFFtoB .f32 natEq) C7
theorem C8_ok : TabOk Try.prog C8 := tab_ok (spFFtoB_ok Try.func76 (by kernel_rfl) (fun hx hy => l01Same_c hx hy)) (C7_ok)

noncomputable def C9 : Tab := tab 106 (spFFtoB .f32 natEq) C8
theorem C9_ok : TabOk Try.prog C9 := tab_ok (spFFtoB_ok Try.func106 (by kernel_rfl) (fun hx hy => SameNumber_c hx hy)) (C8_ok)

noncomputable def C10 : Tab := tab 100 (spFB .f64 (isFin .f64)) C9
theorem C10_ok : TabOk Try.prog C10 := tab_ok (spFB_ok Try.func100 (by kernel_rfl) (fun hx => finite_c hx)) (C9_ok)

noncomputable def C11 : Tab := tab 124 (spFB .f64 (isN .f64)) C10
theorem C11_ok : TabOk Try.prog C11 := tab_ok (spFB_ok Try.func124 (by kernel_rfl) (fun hx => isNaN_c hx)) (C10_ok)

noncomputable def C12 : Tab := tab 123 (spFF .f64 .f64 (fabs .f64)) C11
theorem C12_ok : TabOk Try.prog C12 := tab_ok (spFF_ok Try.func123 (by kernel_rfl) (fun hx => abs_c hx)) (C11_ok)

noncomputable def C13 : Tab := tab 116 (spFF .f64 .f64 (fsqrt .f64)) C12
theorem C13_ok : TabOk Try.prog C13 := tab_ok (spFF_ok Try.func116 (by kernel_rfl) (fun hx => Sqrt_c hx)) (C12_ok)

noncomputable def C14 : Tab := tab 131 (spFrom) C13
theorem C14_ok : TabOk Try.prog C14 := tab_ok ((spFrom_ok (fun n w => ext_from64 n w))) (C13_ok)

def A_wb10Long : Shp := ⟨[.h, .h], [], [.sl [.i .u8], .sl [.i .u8]]⟩
def R_wb10Long : List XShp := [(.ret, ⟨[.h], [], [.b]⟩)]

theorem wb10Long_e (x : DR A_wb10Long.hs) : (evFn (envT Try.prog C14 mtab0) noLoops Try.f9 (A_wb10Long.enc x).1).to (fun q => decX R_wb10Long .ret [q.1] q.2) = wb10Long_t x.1 x.2 := by kernel_rfl

theorem wb10Long_m (x : DR A_wb10Long.hs) : meanF (envT Try.prog C14 mtab0) noLoops Try.f9 A_wb10Long R_wb10Long x = some (show SumD (R_wb10Long.map (·.2)) from wb10Long x.1 x.2) := @meanF_tot _ _ _ _ _ _ _ (wb10Long_e x) (show Inhabited (Bool) from inferInstance) (by kernel_rfl)

theorem wb10Long_ok : SpecOk Try.prog 9 (evFn (envT Try.prog C14 mtab0) noLoops Try.f9) := fnL_ok (envT_ok (C14_ok) (mtab0_ok _)) mixedO Try.func9 (by kernel_rfl) (c := bodyOf Try.f9) (by kernel_rfl) (loopFree_ok (by kernel_rfl))

theorem wb10Long_told : SpecOk Try.prog 9 (toldT A_wb10Long R_wb10Long (fun x => wb10Long x.1 x.2) (C14 9)) := toldT_ok (by kernel_rfl) wb10Long_ok (rest_ok (C14_ok) _) wb10Long_m

noncomputable def C15 : Tab := tab 9 (toldT A_wb10Long R_wb10Long (fun x => wb10Long x.1 x.2) (C14 9)) C14
theorem C15_ok : TabOk Try.prog C15 := tab_ok (wb10Long_told) (C14_ok)

def A_sl00From : Shp := ⟨[.h], [], [.sl [.i .u8]]⟩
def R_sl00From : List XShp := [(.ret, ⟨[.ref 0 0], [.cells [.h, .h, .h] false], [.sl [.i .u8], .i .i64, .i .u64]⟩)]

theorem sl00From_e (x : DR A_sl00From.hs) : (evFn (envT Try.prog C15 mtab0) noLoops Try.f63 (A_sl00From.enc x).1).to (fun q => decX R_sl00From .ret [q.1] q.2) = sl00From_t x := by kernel_rfl

theorem sl00From_m (x : DR A_sl00From.hs) : meanF (envT Try.prog C15 mtab0) noLoops Try.f63 A_sl00From R_sl00From x = some (show SumD (R_sl00From.map (·.2)) from sl00From x) := @meanF_tot _ _ _ _ _ _ _ (sl00From_e x) (show Inhabited (List Int × Int × Int) from inferInstance) (by kernel_rfl)

theorem sl00From_ok : SpecOk Try.prog 63 (evFn (envT Try.prog C15 mtab0) noLoops Try.f63) := fnL_ok (envT_ok (C15_ok) (mtab0_ok _)) mixedO Try.func63 (by kernel_rfl) (c := bodyOf Try.f63) (by kernel_rfl) (loopFree_ok (by kernel_rfl))

theorem sl00From_told : SpecOk Try.prog 63 (toldT A_sl00From R_sl00From (fun x => sl00From x) (C15 63)) := toldT_ok (by kernel_rfl) sl00From_ok (rest_ok (C15_ok) _) sl00From_m

noncomputable def C16 : Tab := tab 63 (toldT A_sl00From R_sl00From (fun x => sl00From x) (C15 63)) C15
theorem C16_ok : TabOk Try.prog C16 := tab_ok (sl00From_told) (C15_ok)

def A_sl00Src_next : Shp := ⟨[.ref 0 0], [.cells [.h, .h, .h] false], [.sl [.i .u8], .i .i64, .i .u64]⟩
def R_sl00Src_next : List XShp := [(.ret, ⟨[.h], [.cells [.h, .h, .h] false], [.i .i64, .sl [.i .u8], .i .i64, .i .u64]⟩)]

theorem sl00Src_next_e (x : DR A_sl00Src_next.hs) : (evFnM (envW Try.prog C16 mtab0 1) noLoops Try.f99 (A_sl00Src_next.enc x).1 ((A_sl00Src_next.enc x).2.map (·.blk))).to (decM R_sl00Src_next) = sl00Src_next_t x.1 x.2.1 x.2.2 := by kernel_rfl

theorem sl00Src_next_m (x : DR A_sl00Src_next.hs) : meanM (envW Try.prog C16 mtab0 1) noLoops Try.f99 A_sl00Src_next R_sl00Src_next x = (show Option (SumD (R_sl00Src_next.map (·.2))) from sl00Src_next x.1 x.2.1 x.2.2) := meanM_of (sl00Src_next_e x)

theorem sl00Src_next_ok : MSpecOk Try.prog 99 (evFnM (envW Try.prog C16 mtab0 1) noLoops Try.f99) := fnM_ok (envW_ok (C16_ok) (mtab0_ok _)) rfl mixedO Try.func99 (by kernel_rfl) (c := bodyOf Try.f99) (by kernel_rfl) (loopFree_ok (by kernel_rfl))

theorem sl00Src_next_told : MSpecOk Try.prog 99 (toldMO A_sl00Src_next R_sl00Src_next (fun x => sl00Src_next x.1 x.2.1 x.2.2) (mrest mtab0 99)) := toldMO_ok (by kernel_rfl) sl00Src_next_ok (mrest_ok (mtab0_ok _) _) sl00Src_next_m

noncomputable def M17 : MTab := mtab 99 (toldMO A_sl00Src_next R_sl00Src_next (fun x => sl00Src_next x.1 x.2.1 x.2.2) (mrest mtab0 99)) mtab0
theorem M17_ok : MTabOk Try.prog M17 := mtab_ok (sl00Src_next_told) (mtab0_ok _)

def A_sl00Src_pick : Shp := ⟨[.ref 0 0, .h], [.cells [.h, .h, .h] false], [.i .i64, .sl [.i .u8], .i .i64, .i .u64]⟩
def R_sl00Src_pick : List XShp := [(.ret, ⟨[.h], [.cells [.h, .h, .h] false], [.i .i64, .sl [.i .u8], .i .i64, .i .u64]⟩)]

theorem sl00Src_pick_e (x : DR A_sl00Src_pick.hs) : (evFnM (envW Try.prog C16 M17 1) noLoops Try.f64 (A_sl00Src_pick.enc x).1 ((A_sl00Src_pick.enc x).2.map (·.blk))).to (decM R_sl00Src_pick) = sl00Src_pick_t x.1 x.2.1 x.2.2.1 x.2.2.2 := by kernel_rfl

theorem sl00Src_pick_m (x : DR A_sl00Src_pick.hs) : meanM (envW Try.prog C16 M17 1) noLoops Try.f64 A_sl00Src_pick R_sl00Src_pick x = (show Option (SumD (R_sl00Src_pick.map (·.2))) from sl00Src_pick x.1 x.2.1 x.2.2.1 x.2.2.2) := meanM_of (sl00Src_pick_e x)

theorem sl00Src_pick_ok : MSpecOk Try.prog 64 (evFnM (envW Try.prog C16 M17 1) noLoops Try.f64) := fnM_ok (envW_ok (C16_ok) (M17_ok)) rfl mixedO Try.func64 (by kernel_rfl) (c := bodyOf Try.f64) (by kernel_rfl) (loopFree_ok (by kernel_rfl))

theorem sl00Src_pick_told : MSpecOk Try.prog 64 (toldMO A_sl00Src_pick R_sl00Src_pick (fun x => sl00Src_pick x.1 x.2.1 x.2.2.1 x.2.2.2) (mrest M17 64)) := toldMO_ok (by kernel_rfl) sl00Src_pick_ok (mrest_ok (M17_ok) _) sl00Src_pick_m

noncomputable def M18 : MTab := mtab 64 (toldMO A_sl00Src_pick R_sl00Src_pick (fun x => sl00Src_pick x.1 x.2.1 x.2.2.1 x.2.2.2) (mrest M17 64)) M17
theorem M18_ok : MTabOk Try.prog M18 := mtab_ok (sl00Src_pick_told) (M17_ok)

def S_sB10Reaches_l4 : Shp := ⟨[.ref 0 0, .slw 1 2, .h], [.cells [.h, .h, .h] false, .arr [.f .f32, .f .f32] false], [.i .i64, .sl [.i .u8], .i .i64, .i .u64, .sl [.f .f32, .f .f32]]⟩
def X_sB10Reaches_l4 : List XShp := [(.exit 0, ⟨[.undef, .slw 0 2, .undef], [.arr [.f .f32, .f .f32] false], [.sl [.f .f32, .f .f32]]⟩)]

noncomputable def L_sB10Reaches_l4 : Loops := (⟨33, lvT [(4, [3, 4, 5])], mdT [(4, .exit 0, [], [3, 5])], fun k vs bs => .bad⟩ : Loops)

theorem sB10Reaches_l4_e (s : Int × List Int × Int × Int × (List (Nat × Nat))) : (loopStep (envT Try.prog C16 M18) L_sB10Reaches_l4 4 (loopC (bodyOf Try.f22) 4) (S_sB10Reaches_l4.enc (s.1, s.2.1, s.2.2.1, s.2.2.2.1, s.2.2.2.2)).1 (S_sB10Reaches_l4.enc (s.1, s.2.1, s.2.2.1, s.2.2.2.1, s.2.2.2.2)).2).to (stepD S_sB10Reaches_l4 X_sB10Reaches_l4) = (sB10Reaches_l4_t  s.1 s.2.1 s.2.2.1 s.2.2.2.1 s.2.2.2.2).map (Sum.map (fun s : Int × List Int × Int × Int × (List (Nat × Nat)) => (show DR S_sB10Reaches_l4.hs from (s.1, s.2.1, s.2.2.1, s.2.2.2.1, s.2.2.2.2))) id) := by kernel_rfl

theorem sB10Reaches_l4_r (x : DR S_sB10Reaches_l4.hs) : (sB10Reaches_l4 x.1 x.2.1 x.2.2.1 x.2.2.2.1 x.2.2.2.2 : Option (SumD (X_sB10Reaches_l4.map (·.2)))) = runL (meanS (envT Try.prog C16 M18) L_sB10Reaches_l4 4 (loopC (bodyOf Try.f22) 4) S_sB10Reaches_l4 X_sB10Reaches_l4) x := run_of (fun s : Int × List Int × Int × Int × (List (Nat × Nat)) => (show DR S_sB10Reaches_l4.hs from (s.1, s.2.1, s.2.2.1, s.2.2.2.1, s.2.2.2.2))) (sB10Reaches_l4_e ) (x.1, x.2.1, x.2.2.1, x.2.2.2.1, x.2.2.2.2)

theorem sB10Reaches_l4_k (L : Loops) (hn : L_sB10Reaches_l4.n = L.n) (hlv : L_sB10Reaches_l4.lv 4 = L.lv 4) (hL : ∀ vs bs, L.loop 4 vs bs = toldL S_sB10Reaches_l4 X_sB10Reaches_l4 (fun x => sB10Reaches_l4 x.1 x.2.1 x.2.2.1 x.2.2.2.1 x.2.2.2.2) vs bs) : LOk Try.prog (envT Try.prog C16 M18) L 4 (loopC (bodyOf Try.f22) 4) := toldL_ok (L1 := L_sB10Reaches_l4) (envT_ok (C16_ok) (M18_ok)) mixedO hn hlv (loopFree_ok (by kernel_rfl)) sB10Reaches_l4_r hL

def A_sB10Reaches : Shp := ⟨[.h], [], [.sl [.i .u8]]⟩
def R_sB10Reaches : List XShp := [(.ret, ⟨[.slw 0 2], [.arr [.f .f32, .f .f32] false], [.sl [.f .f32, .f .f32]]⟩)]

noncomputable def L_sB10Reaches : Loops := (⟨33, lvT [(4, [3, 4, 5])], mdT [(4, .exit 0, [], [3, 5])], fun k vs bs => bif Nat.beq k 4 then toldL S_sB10Reaches_l4 X_sB10Reaches_l4 (fun x => sB10Reaches_l4 x.1 x.2.1 x.2.2.1 x.2.2.2.1 x.2.2.2.2) vs bs else .bad⟩ : Loops)

theorem sB10Reaches_e (x : DR A_sB10Reaches.hs) : (evFn (envT Try.prog C16 M18) L_sB10Reaches Try.f22 (A_sB10Reaches.enc x).1).to (fun q => decX R_sB10Reaches .ret [q.1] q.2) = sB10Reaches_t x := by kernel_rfl

theorem sB10Reaches_m (x : DR A_sB10Reaches.hs) : meanF (envT Try.prog C16 M18) L_sB10Reaches Try.f22 A_sB10Reaches R_sB10Reaches x = (show Option (SumD (R_sB10Reaches.map (·.2))) from sB10Reaches x) := meanF_of (sB10Reaches_e x)

theorem sB10Reaches_ok : SpecOk Try.prog 22 (evFn (envT Try.prog C16 M18) L_sB10Reaches Try.f22) := fnL_ok (envT_ok (C16_ok) (M18_ok)) mixedO Try.func22 (by kernel_rfl) (c := bodyOf Try.f22) (by kernel_rfl) (loopsL (l := [(4, loopC (bodyOf Try.f22) 4)]) (by kernel_rfl) (lk_cons (sB10Reaches_l4_k _ rfl rfl (fun _ _ => rfl)) lk_nil))

theorem sB10Reaches_told : SpecOk Try.prog 22 (toldO A_sB10Reaches R_sB10Reaches (fun x => sB10Reaches x) (C16 22)) := toldO_ok (by kernel_rfl) sB10Reaches_ok (rest_ok (C16_ok) _) sB10Reaches_m

noncomputable def C19 : Tab := tab 22 (toldO A_sB10Reaches R_sB10Reaches (fun x => sB10Reaches x) (C16 22)) C16
theorem C19_ok : TabOk Try.prog C19 := tab_ok (sB10Reaches_told) (C16_ok)

def A_wb10At : Shp := ⟨[.h, .h, .h], [], [.sl [.i .u8], .i .i64, .i .i64]⟩
def R_wb10At : List XShp := [(.ret, ⟨[.h], [], [.i .i64]⟩)]

theorem wb10At_e (x : DR A_wb10At.hs) : (evFn (envT Try.prog C19 M18) noLoops Try.f11 (A_wb10At.enc x).1).to (fun q => decX R_wb10At .ret [q.1] q.2) = wb10At_t x.1 x.2.1 x.2.2 := by kernel_rfl

theorem wb10At_m (x : DR A_wb10At.hs) : meanF (envT Try.prog C19 M18) noLoops Try.f11 A_wb10At R_wb10At x = (show Option (SumD (R_wb10At.map (·.2))) from wb10At x.1 x.2.1 x.2.2) := meanF_of (wb10At_e x)

theorem wb10At_ok : SpecOk Try.prog 11 (evFn (envT Try.prog C19 M18) noLoops Try.f11) := fnL_ok (envT_ok (C19_ok) (M18_ok)) mixedO Try.func11 (by kernel_rfl) (c := bodyOf Try.f11) (by kernel_rfl) (loopFree_ok (by kernel_rfl))

theorem wb10At_told : SpecOk Try.prog 11 (toldO A_wb10At R_wb10At (fun x => wb10At x.1 x.2.1 x.2.2) (C19 11)) := toldO_ok (by kernel_rfl) wb10At_ok (rest_ok (C19_ok) _) wb10At_m

noncomputable def C20 : Tab := tab 11 (toldO A_wb10At R_wb10At (fun x => wb10At x.1 x.2.1 x.2.2) (C19 11)) C19
theorem C20_ok : TabOk Try.prog C20 := tab_ok (wb10At_told) (C19_ok)

def S_sB10Rain_l3 : Shp := ⟨[.h, .ref 0 0, .slw 1 1], [.cells [.h, .h, .h] false, .arr [.f .f32] false], [.i .i64, .sl [.i .u8], .i .i64, .i .u64, .sl [.f .f32]]⟩
def X_sB10Rain_l3 : List XShp := [(.exit 0, ⟨[.undef, .undef, .slw 0 1], [.arr [.f .f32] false], [.sl [.f .f32]]⟩)]

noncomputable def L_sB10Rain_l3 : Loops := (⟨22, lvT [(3, [1, 5, 6])], mdT [(3, .exit 0, [], [1, 5])], fun k vs bs => .bad⟩ : Loops)

theorem sB10Rain_l3_e (s : Int × List Int × Int × Int × List Nat) : (loopStep (envT Try.prog C20 M18) L_sB10Rain_l3 3 (loopC (bodyOf Try.f17) 3) (S_sB10Rain_l3.enc (s.1, s.2.1, s.2.2.1, s.2.2.2.1, s.2.2.2.2)).1 (S_sB10Rain_l3.enc (s.1, s.2.1, s.2.2.1, s.2.2.2.1, s.2.2.2.2)).2).to (stepD S_sB10Rain_l3 X_sB10Rain_l3) = (sB10Rain_l3_t  s.1 s.2.1 s.2.2.1 s.2.2.2.1 s.2.2.2.2).map (Sum.map (fun s : Int × List Int × Int × Int × List Nat => (show DR S_sB10Rain_l3.hs from (s.1, s.2.1, s.2.2.1, s.2.2.2.1, s.2.2.2.2))) id) := by kernel_rfl

theorem sB10Rain_l3_r (x : DR S_sB10Rain_l3.hs) : (sB10Rain_l3 x.1 x.2.1 x.2.2.1 x.2.2.2.1 x.2.2.2.2 : Option (SumD (X_sB10Rain_l3.map (·.2)))) = runL (meanS (envT Try.prog C20 M18) L_sB10Rain_l3 3 (loopC (bodyOf Try.f17) 3) S_sB10Rain_l3 X_sB10Rain_l3) x := run_of (fun s : Int × List Int × Int × Int × List Nat => (show DR S_sB10Rain_l3.hs from (s.1, s.2.1, s.2.2.1, s.2.2.2.1, s.2.2.2.2))) (sB10Rain_l3_e ) (x.1, x.2.1, x.2.2.1, x.2.2.2.1, x.2.2.2.2)

theorem sB10Rain_l3_k (L : Loops) (hn : L_sB10Rain_l3.n = L.n) (hlv : L_sB10Rain_l3.lv 3 = L.lv 3) (hL : ∀ vs bs, L.loop 3 vs bs = toldL S_sB10Rain_l3 X_sB10Rain_l3 (fun x => sB10Rain_l3 x.1 x.2.1 x.2.2.1 x.2.2.2.1 x.2.2.2.2) vs bs) : LOk Try.prog (envT Try.prog C20 M18) L 3 (loopC (bodyOf Try.f17) 3) := toldL_ok (L1 := L_sB10Rain_l3) (envT_ok (C20_ok) (M18_ok)) mixedO hn hlv (loopFree_ok (by kernel_rfl)) sB10Rain_l3_r hL

def A_sB10Rain : Shp := ⟨[.h, .h], [], [.sl [.i .u8], .i .i64]⟩
def R_sB10Rain : List XShp := [(.ret, ⟨[.slw 0 1], [.arr [.f .f32] false], [.sl [.f .f32]]⟩)]

noncomputable def L_sB10Rain : Loops := (⟨22, lvT [(3, [1, 5, 6])], mdT [(3, .exit 0, [], [1, 5])], fun k vs bs => bif Nat.beq k 3 then toldL S_sB10Rain_l3 X_sB10Rain_l3 (fun x => sB10Rain_l3 x.1 x.2.1 x.2.2.1 x.2.2.2.1 x.2.2.2.2) vs bs else .bad⟩ : Loops)

theorem sB10Rain_e (x : DR A_sB10Rain.hs) : (evFn (envT Try.prog C20 M18) L_sB10Rain Try.f17 (A_sB10Rain.enc x).1).to (fun q => decX R_sB10Rain .ret [q.1] q.2) = sB10Rain_t x.1 x.2 := by kernel_rfl

theorem sB10Rain_m (x : DR A_sB10Rain.hs) : meanF (envT Try.prog C20 M18) L_sB10Rain Try.f17 A_sB10Rain R_sB10Rain x = (show Option (SumD (R_sB10Rain.map (·.2))) from sB10Rain x.1 x.2) := meanF_of (sB10Rain_e x)

theorem sB10Rain_ok : SpecOk Try.prog 17 (evFn (envT Try.prog C20 M18) L_sB10Rain Try.f17) := fnL_ok (envT_ok (C20_ok) (M18_ok)) mixedO Try.func17 (by kernel_rfl) (c := bodyOf Try.f17) (by kernel_rfl) (loopsL (l := [(3, loopC (bodyOf Try.f17) 3)]) (by kernel_rfl) (lk_cons (sB10Rain_l3_k _ rfl rfl (fun _ _ => rfl)) lk_nil))

theorem sB10Rain_told : SpecOk Try.prog 17 (toldO A_sB10Rain R_sB10Rain (fun x => sB10Rain x.1 x.2) (C20 17)) := toldO_ok (by kernel_rfl) sB10Rain_ok (rest_ok (C20_ok) _) sB10Rain_m

noncomputable def C21 : Tab := tab 17 (toldO A_sB10Rain R_sB10Rain (fun x => sB10Rain x.1 x.2) (C20 17)) C20
theorem C21_ok : TabOk Try.prog C21 := tab_ok (sB10Rain_told) (C20_ok)

def A_iValidReach : Shp := ⟨[.agg [.h, .h]], [], [.f .f32, .f .f32]⟩
def R_iValidReach : List XShp := [(.ret, ⟨[.h], [], [.b]⟩)]

theorem iValidReach_e (x : DR A_iValidReach.hs) : (evFn (envT Try.prog C21 M18) noLoops Try.f26 (A_iValidReach.enc x).1).to (fun q => decX R_iValidReach .ret [q.1] q.2) = iValidReach_t x.1 x.2 := by kernel_rfl

theorem iValidReach_m (x : DR A_iValidReach.hs) : meanF (envT Try.prog C21 M18) noLoops Try.f26 A_iValidReach R_iValidReach x = some (show SumD (R_iValidReach.map (·.2)) from iValidReach x.1 x.2) := @meanF_tot _ _ _ _ _ _ _ (iValidReach_e x) (show Inhabited (Bool) from inferInstance) (by kernel_rfl)

theorem iValidReach_ok : SpecOk Try.prog 26 (evFn (envT Try.prog C21 M18) noLoops Try.f26) := fnL_ok (envT_ok (C21_ok) (M18_ok)) mixedO Try.func26 (by kernel_rfl) (c := bodyOf Try.f26) (by kernel_rfl) (loopFree_ok (by kernel_rfl))

theorem iValidReach_told : SpecOk Try.prog 26 (toldT A_iValidReach R_iValidReach (fun x => iValidReach x.1 x.2) (C21 26)) := toldT_ok (by kernel_rfl) iValidReach_ok (rest_ok (C21_ok) _) iValidReach_m

noncomputable def C22 : Tab := tab 26 (toldT A_iValidReach R_iValidReach (fun x => iValidReach x.1 x.2) (C21 26)) C21
theorem C22_ok : TabOk Try.prog C22 := tab_ok (iValidReach_told) (C21_ok)

def A_iareFinite_1 : Shp := ⟨[.h], [], [.f .f32]⟩
def R_iareFinite_1 : List XShp := [(.ret, ⟨[.h], [], [.b]⟩)]

theorem iareFinite_1_e (x : DR A_iareFinite_1.hs) : (evFn (envT Try.prog C22 M18) noLoops Try.f108 (A_iareFinite_1.enc x).1).to (fun q => decX R_iareFinite_1 .ret [q.1] q.2) = iareFinite_1_t x := by kernel_rfl

theorem iareFinite_1_m (x : DR A_iareFinite_1.hs) : meanF (envT Try.prog C22 M18) noLoops Try.f108 A_iareFinite_1 R_iareFinite_1 x = some (show SumD (R_iareFinite_1.map (·.2)) from iareFinite_1 x) := @meanF_tot _ _ _ _ _ _ _ (iareFinite_1_e x) (show Inhabited (Bool) from inferInstance) (by kernel_rfl)

theorem iareFinite_1_ok : SpecOk Try.prog 108 (evFn (envT Try.prog C22 M18) noLoops Try.f108) := fnL_ok (envT_ok (C22_ok) (M18_ok)) mixedO Try.func108 (by kernel_rfl) (c := bodyOf Try.f108) (by kernel_rfl) (loopFree_ok (by kernel_rfl))

theorem iareFinite_1_told : SpecOk Try.prog 108 (toldT A_iareFinite_1 R_iareFinite_1 (fun x => iareFinite_1 x) (C22 108)) := toldT_ok (by kernel_rfl) iareFinite_1_ok (rest_ok (C22_ok) _) iareFinite_1_m

noncomputable def C23 : Tab := tab 108 (toldT A_iareFinite_1 R_iareFinite_1 (fun x => iareFinite_1 x) (C22 108)) C22
theorem C23_ok : TabOk Try.prog C23 := tab_ok (iareFinite_1_told) (C22_ok)

def S_lIndexFunc_iareFinite_1_l2 : Shp := ⟨[.h, .fn 108 [], .undef, .h, .h], [], [.sl [.f .f32], .i .i64, .i .i64]⟩
def X_lIndexFunc_iareFinite_1_l2 : List XShp := [(.ret, ⟨[.undef, .undef, .h, .undef, .undef], [], [.i .i64]⟩), (.exit 0, ⟨[.undef, .undef, .undef, .undef, .undef], [], []⟩)]

noncomputable def L_lIndexFunc_iareFinite_1_l2 : Loops := (⟨19, lvT [(2, [0, 1, 4, 7, 8])], mdT [(2, .normal, [], [4]), (2, .exit 0, [], [0, 1, 4, 7, 8]), (2, .ret, [], [0, 1, 7, 8])], fun k vs bs => .bad⟩ : Loops)

theorem lIndexFunc_iareFinite_1_l2_e (y0 : List Nat) (y1 : Int) (s : Int) : (loopStep (envT Try.prog C23 M18) L_lIndexFunc_iareFinite_1_l2 2 (loopC (bodyOf Try.f101) 2) (S_lIndexFunc_iareFinite_1_l2.enc (y0, y1, s)).1 (S_lIndexFunc_iareFinite_1_l2.enc (y0, y1, s)).2).to (stepD S_lIndexFunc_iareFinite_1_l2 X_lIndexFunc_iareFinite_1_l2) = (lIndexFunc_iareFinite_1_l2_t y0 y1 s).map (Sum.map (fun s : Int => (show DR S_lIndexFunc_iareFinite_1_l2.hs from (y0, y1, s))) id) := by kernel_rfl

theorem lIndexFunc_iareFinite_1_l2_r (x : DR S_lIndexFunc_iareFinite_1_l2.hs) : (lIndexFunc_iareFinite_1_l2 x.1 x.2.1 x.2.2 : Option (SumD (X_lIndexFunc_iareFinite_1_l2.map (·.2)))) = runL (meanS (envT Try.prog C23 M18) L_lIndexFunc_iareFinite_1_l2 2 (loopC (bodyOf Try.f101) 2) S_lIndexFunc_iareFinite_1_l2 X_lIndexFunc_iareFinite_1_l2) x := run_of (fun s : Int => (show DR S_lIndexFunc_iareFinite_1_l2.hs from (x.1, x.2.1, s))) (lIndexFunc_iareFinite_1_l2_e (x.1) (x.2.1)) x.2.2

theorem lIndexFunc_iareFinite_1_l2_k (L : Loops) (hn : L_lIndexFunc_iareFinite_1_l2.n = L.n) (hlv : L_lIndexFunc_iareFinite_1_l2.lv 2 = L.lv 2) (hL : ∀ vs bs, L.loop 2 vs bs = toldL S_lIndexFunc_iareFinite_1_l2 X_lIndexFunc_iareFinite_1_l2 (fun x => lIndexFunc_iareFinite_1_l2 x.1 x.2.1 x.2.2) vs bs) : LOk Try.prog (envT Try.prog C23 M18) L 2 (loopC (bodyOf Try.f101) 2) := toldL_ok (L1 := L_lIndexFunc_iareFinite_1_l2) (envT_ok (C23_ok) (M18_ok)) mixedO hn hlv (loopFree_ok (by kernel_rfl)) lIndexFunc_iareFinite_1_l2_r hL

def A_lIndexFunc_iareFinite_1 : Shp := ⟨[.h, .fn 108 []], [], [.sl [.f .f32]]⟩
def R_lIndexFunc_iareFinite_1 : List XShp := [(.ret, ⟨[.h], [], [.i .i64]⟩)]

noncomputable def L_lIndexFunc_iareFinite_1 : Loops := (⟨19, lvT [(2, [0, 1, 4, 7, 8])], mdT [(2, .normal, [], [4]), (2, .exit 0, [], [0, 1, 4, 7, 8]), (2, .ret, [], [0, 1, 7, 8])], fun k vs bs => bif Nat.beq k 2 then toldL S_lIndexFunc_iareFinite_1_l2 X_lIndexFunc_iareFinite_1_l2 (fun x => lIndexFunc_iareFinite_1_l2 x.1 x.2.1 x.2.2) vs bs else .bad⟩ : Loops)

theorem lIndexFunc_iareFinite_1_e (x : DR A_lIndexFunc_iareFinite_1.hs) : (evFn (envT Try.prog C23 M18) L_lIndexFunc_iareFinite_1 Try.f101 (A_lIndexFunc_iareFinite_1.enc x).1).to (fun q => decX R_lIndexFunc_iareFinite_1 .ret [q.1] q.2) = lIndexFunc_iareFinite_1_t x := by kernel_rfl

theorem lIndexFunc_iareFinite_1_m (x : DR A_lIndexFunc_iareFinite_1.hs) : meanF (envT Try.prog C23 M18) L_lIndexFunc_iareFinite_1 Try.f101 A_lIndexFunc_iareFinite_1 R_lIndexFunc_iareFinite_1 x = (show Option (SumD (R_lIndexFunc_iareFinite_1.map (·.2))) from lIndexFunc_iareFinite_1 x) := meanF_of (lIndexFunc_iareFinite_1_e x)

theorem lIndexFunc_iareFinite_1_ok : SpecOk Try.prog 101 (evFn (envT Try.prog C23 M18) L_lIndexFunc_iareFinite_1 Try.f101) := fnL_ok (envT_ok (C23_ok) (M18_ok)) mixedO Try.func101 (by kernel_rfl) (c := bodyOf Try.f101) (by kernel_rfl) (loopsL (l := [(2, loopC (bodyOf Try.f101) 2)]) (by kernel_rfl) (lk_cons (lIndexFunc_iareFinite_1_l2_k _ rfl rfl (fun _ _ => rfl)) lk_nil))

theorem lIndexFunc_iareFinite_1_told : SpecOk Try.prog 101 (toldO A_lIndexFunc_iareFinite_1 R_lIndexFunc_iareFinite_1 (fun x => lIndexFunc_iareFinite_1 x) (C23 101)) := toldO_ok (by kernel_rfl) lIndexFunc_iareFinite_1_ok (rest_ok (C23_ok) _) lIndexFunc_iareFinite_1_m

noncomputable def C24 : Tab := tab 101 (toldO A_lIndexFunc_iareFinite_1 R_lIndexFunc_iareFinite_1 (fun x => lIndexFunc_iareFinite_1 x) (C23 101)) C23
theorem C24_ok : TabOk Try.prog C24 := tab_ok (lIndexFunc_iareFinite_1_told) (C23_ok)

def A_lContainsFunc_iareFinite_1 : Shp := ⟨[.h, .fn 108 []], [], [.sl [.f .f32]]⟩
def R_lContainsFunc_iareFinite_1 : List XShp := [(.ret, ⟨[.h], [], [.b]⟩)]

theorem lContainsFunc_iareFinite_1_e (x : DR A_lContainsFunc_iareFinite_1.hs) : (evFn (envT Try.prog C24 M18) noLoops Try.f103 (A_lContainsFunc_iareFinite_1.enc x).1).to (fun q => decX R_lContainsFunc_iareFinite_1 .ret [q.1] q.2) = lContainsFunc_iareFinite_1_t x := by kernel_rfl

theorem lContainsFunc_iareFinite_1_m (x : DR A_lContainsFunc_iareFinite_1.hs) : meanF (envT Try.prog C24 M18) noLoops Try.f103 A_lContainsFunc_iareFinite_1 R_lContainsFunc_iareFinite_1 x = (show Option (SumD (R_lContainsFunc_iareFinite_1.map (·.2))) from lContainsFunc_iareFinite_1 x) := meanF_of (lContainsFunc_iareFinite_1_e x)

theorem lContainsFunc_iareFinite_1_ok : SpecOk Try.prog 103 (evFn (envT Try.prog C24 M18) noLoops Try.f103) := fnL_ok (envT_ok (C24_ok) (M18_ok)) mixedO Try.func103 (by kernel_rfl) (c := bodyOf Try.f103) (by kernel_rfl) (loopFree_ok (by kernel_rfl))

theorem lContainsFunc_iareFinite_1_told : SpecOk Try.prog 103 (toldO A_lContainsFunc_iareFinite_1 R_lContainsFunc_iareFinite_1 (fun x => lContainsFunc_iareFinite_1 x) (C24 103)) := toldO_ok (by kernel_rfl) lContainsFunc_iareFinite_1_ok (rest_ok (C24_ok) _) lContainsFunc_iareFinite_1_m

noncomputable def C25 : Tab := tab 103 (toldO A_lContainsFunc_iareFinite_1 R_lContainsFunc_iareFinite_1 (fun x => lContainsFunc_iareFinite_1 x) (C24 103)) C24
theorem C25_ok : TabOk Try.prog C25 := tab_ok (lContainsFunc_iareFinite_1_told) (C24_ok)

def A_iareFinite : Shp := ⟨[.h], [], [.sl [.f .f32]]⟩
def R_iareFinite : List XShp := [(.ret, ⟨[.h], [], [.b]⟩)]

theorem iareFinite_e (x : DR A_iareFinite.hs) : (evFn (envT Try.prog C25 M18) noLoops Try.f79 (A_iareFinite.enc x).1).to (fun q => decX R_iareFinite .ret [q.1] q.2) = iareFinite_t x := by kernel_rfl

theorem iareFinite_m (x : DR A_iareFinite.hs) : meanF (envT Try.prog C25 M18) noLoops Try.f79 A_iareFinite R_iareFinite x = (show Option (SumD (R_iareFinite.map (·.2))) from iareFinite x) := meanF_of (iareFinite_e x)

theorem iareFinite_ok : SpecOk Try.prog 79 (evFn (envT Try.prog C25 M18) noLoops Try.f79) := fnL_ok (envT_ok (C25_ok) (M18_ok)) mixedO Try.func79 (by kernel_rfl) (c := bodyOf Try.f79) (by kernel_rfl) (loopFree_ok (by kernel_rfl))

theorem iareFinite_told : SpecOk Try.prog 79 (toldO A_iareFinite R_iareFinite (fun x => iareFinite x) (C25 79)) := toldO_ok (by kernel_rfl) iareFinite_ok (rest_ok (C25_ok) _) iareFinite_m

noncomputable def C26 : Tab := tab 79 (toldO A_iareFinite R_iareFinite (fun x => iareFinite x) (C25 79)) C25
theorem C26_ok : TabOk Try.prog C26 := tab_ok (iareFinite_told) (C25_ok)

def A_iReachShares : Shp := ⟨[.agg [.h, .h], .h], [], [.f .f32, .f .f32, .f .f32]⟩
def R_iReachShares : List XShp := [(.ret, ⟨[.tup [.h, .h, .h, .h]], [], [.f .f32, .f .f32, .f .f32, .b]⟩)]

theorem iReachShares_e (x : DR A_iReachShares.hs) : (evFn (envT Try.prog C26 M18) noLoops Try.f23 (A_iReachShares.enc x).1).to (fun q => decX R_iReachShares .ret [q.1] q.2) = iReachShares_t x.1 x.2.1 x.2.2 := by kernel_rfl

theorem iReachShares_m (x : DR A_iReachShares.hs) : meanF (envT Try.prog C26 M18) noLoops Try.f23 A_iReachShares R_iReachShares x = (show Option (SumD (R_iReachShares.map (·.2))) from iReachShares x.1 x.2.1 x.2.2) := meanF_of (iReachShares_e x)

theorem iReachShares_ok : SpecOk Try.prog 23 (evFn (envT Try.prog C26 M18) noLoops Try.f23) := fnL_ok (envT_ok (C26_ok) (M18_ok)) mixedO Try.func23 (by kernel_rfl) (c := bodyOf Try.f23) (by kernel_rfl) (loopFree_ok (by kernel_rfl))

theorem iReachShares_told : SpecOk Try.prog 23 (toldO A_iReachShares R_iReachShares (fun x => iReachShares x.1 x.2.1 x.2.2) (C26 23)) := toldO_ok (by kernel_rfl) iReachShares_ok (rest_ok (C26_ok) _) iReachShares_m

noncomputable def C27 : Tab := tab 23 (toldO A_iReachShares R_iReachShares (fun x => iReachShares x.1 x.2.1 x.2.2) (C26 23)) C26
theorem C27_ok : TabOk Try.prog C27 := tab_ok (iReachShares_told) (C26_ok)

def A_iwithin : Shp := ⟨[.h, .h, .h], [], [.i .i64, .i .i64, .i .i64]⟩
def R_iwithin : List XShp := [(.ret, ⟨[.h], [], [.b]⟩)]

theorem iwithin_e (x : DR A_iwithin.hs) : (evFn (envT Try.prog C27 M18) noLoops Try.f73 (A_iwithin.enc x).1).to (fun q => decX R_iwithin .ret [q.1] q.2) = iwithin_t x.1 x.2.1 x.2.2 := by kernel_rfl

theorem iwithin_m (x : DR A_iwithin.hs) : meanF (envT Try.prog C27 M18) noLoops Try.f73 A_iwithin R_iwithin x = some (show SumD (R_iwithin.map (·.2)) from iwithin x.1 x.2.1 x.2.2) := @meanF_tot _ _ _ _ _ _ _ (iwithin_e x) (show Inhabited (Bool) from inferInstance) (by kernel_rfl)

theorem iwithin_ok : SpecOk Try.prog 73 (evFn (envT Try.prog C27 M18) noLoops Try.f73) := fnL_ok (envT_ok (C27_ok) (M18_ok)) mixedO Try.func73 (by kernel_rfl) (c := bodyOf Try.f73) (by kernel_rfl) (loopFree_ok (by kernel_rfl))

theorem iwithin_told : SpecOk Try.prog 73 (toldT A_iwithin R_iwithin (fun x => iwithin x.1 x.2.1 x.2.2) (C27 73)) := toldT_ok (by kernel_rfl) iwithin_ok (rest_ok (C27_ok) _) iwithin_m

noncomputable def C28 : Tab := tab 73 (toldT A_iwithin R_iwithin (fun x => iwithin x.1 x.2.1 x.2.2) (C27 73)) C27
theorem C28_ok : TabOk Try.prog C28 := tab_ok (iwithin_told) (C27_ok)

def A_iareIns : Shp := ⟨[.h], [], [.sl [.f .f32]]⟩
def R_iareIns : List XShp := [(.ret, ⟨[.h], [], [.b]⟩)]

theorem iareIns_e (x : DR A_iareIns.hs) : (evFn (envT Try.prog C28 M18) noLoops Try.f75 (A_iareIns.enc x).1).to (fun q => decX R_iareIns .ret [q.1] q.2) = iareIns_t x := by kernel_rfl

theorem iareIns_m (x : DR A_iareIns.hs) : meanF (envT Try.prog C28 M18) noLoops Try.f75 A_iareIns R_iareIns x = (show Option (SumD (R_iareIns.map (·.2))) from iareIns x) := meanF_of (iareIns_e x)

theorem iareIns_ok : SpecOk Try.prog 75 (evFn (envT Try.prog C28 M18) noLoops Try.f75) := fnL_ok (envT_ok (C28_ok) (M18_ok)) mixedO Try.func75 (by kernel_rfl) (c := bodyOf Try.f75) (by kernel_rfl) (loopFree_ok (by kernel_rfl))

theorem iareIns_told : SpecOk Try.prog 75 (toldO A_iareIns R_iareIns (fun x => iareIns x) (C28 75)) := toldO_ok (by kernel_rfl) iareIns_ok (rest_ok (C28_ok) _) iareIns_m

noncomputable def C29 : Tab := tab 75 (toldO A_iareIns R_iareIns (fun x => iareIns x) (C28 75)) C28
theorem C29_ok : TabOk Try.prog C29 := tab_ok (iareIns_told) (C28_ok)

def S_iRouteReach_l6 : Shp := ⟨[.h, .h, .h, .h, .slw 0 1, .h], [.arr [.f .f32] false], [.sl [.f .f32], .f .f32, .f .f32, .f .f32, .i .i64, .sl [.f .f32]]⟩
def X_iRouteReach_l6 : List XShp := [(.exit 0, ⟨[.undef, .undef, .undef, .undef, .slw 0 1, .undef], [.arr [.f .f32] false], [.sl [.f .f32]]⟩)]

noncomputable def L_iRouteReach_l6 : Loops := (⟨73, lvT [(6, [1, 10, 11, 12, 14, 15])], mdT [(6, .exit 0, [], [1, 10, 11, 12, 15])], fun k vs bs => .bad⟩ : Loops)

theorem iRouteReach_l6_e (y0 : List Nat) (y1 : Nat) (y2 : Nat) (y3 : Nat) (s : Int × List Nat) : (loopStep (envT Try.prog C29 M18) L_iRouteReach_l6 6 (loopC (bodyOf Try.f24) 6) (S_iRouteReach_l6.enc (y0, y1, y2, y3, s.1, s.2)).1 (S_iRouteReach_l6.enc (y0, y1, y2, y3, s.1, s.2)).2).to (stepD S_iRouteReach_l6 X_iRouteReach_l6) = (iRouteReach_l6_t y0 y1 y2 y3 s.1 s.2).map (Sum.map (fun s : Int × List Nat => (show DR S_iRouteReach_l6.hs from (y0, y1, y2, y3, s.1, s.2))) id) := by kernel_rfl

theorem iRouteReach_l6_r (x : DR S_iRouteReach_l6.hs) : (iRouteReach_l6 x.1 x.2.1 x.2.2.1 x.2.2.2.1 x.2.2.2.2.1 x.2.2.2.2.2 : Option (SumD (X_iRouteReach_l6.map (·.2)))) = runL (meanS (envT Try.prog C29 M18) L_iRouteReach_l6 6 (loopC (bodyOf Try.f24) 6) S_iRouteReach_l6 X_iRouteReach_l6) x := run_of (fun s : Int × List Nat => (show DR S_iRouteReach_l6.hs from (x.1, x.2.1, x.2.2.1, x.2.2.2.1, s.1, s.2))) (iRouteReach_l6_e (x.1) (x.2.1) (x.2.2.1) (x.2.2.2.1)) (x.2.2.2.2.1, x.2.2.2.2.2)

theorem iRouteReach_l6_k (L : Loops) (hn : L_iRouteReach_l6.n = L.n) (hlv : L_iRouteReach_l6.lv 6 = L.lv 6) (hL : ∀ vs bs, L.loop 6 vs bs = toldL S_iRouteReach_l6 X_iRouteReach_l6 (fun x => iRouteReach_l6 x.1 x.2.1 x.2.2.1 x.2.2.2.1 x.2.2.2.2.1 x.2.2.2.2.2) vs bs) : LOk Try.prog (envT Try.prog C29 M18) L 6 (loopC (bodyOf Try.f24) 6) := toldL_ok (L1 := L_iRouteReach_l6) (envT_ok (C29_ok) (M18_ok)) mixedO hn hlv (loopFree_ok (by kernel_rfl)) iRouteReach_l6_r hL

def A_iRouteReach : Shp := ⟨[.agg [.h, .h], .h, .h, .h], [], [.f .f32, .f .f32, .sl [.f .f32], .f .f32, .f .f32]⟩
def R_iRouteReach : List XShp := [(.ret, ⟨[.tup [.nils, .lb false]], [], []⟩), (.ret, ⟨[.tup [.slw 0 1, .lb true]], [.arr [.f .f32] false], [.sl [.f .f32]]⟩)]

noncomputable def L_iRouteReach : Loops := (⟨73, lvT [(6, [1, 10, 11, 12, 14, 15])], mdT [(6, .exit 0, [], [1, 10, 11, 12, 15])], fun k vs bs => bif Nat.beq k 6 then toldL S_iRouteReach_l6 X_iRouteReach_l6 (fun x => iRouteReach_l6 x.1 x.2.1 x.2.2.1 x.2.2.2.1 x.2.2.2.2.1 x.2.2.2.2.2) vs bs else .bad⟩ : Loops)

theorem iRouteReach_e (x : DR A_iRouteReach.hs) : (evFn (envT Try.prog C29 M18) L_iRouteReach Try.f24 (A_iRouteReach.enc x).1).to (fun q => decX R_iRouteReach .ret [q.1] q.2) = iRouteReach_t x.1 x.2.1 x.2.2.1 x.2.2.2.1 x.2.2.2.2 := by kernel_rfl

theorem iRouteReach_m (x : DR A_iRouteReach.hs) : meanF (envT Try.prog C29 M18) L_iRouteReach Try.f24 A_iRouteReach R_iRouteReach x = (show Option (SumD (R_iRouteReach.map (·.2))) from iRouteReach x.1 x.2.1 x.2.2.1 x.2.2.2.1 x.2.2.2.2) := meanF_of (iRouteReach_e x)

theorem iRouteReach_ok : SpecOk Try.prog 24 (evFn (envT Try.prog C29 M18) L_iRouteReach Try.f24) := fnL_ok (envT_ok (C29_ok) (M18_ok)) mixedO Try.func24 (by kernel_rfl) (c := bodyOf Try.f24) (by kernel_rfl) (loopsL (l := [(6, loopC (bodyOf Try.f24) 6)]) (by kernel_rfl) (lk_cons (iRouteReach_l6_k _ rfl rfl (fun _ _ => rfl)) lk_nil))

theorem iRouteReach_told : SpecOk Try.prog 24 (toldO A_iRouteReach R_iRouteReach (fun x => iRouteReach x.1 x.2.1 x.2.2.1 x.2.2.2.1 x.2.2.2.2) (C29 24)) := toldO_ok (by kernel_rfl) iRouteReach_ok (rest_ok (C29_ok) _) iRouteReach_m

noncomputable def C30 : Tab := tab 24 (toldO A_iRouteReach R_iRouteReach (fun x => iRouteReach x.1 x.2.1 x.2.2.1 x.2.2.2.1 x.2.2.2.2) (C29 24)) C29
theorem C30_ok : TabOk Try.prog C30 := tab_ok (iRouteReach_told) (C29_ok)

def A_ifinite32 : Shp := ⟨[.h], [], [.f .f32]⟩
def R_ifinite32 : List XShp := [(.ret, ⟨[.tup [.h, .h]], [], [.f .f32, .b]⟩)]

theorem ifinite32_e (x : DR A_ifinite32.hs) : (evFn (envT Try.prog C30 M18) noLoops Try.f66 (A_ifinite32.enc x).1).to (fun q => decX R_ifinite32 .ret [q.1] q.2) = ifinite32_t x := by kernel_rfl

theorem ifinite32_m (x : DR A_ifinite32.hs) : meanF (envT Try.prog C30 M18) noLoops Try.f66 A_ifinite32 R_ifinite32 x = some (show SumD (R_ifinite32.map (·.2)) from ifinite32 x) := @meanF_tot _ _ _ _ _ _ _ (ifinite32_e x) (show Inhabited (Nat × Bool) from inferInstance) (by kernel_rfl)

theorem ifinite32_ok : SpecOk Try.prog 66 (evFn (envT Try.prog C30 M18) noLoops Try.f66) := fnL_ok (envT_ok (C30_ok) (M18_ok)) mixedO Try.func66 (by kernel_rfl) (c := bodyOf Try.f66) (by kernel_rfl) (loopFree_ok (by kernel_rfl))

theorem ifinite32_told : SpecOk Try.prog 66 (toldT A_ifinite32 R_ifinite32 (fun x => ifinite32 x) (C30 66)) := toldT_ok (by kernel_rfl) ifinite32_ok (rest_ok (C30_ok) _) ifinite32_m

noncomputable def C31 : Tab := tab 66 (toldT A_ifinite32 R_ifinite32 (fun x => ifinite32 x) (C30 66)) C30
theorem C31_ok : TabOk Try.prog C31 := tab_ok (ifinite32_told) (C30_ok)

def A_iHeldInReach : Shp := ⟨[.agg [.h, .h], .h, .h], [], [.f .f32, .f .f32, .f .f32, .f .f32]⟩
def R_iHeldInReach : List XShp := [(.ret, ⟨[.tup [.h, .h]], [], [.f .f32, .b]⟩)]

theorem iHeldInReach_e (x : DR A_iHeldInReach.hs) : (evFn (envT Try.prog C31 M18) noLoops Try.f25 (A_iHeldInReach.enc x).1).to (fun q => decX R_iHeldInReach .ret [q.1] q.2) = iHeldInReach_t x.1 x.2.1 x.2.2.1 x.2.2.2 := by kernel_rfl

theorem iHeldInReach_m (x : DR A_iHeldInReach.hs) : meanF (envT Try.prog C31 M18) noLoops Try.f25 A_iHeldInReach R_iHeldInReach x = (show Option (SumD (R_iHeldInReach.map (·.2))) from iHeldInReach x.1 x.2.1 x.2.2.1 x.2.2.2) := meanF_of (iHeldInReach_e x)

theorem iHeldInReach_ok : SpecOk Try.prog 25 (evFn (envT Try.prog C31 M18) noLoops Try.f25) := fnL_ok (envT_ok (C31_ok) (M18_ok)) mixedO Try.func25 (by kernel_rfl) (c := bodyOf Try.f25) (by kernel_rfl) (loopFree_ok (by kernel_rfl))

theorem iHeldInReach_told : SpecOk Try.prog 25 (toldO A_iHeldInReach R_iHeldInReach (fun x => iHeldInReach x.1 x.2.1 x.2.2.1 x.2.2.2) (C31 25)) := toldO_ok (by kernel_rfl) iHeldInReach_ok (rest_ok (C31_ok) _) iHeldInReach_m

noncomputable def C32 : Tab := tab 25 (toldO A_iHeldInReach R_iHeldInReach (fun x => iHeldInReach x.1 x.2.1 x.2.2.1 x.2.2.2) (C31 25)) C31
theorem C32_ok : TabOk Try.prog C32 := tab_ok (iHeldInReach_told) (C31_ok)

def A_wb10Gap : Shp := ⟨[.h, .h], [], [.f .f64, .f .f64]⟩
def R_wb10Gap : List XShp := [(.ret, ⟨[.h], [], [.f .f64]⟩)]

theorem wb10Gap_e (x : DR A_wb10Gap.hs) : (evFn (envT Try.prog C32 M18) noLoops Try.f16 (A_wb10Gap.enc x).1).to (fun q => decX R_wb10Gap .ret [q.1] q.2) = wb10Gap_t x.1 x.2 := by kernel_rfl

theorem wb10Gap_m (x : DR A_wb10Gap.hs) : meanF (envT Try.prog C32 M18) noLoops Try.f16 A_wb10Gap R_wb10Gap x = some (show SumD (R_wb10Gap.map (·.2)) from wb10Gap x.1 x.2) := @meanF_tot _ _ _ _ _ _ _ (wb10Gap_e x) (show Inhabited (Nat) from inferInstance) (by kernel_rfl)

theorem wb10Gap_ok : SpecOk Try.prog 16 (evFn (envT Try.prog C32 M18) noLoops Try.f16) := fnL_ok (envT_ok (C32_ok) (M18_ok)) mixedO Try.func16 (by kernel_rfl) (c := bodyOf Try.f16) (by kernel_rfl) (loopFree_ok (by kernel_rfl))

theorem wb10Gap_told : SpecOk Try.prog 16 (toldT A_wb10Gap R_wb10Gap (fun x => wb10Gap x.1 x.2) (C32 16)) := toldT_ok (by kernel_rfl) wb10Gap_ok (rest_ok (C32_ok) _) wb10Gap_m

noncomputable def C33 : Tab := tab 16 (toldT A_wb10Gap R_wb10Gap (fun x => wb10Gap x.1 x.2) (C32 16)) C32
theorem C33_ok : TabOk Try.prog C33 := tab_ok (wb10Gap_told) (C32_ok)

def A_iareReaches_1 : Shp := ⟨[.agg [.h, .h]], [], [.f .f32, .f .f32]⟩
def R_iareReaches_1 : List XShp := [(.ret, ⟨[.h], [], [.b]⟩)]

theorem iareReaches_1_e (x : DR A_iareReaches_1.hs) : (evFn (envT Try.prog C33 M18) noLoops Try.f110 (A_iareReaches_1.enc x).1).to (fun q => decX R_iareReaches_1 .ret [q.1] q.2) = iareReaches_1_t x.1 x.2 := by kernel_rfl

theorem iareReaches_1_m (x : DR A_iareReaches_1.hs) : meanF (envT Try.prog C33 M18) noLoops Try.f110 A_iareReaches_1 R_iareReaches_1 x = some (show SumD (R_iareReaches_1.map (·.2)) from iareReaches_1 x.1 x.2) := @meanF_tot _ _ _ _ _ _ _ (iareReaches_1_e x) (show Inhabited (Bool) from inferInstance) (by kernel_rfl)

theorem iareReaches_1_ok : SpecOk Try.prog 110 (evFn (envT Try.prog C33 M18) noLoops Try.f110) := fnL_ok (envT_ok (C33_ok) (M18_ok)) mixedO Try.func110 (by kernel_rfl) (c := bodyOf Try.f110) (by kernel_rfl) (loopFree_ok (by kernel_rfl))

theorem iareReaches_1_told : SpecOk Try.prog 110 (toldT A_iareReaches_1 R_iareReaches_1 (fun x => iareReaches_1 x.1 x.2) (C33 110)) := toldT_ok (by kernel_rfl) iareReaches_1_ok (rest_ok (C33_ok) _) iareReaches_1_m

noncomputable def C34 : Tab := tab 110 (toldT A_iareReaches_1 R_iareReaches_1 (fun x => iareReaches_1 x.1 x.2) (C33 110)) C33
theorem C34_ok : TabOk Try.prog C34 := tab_ok (iareReaches_1_told) (C33_ok)

def S_lIndexFunc_iareReaches_1_l2 : Shp := ⟨[.h, .fn 110 [], .undef, .h, .h], [], [.sl [.f .f32, .f .f32], .i .i64, .i .i64]⟩
def X_lIndexFunc_iareReaches_1_l2 : List XShp := [(.ret, ⟨[.undef, .undef, .h, .undef, .undef], [], [.i .i64]⟩), (.exit 0, ⟨[.undef, .undef, .undef, .undef, .undef], [], []⟩)]

noncomputable def L_lIndexFunc_iareReaches_1_l2 : Loops := (⟨19, lvT [(2, [0, 1, 4, 7, 8])], mdT [(2, .normal, [], [4]), (2, .exit 0, [], [0, 1, 4, 7, 8]), (2, .ret, [], [0, 1, 7, 8])], fun k vs bs => .bad⟩ : Loops)

theorem lIndexFunc_iareReaches_1_l2_e (y0 : List (Nat × Nat)) (y1 : Int) (s : Int) : (loopStep (envT Try.prog C34 M18) L_lIndexFunc_iareReaches_1_l2 2 (loopC (bodyOf Try.f128) 2) (S_lIndexFunc_iareReaches_1_l2.enc (y0, y1, s)).1 (S_lIndexFunc_iareReaches_1_l2.enc (y0, y1, s)).2).to (stepD S_lIndexFunc_iareReaches_1_l2 X_lIndexFunc_iareReaches_1_l2) = (lIndexFunc_iareReaches_1_l2_t y0 y1 s).map (Sum.map (fun s : Int => (show DR S_lIndexFunc_iareReaches_1_l2.hs from (y0, y1, s))) id) := by kernel_rfl

theorem lIndexFunc_iareReaches_1_l2_r (x : DR S_lIndexFunc_iareReaches_1_l2.hs) : (lIndexFunc_iareReaches_1_l2 x.1 x.2.1 x.2.2 : Option (SumD (X_lIndexFunc_iareReaches_1_l2.map (·.2)))) = runL (meanS (envT Try.prog C34 M18) L_lIndexFunc_iareReaches_1_l2 2 (loopC (bodyOf Try.f128) 2) S_lIndexFunc_iareReaches_1_l2 X_lIndexFunc_iareReaches_1_l2) x := run_of (fun s : Int => (show DR S_lIndexFunc_iareReaches_1_l2.hs from (x.1, x.2.1, s))) (lIndexFunc_iareReaches_1_l2_e (x.1) (x.2.1)) x.2.2

theorem lIndexFunc_iareReaches_1_l2_k (L : Loops) (hn : L_lIndexFunc_iareReaches_1_l2.n = L.n) (hlv : L_lIndexFunc_iareReaches_1_l2.lv 2 = L.lv 2) (hL : ∀ vs bs, L.loop 2 vs bs = toldL S_lIndexFunc_iareReaches_1_l2 X_lIndexFunc_iareReaches_1_l2 (fun x => lIndexFunc_iareReaches_1_l2 x.1 x.2.1 x.2.2) vs bs) : LOk Try.prog (envT Try.prog C34 M18) L 2 (loopC (bodyOf Try.f128) 2) := toldL_ok (L1 := L_lIndexFunc_iareReaches_1_l2) (envT_ok (C34_ok) (M18_ok)) mixedO hn hlv (loopFree_ok (by kernel_rfl)) lIndexFunc_iareReaches_1_l2_r hL

def A_lIndexFunc_iareReaches_1 : Shp := ⟨[.h, .fn 110 []], [], [.sl [.f .f32, .f .f32]]⟩
def R_lIndexFunc_iareReaches_1 : List XShp := [(.ret, ⟨[.h], [], [.i .i64]⟩)]

noncomputable def L_lIndexFunc_iareReaches_1 : Loops := (⟨19, lvT [(2, [0, 1, 4, 7, 8])], mdT [(2, .normal, [], [4]), (2, .exit 0, [], [0, 1, 4, 7, 8]), (2, .ret, [], [0, 1, 7, 8])], fun k vs bs => bif Nat.beq k 2 then toldL S_lIndexFunc_iareReaches_1_l2 X_lIndexFunc_iareReaches_1_l2 (fun x => lIndexFunc_iareReaches_1_l2 x.1 x.2.1 x.2.2) vs bs else .bad⟩ : Loops)

theorem lIndexFunc_iareReaches_1_e (x : DR A_lIndexFunc_iareReaches_1.hs) : (evFn (envT Try.prog C34 M18) L_lIndexFunc_iareReaches_1 Try.f128 (A_lIndexFunc_iareReaches_1.enc x).1).to (fun q => decX R_lIndexFunc_iareReaches_1 .ret [q.1] q.2) = lIndexFunc_iareReaches_1_t x := by kernel_rfl

theorem lIndexFunc_iareReaches_1_m (x : DR A_lIndexFunc_iareReaches_1.hs) : meanF (envT Try.prog C34 M18) L_lIndexFunc_iareReaches_1 Try.f128 A_lIndexFunc_iareReaches_1 R_lIndexFunc_iareReaches_1 x = (show Option (SumD (R_lIndexFunc_iareReaches_1.map (·.2))) from lIndexFunc_iareReaches_1 x) := meanF_of (lIndexFunc_iareReaches_1_e x)

theorem lIndexFunc_iareReaches_1_ok : SpecOk Try.prog 128 (evFn (envT Try.prog C34 M18) L_lIndexFunc_iareReaches_1 Try.f128) := fnL_ok (envT_ok (C34_ok) (M18_ok)) mixedO Try.func128 (by kernel_rfl) (c := bodyOf Try.f128) (by kernel_rfl) (loopsL (l := [(2, loopC (bodyOf Try.f128) 2)]) (by kernel_rfl) (lk_cons (lIndexFunc_iareReaches_1_l2_k _ rfl rfl (fun _ _ => rfl)) lk_nil))

theorem lIndexFunc_iareReaches_1_told : SpecOk Try.prog 128 (toldO A_lIndexFunc_iareReaches_1 R_lIndexFunc_iareReaches_1 (fun x => lIndexFunc_iareReaches_1 x) (C34 128)) := toldO_ok (by kernel_rfl) lIndexFunc_iareReaches_1_ok (rest_ok (C34_ok) _) lIndexFunc_iareReaches_1_m

noncomputable def C35 : Tab := tab 128 (toldO A_lIndexFunc_iareReaches_1 R_lIndexFunc_iareReaches_1 (fun x => lIndexFunc_iareReaches_1 x) (C34 128)) C34
theorem C35_ok : TabOk Try.prog C35 := tab_ok (lIndexFunc_iareReaches_1_told) (C34_ok)

def A_lContainsFunc_iareReaches_1 : Shp := ⟨[.h, .fn 110 []], [], [.sl [.f .f32, .f .f32]]⟩
def R_lContainsFunc_iareReaches_1 : List XShp := [(.ret, ⟨[.h], [], [.b]⟩)]

theorem lContainsFunc_iareReaches_1_e (x : DR A_lContainsFunc_iareReaches_1.hs) : (evFn (envT Try.prog C35 M18) noLoops Try.f109 (A_lContainsFunc_iareReaches_1.enc x).1).to (fun q => decX R_lContainsFunc_iareReaches_1 .ret [q.1] q.2) = lContainsFunc_iareReaches_1_t x := by kernel_rfl

theorem lContainsFunc_iareReaches_1_m (x : DR A_lContainsFunc_iareReaches_1.hs) : meanF (envT Try.prog C35 M18) noLoops Try.f109 A_lContainsFunc_iareReaches_1 R_lContainsFunc_iareReaches_1 x = (show Option (SumD (R_lContainsFunc_iareReaches_1.map (·.2))) from lContainsFunc_iareReaches_1 x) := meanF_of (lContainsFunc_iareReaches_1_e x)

theorem lContainsFunc_iareReaches_1_ok : SpecOk Try.prog 109 (evFn (envT Try.prog C35 M18) noLoops Try.f109) := fnL_ok (envT_ok (C35_ok) (M18_ok)) mixedO Try.func109 (by kernel_rfl) (c := bodyOf Try.f109) (by kernel_rfl) (loopFree_ok (by kernel_rfl))

theorem lContainsFunc_iareReaches_1_told : SpecOk Try.prog 109 (toldO A_lContainsFunc_iareReaches_1 R_lContainsFunc_iareReaches_1 (fun x => lContainsFunc_iareReaches_1 x) (C35 109)) := toldO_ok (by kernel_rfl) lContainsFunc_iareReaches_1_ok (rest_ok (C35_ok) _) lContainsFunc_iareReaches_1_m

noncomputable def C36 : Tab := tab 109 (toldO A_lContainsFunc_iareReaches_1 R_lContainsFunc_iareReaches_1 (fun x => lContainsFunc_iareReaches_1 x) (C35 109)) C35
theorem C36_ok : TabOk Try.prog C36 := tab_ok (lContainsFunc_iareReaches_1_told) (C35_ok)

def A_iareReaches : Shp := ⟨[.h], [], [.sl [.f .f32, .f .f32]]⟩
def R_iareReaches : List XShp := [(.ret, ⟨[.h], [], [.b]⟩)]

theorem iareReaches_e (x : DR A_iareReaches.hs) : (evFn (envT Try.prog C36 M18) noLoops Try.f80 (A_iareReaches.enc x).1).to (fun q => decX R_iareReaches .ret [q.1] q.2) = iareReaches_t x := by kernel_rfl

theorem iareReaches_m (x : DR A_iareReaches.hs) : meanF (envT Try.prog C36 M18) noLoops Try.f80 A_iareReaches R_iareReaches x = (show Option (SumD (R_iareReaches.map (·.2))) from iareReaches x) := meanF_of (iareReaches_e x)

theorem iareReaches_ok : SpecOk Try.prog 80 (evFn (envT Try.prog C36 M18) noLoops Try.f80) := fnL_ok (envT_ok (C36_ok) (M18_ok)) mixedO Try.func80 (by kernel_rfl) (c := bodyOf Try.f80) (by kernel_rfl) (loopFree_ok (by kernel_rfl))

theorem iareReaches_told : SpecOk Try.prog 80 (toldO A_iareReaches R_iareReaches (fun x => iareReaches x) (C36 80)) := toldO_ok (by kernel_rfl) iareReaches_ok (rest_ok (C36_ok) _) iareReaches_m

noncomputable def C37 : Tab := tab 80 (toldO A_iareReaches R_iareReaches (fun x => iareReaches x) (C36 80)) C36
theorem C37_ok : TabOk Try.prog C37 := tab_ok (iareReaches_told) (C36_ok)

def H_iRouteReaches_l4 : List XShp := [(.normal, ⟨[.h, .h, .undef, .undef, .h, .h, .h], [], [.sl [.f .f32], .f .f32, .sl [.f .f32, .f .f32], .i .i64, .i .i64]⟩), (.normal, ⟨[.slw 0 1, .h, .undef, .undef, .h, .h, .h], [.arr [.f .f32] false], [.f .f32, .sl [.f .f32, .f .f32], .i .i64, .i .i64, .sl [.f .f32]]⟩)]
def X_iRouteReaches_l4 : List XShp := [(.ret, ⟨[.undef, .undef, .nils, .lb false, .undef, .undef, .undef], [], []⟩), (.exit 0, ⟨[.h, .undef, .undef, .undef, .undef, .undef, .undef], [], [.sl [.f .f32]]⟩), (.exit 0, ⟨[.slw 0 1, .undef, .undef, .undef, .undef, .undef, .undef], [.arr [.f .f32] false], [.sl [.f .f32]]⟩)]

noncomputable def L_iRouteReaches_l4 : Loops := (⟨41, lvT [(4, [1, 2, 6, 7, 20, 21, 22])], mdT [(4, .normal, [], [6, 7]), (4, .exit 0, [], [2, 6, 7, 20, 21, 22]), (4, .ret, [], [1, 2, 20, 21, 22])], fun k vs bs => .bad⟩ : Loops)

theorem iRouteReaches_l4_e0 (y : DR (⟨[.h, .h, .undef, .undef, .h, .h, .h], [], [.sl [.f .f32], .f .f32, .sl [.f .f32, .f .f32], .i .i64, .i .i64]⟩ : Shp).hs) : (loopStep (envT Try.prog C37 M18) L_iRouteReaches_l4 4 (loopC (bodyOf Try.f27) 4) ((⟨[.h, .h, .undef, .undef, .h, .h, .h], [], [.sl [.f .f32], .f .f32, .sl [.f .f32, .f .f32], .i .i64, .i .i64]⟩ : Shp).enc y).1 ((⟨[.h, .h, .undef, .undef, .h, .h, .h], [], [.sl [.f .f32], .f .f32, .sl [.f .f32, .f .f32], .i .i64, .i .i64]⟩ : Shp).enc y).2).to (stepH H_iRouteReaches_l4 X_iRouteReaches_l4) = iRouteReaches_l4_t0 y.1 y.2.1 y.2.2.1 y.2.2.2.1 y.2.2.2.2 := by kernel_rfl

theorem iRouteReaches_l4_e1 (y : DR (⟨[.slw 0 1, .h, .undef, .undef, .h, .h, .h], [.arr [.f .f32] false], [.f .f32, .sl [.f .f32, .f .f32], .i .i64, .i .i64, .sl [.f .f32]]⟩ : Shp).hs) : (loopStep (envT Try.prog C37 M18) L_iRouteReaches_l4 4 (loopC (bodyOf Try.f27) 4) ((⟨[.slw 0 1, .h, .undef, .undef, .h, .h, .h], [.arr [.f .f32] false], [.f .f32, .sl [.f .f32, .f .f32], .i .i64, .i .i64, .sl [.f .f32]]⟩ : Shp).enc y).1 ((⟨[.slw 0 1, .h, .undef, .undef, .h, .h, .h], [.arr [.f .f32] false], [.f .f32, .sl [.f .f32, .f .f32], .i .i64, .i .i64, .sl [.f .f32]]⟩ : Shp).enc y).2).to (stepH H_iRouteReaches_l4 X_iRouteReaches_l4) = iRouteReaches_l4_t1 y.1 y.2.1 y.2.2.1 y.2.2.2.1 y.2.2.2.2 := by kernel_rfl

theorem iRouteReaches_l4_o : ∀ x : (List Nat × Nat × (List (Nat × Nat)) × Int × Int) ⊕ (Nat × (List (Nat × Nat)) × Int × Int × List Nat), meanH (envT Try.prog C37 M18) L_iRouteReaches_l4 4 (loopC (bodyOf Try.f27) 4) H_iRouteReaches_l4 X_iRouteReaches_l4 x = iRouteReaches_l4_s x
  | (.inl y) => meanH_of (iRouteReaches_l4_e0 y)
  | (.inr y) => meanH_of (iRouteReaches_l4_e1 y)

theorem iRouteReaches_l4_r (x : SumD (H_iRouteReaches_l4.map (fun p : XShp => p.2))) : (show Option (SumD (X_iRouteReaches_l4.map (fun p : XShp => p.2))) from iRouteReaches_l4 x) = runL (meanH (envT Try.prog C37 M18) L_iRouteReaches_l4 4 (loopC (bodyOf Try.f27) 4) H_iRouteReaches_l4 X_iRouteReaches_l4) x := runH_of (H := H_iRouteReaches_l4) (X := X_iRouteReaches_l4) (g := iRouteReaches_l4_s) iRouteReaches_l4_o x

theorem iRouteReaches_l4_k (L : Loops) (hn : L_iRouteReaches_l4.n = L.n) (hlv : L_iRouteReaches_l4.lv 4 = L.lv 4) (hL : ∀ vs bs, L.loop 4 vs bs = toldH H_iRouteReaches_l4 X_iRouteReaches_l4 (fun x => iRouteReaches_l4 x) vs bs) : LOk Try.prog (envT Try.prog C37 M18) L 4 (loopC (bodyOf Try.f27) 4) := toldH_ok (L1 := L_iRouteReaches_l4) (envT_ok (C37_ok) (M18_ok)) mixedO hn hlv (loopFree_ok (by kernel_rfl)) iRouteReaches_l4_r hL

def A_iRouteReaches : Shp := ⟨[.h, .h, .h], [], [.sl [.f .f32, .f .f32], .sl [.f .f32], .f .f32]⟩
def R_iRouteReaches : List XShp := [(.ret, ⟨[.tup [.nils, .lb false]], [], []⟩), (.ret, ⟨[.tup [.slw 0 1, .lb true]], [.arr [.f .f32] false], [.sl [.f .f32]]⟩)]

noncomputable def L_iRouteReaches : Loops := (⟨41, lvT [(4, [1, 2, 6, 7, 20, 21, 22])], mdT [(4, .normal, [], [6, 7]), (4, .exit 0, [], [2, 6, 7, 20, 21, 22]), (4, .ret, [], [1, 2, 20, 21, 22])], fun k vs bs => bif Nat.beq k 4 then toldH H_iRouteReaches_l4 X_iRouteReaches_l4 (fun x => iRouteReaches_l4 x) vs bs else .bad⟩ : Loops)

theorem iRouteReaches_e (x : DR A_iRouteReaches.hs) : (evFn (envT Try.prog C37 M18) L_iRouteReaches Try.f27 (A_iRouteReaches.enc x).1).to (fun q => decX R_iRouteReaches .ret [q.1] q.2) = iRouteReaches_t x.1 x.2.1 x.2.2 := by kernel_rfl

theorem iRouteReaches_m (x : DR A_iRouteReaches.hs) : meanF (envT Try.prog C37 M18) L_iRouteReaches Try.f27 A_iRouteReaches R_iRouteReaches x = (show Option (SumD (R_iRouteReaches.map (·.2))) from iRouteReaches x.1 x.2.1 x.2.2) := meanF_of (iRouteReaches_e x)

theorem iRouteReaches_ok : SpecOk Try.prog 27 (evFn (envT Try.prog C37 M18) L_iRouteReaches Try.f27) := fnL_ok (envT_ok (C37_ok) (M18_ok)) mixedO Try.func27 (by kernel_rfl) (c := bodyOf Try.f27) (by kernel_rfl) (loopsL (l := [(4, loopC (bodyOf Try.f27) 4)]) (by kernel_rfl) (lk_cons (iRouteReaches_l4_k _ rfl rfl (fun _ _ => rfl)) lk_nil))

theorem iRouteReaches_told : SpecOk Try.prog 27 (toldO A_iRouteReaches R_iRouteReaches (fun x => iRouteReaches x.1 x.2.1 x.2.2) (C37 27)) := toldO_ok (by kernel_rfl) iRouteReaches_ok (rest_ok (C37_ok) _) iRouteReaches_m

noncomputable def C38 : Tab := tab 27 (toldO A_iRouteReaches R_iRouteReaches (fun x => iRouteReaches x.1 x.2.1 x.2.2) (C37 27)) C37
theorem C38_ok : TabOk Try.prog C38 := tab_ok (iRouteReaches_told) (C37_ok)

def S_iRouteShared_l5 : Shp := ⟨[.h, .h, .undef, .undef, .slw 0 1, .h, .h, .h], [.arr [.sl [.f .f32]] false], [.sl [.f .f32, .f .f32], .f .f32, .sl [.sl [.f .f32]], .i .i64, .i .i64, .sl [.sl [.f .f32]]]⟩
def X_iRouteShared_l5 : List XShp := [(.ret, ⟨[.undef, .undef, .nils, .lb false, .undef, .undef, .undef, .undef], [], []⟩), (.exit 0, ⟨[.undef, .undef, .undef, .undef, .slw 0 1, .undef, .undef, .undef], [.arr [.sl [.f .f32]] false], [.sl [.sl [.f .f32]]]⟩)]

noncomputable def L_iRouteShared_l5 : Loops := (⟨55, lvT [(5, [0, 2, 8, 9, 10, 34, 35, 36])], mdT [(5, .normal, [], [8, 9]), (5, .exit 0, [], [0, 2, 8, 9, 34, 35, 36]), (5, .ret, [], [0, 2, 10, 34, 35, 36])], fun k vs bs => .bad⟩ : Loops)

theorem iRouteShared_l5_e (y0 : List (Nat × Nat)) (y1 : Nat) (y2 : List (List Nat)) (y3 : Int) (s : Int × List (List Nat)) : (loopStep (envT Try.prog C38 M18) L_iRouteShared_l5 5 (loopC (bodyOf Try.f28) 5) (S_iRouteShared_l5.enc (y0, y1, y2, y3, s.1, s.2)).1 (S_iRouteShared_l5.enc (y0, y1, y2, y3, s.1, s.2)).2).to (stepD S_iRouteShared_l5 X_iRouteShared_l5) = (iRouteShared_l5_t y0 y1 y2 y3 s.1 s.2).map (Sum.map (fun s : Int × List (List Nat) => (show DR S_iRouteShared_l5.hs from (y0, y1, y2, y3, s.1, s.2))) id) := by kernel_rfl

theorem iRouteShared_l5_r (x : DR S_iRouteShared_l5.hs) : (iRouteShared_l5 x.1 x.2.1 x.2.2.1 x.2.2.2.1 x.2.2.2.2.1 x.2.2.2.2.2 : Option (SumD (X_iRouteShared_l5.map (·.2)))) = runL (meanS (envT Try.prog C38 M18) L_iRouteShared_l5 5 (loopC (bodyOf Try.f28) 5) S_iRouteShared_l5 X_iRouteShared_l5) x := run_of (fun s : Int × List (List Nat) => (show DR S_iRouteShared_l5.hs from (x.1, x.2.1, x.2.2.1, x.2.2.2.1, s.1, s.2))) (iRouteShared_l5_e (x.1) (x.2.1) (x.2.2.1) (x.2.2.2.1)) (x.2.2.2.2.1, x.2.2.2.2.2)

theorem iRouteShared_l5_k (L : Loops) (hn : L_iRouteShared_l5.n = L.n) (hlv : L_iRouteShared_l5.lv 5 = L.lv 5) (hL : ∀ vs bs, L.loop 5 vs bs = toldL S_iRouteShared_l5 X_iRouteShared_l5 (fun x => iRouteShared_l5 x.1 x.2.1 x.2.2.1 x.2.2.2.1 x.2.2.2.2.1 x.2.2.2.2.2) vs bs) : LOk Try.prog (envT Try.prog C38 M18) L 5 (loopC (bodyOf Try.f28) 5) := toldL_ok (L1 := L_iRouteShared_l5) (envT_ok (C38_ok) (M18_ok)) mixedO hn hlv (loopFree_ok (by kernel_rfl)) iRouteShared_l5_r hL

def A_iRouteShared : Shp := ⟨[.h, .h, .h, .h], [], [.sl [.f .f32, .f .f32], .sl [.sl [.f .f32]], .f .f32, .i .i64]⟩
def R_iRouteShared : List XShp := [(.ret, ⟨[.tup [.nils, .lb false]], [], []⟩), (.ret, ⟨[.tup [.slw 0 1, .lb true]], [.arr [.sl [.f .f32]] false], [.sl [.sl [.f .f32]]]⟩)]

noncomputable def L_iRouteShared : Loops := (⟨55, lvT [(5, [0, 2, 8, 9, 10, 34, 35, 36])], mdT [(5, .normal, [], [8, 9]), (5, .exit 0, [], [0, 2, 8, 9, 34, 35, 36]), (5, .ret, [], [0, 2, 10, 34, 35, 36])], fun k vs bs => bif Nat.beq k 5 then toldL S_iRouteShared_l5 X_iRouteShared_l5 (fun x => iRouteShared_l5 x.1 x.2.1 x.2.2.1 x.2.2.2.1 x.2.2.2.2.1 x.2.2.2.2.2) vs bs else .bad⟩ : Loops)

theorem iRouteShared_e (x : DR A_iRouteShared.hs) : (evFn (envT Try.prog C38 M18) L_iRouteShared Try.f28 (A_iRouteShared.enc x).1).to (fun q => decX R_iRouteShared .ret [q.1] q.2) = iRouteShared_t x.1 x.2.1 x.2.2.1 x.2.2.2 := by kernel_rfl

theorem iRouteShared_m (x : DR A_iRouteShared.hs) : meanF (envT Try.prog C38 M18) L_iRouteShared Try.f28 A_iRouteShared R_iRouteShared x = (show Option (SumD (R_iRouteShared.map (·.2))) from iRouteShared x.1 x.2.1 x.2.2.1 x.2.2.2) := meanF_of (iRouteShared_e x)

theorem iRouteShared_ok : SpecOk Try.prog 28 (evFn (envT Try.prog C38 M18) L_iRouteShared Try.f28) := fnL_ok (envT_ok (C38_ok) (M18_ok)) mixedO Try.func28 (by kernel_rfl) (c := bodyOf Try.f28) (by kernel_rfl) (loopsL (l := [(5, loopC (bodyOf Try.f28) 5)]) (by kernel_rfl) (lk_cons (iRouteShared_l5_k _ rfl rfl (fun _ _ => rfl)) lk_nil))

theorem iRouteShared_told : SpecOk Try.prog 28 (toldO A_iRouteShared R_iRouteShared (fun x => iRouteShared x.1 x.2.1 x.2.2.1 x.2.2.2) (C38 28)) := toldO_ok (by kernel_rfl) iRouteShared_ok (rest_ok (C38_ok) _) iRouteShared_m

noncomputable def C39 : Tab := tab 28 (toldO A_iRouteShared R_iRouteShared (fun x => iRouteShared x.1 x.2.1 x.2.2.1 x.2.2.2) (C38 28)) C38
theorem C39_ok : TabOk Try.prog C39 := tab_ok (iRouteShared_told) (C38_ok)

def A_sSameNumber : Shp := ⟨[.h, .h], [], [.f .f32, .f .f32]⟩
def R_sSameNumber : List XShp := [(.ret, ⟨[.h], [], [.b]⟩)]

theorem sSameNumber_e (x : DR A_sSameNumber.hs) : (evFn (envT Try.prog C39 M18) noLoops Try.f19 (A_sSameNumber.enc x).1).to (fun q => decX R_sSameNumber .ret [q.1] q.2) = sSameNumber_t x.1 x.2 := by kernel_rfl

theorem sSameNumber_m (x : DR A_sSameNumber.hs) : meanF (envT Try.prog C39 M18) noLoops Try.f19 A_sSameNumber R_sSameNumber x = some (show SumD (R_sSameNumber.map (·.2)) from sSameNumber x.1 x.2) := @meanF_tot _ _ _ _ _ _ _ (sSameNumber_e x) (show Inhabited (Bool) from inferInstance) (by kernel_rfl)

theorem sSameNumber_ok : SpecOk Try.prog 19 (evFn (envT Try.prog C39 M18) noLoops Try.f19) := fnL_ok (envT_ok (C39_ok) (M18_ok)) mixedO Try.func19 (by kernel_rfl) (c := bodyOf Try.f19) (by kernel_rfl) (loopFree_ok (by kernel_rfl))

theorem sSameNumber_told : SpecOk Try.prog 19 (toldT A_sSameNumber R_sSameNumber (fun x => sSameNumber x.1 x.2) (C39 19)) := toldT_ok (by kernel_rfl) sSameNumber_ok (rest_ok (C39_ok) _) sSameNumber_m

noncomputable def C40 : Tab := tab 19 (toldT A_sSameNumber R_sSameNumber (fun x => sSameNumber x.1 x.2) (C39 19)) C39
theorem C40_ok : TabOk Try.prog C40 := tab_ok (sSameNumber_told) (C39_ok)

def S_wb10List_l4 : Shp := ⟨[.h, .h, .undef, .h, .h], [], [.sl [.f .f32], .sl [.f .f32], .i .i64, .i .i64]⟩
def X_wb10List_l4 : List XShp := [(.ret, ⟨[.undef, .undef, .lb false, .undef, .undef], [], []⟩), (.exit 0, ⟨[.undef, .undef, .undef, .undef, .undef], [], []⟩)]

noncomputable def L_wb10List_l4 : Loops := (⟨27, lvT [(4, [0, 1, 4, 12, 13])], mdT [(4, .normal, [], [4]), (4, .exit 0, [], [0, 1, 4, 12, 13]), (4, .ret, [], [0, 1, 12, 13])], fun k vs bs => .bad⟩ : Loops)

theorem wb10List_l4_e (y0 : List Nat) (y1 : List Nat) (y2 : Int) (s : Int) : (loopStep (envT Try.prog C40 M18) L_wb10List_l4 4 (loopC (bodyOf Try.f29) 4) (S_wb10List_l4.enc (y0, y1, y2, s)).1 (S_wb10List_l4.enc (y0, y1, y2, s)).2).to (stepD S_wb10List_l4 X_wb10List_l4) = (wb10List_l4_t y0 y1 y2 s).map (Sum.map (fun s : Int => (show DR S_wb10List_l4.hs from (y0, y1, y2, s))) id) := by kernel_rfl

theorem wb10List_l4_r (x : DR S_wb10List_l4.hs) : (wb10List_l4 x.1 x.2.1 x.2.2.1 x.2.2.2 : Option (SumD (X_wb10List_l4.map (·.2)))) = runL (meanS (envT Try.prog C40 M18) L_wb10List_l4 4 (loopC (bodyOf Try.f29) 4) S_wb10List_l4 X_wb10List_l4) x := run_of (fun s : Int => (show DR S_wb10List_l4.hs from (x.1, x.2.1, x.2.2.1, s))) (wb10List_l4_e (x.1) (x.2.1) (x.2.2.1)) x.2.2.2

theorem wb10List_l4_k (L : Loops) (hn : L_wb10List_l4.n = L.n) (hlv : L_wb10List_l4.lv 4 = L.lv 4) (hL : ∀ vs bs, L.loop 4 vs bs = toldL S_wb10List_l4 X_wb10List_l4 (fun x => wb10List_l4 x.1 x.2.1 x.2.2.1 x.2.2.2) vs bs) : LOk Try.prog (envT Try.prog C40 M18) L 4 (loopC (bodyOf Try.f29) 4) := toldL_ok (L1 := L_wb10List_l4) (envT_ok (C40_ok) (M18_ok)) mixedO hn hlv (loopFree_ok (by kernel_rfl)) wb10List_l4_r hL

def A_wb10List : Shp := ⟨[.h, .h], [], [.sl [.f .f32], .sl [.f .f32]]⟩
def R_wb10List : List XShp := [(.ret, ⟨[.h], [], [.b]⟩)]

noncomputable def L_wb10List : Loops := (⟨27, lvT [(4, [0, 1, 4, 12, 13])], mdT [(4, .normal, [], [4]), (4, .exit 0, [], [0, 1, 4, 12, 13]), (4, .ret, [], [0, 1, 12, 13])], fun k vs bs => bif Nat.beq k 4 then toldL S_wb10List_l4 X_wb10List_l4 (fun x => wb10List_l4 x.1 x.2.1 x.2.2.1 x.2.2.2) vs bs else .bad⟩ : Loops)

theorem wb10List_e (x : DR A_wb10List.hs) : (evFn (envT Try.prog C40 M18) L_wb10List Try.f29 (A_wb10List.enc x).1).to (fun q => decX R_wb10List .ret [q.1] q.2) = wb10List_t x.1 x.2 := by kernel_rfl

theorem wb10List_m (x : DR A_wb10List.hs) : meanF (envT Try.prog C40 M18) L_wb10List Try.f29 A_wb10List R_wb10List x = (show Option (SumD (R_wb10List.map (·.2))) from wb10List x.1 x.2) := meanF_of (wb10List_e x)

theorem wb10List_ok : SpecOk Try.prog 29 (evFn (envT Try.prog C40 M18) L_wb10List Try.f29) := fnL_ok (envT_ok (C40_ok) (M18_ok)) mixedO Try.func29 (by kernel_rfl) (c := bodyOf Try.f29) (by kernel_rfl) (loopsL (l := [(4, loopC (bodyOf Try.f29) 4)]) (by kernel_rfl) (lk_cons (wb10List_l4_k _ rfl rfl (fun _ _ => rfl)) lk_nil))

theorem wb10List_told : SpecOk Try.prog 29 (toldO A_wb10List R_wb10List (fun x => wb10List x.1 x.2) (C40 29)) := toldO_ok (by kernel_rfl) wb10List_ok (rest_ok (C40_ok) _) wb10List_m

noncomputable def C41 : Tab := tab 29 (toldO A_wb10List R_wb10List (fun x => wb10List x.1 x.2) (C40 29)) C40
theorem C41_ok : TabOk Try.prog C41 := tab_ok (wb10List_told) (C40_ok)

def S_wFnReaches_l25 : Shp := ⟨[.h, .undef, .slw 0 2, .h, .slw 1 1, .slw 2 1, .slw 3 1, .slw 4 1, .slw 5 1, .h, .h, .h, .h], [.arr [.f .f32, .f .f32] false, .arr [.f .f32] false, .arr [.f .f32] false, .arr [.f .f32] false, .arr [.f .f32] false, .arr [.f .f32] false], [.sl [.i .u8], .f .f32, .i .i64, .i .i64, .i .i64, .i .i64, .sl [.f .f32, .f .f32], .sl [.f .f32], .sl [.f .f32], .sl [.f .f32], .sl [.f .f32], .sl [.f .f32]]⟩
def X_wFnReaches_l25 : List XShp := [(.ret, ⟨[.undef, .lb false, .undef, .undef, .undef, .undef, .undef, .undef, .undef, .undef, .undef, .undef, .undef], [], []⟩), (.exit 4, ⟨[.h, .undef, .slw 0 2, .h, .slw 1 1, .slw 2 1, .slw 3 1, .slw 4 1, .undef, .h, .h, .undef, .undef], [.arr [.f .f32, .f .f32] false, .arr [.f .f32] false, .arr [.f .f32] false, .arr [.f .f32] false, .arr [.f .f32] false], [.sl [.i .u8], .f .f32, .i .i64, .i .i64, .sl [.f .f32, .f .f32], .sl [.f .f32], .sl [.f .f32], .sl [.f .f32], .sl [.f .f32]]⟩)]

noncomputable def L_wFnReaches_l25 : Loops := (⟨355, lvT [(53, [4, 23, 25, 27, 31, 35, 327, 328]), (48, [8, 23, 25, 27, 31, 35, 307, 308]), (39, [4, 5, 6, 8, 23, 25, 27, 31, 278, 279]), (25, [1, 4, 5, 6, 8, 9, 10, 11, 18, 81, 82, 165, 166]), (17, [1, 4, 5, 6, 8, 9, 10, 11, 81, 82]), (11, [1, 5, 6, 8, 9, 10, 11, 60, 61])], mdT [(53, .normal, [], [4]), (53, .exit 10, [], [4, 25, 27, 35, 327, 328]), (53, .ret, [], [23, 25, 27, 31, 35, 327, 328]), (48, .exit 8, [], [307, 308]), (39, .normal, [], [4]), (39, .exit 6, [], [4, 5, 6, 278, 279]), (39, .ret, [], [5, 6, 8, 23, 25, 27, 31, 278, 279]), (25, .normal, [], [4]), (25, .exit 4, [], [4, 18, 165, 166]), (25, .ret, [], [1, 5, 6, 8, 9, 10, 11, 18, 81, 82, 165, 166]), (17, .normal, [], [4]), (17, .exit 2, [], [4, 11, 81, 82]), (17, .ret, [], [1, 5, 6, 8, 9, 10, 11, 81, 82]), (11, .exit 0, [], [60, 61])], fun k vs bs => .bad⟩ : Loops)

theorem wFnReaches_l25_e (y0 : List Int) (y1 : Nat) (y2 : Int) (y3 : Int) (y4 : Int) (y6 : List (Nat × Nat)) (y7 : List Nat) (y8 : List Nat) (y9 : List Nat) (y10 : List Nat) (y11 : List Nat) (s : Int) : (loopStep (envT Try.prog C41 M18) L_wFnReaches_l25 25 (loopC (loopC (bodyOf Try.f5) 17) 25) (S_wFnReaches_l25.enc (y0, y1, y2, y3, y4, s, y6, y7, y8, y9, y10, y11)).1 (S_wFnReaches_l25.enc (y0, y1, y2, y3, y4, s, y6, y7, y8, y9, y10, y11)).2).to (stepD S_wFnReaches_l25 X_wFnReaches_l25) = (wFnReaches_l25_t y0 y1 y2 y3 y4 y6 y7 y8 y9 y10 y11 s).map (Sum.map (fun s : Int => (show DR S_wFnReaches_l25.hs from (y0, y1, y2, y3, y4, s, y6, y7, y8, y9, y10, y11))) id) := by kernel_rfl

theorem wFnReaches_l25_r (x : DR S_wFnReaches_l25.hs) : (wFnReaches_l25 x.1 x.2.1 x.2.2.1 x.2.2.2.1 x.2.2.2.2.1 x.2.2.2.2.2.1 x.2.2.2.2.2.2.1 x.2.2.2.2.2.2.2.1 x.2.2.2.2.2.2.2.2.1 x.2.2.2.2.2.2.2.2.2.1 x.2.2.2.2.2.2.2.2.2.2.1 x.2.2.2.2.2.2.2.2.2.2.2 : Option (SumD (X_wFnReaches_l25.map (·.2)))) = runL (meanS (envT Try.prog C41 M18) L_wFnReaches_l25 25 (loopC (loopC (bodyOf Try.f5) 17) 25) S_wFnReaches_l25 X_wFnReaches_l25) x := run_of (fun s : Int => (show DR S_wFnReaches_l25.hs from (x.1, x.2.1, x.2.2.1, x.2.2.2.1, x.2.2.2.2.1, s, x.2.2.2.2.2.2.1, x.2.2.2.2.2.2.2.1, x.2.2.2.2.2.2.2.2.1, x.2.2.2.2.2.2.2.2.2.1, x.2.2.2.2.2.2.2.2.2.2.1, x.2.2.2.2.2.2.2.2.2.2.2))) (wFnReaches_l25_e (x.1) (x.2.1) (x.2.2.1) (x.2.2.2.1) (x.2.2.2.2.1) (x.2.2.2.2.2.2.1) (x.2.2.2.2.2.2.2.1) (x.2.2.2.2.2.2.2.2.1) (x.2.2.2.2.2.2.2.2.2.1) (x.2.2.2.2.2.2.2.2.2.2.1) (x.2.2.2.2.2.2.2.2.2.2.2)) x.2.2.2.2.2.1

theorem wFnReaches_l25_k (L : Loops) (hn : L_wFnReaches_l25.n = L.n) (hlv : L_wFnReaches_l25.lv 25 = L.lv 25) (hL : ∀ vs bs, L.loop 25 vs bs = toldL S_wFnReaches_l25 X_wFnReaches_l25 (fun x => wFnReaches_l25 x.1 x.2.1 x.2.2.1 x.2.2.2.1 x.2.2.2.2.1 x.2.2.2.2.2.1 x.2.2.2.2.2.2.1 x.2.2.2.2.2.2.2.1 x.2.2.2.2.2.2.2.2.1 x.2.2.2.2.2.2.2.2.2.1 x.2.2.2.2.2.2.2.2.2.2.1 x.2.2.2.2.2.2.2.2.2.2.2) vs bs) : LOk Try.prog (envT Try.prog C41 M18) L 25 (loopC (loopC (bodyOf Try.f5) 17) 25) := toldL_ok (L1 := L_wFnReaches_l25) (envT_ok (C41_ok) (M18_ok)) mixedO hn hlv (loopFree_ok (by kernel_rfl)) wFnReaches_l25_r hL

def S_wFnReaches_l11 : Shp := ⟨[.h, .slw 0 2, .h, .slw 1 1, .slw 2 1, .slw 3 1, .slw 4 1, .h, .h], [.arr [.f .f32, .f .f32] false, .arr [.f .f32] false, .arr [.f .f32] false, .arr [.f .f32] false, .arr [.f .f32] false], [.sl [.i .u8], .f .f32, .i .i64, .i .i64, .sl [.f .f32, .f .f32], .sl [.f .f32], .sl [.f .f32], .sl [.f .f32], .sl [.f .f32]]⟩
def X_wFnReaches_l11 : List XShp := [(.exit 0, ⟨[.h, .slw 0 2, .h, .slw 1 1, .slw 2 1, .slw 3 1, .slw 4 1, .undef, .undef], [.arr [.f .f32, .f .f32] false, .arr [.f .f32] false, .arr [.f .f32] false, .arr [.f .f32] false, .arr [.f .f32] false], [.sl [.i .u8], .f .f32, .sl [.f .f32, .f .f32], .sl [.f .f32], .sl [.f .f32], .sl [.f .f32], .sl [.f .f32]]⟩)]

noncomputable def L_wFnReaches_l11 : Loops := (⟨355, lvT [(53, [4, 23, 25, 27, 31, 35, 327, 328]), (48, [8, 23, 25, 27, 31, 35, 307, 308]), (39, [4, 5, 6, 8, 23, 25, 27, 31, 278, 279]), (25, [1, 4, 5, 6, 8, 9, 10, 11, 18, 81, 82, 165, 166]), (17, [1, 4, 5, 6, 8, 9, 10, 11, 81, 82]), (11, [1, 5, 6, 8, 9, 10, 11, 60, 61])], mdT [(53, .normal, [], [4]), (53, .exit 10, [], [4, 25, 27, 35, 327, 328]), (53, .ret, [], [23, 25, 27, 31, 35, 327, 328]), (48, .exit 8, [], [307, 308]), (39, .normal, [], [4]), (39, .exit 6, [], [4, 5, 6, 278, 279]), (39, .ret, [], [5, 6, 8, 23, 25, 27, 31, 278, 279]), (25, .normal, [], [4]), (25, .exit 4, [], [4, 18, 165, 166]), (25, .ret, [], [1, 5, 6, 8, 9, 10, 11, 18, 81, 82, 165, 166]), (17, .normal, [], [4]), (17, .exit 2, [], [4, 11, 81, 82]), (17, .ret, [], [1, 5, 6, 8, 9, 10, 11, 81, 82]), (11, .exit 0, [], [60, 61])], fun k vs bs => .bad⟩ : Loops)

theorem wFnReaches_l11_e (y0 : List Int) (y1 : Nat) (y2 : Int) (y4 : List (Nat × Nat)) (y5 : List Nat) (y6 : List Nat) (s : Int × List Nat × List Nat) : (loopStep (envT Try.prog C41 M18) L_wFnReaches_l11 11 (loopC (bodyOf Try.f5) 11) (S_wFnReaches_l11.enc (y0, y1, y2, s.1, y4, y5, y6, s.2.1, s.2.2)).1 (S_wFnReaches_l11.enc (y0, y1, y2, s.1, y4, y5, y6, s.2.1, s.2.2)).2).to (stepD S_wFnReaches_l11 X_wFnReaches_l11) = (wFnReaches_l11_t y0 y1 y2 y4 y5 y6 s.1 s.2.1 s.2.2).map (Sum.map (fun s : Int × List Nat × List Nat => (show DR S_wFnReaches_l11.hs from (y0, y1, y2, s.1, y4, y5, y6, s.2.1, s.2.2))) id) := by kernel_rfl

theorem wFnReaches_l11_r (x : DR S_wFnReaches_l11.hs) : (wFnReaches_l11 x.1 x.2.1 x.2.2.1 x.2.2.2.1 x.2.2.2.2.1 x.2.2.2.2.2.1 x.2.2.2.2.2.2.1 x.2.2.2.2.2.2.2.1 x.2.2.2.2.2.2.2.2 : Option (SumD (X_wFnReaches_l11.map (·.2)))) = runL (meanS (envT Try.prog C41 M18) L_wFnReaches_l11 11 (loopC (bodyOf Try.f5) 11) S_wFnReaches_l11 X_wFnReaches_l11) x := run_of (fun s : Int × List Nat × List Nat => (show DR S_wFnReaches_l11.hs from (x.1, x.2.1, x.2.2.1, s.1, x.2.2.2.2.1, x.2.2.2.2.2.1, x.2.2.2.2.2.2.1, s.2.1, s.2.2))) (wFnReaches_l11_e (x.1) (x.2.1) (x.2.2.1) (x.2.2.2.2.1) (x.2.2.2.2.2.1) (x.2.2.2.2.2.2.1)) (x.2.2.2.1, x.2.2.2.2.2.2.2.1, x.2.2.2.2.2.2.2.2)

theorem wFnReaches_l11_k (L : Loops) (hn : L_wFnReaches_l11.n = L.n) (hlv : L_wFnReaches_l11.lv 11 = L.lv 11) (hL : ∀ vs bs, L.loop 11 vs bs = toldL S_wFnReaches_l11 X_wFnReaches_l11 (fun x => wFnReaches_l11 x.1 x.2.1 x.2.2.1 x.2.2.2.1 x.2.2.2.2.1 x.2.2.2.2.2.1 x.2.2.2.2.2.2.1 x.2.2.2.2.2.2.2.1 x.2.2.2.2.2.2.2.2) vs bs) : LOk Try.prog (envT Try.prog C41 M18) L 11 (loopC (bodyOf Try.f5) 11) := toldL_ok (L1 := L_wFnReaches_l11) (envT_ok (C41_ok) (M18_ok)) mixedO hn hlv (loopFree_ok (by kernel_rfl)) wFnReaches_l11_r hL

def S_wFnReaches_l17 : Shp := ⟨[.h, .undef, .slw 0 2, .h, .slw 1 1, .slw 2 1, .slw 3 1, .slw 4 1, .h, .h], [.arr [.f .f32, .f .f32] false, .arr [.f .f32] false, .arr [.f .f32] false, .arr [.f .f32] false, .arr [.f .f32] false], [.sl [.i .u8], .f .f32, .i .i64, .i .i64, .sl [.f .f32, .f .f32], .sl [.f .f32], .sl [.f .f32], .sl [.f .f32], .sl [.f .f32]]⟩
def X_wFnReaches_l17 : List XShp := [(.ret, ⟨[.undef, .lb false, .undef, .undef, .undef, .undef, .undef, .undef, .undef, .undef], [], []⟩), (.exit 2, ⟨[.h, .undef, .slw 0 2, .h, .slw 1 1, .slw 2 1, .slw 3 1, .undef, .undef, .undef], [.arr [.f .f32, .f .f32] false, .arr [.f .f32] false, .arr [.f .f32] false, .arr [.f .f32] false], [.sl [.i .u8], .f .f32, .sl [.f .f32, .f .f32], .sl [.f .f32], .sl [.f .f32], .sl [.f .f32]]⟩)]

noncomputable def L_wFnReaches_l17 : Loops := (⟨355, lvT [(53, [4, 23, 25, 27, 31, 35, 327, 328]), (48, [8, 23, 25, 27, 31, 35, 307, 308]), (39, [4, 5, 6, 8, 23, 25, 27, 31, 278, 279]), (25, [1, 4, 5, 6, 8, 9, 10, 11, 18, 81, 82, 165, 166]), (17, [1, 4, 5, 6, 8, 9, 10, 11, 81, 82]), (11, [1, 5, 6, 8, 9, 10, 11, 60, 61])], mdT [(53, .normal, [], [4]), (53, .exit 10, [], [4, 25, 27, 35, 327, 328]), (53, .ret, [], [23, 25, 27, 31, 35, 327, 328]), (48, .exit 8, [], [307, 308]), (39, .normal, [], [4]), (39, .exit 6, [], [4, 5, 6, 278, 279]), (39, .ret, [], [5, 6, 8, 23, 25, 27, 31, 278, 279]), (25, .normal, [], [4]), (25, .exit 4, [], [4, 18, 165, 166]), (25, .ret, [], [1, 5, 6, 8, 9, 10, 11, 18, 81, 82, 165, 166]), (17, .normal, [], [4]), (17, .exit 2, [], [4, 11, 81, 82]), (17, .ret, [], [1, 5, 6, 8, 9, 10, 11, 81, 82]), (11, .exit 0, [], [60, 61])], fun k vs bs => bif Nat.beq k 25 then toldL S_wFnReaches_l25 X_wFnReaches_l25 (fun x => wFnReaches_l25 x.1 x.2.1 x.2.2.1 x.2.2.2.1 x.2.2.2.2.1 x.2.2.2.2.2.1 x.2.2.2.2.2.2.1 x.2.2.2.2.2.2.2.1 x.2.2.2.2.2.2.2.2.1 x.2.2.2.2.2.2.2.2.2.1 x.2.2.2.2.2.2.2.2.2.2.1 x.2.2.2.2.2.2.2.2.2.2.2) vs bs else .bad⟩ : Loops)

theorem wFnReaches_l17_e (s : List Int × Nat × Int × Int × (List (Nat × Nat)) × List Nat × List Nat × List Nat × List Nat) : (loopStep (envT Try.prog C41 M18) L_wFnReaches_l17 17 (loopC (bodyOf Try.f5) 17) (S_wFnReaches_l17.enc (s.1, s.2.1, s.2.2.1, s.2.2.2.1, s.2.2.2.2.1, s.2.2.2.2.2.1, s.2.2.2.2.2.2.1, s.2.2.2.2.2.2.2.1, s.2.2.2.2.2.2.2.2)).1 (S_wFnReaches_l17.enc (s.1, s.2.1, s.2.2.1, s.2.2.2.1, s.2.2.2.2.1, s.2.2.2.2.2.1, s.2.2.2.2.2.2.1, s.2.2.2.2.2.2.2.1, s.2.2.2.2.2.2.2.2)).2).to (stepD S_wFnReaches_l17 X_wFnReaches_l17) = (wFnReaches_l17_t  s.1 s.2.1 s.2.2.1 s.2.2.2.1 s.2.2.2.2.1 s.2.2.2.2.2.1 s.2.2.2.2.2.2.1 s.2.2.2.2.2.2.2.1 s.2.2.2.2.2.2.2.2).map (Sum.map (fun s : List Int × Nat × Int × Int × (List (Nat × Nat)) × List Nat × List Nat × List Nat × List Nat => (show DR S_wFnReaches_l17.hs from (s.1, s.2.1, s.2.2.1, s.2.2.2.1, s.2.2.2.2.1, s.2.2.2.2.2.1, s.2.2.2.2.2.2.1, s.2.2.2.2.2.2.2.1, s.2.2.2.2.2.2.2.2))) id) := by kernel_rfl

theorem wFnReaches_l17_r (x : DR S_wFnReaches_l17.hs) : (wFnReaches_l17 x.1 x.2.1 x.2.2.1 x.2.2.2.1 x.2.2.2.2.1 x.2.2.2.2.2.1 x.2.2.2.2.2.2.1 x.2.2.2.2.2.2.2.1 x.2.2.2.2.2.2.2.2 : Option (SumD (X_wFnReaches_l17.map (·.2)))) = runL (meanS (envT Try.prog C41 M18) L_wFnReaches_l17 17 (loopC (bodyOf Try.f5) 17) S_wFnReaches_l17 X_wFnReaches_l17) x := run_of (fun s : List Int × Nat × Int × Int × (List (Nat × Nat)) × List Nat × List Nat × List Nat × List Nat => (show DR S_wFnReaches_l17.hs from (s.1, s.2.1, s.2.2.1, s.2.2.2.1, s.2.2.2.2.1, s.2.2.2.2.2.1, s.2.2.2.2.2.2.1, s.2.2.2.2.2.2.2.1, s.2.2.2.2.2.2.2.2))) (wFnReaches_l17_e ) (x.1, x.2.1, x.2.2.1, x.2.2.2.1, x.2.2.2.2.1, x.2.2.2.2.2.1, x.2.2.2.2.2.2.1, x.2.2.2.2.2.2.2.1, x.2.2.2.2.2.2.2.2)

theorem wFnReaches_l17_k (L : Loops) (hn : L_wFnReaches_l17.n = L.n) (hlv : L_wFnReaches_l17.lv 17 = L.lv 17) (hL : ∀ vs bs, L.loop 17 vs bs = toldL S_wFnReaches_l17 X_wFnReaches_l17 (fun x => wFnReaches_l17 x.1 x.2.1 x.2.2.1 x.2.2.2.1 x.2.2.2.2.1 x.2.2.2.2.2.1 x.2.2.2.2.2.2.1 x.2.2.2.2.2.2.2.1 x.2.2.2.2.2.2.2.2) vs bs) : LOk Try.prog (envT Try.prog C41 M18) L 17 (loopC (bodyOf Try.f5) 17) := toldL_ok (L1 := L_wFnReaches_l17) (envT_ok (C41_ok) (M18_ok)) mixedO hn hlv (loopsL (l := [(25, loopC (loopC (bodyOf Try.f5) 17) 25)]) (by kernel_rfl) (lk_cons (wFnReaches_l25_k _ rfl rfl (fun _ _ => rfl)) lk_nil)) wFnReaches_l17_r hL

def H_wFnReaches_l39 : List XShp := [(.normal, ⟨[.undef, .slw 0 2, .h, .slw 1 1, .slw 2 1, .slw 3 1, .slw 4 1, .slw 1 1, .h, .h], [.arr [.f .f32, .f .f32] true, .arr [.f .f32] true, .arr [.f .f32] false, .arr [.f .f32] false, .arr [.f .f32] false], [.f .f32, .i .i64, .i .i64, .sl [.f .f32, .f .f32], .sl [.f .f32], .sl [.f .f32], .sl [.f .f32], .sl [.f .f32]]⟩), (.normal, ⟨[.undef, .slw 0 2, .h, .slw 1 1, .slw 2 1, .slw 3 1, .slw 4 1, .slw 5 1, .h, .h], [.arr [.f .f32, .f .f32] true, .arr [.f .f32] true, .arr [.f .f32] false, .arr [.f .f32] false, .arr [.f .f32] false, .arr [.f .f32] false], [.f .f32, .i .i64, .i .i64, .sl [.f .f32, .f .f32], .sl [.f .f32], .sl [.f .f32], .sl [.f .f32], .sl [.f .f32], .sl [.f .f32]]⟩)]
def X_wFnReaches_l39 : List XShp := [(.ret, ⟨[.lb false, .undef, .undef, .undef, .undef, .undef, .undef, .undef, .undef, .undef], [], []⟩), (.exit 6, ⟨[.undef, .undef, .undef, .slw 0 1, .slw 1 1, .slw 2 1, .slw 3 1, .slw 0 1, .undef, .undef], [.arr [.f .f32] true, .arr [.f .f32] false, .arr [.f .f32] false, .arr [.f .f32] false], [.sl [.f .f32], .sl [.f .f32], .sl [.f .f32], .sl [.f .f32]]⟩), (.exit 6, ⟨[.undef, .undef, .undef, .slw 0 1, .slw 1 1, .slw 2 1, .slw 3 1, .slw 4 1, .undef, .undef], [.arr [.f .f32] true, .arr [.f .f32] false, .arr [.f .f32] false, .arr [.f .f32] false, .arr [.f .f32] false], [.sl [.f .f32], .sl [.f .f32], .sl [.f .f32], .sl [.f .f32], .sl [.f .f32]]⟩)]

noncomputable def L_wFnReaches_l39 : Loops := (⟨355, lvT [(53, [4, 23, 25, 27, 31, 35, 327, 328]), (48, [8, 23, 25, 27, 31, 35, 307, 308]), (39, [4, 5, 6, 8, 23, 25, 27, 31, 278, 279]), (25, [1, 4, 5, 6, 8, 9, 10, 11, 18, 81, 82, 165, 166]), (17, [1, 4, 5, 6, 8, 9, 10, 11, 81, 82]), (11, [1, 5, 6, 8, 9, 10, 11, 60, 61])], mdT [(53, .normal, [], [4]), (53, .exit 10, [], [4, 25, 27, 35, 327, 328]), (53, .ret, [], [23, 25, 27, 31, 35, 327, 328]), (48, .exit 8, [], [307, 308]), (39, .normal, [], [4]), (39, .exit 6, [], [4, 5, 6, 278, 279]), (39, .ret, [], [5, 6, 8, 23, 25, 27, 31, 278, 279]), (25, .normal, [], [4]), (25, .exit 4, [], [4, 18, 165, 166]), (25, .ret, [], [1, 5, 6, 8, 9, 10, 11, 18, 81, 82, 165, 166]), (17, .normal, [], [4]), (17, .exit 2, [], [4, 11, 81, 82]), (17, .ret, [], [1, 5, 6, 8, 9, 10, 11, 81, 82]), (11, .exit 0, [], [60, 61])], fun k vs bs => .bad⟩ : Loops)

theorem wFnReaches_l39_e0 (y : DR (⟨[.undef, .slw 0 2, .h, .slw 1 1, .slw 2 1, .slw 3 1, .slw 4 1, .slw 1 1, .h, .h], [.arr [.f .f32, .f .f32] true, .arr [.f .f32] true, .arr [.f .f32] false, .arr [.f .f32] false, .arr [.f .f32] false], [.f .f32, .i .i64, .i .i64, .sl [.f .f32, .f .f32], .sl [.f .f32], .sl [.f .f32], .sl [.f .f32], .sl [.f .f32]]⟩ : Shp).hs) : (loopStep (envT Try.prog C41 M18) L_wFnReaches_l39 39 (loopC (bodyOf Try.f5) 39) ((⟨[.undef, .slw 0 2, .h, .slw 1 1, .slw 2 1, .slw 3 1, .slw 4 1, .slw 1 1, .h, .h], [.arr [.f .f32, .f .f32] true, .arr [.f .f32] true, .arr [.f .f32] false, .arr [.f .f32] false, .arr [.f .f32] false], [.f .f32, .i .i64, .i .i64, .sl [.f .f32, .f .f32], .sl [.f .f32], .sl [.f .f32], .sl [.f .f32], .sl [.f .f32]]⟩ : Shp).enc y).1 ((⟨[.undef, .slw 0 2, .h, .slw 1 1, .slw 2 1, .slw 3 1, .slw 4 1, .slw 1 1, .h, .h], [.arr [.f .f32, .f .f32] true, .arr [.f .f32] true, .arr [.f .f32] false, .arr [.f .f32] false, .arr [.f .f32] false], [.f .f32, .i .i64, .i .i64, .sl [.f .f32, .f .f32], .sl [.f .f32], .sl [.f .f32], .sl [.f .f32], .sl [.f .f32]]⟩ : Shp).enc y).2).to (stepH H_wFnReaches_l39 X_wFnReaches_l39) = wFnReaches_l39_t0 y.1 y.2.1 y.2.2.1 y.2.2.2.1 y.2.2.2.2.1 y.2.2.2.2.2.1 y.2.2.2.2.2.2.1 y.2.2.2.2.2.2.2 := by kernel_rfl

theorem wFnReaches_l39_e1 (y : DR (⟨[.undef, .slw 0 2, .h, .slw 1 1, .slw 2 1, .slw 3 1, .slw 4 1, .slw 5 1, .h, .h], [.arr [.f .f32, .f .f32] true, .arr [.f .f32] true, .arr [.f .f32] false, .arr [.f .f32] false, .arr [.f .f32] false, .arr [.f .f32] false], [.f .f32, .i .i64, .i .i64, .sl [.f .f32, .f .f32], .sl [.f .f32], .sl [.f .f32], .sl [.f .f32], .sl [.f .f32], .sl [.f .f32]]⟩ : Shp).hs) : (loopStep (envT Try.prog C41 M18) L_wFnReaches_l39 39 (loopC (bodyOf Try.f5) 39) ((⟨[.undef, .slw 0 2, .h, .slw 1 1, .slw 2 1, .slw 3 1, .slw 4 1, .slw 5 1, .h, .h], [.arr [.f .f32, .f .f32] true, .arr [.f .f32] true, .arr [.f .f32] false, .arr [.f .f32] false, .arr [.f .f32] false, .arr [.f .f32] false], [.f .f32, .i .i64, .i .i64, .sl [.f .f32, .f .f32], .sl [.f .f32], .sl [.f .f32], .sl [.f .f32], .sl [.f .f32], .sl [.f .f32]]⟩ : Shp).enc y).1 ((⟨[.undef, .slw 0 2, .h, .slw 1 1, .slw 2 1, .slw 3 1, .slw 4 1, .slw 5 1, .h, .h], [.arr [.f .f32, .f .f32] true, .arr [.f .f32] true, .arr [.f .f32] false, .arr [.f .f32] false, .arr [.f .f32] false, .arr [.f .f32] false], [.f .f32, .i .i64, .i .i64, .sl [.f .f32, .f .f32], .sl [.f .f32], .sl [.f .f32], .sl [.f .f32], .sl [.f .f32], .sl [.f .f32]]⟩ : Shp).enc y).2).to (stepH H_wFnReaches_l39 X_wFnReaches_l39) = wFnReaches_l39_t1 y.1 y.2.1 y.2.2.1 y.2.2.2.1 y.2.2.2.2.1 y.2.2.2.2.2.1 y.2.2.2.2.2.2.1 y.2.2.2.2.2.2.2.1 y.2.2.2.2.2.2.2.2 := by kernel_rfl

theorem wFnReaches_l39_o : ∀ x : (Nat × Int × Int × (List (Nat × Nat)) × List Nat × List Nat × List Nat × List Nat) ⊕ (Nat × Int × Int × (List (Nat × Nat)) × List Nat × List Nat × List Nat × List Nat × List Nat), meanH (envT Try.prog C41 M18) L_wFnReaches_l39 39 (loopC (bodyOf Try.f5) 39) H_wFnReaches_l39 X_wFnReaches_l39 x = wFnReaches_l39_s x
  | (.inl y) => meanH_of (wFnReaches_l39_e0 y)
  | (.inr y) => meanH_of (wFnReaches_l39_e1 y)

theorem wFnReaches_l39_r (x : SumD (H_wFnReaches_l39.map (fun p : XShp => p.2))) : (show Option (SumD (X_wFnReaches_l39.map (fun p : XShp => p.2))) from wFnReaches_l39 x) = runL (meanH (envT Try.prog C41 M18) L_wFnReaches_l39 39 (loopC (bodyOf Try.f5) 39) H_wFnReaches_l39 X_wFnReaches_l39) x := runH_of (H := H_wFnReaches_l39) (X := X_wFnReaches_l39) (g := wFnReaches_l39_s) wFnReaches_l39_o x

theorem wFnReaches_l39_k (L : Loops) (hn : L_wFnReaches_l39.n = L.n) (hlv : L_wFnReaches_l39.lv 39 = L.lv 39) (hL : ∀ vs bs, L.loop 39 vs bs = toldH H_wFnReaches_l39 X_wFnReaches_l39 (fun x => wFnReaches_l39 x) vs bs) : LOk Try.prog (envT Try.prog C41 M18) L 39 (loopC (bodyOf Try.f5) 39) := toldH_ok (L1 := L_wFnReaches_l39) (envT_ok (C41_ok) (M18_ok)) mixedO hn hlv (loopFree_ok (by kernel_rfl)) wFnReaches_l39_r hL

def H_wFnReaches_l48 : List XShp := [(.normal, ⟨[.slw 0 1, .slw 1 1, .slw 2 1, .slw 3 1, .slw 0 1, .h, .h, .h], [.arr [.f .f32] true, .arr [.f .f32] false, .arr [.f .f32] false, .arr [.f .f32] false], [.f .f64, .i .i64, .i .i64, .sl [.f .f32], .sl [.f .f32], .sl [.f .f32], .sl [.f .f32]]⟩), (.normal, ⟨[.slw 0 1, .slw 1 1, .slw 2 1, .slw 3 1, .slw 4 1, .h, .h, .h], [.arr [.f .f32] true, .arr [.f .f32] false, .arr [.f .f32] false, .arr [.f .f32] false, .arr [.f .f32] false], [.f .f64, .i .i64, .i .i64, .sl [.f .f32], .sl [.f .f32], .sl [.f .f32], .sl [.f .f32], .sl [.f .f32]]⟩)]
def X_wFnReaches_l48 : List XShp := [(.exit 8, ⟨[.slw 0 1, .slw 1 1, .slw 2 1, .slw 3 1, .slw 0 1, .h, .undef, .undef], [.arr [.f .f32] true, .arr [.f .f32] false, .arr [.f .f32] false, .arr [.f .f32] false], [.f .f64, .sl [.f .f32], .sl [.f .f32], .sl [.f .f32], .sl [.f .f32]]⟩), (.exit 8, ⟨[.slw 0 1, .slw 1 1, .slw 2 1, .slw 3 1, .slw 4 1, .h, .undef, .undef], [.arr [.f .f32] true, .arr [.f .f32] false, .arr [.f .f32] false, .arr [.f .f32] false, .arr [.f .f32] false], [.f .f64, .sl [.f .f32], .sl [.f .f32], .sl [.f .f32], .sl [.f .f32], .sl [.f .f32]]⟩)]

noncomputable def L_wFnReaches_l48 : Loops := (⟨355, lvT [(53, [4, 23, 25, 27, 31, 35, 327, 328]), (48, [8, 23, 25, 27, 31, 35, 307, 308]), (39, [4, 5, 6, 8, 23, 25, 27, 31, 278, 279]), (25, [1, 4, 5, 6, 8, 9, 10, 11, 18, 81, 82, 165, 166]), (17, [1, 4, 5, 6, 8, 9, 10, 11, 81, 82]), (11, [1, 5, 6, 8, 9, 10, 11, 60, 61])], mdT [(53, .normal, [], [4]), (53, .exit 10, [], [4, 25, 27, 35, 327, 328]), (53, .ret, [], [23, 25, 27, 31, 35, 327, 328]), (48, .exit 8, [], [307, 308]), (39, .normal, [], [4]), (39, .exit 6, [], [4, 5, 6, 278, 279]), (39, .ret, [], [5, 6, 8, 23, 25, 27, 31, 278, 279]), (25, .normal, [], [4]), (25, .exit 4, [], [4, 18, 165, 166]), (25, .ret, [], [1, 5, 6, 8, 9, 10, 11, 18, 81, 82, 165, 166]), (17, .normal, [], [4]), (17, .exit 2, [], [4, 11, 81, 82]), (17, .ret, [], [1, 5, 6, 8, 9, 10, 11, 81, 82]), (11, .exit 0, [], [60, 61])], fun k vs bs => .bad⟩ : Loops)

theorem wFnReaches_l48_e0 (y : DR (⟨[.slw 0 1, .slw 1 1, .slw 2 1, .slw 3 1, .slw 0 1, .h, .h, .h], [.arr [.f .f32] true, .arr [.f .f32] false, .arr [.f .f32] false, .arr [.f .f32] false], [.f .f64, .i .i64, .i .i64, .sl [.f .f32], .sl [.f .f32], .sl [.f .f32], .sl [.f .f32]]⟩ : Shp).hs) : (loopStep (envT Try.prog C41 M18) L_wFnReaches_l48 48 (loopC (bodyOf Try.f5) 48) ((⟨[.slw 0 1, .slw 1 1, .slw 2 1, .slw 3 1, .slw 0 1, .h, .h, .h], [.arr [.f .f32] true, .arr [.f .f32] false, .arr [.f .f32] false, .arr [.f .f32] false], [.f .f64, .i .i64, .i .i64, .sl [.f .f32], .sl [.f .f32], .sl [.f .f32], .sl [.f .f32]]⟩ : Shp).enc y).1 ((⟨[.slw 0 1, .slw 1 1, .slw 2 1, .slw 3 1, .slw 0 1, .h, .h, .h], [.arr [.f .f32] true, .arr [.f .f32] false, .arr [.f .f32] false, .arr [.f .f32] false], [.f .f64, .i .i64, .i .i64, .sl [.f .f32], .sl [.f .f32], .sl [.f .f32], .sl [.f .f32]]⟩ : Shp).enc y).2).to (stepH H_wFnReaches_l48 X_wFnReaches_l48) = wFnReaches_l48_t0 y.1 y.2.1 y.2.2.1 y.2.2.2.1 y.2.2.2.2.1 y.2.2.2.2.2.1 y.2.2.2.2.2.2 := by kernel_rfl

theorem wFnReaches_l48_e1 (y : DR (⟨[.slw 0 1, .slw 1 1, .slw 2 1, .slw 3 1, .slw 4 1, .h, .h, .h], [.arr [.f .f32] true, .arr [.f .f32] false, .arr [.f .f32] false, .arr [.f .f32] false, .arr [.f .f32] false], [.f .f64, .i .i64, .i .i64, .sl [.f .f32], .sl [.f .f32], .sl [.f .f32], .sl [.f .f32], .sl [.f .f32]]⟩ : Shp).hs) : (loopStep (envT Try.prog C41 M18) L_wFnReaches_l48 48 (loopC (bodyOf Try.f5) 48) ((⟨[.slw 0 1, .slw 1 1, .slw 2 1, .slw 3 1, .slw 4 1, .h, .h, .h], [.arr [.f .f32] true, .arr [.f .f32] false, .arr [.f .f32] false, .arr [.f .f32] false, .arr [.f .f32] false], [.f .f64, .i .i64, .i .i64, .sl [.f .f32], .sl [.f .f32], .sl [.f .f32], .sl [.f .f32], .sl [.f .f32]]⟩ : Shp).enc y).1 ((⟨[.slw 0 1, .slw 1 1, .slw 2 1, .slw 3 1, .slw 4 1, .h, .h, .h], [.arr [.f .f32] true, .arr [.f .f32] false, .arr [.f .f32] false, .arr [.f .f32] false, .arr [.f .f32] false], [.f .f64, .i .i64, .i .i64, .sl [.f .f32], .sl [.f .f32], .sl [.f .f32], .sl [.f .f32], .sl [.f .f32]]⟩ : Shp).enc y).2).to (stepH H_wFnReaches_l48 X_wFnReaches_l48) = wFnReaches_l48_t1 y.1 y.2.1 y.2.2.1 y.2.2.2.1 y.2.2.2.2.1 y.2.2.2.2.2.1 y.2.2.2.2.2.2.1 y.2.2.2.2.2.2.2 := by kernel_rfl

theorem wFnReaches_l48_o : ∀ x : (Nat × Int × Int × List Nat × List Nat × List Nat × List Nat) ⊕ (Nat × Int × Int × List Nat × List Nat × List Nat × List Nat × List Nat), meanH (envT Try.prog C41 M18) L_wFnReaches_l48 48 (loopC (bodyOf Try.f5) 48) H_wFnReaches_l48 X_wFnReaches_l48 x = wFnReaches_l48_s x
  | (.inl y) => meanH_of (wFnReaches_l48_e0 y)
  | (.inr y) => meanH_of (wFnReaches_l48_e1 y)

theorem wFnReaches_l48_r (x : SumD (H_wFnReaches_l48.map (fun p : XShp => p.2))) : (show Option (SumD (X_wFnReaches_l48.map (fun p : XShp => p.2))) from wFnReaches_l48 x) = runL (meanH (envT Try.prog C41 M18) L_wFnReaches_l48 48 (loopC (bodyOf Try.f5) 48) H_wFnReaches_l48 X_wFnReaches_l48) x := runH_of (H := H_wFnReaches_l48) (X := X_wFnReaches_l48) (g := wFnReaches_l48_s) wFnReaches_l48_o x

theorem wFnReaches_l48_k (L : Loops) (hn : L_wFnReaches_l48.n = L.n) (hlv : L_wFnReaches_l48.lv 48 = L.lv 48) (hL : ∀ vs bs, L.loop 48 vs bs = toldH H_wFnReaches_l48 X_wFnReaches_l48 (fun x => wFnReaches_l48 x) vs bs) : LOk Try.prog (envT Try.prog C41 M18) L 48 (loopC (bodyOf Try.f5) 48) := toldH_ok (L1 := L_wFnReaches_l48) (envT_ok (C41_ok) (M18_ok)) mixedO hn hlv (loopFree_ok (by kernel_rfl)) wFnReaches_l48_r hL

def H_wFnReaches_l53 : List XShp := [(.normal, ⟨[.undef, .slw 0 1, .slw 1 1, .slw 2 1, .slw 3 1, .h, .h, .h], [.arr [.f .f32] false, .arr [.f .f32] false, .arr [.f .f32] false, .arr [.f .f32] true], [.f .f64, .i .i64, .i .i64, .sl [.f .f32], .sl [.f .f32], .sl [.f .f32], .sl [.f .f32]]⟩), (.normal, ⟨[.undef, .slw 0 1, .slw 1 1, .slw 2 1, .slw 3 1, .h, .h, .h], [.arr [.f .f32] false, .arr [.f .f32] false, .arr [.f .f32] false, .arr [.f .f32] false], [.f .f64, .i .i64, .i .i64, .sl [.f .f32], .sl [.f .f32], .sl [.f .f32], .sl [.f .f32]]⟩)]
def X_wFnReaches_l53 : List XShp := [(.ret, ⟨[.lb false, .undef, .undef, .undef, .undef, .undef, .undef, .undef], [], []⟩), (.exit 10, ⟨[.undef, .slw 0 1, .undef, .undef, .slw 1 1, .undef, .undef, .undef], [.arr [.f .f32] false, .arr [.f .f32] true], [.sl [.f .f32], .sl [.f .f32]]⟩), (.exit 10, ⟨[.undef, .slw 0 1, .undef, .undef, .slw 1 1, .undef, .undef, .undef], [.arr [.f .f32] false, .arr [.f .f32] false], [.sl [.f .f32], .sl [.f .f32]]⟩)]

noncomputable def L_wFnReaches_l53 : Loops := (⟨355, lvT [(53, [4, 23, 25, 27, 31, 35, 327, 328]), (48, [8, 23, 25, 27, 31, 35, 307, 308]), (39, [4, 5, 6, 8, 23, 25, 27, 31, 278, 279]), (25, [1, 4, 5, 6, 8, 9, 10, 11, 18, 81, 82, 165, 166]), (17, [1, 4, 5, 6, 8, 9, 10, 11, 81, 82]), (11, [1, 5, 6, 8, 9, 10, 11, 60, 61])], mdT [(53, .normal, [], [4]), (53, .exit 10, [], [4, 25, 27, 35, 327, 328]), (53, .ret, [], [23, 25, 27, 31, 35, 327, 328]), (48, .exit 8, [], [307, 308]), (39, .normal, [], [4]), (39, .exit 6, [], [4, 5, 6, 278, 279]), (39, .ret, [], [5, 6, 8, 23, 25, 27, 31, 278, 279]), (25, .normal, [], [4]), (25, .exit 4, [], [4, 18, 165, 166]), (25, .ret, [], [1, 5, 6, 8, 9, 10, 11, 18, 81, 82, 165, 166]), (17, .normal, [], [4]), (17, .exit 2, [], [4, 11, 81, 82]), (17, .ret, [], [1, 5, 6, 8, 9, 10, 11, 81, 82]), (11, .exit 0, [], [60, 61])], fun k vs bs => .bad⟩ : Loops)

theorem wFnReaches_l53_e0 (y : DR (⟨[.undef, .slw 0 1, .slw 1 1, .slw 2 1, .slw 3 1, .h, .h, .h], [.arr [.f .f32] false, .arr [.f .f32] false, .arr [.f .f32] false, .arr [.f .f32] true], [.f .f64, .i .i64, .i .i64, .sl [.f .f32], .sl [.f .f32], .sl [.f .f32], .sl [.f .f32]]⟩ : Shp).hs) : (loopStep (envT Try.prog C41 M18) L_wFnReaches_l53 53 (loopC (bodyOf Try.f5) 53) ((⟨[.undef, .slw 0 1, .slw 1 1, .slw 2 1, .slw 3 1, .h, .h, .h], [.arr [.f .f32] false, .arr [.f .f32] false, .arr [.f .f32] false, .arr [.f .f32] true], [.f .f64, .i .i64, .i .i64, .sl [.f .f32], .sl [.f .f32], .sl [.f .f32], .sl [.f .f32]]⟩ : Shp).enc y).1 ((⟨[.undef, .slw 0 1, .slw 1 1, .slw 2 1, .slw 3 1, .h, .h, .h], [.arr [.f .f32] false, .arr [.f .f32] false, .arr [.f .f32] false, .arr [.f .f32] true], [.f .f64, .i .i64, .i .i64, .sl [.f .f32], .sl [.f .f32], .sl [.f .f32], .sl [.f .f32]]⟩ : Shp).enc y).2).to (stepH H_wFnReaches_l53 X_wFnReaches_l53) = wFnReaches_l53_t0 y.1 y.2.1 y.2.2.1 y.2.2.2.1 y.2.2.2.2.1 y.2.2.2.2.2.1 y.2.2.2.2.2.2 := by kernel_rfl

theorem wFnReaches_l53_e1 (y : DR (⟨[.undef, .slw 0 1, .slw 1 1, .slw 2 1, .slw 3 1, .h, .h, .h], [.arr [.f .f32] false, .arr [.f .f32] false, .arr [.f .f32] false, .arr [.f .f32] false], [.f .f64, .i .i64, .i .i64, .sl [.f .f32], .sl [.f .f32], .sl [.f .f32], .sl [.f .f32]]⟩ : Shp).hs) : (loopStep (envT Try.prog C41 M18) L_wFnReaches_l53 53 (loopC (bodyOf Try.f5) 53) ((⟨[.undef, .slw 0 1, .slw 1 1, .slw 2 1, .slw 3 1, .h, .h, .h], [.arr [.f .f32] false, .arr [.f .f32] false, .arr [.f .f32] false, .arr [.f .f32] false], [.f .f64, .i .i64, .i .i64, .sl [.f .f32], .sl [.f .f32], .sl [.f .f32], .sl [.f .f32]]⟩ : Shp).enc y).1 ((⟨[.undef, .slw 0 1, .slw 1 1, .slw 2 1, .slw 3 1, .h, .h, .h], [.arr [.f .f32] false, .arr [.f .f32] false, .arr [.f .f32] false, .arr [.f .f32] false], [.f .f64, .i .i64, .i .i64, .sl [.f .f32], .sl [.f .f32], .sl [.f .f32], .sl [.f .f32]]⟩ : Shp).enc y).2).to (stepH H_wFnReaches_l53 X_wFnReaches_l53) = wFnReaches_l53_t1 y.1 y.2.1 y.2.2.1 y.2.2.2.1 y.2.2.2.2.1 y.2.2.2.2.2.1 y.2.2.2.2.2.2 := by kernel_rfl

theorem wFnReaches_l53_o : ∀ x : (Nat × Int × Int × List Nat × List Nat × List Nat × List Nat) ⊕ (Nat × Int × Int × List Nat × List Nat × List Nat × List Nat), meanH (envT Try.prog C41 M18) L_wFnReaches_l53 53 (loopC (bodyOf Try.f5) 53) H_wFnReaches_l53 X_wFnReaches_l53 x = wFnReaches_l53_s x
  | (.inl y) => meanH_of (wFnReaches_l53_e0 y)
  | (.inr y) => meanH_of (wFnReaches_l53_e1 y)

theorem wFnReaches_l53_r (x : SumD (H_wFnReaches_l53.map (fun p : XShp => p.2))) : (show Option (SumD (X_wFnReaches_l53.map (fun p : XShp => p.2))) from wFnReaches_l53 x) = runL (meanH (envT Try.prog C41 M18) L_wFnReaches_l53 53 (loopC (bodyOf Try.f5) 53) H_wFnReaches_l53 X_wFnReaches_l53) x := runH_of (H := H_wFnReaches_l53) (X := X_wFnReaches_l53) (g := wFnReaches_l53_s) wFnReaches_l53_o x

theorem wFnReaches_l53_k (L : Loops) (hn : L_wFnReaches_l53.n = L.n) (hlv : L_wFnReaches_l53.lv 53 = L.lv 53) (hL : ∀ vs bs, L.loop 53 vs bs = toldH H_wFnReaches_l53 X_wFnReaches_l53 (fun x => wFnReaches_l53 x) vs bs) : LOk Try.prog (envT Try.prog C41 M18) L 53 (loopC (bodyOf Try.f5) 53) := toldH_ok (L1 := L_wFnReaches_l53) (envT_ok (C41_ok) (M18_ok)) mixedO hn hlv (loopFree_ok (by kernel_rfl)) wFnReaches_l53_r hL

def A_wFnReaches : Shp := ⟨[.h, .h], [], [.sl [.i .u8], .sl [.i .u8]]⟩
def R_wFnReaches : List XShp := [(.ret, ⟨[.h], [], [.b]⟩)]

noncomputable def L_wFnReaches : Loops := (⟨355, lvT [(53, [4, 23, 25, 27, 31, 35, 327, 328]), (48, [8, 23, 25, 27, 31, 35, 307, 308]), (39, [4, 5, 6, 8, 23, 25, 27, 31, 278, 279]), (25, [1, 4, 5, 6, 8, 9, 10, 11, 18, 81, 82, 165, 166]), (17, [1, 4, 5, 6, 8, 9, 10, 11, 81, 82]), (11, [1, 5, 6, 8, 9, 10, 11, 60, 61])], mdT [(53, .normal, [], [4]), (53, .exit 10, [], [4, 25, 27, 35, 327, 328]), (53, .ret, [], [23, 25, 27, 31, 35, 327, 328]), (48, .exit 8, [], [307, 308]), (39, .normal, [], [4]), (39, .exit 6, [], [4, 5, 6, 278, 279]), (39, .ret, [], [5, 6, 8, 23, 25, 27, 31, 278, 279]), (25, .normal, [], [4]), (25, .exit 4, [], [4, 18, 165, 166]), (25, .ret, [], [1, 5, 6, 8, 9, 10, 11, 18, 81, 82, 165, 166]), (17, .normal, [], [4]), (17, .exit 2, [], [4, 11, 81, 82]), (17, .ret, [], [1, 5, 6, 8, 9, 10, 11, 81, 82]), (11, .exit 0, [], [60, 61])], fun k vs bs => bif Nat.beq k 53 then toldH H_wFnReaches_l53 X_wFnReaches_l53 (fun x => wFnReaches_l53 x) vs bs else bif Nat.beq k 48 then toldH H_wFnReaches_l48 X_wFnReaches_l48 (fun x => wFnReaches_l48 x) vs bs else bif Nat.beq k 39 then toldH H_wFnReaches_l39 X_wFnReaches_l39 (fun x => wFnReaches_l39 x) vs bs else bif Nat.beq k 17 then toldL S_wFnReaches_l17 X_wFnReaches_l17 (fun x => wFnReaches_l17 x.1 x.2.1 x.2.2.1 x.2.2.2.1 x.2.2.2.2.1 x.2.2.2.2.2.1 x.2.2.2.2.2.2.1 x.2.2.2.2.2.2.2.1 x.2.2.2.2.2.2.2.2) vs bs else bif Nat.beq k 11 then toldL S_wFnReaches_l11 X_wFnReaches_l11 (fun x => wFnReaches_l11 x.1 x.2.1 x.2.2.1 x.2.2.2.1 x.2.2.2.2.1 x.2.2.2.2.2.1 x.2.2.2.2.2.2.1 x.2.2.2.2.2.2.2.1 x.2.2.2.2.2.2.2.2) vs bs else .bad⟩ : Loops)

theorem wFnReaches_e (x : DR A_wFnReaches.hs) : (evFn (envT Try.prog C41 M18) L_wFnReaches Try.f5 (A_wFnReaches.enc x).1).to (fun q => decX R_wFnReaches .ret [q.1] q.2) = wFnReaches_t x.1 x.2 := by kernel_rfl

theorem wFnReaches_m (x : DR A_wFnReaches.hs) : meanF (envT Try.prog C41 M18) L_wFnReaches Try.f5 A_wFnReaches R_wFnReaches x = (show Option (SumD (R_wFnReaches.map (·.2))) from wFnReaches x.1 x.2) := meanF_of (wFnReaches_e x)

theorem wFnReaches_ok : SpecOk Try.prog 5 (evFn (envT Try.prog C41 M18) L_wFnReaches Try.f5) := fnL_ok (envT_ok (C41_ok) (M18_ok)) mixedO Try.func5 (by kernel_rfl) (c := bodyOf Try.f5) (by kernel_rfl) (loopsL (l := [(11, loopC (bodyOf Try.f5) 11), (17, loopC (bodyOf Try.f5) 17), (39, loopC (bodyOf Try.f5) 39), (48, loopC (bodyOf Try.f5) 48), (53, loopC (bodyOf Try.f5) 53)]) (by kernel_rfl) (lk_cons (wFnReaches_l11_k _ rfl rfl (fun _ _ => rfl)) (lk_cons (wFnReaches_l17_k _ rfl rfl (fun _ _ => rfl)) (lk_cons (wFnReaches_l39_k _ rfl rfl (fun _ _ => rfl)) (lk_cons (wFnReaches_l48_k _ rfl rfl (fun _ _ => rfl)) (lk_cons (wFnReaches_l53_k _ rfl rfl (fun _ _ => rfl)) lk_nil))))))

theorem wFnReaches_told : SpecOk Try.prog 5 (toldO A_wFnReaches R_wFnReaches (fun x => wFnReaches x.1 x.2) (C41 5)) := toldO_ok (by kernel_rfl) wFnReaches_ok (rest_ok (C41_ok) _) wFnReaches_m

noncomputable def C42 : Tab := tab 5 (toldO A_wFnReaches R_wFnReaches (fun x => wFnReaches x.1 x.2) (C41 5)) C41
theorem C42_ok : TabOk Try.prog C42 := tab_ok (wFnReaches_told) (C41_ok)

theorem lawFnReaches_ok : SpecOk Try.prog 5 (evFn (envT Try.prog C41 M18) L_wFnReaches Try.f5) := wFnReaches_ok
theorem lawFnReaches_says (x : DR A_wFnReaches.hs) (h : (show Option (SumD (R_wFnReaches.map (·.2))) from wFnReaches x.1 x.2) = some true) : saysTrue (evFn (envT Try.prog C41 M18) L_wFnReaches Try.f5 (A_wFnReaches.enc x).1) = true := law_says (x := x) ((wFnReaches_m x).trans h)

theorem lawFnReaches_true (x0 : List Int) (x1 : List Int) (h : wFnReaches x0 x1 = some true) : saysTrue (evFn (envT Try.prog C41 M18) L_wFnReaches Try.f5 [.ds [.i .u8] x0, .ds [.i .u8] x1]) = true := (congrArg (fun l => saysTrue (evFn (envT Try.prog C41 M18) L_wFnReaches Try.f5 l)) (by kernel_rfl : ([.ds [.i .u8] x0, .ds [.i .u8] x1] : List V) = (A_wFnReaches.enc (x0, x1)).1)).trans (lawFnReaches_says (x0, x1) h)
end Go.Proofs.Ytpglfnkkmafhbaa
