/- Functions, as plain functions. What the program comes to. -/
import Derived.Test.YtcjekndobhkmbaaGv1d
import Derived.Test.YtcjekndobhkmbaaDc
import Derived.Test.YtcjekndobhkmbaaNv
import Derived.KernelRfl
set_option linter.unusedVariables false
set_option linter.unusedSimpArgs false
set_option linter.constructorNameAsVariable false
namespace Go.Proofs.Ytcjekndobhkmbaa
open Go.RowKit
set_option maxRecDepth 100000
theorem mixedO : (Try.prog).follows .mixedOrders = true := by kernel_rfl
def A_wr8Long : Shp := ⟨[.h, .h], [], [.sl [.i .u8], .sl [.i .u8]]⟩
def R_wr8Long : List XShp := [(.ret, ⟨[.h], [], [.b]⟩)]

theorem wr8Long_e (x : DR A_wr8Long.hs) : (evFn (envT Try.prog tab0 mtab0) noLoops Try.f20 (A_wr8Long.enc x).1).to (fun q => decX R_wr8Long .ret [q.1] q.2) = wr8Long_t x.1 x.2 := by kernel_rfl

theorem wr8Long_m (x : DR A_wr8Long.hs) : meanF (envT Try.prog tab0 mtab0) noLoops Try.f20 A_wr8Long R_wr8Long x = some (show SumD (R_wr8Long.map (·.2)) from wr8Long x.1 x.2) := @meanF_tot _ _ _ _ _ _ _ (wr8Long_e x) (show Inhabited (Bool) from inferInstance) (by kernel_rfl)

theorem wr8Long_ok : SpecOk Try.prog 20 (evFn (envT Try.prog tab0 mtab0) noLoops Try.f20) := fnL_ok (envT_ok (tab0_ok _) (mtab0_ok _)) mixedO Try.func20 (by kernel_rfl) (c := bodyOf Try.f20) (by kernel_rfl) (loopFree_ok (by kernel_rfl))

theorem wr8Long_told : SpecOk Try.prog 20 (toldT A_wr8Long R_wr8Long (fun x => wr8Long x.1 x.2) (tab0 20)) := toldT_ok (by kernel_rfl) wr8Long_ok (rest_ok (tab0_ok _) _) wr8Long_m

noncomputable def C0 : Tab := tab 20 (toldT A_wr8Long R_wr8Long (fun x => wr8Long x.1 x.2) (tab0 20)) tab0
theorem C0_ok : TabOk Try.prog C0 := tab_ok (wr8Long_told) (tab0_ok _)

def A_sl00From : Shp := ⟨[.h], [], [.sl [.i .u8]]⟩
def R_sl00From : List XShp := [(.ret, ⟨[.ref 0 0], [.cells [.h, .h, .h] false], [.sl [.i .u8], .i .i64, .i .u64]⟩)]

theorem sl00From_e (x : DR A_sl00From.hs) : (evFn (envT Try.prog C0 mtab0) noLoops Try.f55 (A_sl00From.enc x).1).to (fun q => decX R_sl00From .ret [q.1] q.2) = sl00From_t x := by kernel_rfl

theorem sl00From_m (x : DR A_sl00From.hs) : meanF (envT Try.prog C0 mtab0) noLoops Try.f55 A_sl00From R_sl00From x = some (show SumD (R_sl00From.map (·.2)) from sl00From x) := @meanF_tot _ _ _ _ _ _ _ (sl00From_e x) (show Inhabited (List Int × Int × Int) from inferInstance) (by kernel_rfl)

theorem sl00From_ok : SpecOk Try.prog 55 (evFn (envT Try.prog C0 mtab0) noLoops Try.f55) := fnL_ok (envT_ok (C0_ok) (mtab0_ok _)) mixedO Try.func55 (by kernel_rfl) (c := bodyOf Try.f55) (by kernel_rfl) (loopFree_ok (by kernel_rfl))

theorem sl00From_told : SpecOk Try.prog 55 (toldT A_sl00From R_sl00From (fun x => sl00From x) (C0 55)) := toldT_ok (by kernel_rfl) sl00From_ok (rest_ok (C0_ok) _) sl00From_m

noncomputable def C1 : Tab := tab 55 (toldT A_sl00From R_sl00From (fun x => sl00From x) (C0 55)) C0
theorem C1_ok : TabOk Try.prog C1 := tab_ok (sl00From_told) (C0_ok)

def A_sl00Src_next : Shp := ⟨[.ref 0 0], [.cells [.h, .h, .h] false], [.sl [.i .u8], .i .i64, .i .u64]⟩
def R_sl00Src_next : List XShp := [(.ret, ⟨[.h], [.cells [.h, .h, .h] false], [.i .i64, .sl [.i .u8], .i .i64, .i .u64]⟩)]

theorem sl00Src_next_e (x : DR A_sl00Src_next.hs) : (evFnM (envW Try.prog C1 mtab0 1) noLoops Try.f73 (A_sl00Src_next.enc x).1 ((A_sl00Src_next.enc x).2.map (·.blk))).to (decM R_sl00Src_next) = sl00Src_next_t x.1 x.2.1 x.2.2 := by kernel_rfl

theorem sl00Src_next_m (x : DR A_sl00Src_next.hs) : meanM (envW Try.prog C1 mtab0 1) noLoops Try.f73 A_sl00Src_next R_sl00Src_next x = (show Option (SumD (R_sl00Src_next.map (·.2))) from sl00Src_next x.1 x.2.1 x.2.2) := meanM_of (sl00Src_next_e x)

theorem sl00Src_next_ok : MSpecOk Try.prog 73 (evFnM (envW Try.prog C1 mtab0 1) noLoops Try.f73) := fnM_ok (envW_ok (C1_ok) (mtab0_ok _)) rfl mixedO Try.func73 (by kernel_rfl) (c := bodyOf Try.f73) (by kernel_rfl) (loopFree_ok (by kernel_rfl))

theorem sl00Src_next_told : MSpecOk Try.prog 73 (toldMO A_sl00Src_next R_sl00Src_next (fun x => sl00Src_next x.1 x.2.1 x.2.2) (mrest mtab0 73)) := toldMO_ok (by kernel_rfl) sl00Src_next_ok (mrest_ok (mtab0_ok _) _) sl00Src_next_m

noncomputable def M2 : MTab := mtab 73 (toldMO A_sl00Src_next R_sl00Src_next (fun x => sl00Src_next x.1 x.2.1 x.2.2) (mrest mtab0 73)) mtab0
theorem M2_ok : MTabOk Try.prog M2 := mtab_ok (sl00Src_next_told) (mtab0_ok _)

def A_sl00Src_pick : Shp := ⟨[.ref 0 0, .h], [.cells [.h, .h, .h] false], [.i .i64, .sl [.i .u8], .i .i64, .i .u64]⟩
def R_sl00Src_pick : List XShp := [(.ret, ⟨[.h], [.cells [.h, .h, .h] false], [.i .i64, .sl [.i .u8], .i .i64, .i .u64]⟩)]

theorem sl00Src_pick_e (x : DR A_sl00Src_pick.hs) : (evFnM (envW Try.prog C1 M2 1) noLoops Try.f56 (A_sl00Src_pick.enc x).1 ((A_sl00Src_pick.enc x).2.map (·.blk))).to (decM R_sl00Src_pick) = sl00Src_pick_t x.1 x.2.1 x.2.2.1 x.2.2.2 := by kernel_rfl

theorem sl00Src_pick_m (x : DR A_sl00Src_pick.hs) : meanM (envW Try.prog C1 M2 1) noLoops Try.f56 A_sl00Src_pick R_sl00Src_pick x = (show Option (SumD (R_sl00Src_pick.map (·.2))) from sl00Src_pick x.1 x.2.1 x.2.2.1 x.2.2.2) := meanM_of (sl00Src_pick_e x)

theorem sl00Src_pick_ok : MSpecOk Try.prog 56 (evFnM (envW Try.prog C1 M2 1) noLoops Try.f56) := fnM_ok (envW_ok (C1_ok) (M2_ok)) rfl mixedO Try.func56 (by kernel_rfl) (c := bodyOf Try.f56) (by kernel_rfl) (loopFree_ok (by kernel_rfl))

theorem sl00Src_pick_told : MSpecOk Try.prog 56 (toldMO A_sl00Src_pick R_sl00Src_pick (fun x => sl00Src_pick x.1 x.2.1 x.2.2.1 x.2.2.2) (mrest M2 56)) := toldMO_ok (by kernel_rfl) sl00Src_pick_ok (mrest_ok (M2_ok) _) sl00Src_pick_m

noncomputable def M3 : MTab := mtab 56 (toldMO A_sl00Src_pick R_sl00Src_pick (fun x => sl00Src_pick x.1 x.2.1 x.2.2.1 x.2.2.2) (mrest M2 56)) M2
theorem M3_ok : MTabOk Try.prog M3 := mtab_ok (sl00Src_pick_told) (M2_ok)

def A_sl00Src_one : Shp := ⟨[.ref 0 0, .h], [.cells [.h, .h, .h] false], [.i .i64, .sl [.i .u8], .i .i64, .i .u64]⟩
def R_sl00Src_one : List XShp := [(.ret, ⟨[.h], [.cells [.h, .h, .h] false], [.b, .sl [.i .u8], .i .i64, .i .u64]⟩)]

theorem sl00Src_one_e (x : DR A_sl00Src_one.hs) : (evFnM (envW Try.prog C1 M3 1) noLoops Try.f76 (A_sl00Src_one.enc x).1 ((A_sl00Src_one.enc x).2.map (·.blk))).to (decM R_sl00Src_one) = sl00Src_one_t x.1 x.2.1 x.2.2.1 x.2.2.2 := by kernel_rfl

theorem sl00Src_one_m (x : DR A_sl00Src_one.hs) : meanM (envW Try.prog C1 M3 1) noLoops Try.f76 A_sl00Src_one R_sl00Src_one x = (show Option (SumD (R_sl00Src_one.map (·.2))) from sl00Src_one x.1 x.2.1 x.2.2.1 x.2.2.2) := meanM_of (sl00Src_one_e x)

theorem sl00Src_one_ok : MSpecOk Try.prog 76 (evFnM (envW Try.prog C1 M3 1) noLoops Try.f76) := fnM_ok (envW_ok (C1_ok) (M3_ok)) rfl mixedO Try.func76 (by kernel_rfl) (c := bodyOf Try.f76) (by kernel_rfl) (loopFree_ok (by kernel_rfl))

theorem sl00Src_one_told : MSpecOk Try.prog 76 (toldMO A_sl00Src_one R_sl00Src_one (fun x => sl00Src_one x.1 x.2.1 x.2.2.1 x.2.2.2) (mrest M3 76)) := toldMO_ok (by kernel_rfl) sl00Src_one_ok (mrest_ok (M3_ok) _) sl00Src_one_m

noncomputable def M4 : MTab := mtab 76 (toldMO A_sl00Src_one R_sl00Src_one (fun x => sl00Src_one x.1 x.2.1 x.2.2.1 x.2.2.2) (mrest M3 76)) M3
theorem M4_ok : MTabOk Try.prog M4 := mtab_ok (sl00Src_one_told) (M3_ok)

def S_sl06DrawOk_l4 : Shp := ⟨[.ref 0 0, .ref 1 0, .h, .ref 2 0, .h], [.cells [.h, .h, .h] false, .cells [.nils, .nils, .nils] false, .cells [.slw 3 1, .slw 4 4, .slw 5 1] false, .arr [.i .i64] false, .arr [.i .i64, .i .i64, .i .i64, .i .i64] false, .arr [.i .i64] false], [.i .i64, .i .i64, .sl [.i .u8], .i .i64, .i .u64, .sl [.i .i64], .sl [.i .i64, .i .i64, .i .i64, .i .i64], .sl [.i .i64]]⟩
def X_sl06DrawOk_l4 : List XShp := [(.exit 0, ⟨[.undef, .ref 1 0, .undef, .ref 2 0, .undef], [.cells [.h, .h, .h] false, .cells [.nils, .nils, .nils] false, .cells [.slw 3 1, .slw 4 4, .slw 5 1] false, .arr [.i .i64] false, .arr [.i .i64, .i .i64, .i .i64, .i .i64] false, .arr [.i .i64] false], [.sl [.i .u8], .i .i64, .i .u64, .sl [.i .i64], .sl [.i .i64, .i .i64, .i .i64, .i .i64], .sl [.i .i64]]⟩)]

noncomputable def L_sl06DrawOk_l4 : Loops := (⟨73, lvT [(4, [0, 2, 3, 4, 5])], mdT [(4, .exit 0, [], [0, 3, 5])], fun k vs bs => .bad⟩ : Loops)

theorem sl06DrawOk_l4_e (y0 : Int) (s : Int × List Int × Int × Int × List Int × (List (Int × Int × Int × Int)) × List Int) : (loopStep (envW Try.prog C1 M4 1) L_sl06DrawOk_l4 4 (loopC (bodyOf Try.f61) 4) (S_sl06DrawOk_l4.enc (y0, s.1, s.2.1, s.2.2.1, s.2.2.2.1, s.2.2.2.2.1, s.2.2.2.2.2.1, s.2.2.2.2.2.2)).1 (S_sl06DrawOk_l4.enc (y0, s.1, s.2.1, s.2.2.1, s.2.2.2.1, s.2.2.2.2.1, s.2.2.2.2.2.1, s.2.2.2.2.2.2)).2).to (stepD S_sl06DrawOk_l4 X_sl06DrawOk_l4) = (sl06DrawOk_l4_t y0 s.1 s.2.1 s.2.2.1 s.2.2.2.1 s.2.2.2.2.1 s.2.2.2.2.2.1 s.2.2.2.2.2.2).map (Sum.map (fun s : Int × List Int × Int × Int × List Int × (List (Int × Int × Int × Int)) × List Int => (show DR S_sl06DrawOk_l4.hs from (y0, s.1, s.2.1, s.2.2.1, s.2.2.2.1, s.2.2.2.2.1, s.2.2.2.2.2.1, s.2.2.2.2.2.2))) id) := by kernel_rfl

theorem sl06DrawOk_l4_r (x : DR S_sl06DrawOk_l4.hs) : (sl06DrawOk_l4 x.1 x.2.1 x.2.2.1 x.2.2.2.1 x.2.2.2.2.1 x.2.2.2.2.2.1 x.2.2.2.2.2.2.1 x.2.2.2.2.2.2.2 : Option (SumD (X_sl06DrawOk_l4.map (·.2)))) = runL (meanS (envW Try.prog C1 M4 1) L_sl06DrawOk_l4 4 (loopC (bodyOf Try.f61) 4) S_sl06DrawOk_l4 X_sl06DrawOk_l4) x := run_of (fun s : Int × List Int × Int × Int × List Int × (List (Int × Int × Int × Int)) × List Int => (show DR S_sl06DrawOk_l4.hs from (x.1, s.1, s.2.1, s.2.2.1, s.2.2.2.1, s.2.2.2.2.1, s.2.2.2.2.2.1, s.2.2.2.2.2.2))) (sl06DrawOk_l4_e (x.1)) (x.2.1, x.2.2.1, x.2.2.2.1, x.2.2.2.2.1, x.2.2.2.2.2.1, x.2.2.2.2.2.2.1, x.2.2.2.2.2.2.2)

theorem sl06DrawOk_l4_k (L : Loops) (hn : L_sl06DrawOk_l4.n = L.n) (hlv : L_sl06DrawOk_l4.lv 4 = L.lv 4) (hL : ∀ vs bs, L.loop 4 vs bs = toldL S_sl06DrawOk_l4 X_sl06DrawOk_l4 (fun x => sl06DrawOk_l4 x.1 x.2.1 x.2.2.1 x.2.2.2.1 x.2.2.2.2.1 x.2.2.2.2.2.1 x.2.2.2.2.2.2.1 x.2.2.2.2.2.2.2) vs bs) : LOk Try.prog (envW Try.prog C1 M4 1) L 4 (loopC (bodyOf Try.f61) 4) := toldL_ok (L1 := L_sl06DrawOk_l4) (envW_ok (C1_ok) (M4_ok)) mixedO hn hlv (loopFree_ok (by kernel_rfl)) sl06DrawOk_l4_r hL

def A_sl06DrawOk : Shp := ⟨[.ref 0 0], [.cells [.h, .h, .h] false], [.sl [.i .u8], .i .i64, .i .u64]⟩
def R_sl06DrawOk : List XShp := [(.ret, ⟨[.agg [.slw 1 1, .slw 2 4, .slw 3 1]], [.cells [.h, .h, .h] false, .arr [.i .i64] false, .arr [.i .i64, .i .i64, .i .i64, .i .i64] false, .arr [.i .i64] false], [.sl [.i .u8], .i .i64, .i .u64, .sl [.i .i64], .sl [.i .i64, .i .i64, .i .i64, .i .i64], .sl [.i .i64]]⟩)]

noncomputable def L_sl06DrawOk : Loops := (⟨73, lvT [(4, [0, 2, 3, 4, 5])], mdT [(4, .exit 0, [], [0, 3, 5])], fun k vs bs => bif Nat.beq k 4 then toldL S_sl06DrawOk_l4 X_sl06DrawOk_l4 (fun x => sl06DrawOk_l4 x.1 x.2.1 x.2.2.1 x.2.2.2.1 x.2.2.2.2.1 x.2.2.2.2.2.1 x.2.2.2.2.2.2.1 x.2.2.2.2.2.2.2) vs bs else .bad⟩ : Loops)

theorem sl06DrawOk_e (x : DR A_sl06DrawOk.hs) : (evFnM (envW Try.prog C1 M4 1) L_sl06DrawOk Try.f61 (A_sl06DrawOk.enc x).1 ((A_sl06DrawOk.enc x).2.map (·.blk))).to (decM R_sl06DrawOk) = sl06DrawOk_t x.1 x.2.1 x.2.2 := by kernel_rfl

theorem sl06DrawOk_m (x : DR A_sl06DrawOk.hs) : meanM (envW Try.prog C1 M4 1) L_sl06DrawOk Try.f61 A_sl06DrawOk R_sl06DrawOk x = (show Option (SumD (R_sl06DrawOk.map (·.2))) from sl06DrawOk x.1 x.2.1 x.2.2) := meanM_of (sl06DrawOk_e x)

theorem sl06DrawOk_ok : MSpecOk Try.prog 61 (evFnM (envW Try.prog C1 M4 1) L_sl06DrawOk Try.f61) := fnM_ok (envW_ok (C1_ok) (M4_ok)) rfl mixedO Try.func61 (by kernel_rfl) (c := bodyOf Try.f61) (by kernel_rfl) (loopsL (l := [(4, loopC (bodyOf Try.f61) 4)]) (by kernel_rfl) (lk_cons (sl06DrawOk_l4_k _ rfl rfl (fun _ _ => rfl)) lk_nil))

theorem sl06DrawOk_told : MSpecOk Try.prog 61 (toldMO A_sl06DrawOk R_sl06DrawOk (fun x => sl06DrawOk x.1 x.2.1 x.2.2) (mrest M4 61)) := toldMO_ok (by kernel_rfl) sl06DrawOk_ok (mrest_ok (M4_ok) _) sl06DrawOk_m

noncomputable def M5 : MTab := mtab 61 (toldMO A_sl06DrawOk R_sl06DrawOk (fun x => sl06DrawOk x.1 x.2.1 x.2.2) (mrest M4 61)) M4
theorem M5_ok : MTabOk Try.prog M5 := mtab_ok (sl06DrawOk_told) (M4_ok)

def A_sR8River : Shp := ⟨[.h], [], [.sl [.i .u8]]⟩
def R_sR8River : List XShp := [(.ret, ⟨[.agg [.slw 0 1, .slw 1 4, .slw 2 1]], [.arr [.i .i64] false, .arr [.i .i64, .i .i64, .i .i64, .i .i64] false, .arr [.i .i64] false], [.sl [.i .i64], .sl [.i .i64, .i .i64, .i .i64, .i .i64], .sl [.i .i64]]⟩)]

theorem sR8River_e (x : DR A_sR8River.hs) : (evFn (envT Try.prog C1 M5) noLoops Try.f26 (A_sR8River.enc x).1).to (fun q => decX R_sR8River .ret [q.1] q.2) = sR8River_t x := by kernel_rfl

theorem sR8River_m (x : DR A_sR8River.hs) : meanF (envT Try.prog C1 M5) noLoops Try.f26 A_sR8River R_sR8River x = (show Option (SumD (R_sR8River.map (·.2))) from sR8River x) := meanF_of (sR8River_e x)

theorem sR8River_ok : SpecOk Try.prog 26 (evFn (envT Try.prog C1 M5) noLoops Try.f26) := fnL_ok (envT_ok (C1_ok) (M5_ok)) mixedO Try.func26 (by kernel_rfl) (c := bodyOf Try.f26) (by kernel_rfl) (loopFree_ok (by kernel_rfl))

theorem sR8River_told : SpecOk Try.prog 26 (toldO A_sR8River R_sR8River (fun x => sR8River x) (C1 26)) := toldO_ok (by kernel_rfl) sR8River_ok (rest_ok (C1_ok) _) sR8River_m

noncomputable def C6 : Tab := tab 26 (toldO A_sR8River R_sR8River (fun x => sR8River x) (C1 26)) C1
theorem C6_ok : TabOk Try.prog C6 := tab_ok (sR8River_told) (C1_ok)

def S_sR8Days_l8 : Shp := ⟨[.h, .ref 0 0, .slw 1 1, .h, .slw 2 1, .h], [.cells [.h, .h, .h] false, .arr [.sl [.i .i64]] false, .arr [.i .i64] false], [.i .i64, .i .i64, .i .i64, .sl [.i .u8], .i .i64, .i .u64, .sl [.sl [.i .i64]], .sl [.i .i64]]⟩
def X_sR8Days_l8 : List XShp := [(.exit 2, ⟨[.h, .ref 0 0, .slw 1 1, .h, .slw 2 1, .undef], [.cells [.h, .h, .h] false, .arr [.sl [.i .i64]] false, .arr [.i .i64] false], [.i .i64, .i .i64, .sl [.i .u8], .i .i64, .i .u64, .sl [.sl [.i .i64]], .sl [.i .i64]]⟩)]

noncomputable def L_sR8Days_l8 : Loops := (⟨35, lvT [(8, [1, 5, 6, 7, 8, 9]), (4, [1, 5, 6, 7])], mdT [(8, .exit 2, [], [9]), (4, .exit 0, [], [1, 5, 7])], fun k vs bs => .bad⟩ : Loops)

theorem sR8Days_l8_e (y0 : Int) (y1 : Int) (y6 : List (List Int)) (s : Int × List Int × Int × Int × List Int) : (loopStep (envT Try.prog C6 M5) L_sR8Days_l8 8 (loopC (loopC (bodyOf Try.f27) 4) 8) (S_sR8Days_l8.enc (y0, y1, s.1, s.2.1, s.2.2.1, s.2.2.2.1, y6, s.2.2.2.2)).1 (S_sR8Days_l8.enc (y0, y1, s.1, s.2.1, s.2.2.1, s.2.2.2.1, y6, s.2.2.2.2)).2).to (stepD S_sR8Days_l8 X_sR8Days_l8) = (sR8Days_l8_t y0 y1 y6 s.1 s.2.1 s.2.2.1 s.2.2.2.1 s.2.2.2.2).map (Sum.map (fun s : Int × List Int × Int × Int × List Int => (show DR S_sR8Days_l8.hs from (y0, y1, s.1, s.2.1, s.2.2.1, s.2.2.2.1, y6, s.2.2.2.2))) id) := by kernel_rfl

theorem sR8Days_l8_r (x : DR S_sR8Days_l8.hs) : (sR8Days_l8 x.1 x.2.1 x.2.2.1 x.2.2.2.1 x.2.2.2.2.1 x.2.2.2.2.2.1 x.2.2.2.2.2.2.1 x.2.2.2.2.2.2.2 : Option (SumD (X_sR8Days_l8.map (·.2)))) = runL (meanS (envT Try.prog C6 M5) L_sR8Days_l8 8 (loopC (loopC (bodyOf Try.f27) 4) 8) S_sR8Days_l8 X_sR8Days_l8) x := run_of (fun s : Int × List Int × Int × Int × List Int => (show DR S_sR8Days_l8.hs from (x.1, x.2.1, s.1, s.2.1, s.2.2.1, s.2.2.2.1, x.2.2.2.2.2.2.1, s.2.2.2.2))) (sR8Days_l8_e (x.1) (x.2.1) (x.2.2.2.2.2.2.1)) (x.2.2.1, x.2.2.2.1, x.2.2.2.2.1, x.2.2.2.2.2.1, x.2.2.2.2.2.2.2)

theorem sR8Days_l8_k (L : Loops) (hn : L_sR8Days_l8.n = L.n) (hlv : L_sR8Days_l8.lv 8 = L.lv 8) (hL : ∀ vs bs, L.loop 8 vs bs = toldL S_sR8Days_l8 X_sR8Days_l8 (fun x => sR8Days_l8 x.1 x.2.1 x.2.2.1 x.2.2.2.1 x.2.2.2.2.1 x.2.2.2.2.2.1 x.2.2.2.2.2.2.1 x.2.2.2.2.2.2.2) vs bs) : LOk Try.prog (envT Try.prog C6 M5) L 8 (loopC (loopC (bodyOf Try.f27) 4) 8) := toldL_ok (L1 := L_sR8Days_l8) (envT_ok (C6_ok) (M5_ok)) mixedO hn hlv (loopFree_ok (by kernel_rfl)) sR8Days_l8_r hL

def S_sR8Days_l4 : Shp := ⟨[.h, .ref 0 0, .slw 1 1, .h], [.cells [.h, .h, .h] false, .arr [.sl [.i .i64]] false], [.i .i64, .i .i64, .sl [.i .u8], .i .i64, .i .u64, .sl [.sl [.i .i64]]]⟩
def X_sR8Days_l4 : List XShp := [(.exit 0, ⟨[.undef, .undef, .slw 0 1, .undef], [.arr [.sl [.i .i64]] false], [.sl [.sl [.i .i64]]]⟩)]

noncomputable def L_sR8Days_l4 : Loops := (⟨35, lvT [(8, [1, 5, 6, 7, 8, 9]), (4, [1, 5, 6, 7])], mdT [(8, .exit 2, [], [9]), (4, .exit 0, [], [1, 5, 7])], fun k vs bs => bif Nat.beq k 8 then toldL S_sR8Days_l8 X_sR8Days_l8 (fun x => sR8Days_l8 x.1 x.2.1 x.2.2.1 x.2.2.2.1 x.2.2.2.2.1 x.2.2.2.2.2.1 x.2.2.2.2.2.2.1 x.2.2.2.2.2.2.2) vs bs else .bad⟩ : Loops)

theorem sR8Days_l4_e (s : Int × Int × List Int × Int × Int × List (List Int)) : (loopStep (envT Try.prog C6 M5) L_sR8Days_l4 4 (loopC (bodyOf Try.f27) 4) (S_sR8Days_l4.enc (s.1, s.2.1, s.2.2.1, s.2.2.2.1, s.2.2.2.2.1, s.2.2.2.2.2)).1 (S_sR8Days_l4.enc (s.1, s.2.1, s.2.2.1, s.2.2.2.1, s.2.2.2.2.1, s.2.2.2.2.2)).2).to (stepD S_sR8Days_l4 X_sR8Days_l4) = (sR8Days_l4_t  s.1 s.2.1 s.2.2.1 s.2.2.2.1 s.2.2.2.2.1 s.2.2.2.2.2).map (Sum.map (fun s : Int × Int × List Int × Int × Int × List (List Int) => (show DR S_sR8Days_l4.hs from (s.1, s.2.1, s.2.2.1, s.2.2.2.1, s.2.2.2.2.1, s.2.2.2.2.2))) id) := by kernel_rfl

theorem sR8Days_l4_r (x : DR S_sR8Days_l4.hs) : (sR8Days_l4 x.1 x.2.1 x.2.2.1 x.2.2.2.1 x.2.2.2.2.1 x.2.2.2.2.2 : Option (SumD (X_sR8Days_l4.map (·.2)))) = runL (meanS (envT Try.prog C6 M5) L_sR8Days_l4 4 (loopC (bodyOf Try.f27) 4) S_sR8Days_l4 X_sR8Days_l4) x := run_of (fun s : Int × Int × List Int × Int × Int × List (List Int) => (show DR S_sR8Days_l4.hs from (s.1, s.2.1, s.2.2.1, s.2.2.2.1, s.2.2.2.2.1, s.2.2.2.2.2))) (sR8Days_l4_e ) (x.1, x.2.1, x.2.2.1, x.2.2.2.1, x.2.2.2.2.1, x.2.2.2.2.2)

theorem sR8Days_l4_k (L : Loops) (hn : L_sR8Days_l4.n = L.n) (hlv : L_sR8Days_l4.lv 4 = L.lv 4) (hL : ∀ vs bs, L.loop 4 vs bs = toldL S_sR8Days_l4 X_sR8Days_l4 (fun x => sR8Days_l4 x.1 x.2.1 x.2.2.1 x.2.2.2.1 x.2.2.2.2.1 x.2.2.2.2.2) vs bs) : LOk Try.prog (envT Try.prog C6 M5) L 4 (loopC (bodyOf Try.f27) 4) := toldL_ok (L1 := L_sR8Days_l4) (envT_ok (C6_ok) (M5_ok)) mixedO hn hlv (loopsL (l := [(8, loopC (loopC (bodyOf Try.f27) 4) 8)]) (by kernel_rfl) (lk_cons (sR8Days_l8_k _ rfl rfl (fun _ _ => rfl)) lk_nil)) sR8Days_l4_r hL

def A_sR8Days : Shp := ⟨[.h, .h], [], [.sl [.i .u8], .i .i64]⟩
def R_sR8Days : List XShp := [(.ret, ⟨[.slw 0 1], [.arr [.sl [.i .i64]] false], [.sl [.sl [.i .i64]]]⟩)]

noncomputable def L_sR8Days : Loops := (⟨35, lvT [(8, [1, 5, 6, 7, 8, 9]), (4, [1, 5, 6, 7])], mdT [(8, .exit 2, [], [9]), (4, .exit 0, [], [1, 5, 7])], fun k vs bs => bif Nat.beq k 4 then toldL S_sR8Days_l4 X_sR8Days_l4 (fun x => sR8Days_l4 x.1 x.2.1 x.2.2.1 x.2.2.2.1 x.2.2.2.2.1 x.2.2.2.2.2) vs bs else .bad⟩ : Loops)

theorem sR8Days_e (x : DR A_sR8Days.hs) : (evFn (envT Try.prog C6 M5) L_sR8Days Try.f27 (A_sR8Days.enc x).1).to (fun q => decX R_sR8Days .ret [q.1] q.2) = sR8Days_t x.1 x.2 := by kernel_rfl

theorem sR8Days_m (x : DR A_sR8Days.hs) : meanF (envT Try.prog C6 M5) L_sR8Days Try.f27 A_sR8Days R_sR8Days x = (show Option (SumD (R_sR8Days.map (·.2))) from sR8Days x.1 x.2) := meanF_of (sR8Days_e x)

theorem sR8Days_ok : SpecOk Try.prog 27 (evFn (envT Try.prog C6 M5) L_sR8Days Try.f27) := fnL_ok (envT_ok (C6_ok) (M5_ok)) mixedO Try.func27 (by kernel_rfl) (c := bodyOf Try.f27) (by kernel_rfl) (loopsL (l := [(4, loopC (bodyOf Try.f27) 4)]) (by kernel_rfl) (lk_cons (sR8Days_l4_k _ rfl rfl (fun _ _ => rfl)) lk_nil))

theorem sR8Days_told : SpecOk Try.prog 27 (toldO A_sR8Days R_sR8Days (fun x => sR8Days x.1 x.2) (C6 27)) := toldO_ok (by kernel_rfl) sR8Days_ok (rest_ok (C6_ok) _) sR8Days_m

noncomputable def C7 : Tab := tab 27 (toldO A_sR8Days R_sR8Days (fun x => sR8Days x.1 x.2) (C6 27)) C6
theorem C7_ok : TabOk Try.prog C7 := tab_ok (sR8Days_told) (C6_ok)

def A_iwithin : Shp := ⟨[.h, .h, .h], [], [.i .i64, .i .i64, .i .i64]⟩
def R_iwithin : List XShp := [(.ret, ⟨[.h], [], [.b]⟩)]

theorem iwithin_e (x : DR A_iwithin.hs) : (evFn (envT Try.prog C7 M5) noLoops Try.f43 (A_iwithin.enc x).1).to (fun q => decX R_iwithin .ret [q.1] q.2) = iwithin_t x.1 x.2.1 x.2.2 := by kernel_rfl

theorem iwithin_m (x : DR A_iwithin.hs) : meanF (envT Try.prog C7 M5) noLoops Try.f43 A_iwithin R_iwithin x = some (show SumD (R_iwithin.map (·.2)) from iwithin x.1 x.2.1 x.2.2) := @meanF_tot _ _ _ _ _ _ _ (iwithin_e x) (show Inhabited (Bool) from inferInstance) (by kernel_rfl)

theorem iwithin_ok : SpecOk Try.prog 43 (evFn (envT Try.prog C7 M5) noLoops Try.f43) := fnL_ok (envT_ok (C7_ok) (M5_ok)) mixedO Try.func43 (by kernel_rfl) (c := bodyOf Try.f43) (by kernel_rfl) (loopFree_ok (by kernel_rfl))

theorem iwithin_told : SpecOk Try.prog 43 (toldT A_iwithin R_iwithin (fun x => iwithin x.1 x.2.1 x.2.2) (C7 43)) := toldT_ok (by kernel_rfl) iwithin_ok (rest_ok (C7_ok) _) iwithin_m

noncomputable def C8 : Tab := tab 43 (toldT A_iwithin R_iwithin (fun x => iwithin x.1 x.2.1 x.2.2) (C7 43)) C7
theorem C8_ok : TabOk Try.prog C8 := tab_ok (iwithin_told) (C7_ok)

def A_iareWithin_1 : Shp := ⟨[.h, .dpt [.h] 0, .dpt [.h] 0], [], [.i .i64, .i .i64, .i .i64]⟩
def R_iareWithin_1 : List XShp := [(.ret, ⟨[.h], [], [.b]⟩)]

theorem iareWithin_1_e (x : DR A_iareWithin_1.hs) : (evFn (envT Try.prog C8 M5) noLoops Try.f75 (A_iareWithin_1.enc x).1).to (fun q => decX R_iareWithin_1 .ret [q.1] q.2) = iareWithin_1_t x.1 x.2.1 x.2.2 := by kernel_rfl

theorem iareWithin_1_m (x : DR A_iareWithin_1.hs) : meanF (envT Try.prog C8 M5) noLoops Try.f75 A_iareWithin_1 R_iareWithin_1 x = some (show SumD (R_iareWithin_1.map (·.2)) from iareWithin_1 x.1 x.2.1 x.2.2) := @meanF_tot _ _ _ _ _ _ _ (iareWithin_1_e x) (show Inhabited (Bool) from inferInstance) (by kernel_rfl)

theorem iareWithin_1_ok : SpecOk Try.prog 75 (evFn (envT Try.prog C8 M5) noLoops Try.f75) := fnL_ok (envT_ok (C8_ok) (M5_ok)) mixedO Try.func75 (by kernel_rfl) (c := bodyOf Try.f75) (by kernel_rfl) (loopFree_ok (by kernel_rfl))

theorem iareWithin_1_told : SpecOk Try.prog 75 (toldT A_iareWithin_1 R_iareWithin_1 (fun x => iareWithin_1 x.1 x.2.1 x.2.2) (C8 75)) := toldT_ok (by kernel_rfl) iareWithin_1_ok (rest_ok (C8_ok) _) iareWithin_1_m

noncomputable def C9 : Tab := tab 75 (toldT A_iareWithin_1 R_iareWithin_1 (fun x => iareWithin_1 x.1 x.2.1 x.2.2) (C8 75)) C8
theorem C9_ok : TabOk Try.prog C9 := tab_ok (iareWithin_1_told) (C8_ok)

def S_lIndexFunc_iareWithin_1_l2 : Shp := ⟨[.h, .fn 75 [.dpt [.h] 0, .dpt [.h] 0], .undef, .h, .h], [], [.sl [.i .i64], .i .i64, .i .i64, .i .i64, .i .i64]⟩
def X_lIndexFunc_iareWithin_1_l2 : List XShp := [(.ret, ⟨[.undef, .undef, .h, .undef, .undef], [], [.i .i64]⟩), (.exit 0, ⟨[.undef, .undef, .undef, .undef, .undef], [], []⟩)]

noncomputable def L_lIndexFunc_iareWithin_1_l2 : Loops := (⟨19, lvT [(2, [0, 1, 4, 7, 8])], mdT [(2, .normal, [], [4]), (2, .exit 0, [], [0, 1, 4, 7, 8]), (2, .ret, [], [0, 1, 7, 8])], fun k vs bs => .bad⟩ : Loops)

theorem lIndexFunc_iareWithin_1_l2_e (y0 : List Int) (y1 : Int) (y2 : Int) (y3 : Int) (s : Int) : (loopStep (envT Try.prog C9 M5) L_lIndexFunc_iareWithin_1_l2 2 (loopC (bodyOf Try.f79) 2) (S_lIndexFunc_iareWithin_1_l2.enc (y0, y1, y2, y3, s)).1 (S_lIndexFunc_iareWithin_1_l2.enc (y0, y1, y2, y3, s)).2).to (stepD S_lIndexFunc_iareWithin_1_l2 X_lIndexFunc_iareWithin_1_l2) = (lIndexFunc_iareWithin_1_l2_t y0 y1 y2 y3 s).map (Sum.map (fun s : Int => (show DR S_lIndexFunc_iareWithin_1_l2.hs from (y0, y1, y2, y3, s))) id) := by kernel_rfl

theorem lIndexFunc_iareWithin_1_l2_r (x : DR S_lIndexFunc_iareWithin_1_l2.hs) : (lIndexFunc_iareWithin_1_l2 x.1 x.2.1 x.2.2.1 x.2.2.2.1 x.2.2.2.2 : Option (SumD (X_lIndexFunc_iareWithin_1_l2.map (·.2)))) = runL (meanS (envT Try.prog C9 M5) L_lIndexFunc_iareWithin_1_l2 2 (loopC (bodyOf Try.f79) 2) S_lIndexFunc_iareWithin_1_l2 X_lIndexFunc_iareWithin_1_l2) x := run_of (fun s : Int => (show DR S_lIndexFunc_iareWithin_1_l2.hs from (x.1, x.2.1, x.2.2.1, x.2.2.2.1, s))) (lIndexFunc_iareWithin_1_l2_e (x.1) (x.2.1) (x.2.2.1) (x.2.2.2.1)) x.2.2.2.2

theorem lIndexFunc_iareWithin_1_l2_k (L : Loops) (hn : L_lIndexFunc_iareWithin_1_l2.n = L.n) (hlv : L_lIndexFunc_iareWithin_1_l2.lv 2 = L.lv 2) (hL : ∀ vs bs, L.loop 2 vs bs = toldL S_lIndexFunc_iareWithin_1_l2 X_lIndexFunc_iareWithin_1_l2 (fun x => lIndexFunc_iareWithin_1_l2 x.1 x.2.1 x.2.2.1 x.2.2.2.1 x.2.2.2.2) vs bs) : LOk Try.prog (envT Try.prog C9 M5) L 2 (loopC (bodyOf Try.f79) 2) := toldL_ok (L1 := L_lIndexFunc_iareWithin_1_l2) (envT_ok (C9_ok) (M5_ok)) mixedO hn hlv (loopFree_ok (by kernel_rfl)) lIndexFunc_iareWithin_1_l2_r hL

def A_lIndexFunc_iareWithin_1 : Shp := ⟨[.h, .fn 75 [.dpt [.h] 0, .dpt [.h] 0]], [], [.sl [.i .i64], .i .i64, .i .i64]⟩
def R_lIndexFunc_iareWithin_1 : List XShp := [(.ret, ⟨[.h], [], [.i .i64]⟩)]

noncomputable def L_lIndexFunc_iareWithin_1 : Loops := (⟨19, lvT [(2, [0, 1, 4, 7, 8])], mdT [(2, .normal, [], [4]), (2, .exit 0, [], [0, 1, 4, 7, 8]), (2, .ret, [], [0, 1, 7, 8])], fun k vs bs => bif Nat.beq k 2 then toldL S_lIndexFunc_iareWithin_1_l2 X_lIndexFunc_iareWithin_1_l2 (fun x => lIndexFunc_iareWithin_1_l2 x.1 x.2.1 x.2.2.1 x.2.2.2.1 x.2.2.2.2) vs bs else .bad⟩ : Loops)

theorem lIndexFunc_iareWithin_1_e (x : DR A_lIndexFunc_iareWithin_1.hs) : (evFn (envT Try.prog C9 M5) L_lIndexFunc_iareWithin_1 Try.f79 (A_lIndexFunc_iareWithin_1.enc x).1).to (fun q => decX R_lIndexFunc_iareWithin_1 .ret [q.1] q.2) = lIndexFunc_iareWithin_1_t x.1 x.2.1 x.2.2 := by kernel_rfl

theorem lIndexFunc_iareWithin_1_m (x : DR A_lIndexFunc_iareWithin_1.hs) : meanF (envT Try.prog C9 M5) L_lIndexFunc_iareWithin_1 Try.f79 A_lIndexFunc_iareWithin_1 R_lIndexFunc_iareWithin_1 x = (show Option (SumD (R_lIndexFunc_iareWithin_1.map (·.2))) from lIndexFunc_iareWithin_1 x.1 x.2.1 x.2.2) := meanF_of (lIndexFunc_iareWithin_1_e x)

theorem lIndexFunc_iareWithin_1_ok : SpecOk Try.prog 79 (evFn (envT Try.prog C9 M5) L_lIndexFunc_iareWithin_1 Try.f79) := fnL_ok (envT_ok (C9_ok) (M5_ok)) mixedO Try.func79 (by kernel_rfl) (c := bodyOf Try.f79) (by kernel_rfl) (loopsL (l := [(2, loopC (bodyOf Try.f79) 2)]) (by kernel_rfl) (lk_cons (lIndexFunc_iareWithin_1_l2_k _ rfl rfl (fun _ _ => rfl)) lk_nil))

theorem lIndexFunc_iareWithin_1_told : SpecOk Try.prog 79 (toldO A_lIndexFunc_iareWithin_1 R_lIndexFunc_iareWithin_1 (fun x => lIndexFunc_iareWithin_1 x.1 x.2.1 x.2.2) (C9 79)) := toldO_ok (by kernel_rfl) lIndexFunc_iareWithin_1_ok (rest_ok (C9_ok) _) lIndexFunc_iareWithin_1_m

noncomputable def C10 : Tab := tab 79 (toldO A_lIndexFunc_iareWithin_1 R_lIndexFunc_iareWithin_1 (fun x => lIndexFunc_iareWithin_1 x.1 x.2.1 x.2.2) (C9 79)) C9
theorem C10_ok : TabOk Try.prog C10 := tab_ok (lIndexFunc_iareWithin_1_told) (C9_ok)

def A_lContainsFunc_iareWithin_1 : Shp := ⟨[.h, .fn 75 [.dpt [.h] 0, .dpt [.h] 0]], [], [.sl [.i .i64], .i .i64, .i .i64]⟩
def R_lContainsFunc_iareWithin_1 : List XShp := [(.ret, ⟨[.h], [], [.b]⟩)]

theorem lContainsFunc_iareWithin_1_e (x : DR A_lContainsFunc_iareWithin_1.hs) : (evFn (envT Try.prog C10 M5) noLoops Try.f74 (A_lContainsFunc_iareWithin_1.enc x).1).to (fun q => decX R_lContainsFunc_iareWithin_1 .ret [q.1] q.2) = lContainsFunc_iareWithin_1_t x.1 x.2.1 x.2.2 := by kernel_rfl

theorem lContainsFunc_iareWithin_1_m (x : DR A_lContainsFunc_iareWithin_1.hs) : meanF (envT Try.prog C10 M5) noLoops Try.f74 A_lContainsFunc_iareWithin_1 R_lContainsFunc_iareWithin_1 x = (show Option (SumD (R_lContainsFunc_iareWithin_1.map (·.2))) from lContainsFunc_iareWithin_1 x.1 x.2.1 x.2.2) := meanF_of (lContainsFunc_iareWithin_1_e x)

theorem lContainsFunc_iareWithin_1_ok : SpecOk Try.prog 74 (evFn (envT Try.prog C10 M5) noLoops Try.f74) := fnL_ok (envT_ok (C10_ok) (M5_ok)) mixedO Try.func74 (by kernel_rfl) (c := bodyOf Try.f74) (by kernel_rfl) (loopFree_ok (by kernel_rfl))

theorem lContainsFunc_iareWithin_1_told : SpecOk Try.prog 74 (toldO A_lContainsFunc_iareWithin_1 R_lContainsFunc_iareWithin_1 (fun x => lContainsFunc_iareWithin_1 x.1 x.2.1 x.2.2) (C10 74)) := toldO_ok (by kernel_rfl) lContainsFunc_iareWithin_1_ok (rest_ok (C10_ok) _) lContainsFunc_iareWithin_1_m

noncomputable def C11 : Tab := tab 74 (toldO A_lContainsFunc_iareWithin_1 R_lContainsFunc_iareWithin_1 (fun x => lContainsFunc_iareWithin_1 x.1 x.2.1 x.2.2) (C10 74)) C10
theorem C11_ok : TabOk Try.prog C11 := tab_ok (lContainsFunc_iareWithin_1_told) (C10_ok)

def A_iareWithin : Shp := ⟨[.h, .h, .h], [], [.sl [.i .i64], .i .i64, .i .i64]⟩
def R_iareWithin : List XShp := [(.ret, ⟨[.h], [], [.b]⟩)]

theorem iareWithin_e (x : DR A_iareWithin.hs) : (evFn (envT Try.prog C11 M5) noLoops Try.f60 (A_iareWithin.enc x).1).to (fun q => decX R_iareWithin .ret [q.1] q.2) = iareWithin_t x.1 x.2.1 x.2.2 := by kernel_rfl

theorem iareWithin_m (x : DR A_iareWithin.hs) : meanF (envT Try.prog C11 M5) noLoops Try.f60 A_iareWithin R_iareWithin x = (show Option (SumD (R_iareWithin.map (·.2))) from iareWithin x.1 x.2.1 x.2.2) := meanF_of (iareWithin_e x)

theorem iareWithin_ok : SpecOk Try.prog 60 (evFn (envT Try.prog C11 M5) noLoops Try.f60) := fnL_ok (envT_ok (C11_ok) (M5_ok)) mixedO Try.func60 (by kernel_rfl) (c := bodyOf Try.f60) (by kernel_rfl) (loopFree_ok (by kernel_rfl))

theorem iareWithin_told : SpecOk Try.prog 60 (toldO A_iareWithin R_iareWithin (fun x => iareWithin x.1 x.2.1 x.2.2) (C11 60)) := toldO_ok (by kernel_rfl) iareWithin_ok (rest_ok (C11_ok) _) iareWithin_m

noncomputable def C12 : Tab := tab 60 (toldO A_iareWithin R_iareWithin (fun x => iareWithin x.1 x.2.1 x.2.2) (C11 60)) C11
theorem C12_ok : TabOk Try.prog C12 := tab_ok (iareWithin_told) (C11_ok)

def A_iisDam : Shp := ⟨[.agg [.h, .h, .h, .h]], [], [.i .i64, .i .i64, .i .i64, .i .i64]⟩
def R_iisDam : List XShp := [(.ret, ⟨[.h], [], [.b]⟩)]

theorem iisDam_e (x : DR A_iisDam.hs) : (evFn (envT Try.prog C12 M5) noLoops Try.f65 (A_iisDam.enc x).1).to (fun q => decX R_iisDam .ret [q.1] q.2) = iisDam_t x.1 x.2.1 x.2.2.1 x.2.2.2 := by kernel_rfl

theorem iisDam_m (x : DR A_iisDam.hs) : meanF (envT Try.prog C12 M5) noLoops Try.f65 A_iisDam R_iisDam x = (show Option (SumD (R_iisDam.map (·.2))) from iisDam x.1 x.2.1 x.2.2.1 x.2.2.2) := meanF_of (iisDam_e x)

theorem iisDam_ok : SpecOk Try.prog 65 (evFn (envT Try.prog C12 M5) noLoops Try.f65) := fnL_ok (envT_ok (C12_ok) (M5_ok)) mixedO Try.func65 (by kernel_rfl) (c := bodyOf Try.f65) (by kernel_rfl) (loopFree_ok (by kernel_rfl))

theorem iisDam_told : SpecOk Try.prog 65 (toldO A_iisDam R_iisDam (fun x => iisDam x.1 x.2.1 x.2.2.1 x.2.2.2) (C12 65)) := toldO_ok (by kernel_rfl) iisDam_ok (rest_ok (C12_ok) _) iisDam_m

noncomputable def C13 : Tab := tab 65 (toldO A_iisDam R_iisDam (fun x => iisDam x.1 x.2.1 x.2.2.1 x.2.2.2) (C12 65)) C12
theorem C13_ok : TabOk Try.prog C13 := tab_ok (iisDam_told) (C12_ok)

def A_iValidRiver_1 : Shp := ⟨[.agg [.h, .h, .h, .h]], [], [.i .i64, .i .i64, .i .i64, .i .i64]⟩
def R_iValidRiver_1 : List XShp := [(.ret, ⟨[.h], [], [.b]⟩)]

theorem iValidRiver_1_e (x : DR A_iValidRiver_1.hs) : (evFn (envT Try.prog C13 M5) noLoops Try.f64 (A_iValidRiver_1.enc x).1).to (fun q => decX R_iValidRiver_1 .ret [q.1] q.2) = iValidRiver_1_t x.1 x.2.1 x.2.2.1 x.2.2.2 := by kernel_rfl

theorem iValidRiver_1_m (x : DR A_iValidRiver_1.hs) : meanF (envT Try.prog C13 M5) noLoops Try.f64 A_iValidRiver_1 R_iValidRiver_1 x = (show Option (SumD (R_iValidRiver_1.map (·.2))) from iValidRiver_1 x.1 x.2.1 x.2.2.1 x.2.2.2) := meanF_of (iValidRiver_1_e x)

theorem iValidRiver_1_ok : SpecOk Try.prog 64 (evFn (envT Try.prog C13 M5) noLoops Try.f64) := fnL_ok (envT_ok (C13_ok) (M5_ok)) mixedO Try.func64 (by kernel_rfl) (c := bodyOf Try.f64) (by kernel_rfl) (loopFree_ok (by kernel_rfl))

theorem iValidRiver_1_told : SpecOk Try.prog 64 (toldO A_iValidRiver_1 R_iValidRiver_1 (fun x => iValidRiver_1 x.1 x.2.1 x.2.2.1 x.2.2.2) (C13 64)) := toldO_ok (by kernel_rfl) iValidRiver_1_ok (rest_ok (C13_ok) _) iValidRiver_1_m

noncomputable def C14 : Tab := tab 64 (toldO A_iValidRiver_1 R_iValidRiver_1 (fun x => iValidRiver_1 x.1 x.2.1 x.2.2.1 x.2.2.2) (C13 64)) C13
theorem C14_ok : TabOk Try.prog C14 := tab_ok (iValidRiver_1_told) (C13_ok)

def S_lIndexFunc_iValidRiver_1_l2 : Shp := ⟨[.h, .fn 64 [], .undef, .h, .h], [], [.sl [.i .i64, .i .i64, .i .i64, .i .i64], .i .i64, .i .i64]⟩
def X_lIndexFunc_iValidRiver_1_l2 : List XShp := [(.ret, ⟨[.undef, .undef, .h, .undef, .undef], [], [.i .i64]⟩), (.exit 0, ⟨[.undef, .undef, .undef, .undef, .undef], [], []⟩)]

noncomputable def L_lIndexFunc_iValidRiver_1_l2 : Loops := (⟨19, lvT [(2, [0, 1, 4, 7, 8])], mdT [(2, .normal, [], [4]), (2, .exit 0, [], [0, 1, 4, 7, 8]), (2, .ret, [], [0, 1, 7, 8])], fun k vs bs => .bad⟩ : Loops)

theorem lIndexFunc_iValidRiver_1_l2_e (y0 : List (Int × Int × Int × Int)) (y1 : Int) (s : Int) : (loopStep (envT Try.prog C14 M5) L_lIndexFunc_iValidRiver_1_l2 2 (loopC (bodyOf Try.f77) 2) (S_lIndexFunc_iValidRiver_1_l2.enc (y0, y1, s)).1 (S_lIndexFunc_iValidRiver_1_l2.enc (y0, y1, s)).2).to (stepD S_lIndexFunc_iValidRiver_1_l2 X_lIndexFunc_iValidRiver_1_l2) = (lIndexFunc_iValidRiver_1_l2_t y0 y1 s).map (Sum.map (fun s : Int => (show DR S_lIndexFunc_iValidRiver_1_l2.hs from (y0, y1, s))) id) := by kernel_rfl

theorem lIndexFunc_iValidRiver_1_l2_r (x : DR S_lIndexFunc_iValidRiver_1_l2.hs) : (lIndexFunc_iValidRiver_1_l2 x.1 x.2.1 x.2.2 : Option (SumD (X_lIndexFunc_iValidRiver_1_l2.map (·.2)))) = runL (meanS (envT Try.prog C14 M5) L_lIndexFunc_iValidRiver_1_l2 2 (loopC (bodyOf Try.f77) 2) S_lIndexFunc_iValidRiver_1_l2 X_lIndexFunc_iValidRiver_1_l2) x := run_of (fun s : Int => (show DR S_lIndexFunc_iValidRiver_1_l2.hs from (x.1, x.2.1, s))) (lIndexFunc_iValidRiver_1_l2_e (x.1) (x.2.1)) x.2.2

theorem lIndexFunc_iValidRiver_1_l2_k (L : Loops) (hn : L_lIndexFunc_iValidRiver_1_l2.n = L.n) (hlv : L_lIndexFunc_iValidRiver_1_l2.lv 2 = L.lv 2) (hL : ∀ vs bs, L.loop 2 vs bs = toldL S_lIndexFunc_iValidRiver_1_l2 X_lIndexFunc_iValidRiver_1_l2 (fun x => lIndexFunc_iValidRiver_1_l2 x.1 x.2.1 x.2.2) vs bs) : LOk Try.prog (envT Try.prog C14 M5) L 2 (loopC (bodyOf Try.f77) 2) := toldL_ok (L1 := L_lIndexFunc_iValidRiver_1_l2) (envT_ok (C14_ok) (M5_ok)) mixedO hn hlv (loopFree_ok (by kernel_rfl)) lIndexFunc_iValidRiver_1_l2_r hL

def A_lIndexFunc_iValidRiver_1 : Shp := ⟨[.h, .fn 64 []], [], [.sl [.i .i64, .i .i64, .i .i64, .i .i64]]⟩
def R_lIndexFunc_iValidRiver_1 : List XShp := [(.ret, ⟨[.h], [], [.i .i64]⟩)]

noncomputable def L_lIndexFunc_iValidRiver_1 : Loops := (⟨19, lvT [(2, [0, 1, 4, 7, 8])], mdT [(2, .normal, [], [4]), (2, .exit 0, [], [0, 1, 4, 7, 8]), (2, .ret, [], [0, 1, 7, 8])], fun k vs bs => bif Nat.beq k 2 then toldL S_lIndexFunc_iValidRiver_1_l2 X_lIndexFunc_iValidRiver_1_l2 (fun x => lIndexFunc_iValidRiver_1_l2 x.1 x.2.1 x.2.2) vs bs else .bad⟩ : Loops)

theorem lIndexFunc_iValidRiver_1_e (x : DR A_lIndexFunc_iValidRiver_1.hs) : (evFn (envT Try.prog C14 M5) L_lIndexFunc_iValidRiver_1 Try.f77 (A_lIndexFunc_iValidRiver_1.enc x).1).to (fun q => decX R_lIndexFunc_iValidRiver_1 .ret [q.1] q.2) = lIndexFunc_iValidRiver_1_t x := by kernel_rfl

theorem lIndexFunc_iValidRiver_1_m (x : DR A_lIndexFunc_iValidRiver_1.hs) : meanF (envT Try.prog C14 M5) L_lIndexFunc_iValidRiver_1 Try.f77 A_lIndexFunc_iValidRiver_1 R_lIndexFunc_iValidRiver_1 x = (show Option (SumD (R_lIndexFunc_iValidRiver_1.map (·.2))) from lIndexFunc_iValidRiver_1 x) := meanF_of (lIndexFunc_iValidRiver_1_e x)

theorem lIndexFunc_iValidRiver_1_ok : SpecOk Try.prog 77 (evFn (envT Try.prog C14 M5) L_lIndexFunc_iValidRiver_1 Try.f77) := fnL_ok (envT_ok (C14_ok) (M5_ok)) mixedO Try.func77 (by kernel_rfl) (c := bodyOf Try.f77) (by kernel_rfl) (loopsL (l := [(2, loopC (bodyOf Try.f77) 2)]) (by kernel_rfl) (lk_cons (lIndexFunc_iValidRiver_1_l2_k _ rfl rfl (fun _ _ => rfl)) lk_nil))

theorem lIndexFunc_iValidRiver_1_told : SpecOk Try.prog 77 (toldO A_lIndexFunc_iValidRiver_1 R_lIndexFunc_iValidRiver_1 (fun x => lIndexFunc_iValidRiver_1 x) (C14 77)) := toldO_ok (by kernel_rfl) lIndexFunc_iValidRiver_1_ok (rest_ok (C14_ok) _) lIndexFunc_iValidRiver_1_m

noncomputable def C15 : Tab := tab 77 (toldO A_lIndexFunc_iValidRiver_1 R_lIndexFunc_iValidRiver_1 (fun x => lIndexFunc_iValidRiver_1 x) (C14 77)) C14
theorem C15_ok : TabOk Try.prog C15 := tab_ok (lIndexFunc_iValidRiver_1_told) (C14_ok)

def A_lContainsFunc_iValidRiver_1 : Shp := ⟨[.h, .fn 64 []], [], [.sl [.i .i64, .i .i64, .i .i64, .i .i64]]⟩
def R_lContainsFunc_iValidRiver_1 : List XShp := [(.ret, ⟨[.h], [], [.b]⟩)]

theorem lContainsFunc_iValidRiver_1_e (x : DR A_lContainsFunc_iValidRiver_1.hs) : (evFn (envT Try.prog C15 M5) noLoops Try.f63 (A_lContainsFunc_iValidRiver_1.enc x).1).to (fun q => decX R_lContainsFunc_iValidRiver_1 .ret [q.1] q.2) = lContainsFunc_iValidRiver_1_t x := by kernel_rfl

theorem lContainsFunc_iValidRiver_1_m (x : DR A_lContainsFunc_iValidRiver_1.hs) : meanF (envT Try.prog C15 M5) noLoops Try.f63 A_lContainsFunc_iValidRiver_1 R_lContainsFunc_iValidRiver_1 x = (show Option (SumD (R_lContainsFunc_iValidRiver_1.map (·.2))) from lContainsFunc_iValidRiver_1 x) := meanF_of (lContainsFunc_iValidRiver_1_e x)

theorem lContainsFunc_iValidRiver_1_ok : SpecOk Try.prog 63 (evFn (envT Try.prog C15 M5) noLoops Try.f63) := fnL_ok (envT_ok (C15_ok) (M5_ok)) mixedO Try.func63 (by kernel_rfl) (c := bodyOf Try.f63) (by kernel_rfl) (loopFree_ok (by kernel_rfl))

theorem lContainsFunc_iValidRiver_1_told : SpecOk Try.prog 63 (toldO A_lContainsFunc_iValidRiver_1 R_lContainsFunc_iValidRiver_1 (fun x => lContainsFunc_iValidRiver_1 x) (C15 63)) := toldO_ok (by kernel_rfl) lContainsFunc_iValidRiver_1_ok (rest_ok (C15_ok) _) lContainsFunc_iValidRiver_1_m

noncomputable def C16 : Tab := tab 63 (toldO A_lContainsFunc_iValidRiver_1 R_lContainsFunc_iValidRiver_1 (fun x => lContainsFunc_iValidRiver_1 x) (C15 63)) C15
theorem C16_ok : TabOk Try.prog C16 := tab_ok (lContainsFunc_iValidRiver_1_told) (C15_ok)

def S_iValidRiver_l9 : Shp := ⟨[.ref 0 0, .undef, .h, .h, .h, .h, .h], [.cells [.h, .h, .h] false], [.i .i64, .i .i64, .i .i64, .i .i64, .i .i64, .sl [.i .i64], .sl [.i .i64, .i .i64, .i .i64, .i .i64], .sl [.i .i64]]⟩
def X_iValidRiver_l9 : List XShp := [(.ret, ⟨[.undef, .lb false, .undef, .undef, .undef, .undef, .undef], [], []⟩), (.exit 2, ⟨[.ref 0 0, .undef, .h, .undef, .undef, .h, .h], [.cells [.h, .h, .h] false], [.i .i64, .i .i64, .i .i64, .sl [.i .i64], .sl [.i .i64, .i .i64, .i .i64, .i .i64], .sl [.i .i64]]⟩)]

noncomputable def L_iValidRiver_l9 : Loops := (⟨66, lvT [(9, [1, 2, 3, 5, 6, 48, 49]), (5, [1, 2, 3, 48, 49])], mdT [(9, .normal, [], [2]), (9, .exit 2, [], [2, 5, 6]), (9, .ret, [], [1, 3, 5, 6, 48, 49]), (5, .normal, [], [2]), (5, .exit 0, [], [1, 2, 3, 48, 49]), (5, .ret, [], [1, 3, 48, 49])], fun k vs bs => .bad⟩ : Loops)

theorem iValidRiver_l9_e (y0 : Int) (y3 : Int) (y4 : Int) (y5 : List Int) (y6 : List (Int × Int × Int × Int)) (y7 : List Int) (s : Int × Int) : (loopStep (envT Try.prog C16 M5) L_iValidRiver_l9 9 (loopC (loopC (bodyOf Try.f31) 5) 9) (S_iValidRiver_l9.enc (y0, s.1, s.2, y3, y4, y5, y6, y7)).1 (S_iValidRiver_l9.enc (y0, s.1, s.2, y3, y4, y5, y6, y7)).2).to (stepD S_iValidRiver_l9 X_iValidRiver_l9) = (iValidRiver_l9_t y0 y3 y4 y5 y6 y7 s.1 s.2).map (Sum.map (fun s : Int × Int => (show DR S_iValidRiver_l9.hs from (y0, s.1, s.2, y3, y4, y5, y6, y7))) id) := by kernel_rfl

theorem iValidRiver_l9_r (x : DR S_iValidRiver_l9.hs) : (iValidRiver_l9 x.1 x.2.1 x.2.2.1 x.2.2.2.1 x.2.2.2.2.1 x.2.2.2.2.2.1 x.2.2.2.2.2.2.1 x.2.2.2.2.2.2.2 : Option (SumD (X_iValidRiver_l9.map (·.2)))) = runL (meanS (envT Try.prog C16 M5) L_iValidRiver_l9 9 (loopC (loopC (bodyOf Try.f31) 5) 9) S_iValidRiver_l9 X_iValidRiver_l9) x := run_of (fun s : Int × Int => (show DR S_iValidRiver_l9.hs from (x.1, s.1, s.2, x.2.2.2.1, x.2.2.2.2.1, x.2.2.2.2.2.1, x.2.2.2.2.2.2.1, x.2.2.2.2.2.2.2))) (iValidRiver_l9_e (x.1) (x.2.2.2.1) (x.2.2.2.2.1) (x.2.2.2.2.2.1) (x.2.2.2.2.2.2.1) (x.2.2.2.2.2.2.2)) (x.2.1, x.2.2.1)

theorem iValidRiver_l9_k (L : Loops) (hn : L_iValidRiver_l9.n = L.n) (hlv : L_iValidRiver_l9.lv 9 = L.lv 9) (hL : ∀ vs bs, L.loop 9 vs bs = toldL S_iValidRiver_l9 X_iValidRiver_l9 (fun x => iValidRiver_l9 x.1 x.2.1 x.2.2.1 x.2.2.2.1 x.2.2.2.2.1 x.2.2.2.2.2.1 x.2.2.2.2.2.2.1 x.2.2.2.2.2.2.2) vs bs) : LOk Try.prog (envT Try.prog C16 M5) L 9 (loopC (loopC (bodyOf Try.f31) 5) 9) := toldL_ok (L1 := L_iValidRiver_l9) (envT_ok (C16_ok) (M5_ok)) mixedO hn hlv (loopFree_ok (by kernel_rfl)) iValidRiver_l9_r hL

def S_iValidRiver_l5 : Shp := ⟨[.ref 0 0, .undef, .h, .h, .h], [.cells [.h, .h, .h] false], [.i .i64, .i .i64, .i .i64, .sl [.i .i64], .sl [.i .i64, .i .i64, .i .i64, .i .i64], .sl [.i .i64]]⟩
def X_iValidRiver_l5 : List XShp := [(.ret, ⟨[.undef, .lb false, .undef, .undef, .undef], [], []⟩), (.exit 0, ⟨[.undef, .undef, .undef, .undef, .undef], [], []⟩)]

noncomputable def L_iValidRiver_l5 : Loops := (⟨66, lvT [(9, [1, 2, 3, 5, 6, 48, 49]), (5, [1, 2, 3, 48, 49])], mdT [(9, .normal, [], [2]), (9, .exit 2, [], [2, 5, 6]), (9, .ret, [], [1, 3, 5, 6, 48, 49]), (5, .normal, [], [2]), (5, .exit 0, [], [1, 2, 3, 48, 49]), (5, .ret, [], [1, 3, 48, 49])], fun k vs bs => bif Nat.beq k 9 then toldL S_iValidRiver_l9 X_iValidRiver_l9 (fun x => iValidRiver_l9 x.1 x.2.1 x.2.2.1 x.2.2.2.1 x.2.2.2.2.1 x.2.2.2.2.2.1 x.2.2.2.2.2.2.1 x.2.2.2.2.2.2.2) vs bs else .bad⟩ : Loops)

theorem iValidRiver_l5_e (s : Int × Int × Int × List Int × (List (Int × Int × Int × Int)) × List Int) : (loopStep (envT Try.prog C16 M5) L_iValidRiver_l5 5 (loopC (bodyOf Try.f31) 5) (S_iValidRiver_l5.enc (s.1, s.2.1, s.2.2.1, s.2.2.2.1, s.2.2.2.2.1, s.2.2.2.2.2)).1 (S_iValidRiver_l5.enc (s.1, s.2.1, s.2.2.1, s.2.2.2.1, s.2.2.2.2.1, s.2.2.2.2.2)).2).to (stepD S_iValidRiver_l5 X_iValidRiver_l5) = (iValidRiver_l5_t  s.1 s.2.1 s.2.2.1 s.2.2.2.1 s.2.2.2.2.1 s.2.2.2.2.2).map (Sum.map (fun s : Int × Int × Int × List Int × (List (Int × Int × Int × Int)) × List Int => (show DR S_iValidRiver_l5.hs from (s.1, s.2.1, s.2.2.1, s.2.2.2.1, s.2.2.2.2.1, s.2.2.2.2.2))) id) := by kernel_rfl

theorem iValidRiver_l5_r (x : DR S_iValidRiver_l5.hs) : (iValidRiver_l5 x.1 x.2.1 x.2.2.1 x.2.2.2.1 x.2.2.2.2.1 x.2.2.2.2.2 : Option (SumD (X_iValidRiver_l5.map (·.2)))) = runL (meanS (envT Try.prog C16 M5) L_iValidRiver_l5 5 (loopC (bodyOf Try.f31) 5) S_iValidRiver_l5 X_iValidRiver_l5) x := run_of (fun s : Int × Int × Int × List Int × (List (Int × Int × Int × Int)) × List Int => (show DR S_iValidRiver_l5.hs from (s.1, s.2.1, s.2.2.1, s.2.2.2.1, s.2.2.2.2.1, s.2.2.2.2.2))) (iValidRiver_l5_e ) (x.1, x.2.1, x.2.2.1, x.2.2.2.1, x.2.2.2.2.1, x.2.2.2.2.2)

theorem iValidRiver_l5_k (L : Loops) (hn : L_iValidRiver_l5.n = L.n) (hlv : L_iValidRiver_l5.lv 5 = L.lv 5) (hL : ∀ vs bs, L.loop 5 vs bs = toldL S_iValidRiver_l5 X_iValidRiver_l5 (fun x => iValidRiver_l5 x.1 x.2.1 x.2.2.1 x.2.2.2.1 x.2.2.2.2.1 x.2.2.2.2.2) vs bs) : LOk Try.prog (envT Try.prog C16 M5) L 5 (loopC (bodyOf Try.f31) 5) := toldL_ok (L1 := L_iValidRiver_l5) (envT_ok (C16_ok) (M5_ok)) mixedO hn hlv (loopsL (l := [(9, loopC (loopC (bodyOf Try.f31) 5) 9)]) (by kernel_rfl) (lk_cons (iValidRiver_l9_k _ rfl rfl (fun _ _ => rfl)) lk_nil)) iValidRiver_l5_r hL

def A_iValidRiver : Shp := ⟨[.agg [.h, .h, .h]], [], [.sl [.i .i64], .sl [.i .i64, .i .i64, .i .i64, .i .i64], .sl [.i .i64]]⟩
def R_iValidRiver : List XShp := [(.ret, ⟨[.h], [], [.b]⟩)]

noncomputable def L_iValidRiver : Loops := (⟨66, lvT [(9, [1, 2, 3, 5, 6, 48, 49]), (5, [1, 2, 3, 48, 49])], mdT [(9, .normal, [], [2]), (9, .exit 2, [], [2, 5, 6]), (9, .ret, [], [1, 3, 5, 6, 48, 49]), (5, .normal, [], [2]), (5, .exit 0, [], [1, 2, 3, 48, 49]), (5, .ret, [], [1, 3, 48, 49])], fun k vs bs => bif Nat.beq k 5 then toldL S_iValidRiver_l5 X_iValidRiver_l5 (fun x => iValidRiver_l5 x.1 x.2.1 x.2.2.1 x.2.2.2.1 x.2.2.2.2.1 x.2.2.2.2.2) vs bs else .bad⟩ : Loops)

theorem iValidRiver_e (x : DR A_iValidRiver.hs) : (evFn (envT Try.prog C16 M5) L_iValidRiver Try.f31 (A_iValidRiver.enc x).1).to (fun q => decX R_iValidRiver .ret [q.1] q.2) = iValidRiver_t x.1 x.2.1 x.2.2 := by kernel_rfl

theorem iValidRiver_m (x : DR A_iValidRiver.hs) : meanF (envT Try.prog C16 M5) L_iValidRiver Try.f31 A_iValidRiver R_iValidRiver x = (show Option (SumD (R_iValidRiver.map (·.2))) from iValidRiver x.1 x.2.1 x.2.2) := meanF_of (iValidRiver_e x)

theorem iValidRiver_ok : SpecOk Try.prog 31 (evFn (envT Try.prog C16 M5) L_iValidRiver Try.f31) := fnL_ok (envT_ok (C16_ok) (M5_ok)) mixedO Try.func31 (by kernel_rfl) (c := bodyOf Try.f31) (by kernel_rfl) (loopsL (l := [(5, loopC (bodyOf Try.f31) 5)]) (by kernel_rfl) (lk_cons (iValidRiver_l5_k _ rfl rfl (fun _ _ => rfl)) lk_nil))

theorem iValidRiver_told : SpecOk Try.prog 31 (toldO A_iValidRiver R_iValidRiver (fun x => iValidRiver x.1 x.2.1 x.2.2) (C16 31)) := toldO_ok (by kernel_rfl) iValidRiver_ok (rest_ok (C16_ok) _) iValidRiver_m

noncomputable def C17 : Tab := tab 31 (toldO A_iValidRiver R_iValidRiver (fun x => iValidRiver x.1 x.2.1 x.2.2) (C16 31)) C16
theorem C17_ok : TabOk Try.prog C17 := tab_ok (iValidRiver_told) (C16_ok)

def A_iRiver_cloned : Shp := ⟨[.agg [.h, .h, .h]], [], [.sl [.i .i64], .sl [.i .i64, .i .i64, .i .i64, .i .i64], .sl [.i .i64]]⟩
def R_iRiver_cloned : List XShp := [(.ret, ⟨[.agg [.slw 0 1, .slw 1 4, .slw 2 1]], [.arr [.i .i64] false, .arr [.i .i64, .i .i64, .i .i64, .i .i64] false, .arr [.i .i64] false], [.sl [.i .i64], .sl [.i .i64, .i .i64, .i .i64, .i .i64], .sl [.i .i64]]⟩)]

theorem iRiver_cloned_e (x : DR A_iRiver_cloned.hs) : (evFn (envT Try.prog C17 M5) noLoops Try.f44 (A_iRiver_cloned.enc x).1).to (fun q => decX R_iRiver_cloned .ret [q.1] q.2) = iRiver_cloned_t x.1 x.2.1 x.2.2 := by kernel_rfl

theorem iRiver_cloned_m (x : DR A_iRiver_cloned.hs) : meanF (envT Try.prog C17 M5) noLoops Try.f44 A_iRiver_cloned R_iRiver_cloned x = (show Option (SumD (R_iRiver_cloned.map (·.2))) from iRiver_cloned x.1 x.2.1 x.2.2) := meanF_of (iRiver_cloned_e x)

theorem iRiver_cloned_ok : SpecOk Try.prog 44 (evFn (envT Try.prog C17 M5) noLoops Try.f44) := fnL_ok (envT_ok (C17_ok) (M5_ok)) mixedO Try.func44 (by kernel_rfl) (c := bodyOf Try.f44) (by kernel_rfl) (loopFree_ok (by kernel_rfl))

theorem iRiver_cloned_told : SpecOk Try.prog 44 (toldO A_iRiver_cloned R_iRiver_cloned (fun x => iRiver_cloned x.1 x.2.1 x.2.2) (C17 44)) := toldO_ok (by kernel_rfl) iRiver_cloned_ok (rest_ok (C17_ok) _) iRiver_cloned_m

noncomputable def C18 : Tab := tab 44 (toldO A_iRiver_cloned R_iRiver_cloned (fun x => iRiver_cloned x.1 x.2.1 x.2.2) (C17 44)) C17
theorem C18_ok : TabOk Try.prog C18 := tab_ok (iRiver_cloned_told) (C17_ok)

def A_lClone : Shp := ⟨[.h], [], [.sl [.i .i64]]⟩
def R_lClone : List XShp := [(.ret, ⟨[.slw 0 1], [.arr [.i .i64] false], [.sl [.i .i64]]⟩)]

theorem lClone_e (x : DR A_lClone.hs) : (evFn (envT Try.prog C18 M5) noLoops Try.f66 (A_lClone.enc x).1).to (fun q => decX R_lClone .ret [q.1] q.2) = lClone_t x := by kernel_rfl

theorem lClone_m (x : DR A_lClone.hs) : meanF (envT Try.prog C18 M5) noLoops Try.f66 A_lClone R_lClone x = (show Option (SumD (R_lClone.map (·.2))) from lClone x) := meanF_of (lClone_e x)

theorem lClone_ok : SpecOk Try.prog 66 (evFn (envT Try.prog C18 M5) noLoops Try.f66) := fnL_ok (envT_ok (C18_ok) (M5_ok)) mixedO Try.func66 (by kernel_rfl) (c := bodyOf Try.f66) (by kernel_rfl) (loopFree_ok (by kernel_rfl))

theorem lClone_told : SpecOk Try.prog 66 (toldO A_lClone R_lClone (fun x => lClone x) (C18 66)) := toldO_ok (by kernel_rfl) lClone_ok (rest_ok (C18_ok) _) lClone_m

noncomputable def C19 : Tab := tab 66 (toldO A_lClone R_lClone (fun x => lClone x) (C18 66)) C18
theorem C19_ok : TabOk Try.prog C19 := tab_ok (lClone_told) (C18_ok)

def S_lIndex_l2 : Shp := ⟨[.h, .h, .undef, .h, .h], [], [.sl [.i .i64], .i .i64, .i .i64, .i .i64]⟩
def X_lIndex_l2 : List XShp := [(.ret, ⟨[.undef, .undef, .h, .undef, .undef], [], [.i .i64]⟩), (.exit 0, ⟨[.undef, .undef, .undef, .undef, .undef], [], []⟩)]

noncomputable def L_lIndex_l2 : Loops := (⟨19, lvT [(2, [0, 1, 4, 7, 8])], mdT [(2, .normal, [], [4]), (2, .exit 0, [], [0, 1, 4, 7, 8]), (2, .ret, [], [0, 1, 7, 8])], fun k vs bs => .bad⟩ : Loops)

theorem lIndex_l2_e (y0 : List Int) (y1 : Int) (y2 : Int) (s : Int) : (loopStep (envT Try.prog C19 M5) L_lIndex_l2 2 (loopC (bodyOf Try.f80) 2) (S_lIndex_l2.enc (y0, y1, y2, s)).1 (S_lIndex_l2.enc (y0, y1, y2, s)).2).to (stepD S_lIndex_l2 X_lIndex_l2) = (lIndex_l2_t y0 y1 y2 s).map (Sum.map (fun s : Int => (show DR S_lIndex_l2.hs from (y0, y1, y2, s))) id) := by kernel_rfl

theorem lIndex_l2_r (x : DR S_lIndex_l2.hs) : (lIndex_l2 x.1 x.2.1 x.2.2.1 x.2.2.2 : Option (SumD (X_lIndex_l2.map (·.2)))) = runL (meanS (envT Try.prog C19 M5) L_lIndex_l2 2 (loopC (bodyOf Try.f80) 2) S_lIndex_l2 X_lIndex_l2) x := run_of (fun s : Int => (show DR S_lIndex_l2.hs from (x.1, x.2.1, x.2.2.1, s))) (lIndex_l2_e (x.1) (x.2.1) (x.2.2.1)) x.2.2.2

theorem lIndex_l2_k (L : Loops) (hn : L_lIndex_l2.n = L.n) (hlv : L_lIndex_l2.lv 2 = L.lv 2) (hL : ∀ vs bs, L.loop 2 vs bs = toldL S_lIndex_l2 X_lIndex_l2 (fun x => lIndex_l2 x.1 x.2.1 x.2.2.1 x.2.2.2) vs bs) : LOk Try.prog (envT Try.prog C19 M5) L 2 (loopC (bodyOf Try.f80) 2) := toldL_ok (L1 := L_lIndex_l2) (envT_ok (C19_ok) (M5_ok)) mixedO hn hlv (loopFree_ok (by kernel_rfl)) lIndex_l2_r hL

def A_lIndex : Shp := ⟨[.h, .h], [], [.sl [.i .i64], .i .i64]⟩
def R_lIndex : List XShp := [(.ret, ⟨[.h], [], [.i .i64]⟩)]

noncomputable def L_lIndex : Loops := (⟨19, lvT [(2, [0, 1, 4, 7, 8])], mdT [(2, .normal, [], [4]), (2, .exit 0, [], [0, 1, 4, 7, 8]), (2, .ret, [], [0, 1, 7, 8])], fun k vs bs => bif Nat.beq k 2 then toldL S_lIndex_l2 X_lIndex_l2 (fun x => lIndex_l2 x.1 x.2.1 x.2.2.1 x.2.2.2) vs bs else .bad⟩ : Loops)

theorem lIndex_e (x : DR A_lIndex.hs) : (evFn (envT Try.prog C19 M5) L_lIndex Try.f80 (A_lIndex.enc x).1).to (fun q => decX R_lIndex .ret [q.1] q.2) = lIndex_t x.1 x.2 := by kernel_rfl

theorem lIndex_m (x : DR A_lIndex.hs) : meanF (envT Try.prog C19 M5) L_lIndex Try.f80 A_lIndex R_lIndex x = (show Option (SumD (R_lIndex.map (·.2))) from lIndex x.1 x.2) := meanF_of (lIndex_e x)

theorem lIndex_ok : SpecOk Try.prog 80 (evFn (envT Try.prog C19 M5) L_lIndex Try.f80) := fnL_ok (envT_ok (C19_ok) (M5_ok)) mixedO Try.func80 (by kernel_rfl) (c := bodyOf Try.f80) (by kernel_rfl) (loopsL (l := [(2, loopC (bodyOf Try.f80) 2)]) (by kernel_rfl) (lk_cons (lIndex_l2_k _ rfl rfl (fun _ _ => rfl)) lk_nil))

theorem lIndex_told : SpecOk Try.prog 80 (toldO A_lIndex R_lIndex (fun x => lIndex x.1 x.2) (C19 80)) := toldO_ok (by kernel_rfl) lIndex_ok (rest_ok (C19_ok) _) lIndex_m

noncomputable def C20 : Tab := tab 80 (toldO A_lIndex R_lIndex (fun x => lIndex x.1 x.2) (C19 80)) C19
theorem C20_ok : TabOk Try.prog C20 := tab_ok (lIndex_told) (C19_ok)

def A_lContains : Shp := ⟨[.h, .h], [], [.sl [.i .i64], .i .i64]⟩
def R_lContains : List XShp := [(.ret, ⟨[.h], [], [.b]⟩)]

theorem lContains_e (x : DR A_lContains.hs) : (evFn (envT Try.prog C20 M5) noLoops Try.f78 (A_lContains.enc x).1).to (fun q => decX R_lContains .ret [q.1] q.2) = lContains_t x.1 x.2 := by kernel_rfl

theorem lContains_m (x : DR A_lContains.hs) : meanF (envT Try.prog C20 M5) noLoops Try.f78 A_lContains R_lContains x = (show Option (SumD (R_lContains.map (·.2))) from lContains x.1 x.2) := meanF_of (lContains_e x)

theorem lContains_ok : SpecOk Try.prog 78 (evFn (envT Try.prog C20 M5) noLoops Try.f78) := fnL_ok (envT_ok (C20_ok) (M5_ok)) mixedO Try.func78 (by kernel_rfl) (c := bodyOf Try.f78) (by kernel_rfl) (loopFree_ok (by kernel_rfl))

theorem lContains_told : SpecOk Try.prog 78 (toldO A_lContains R_lContains (fun x => lContains x.1 x.2) (C20 78)) := toldO_ok (by kernel_rfl) lContains_ok (rest_ok (C20_ok) _) lContains_m

noncomputable def C21 : Tab := tab 78 (toldO A_lContains R_lContains (fun x => lContains x.1 x.2) (C20 78)) C20
theorem C21_ok : TabOk Try.prog C21 := tab_ok (lContains_told) (C20_ok)

def S_iRiver_flowOrder_l9 : Shp := ⟨[.ref 0 0, .slw 1 1, .h, .h, .h, .h, .h, .h, .h, .h, .h], [.cells [.h, .h, .h] false, .arr [.i .i64] false], [.i .i64, .b, .i .i64, .i .i64, .i .i64, .i .i64, .sl [.i .i64], .i .i64, .i .i64, .sl [.i .i64], .sl [.i .i64, .i .i64, .i .i64, .i .i64], .sl [.i .i64], .sl [.i .i64]]⟩
def X_iRiver_flowOrder_l9 : List XShp := [(.exit 4, ⟨[.ref 0 0, .slw 1 1, .h, .h, .h, .h, .h, .h, .undef, .undef, .undef], [.cells [.h, .h, .h] false, .arr [.i .i64] false], [.i .i64, .b, .i .i64, .i .i64, .i .i64, .i .i64, .sl [.i .i64], .sl [.i .i64, .i .i64, .i .i64, .i .i64], .sl [.i .i64], .sl [.i .i64]]⟩)]

noncomputable def L_iRiver_flowOrder_l9 : Loops := (⟨52, lvT [(9, [1, 3, 4, 5, 11, 12, 16, 17, 25, 26, 27]), (5, [1, 3, 11, 12, 16, 17]), (3, [1, 3, 11, 12])], mdT [(9, .exit 4, [], [25, 26, 27]), (5, .exit 2, [], [16, 17]), (3, .exit 0, [], [1, 11, 12])], fun k vs bs => .bad⟩ : Loops)

theorem iRiver_flowOrder_l9_e (y0 : Int) (y2 : Int) (y3 : Int) (y4 : Int) (y5 : Int) (y6 : List Int) (y7 : Int) (y9 : List Int) (y10 : List (Int × Int × Int × Int)) (y11 : List Int) (y12 : List Int) (s : Bool × Int) : (loopStep (envT Try.prog C21 M5) L_iRiver_flowOrder_l9 9 (loopC (loopC (loopC (bodyOf Try.f67) 3) 5) 9) (S_iRiver_flowOrder_l9.enc (y0, s.1, y2, y3, y4, y5, y6, y7, s.2, y9, y10, y11, y12)).1 (S_iRiver_flowOrder_l9.enc (y0, s.1, y2, y3, y4, y5, y6, y7, s.2, y9, y10, y11, y12)).2).to (stepD S_iRiver_flowOrder_l9 X_iRiver_flowOrder_l9) = (iRiver_flowOrder_l9_t y0 y2 y3 y4 y5 y6 y7 y9 y10 y11 y12 s.1 s.2).map (Sum.map (fun s : Bool × Int => (show DR S_iRiver_flowOrder_l9.hs from (y0, s.1, y2, y3, y4, y5, y6, y7, s.2, y9, y10, y11, y12))) id) := by kernel_rfl

theorem iRiver_flowOrder_l9_r (x : DR S_iRiver_flowOrder_l9.hs) : (iRiver_flowOrder_l9 x.1 x.2.1 x.2.2.1 x.2.2.2.1 x.2.2.2.2.1 x.2.2.2.2.2.1 x.2.2.2.2.2.2.1 x.2.2.2.2.2.2.2.1 x.2.2.2.2.2.2.2.2.1 x.2.2.2.2.2.2.2.2.2.1 x.2.2.2.2.2.2.2.2.2.2.1 x.2.2.2.2.2.2.2.2.2.2.2.1 x.2.2.2.2.2.2.2.2.2.2.2.2 : Option (SumD (X_iRiver_flowOrder_l9.map (·.2)))) = runL (meanS (envT Try.prog C21 M5) L_iRiver_flowOrder_l9 9 (loopC (loopC (loopC (bodyOf Try.f67) 3) 5) 9) S_iRiver_flowOrder_l9 X_iRiver_flowOrder_l9) x := run_of (fun s : Bool × Int => (show DR S_iRiver_flowOrder_l9.hs from (x.1, s.1, x.2.2.1, x.2.2.2.1, x.2.2.2.2.1, x.2.2.2.2.2.1, x.2.2.2.2.2.2.1, x.2.2.2.2.2.2.2.1, s.2, x.2.2.2.2.2.2.2.2.2.1, x.2.2.2.2.2.2.2.2.2.2.1, x.2.2.2.2.2.2.2.2.2.2.2.1, x.2.2.2.2.2.2.2.2.2.2.2.2))) (iRiver_flowOrder_l9_e (x.1) (x.2.2.1) (x.2.2.2.1) (x.2.2.2.2.1) (x.2.2.2.2.2.1) (x.2.2.2.2.2.2.1) (x.2.2.2.2.2.2.2.1) (x.2.2.2.2.2.2.2.2.2.1) (x.2.2.2.2.2.2.2.2.2.2.1) (x.2.2.2.2.2.2.2.2.2.2.2.1) (x.2.2.2.2.2.2.2.2.2.2.2.2)) (x.2.1, x.2.2.2.2.2.2.2.2.1)

theorem iRiver_flowOrder_l9_k (L : Loops) (hn : L_iRiver_flowOrder_l9.n = L.n) (hlv : L_iRiver_flowOrder_l9.lv 9 = L.lv 9) (hL : ∀ vs bs, L.loop 9 vs bs = toldL S_iRiver_flowOrder_l9 X_iRiver_flowOrder_l9 (fun x => iRiver_flowOrder_l9 x.1 x.2.1 x.2.2.1 x.2.2.2.1 x.2.2.2.2.1 x.2.2.2.2.2.1 x.2.2.2.2.2.2.1 x.2.2.2.2.2.2.2.1 x.2.2.2.2.2.2.2.2.1 x.2.2.2.2.2.2.2.2.2.1 x.2.2.2.2.2.2.2.2.2.2.1 x.2.2.2.2.2.2.2.2.2.2.2.1 x.2.2.2.2.2.2.2.2.2.2.2.2) vs bs) : LOk Try.prog (envT Try.prog C21 M5) L 9 (loopC (loopC (loopC (bodyOf Try.f67) 3) 5) 9) := toldL_ok (L1 := L_iRiver_flowOrder_l9) (envT_ok (C21_ok) (M5_ok)) mixedO hn hlv (loopFree_ok (by kernel_rfl)) iRiver_flowOrder_l9_r hL

def S_iRiver_flowOrder_l5 : Shp := ⟨[.ref 0 0, .slw 1 1, .h, .h, .h, .h], [.cells [.h, .h, .h] false, .arr [.i .i64] false], [.i .i64, .i .i64, .i .i64, .i .i64, .sl [.i .i64], .sl [.i .i64, .i .i64, .i .i64, .i .i64], .sl [.i .i64], .sl [.i .i64]]⟩
def X_iRiver_flowOrder_l5 : List XShp := [(.exit 2, ⟨[.ref 0 0, .slw 1 1, .h, .h, .undef, .undef], [.cells [.h, .h, .h] false, .arr [.i .i64] false], [.i .i64, .i .i64, .sl [.i .i64], .sl [.i .i64, .i .i64, .i .i64, .i .i64], .sl [.i .i64], .sl [.i .i64]]⟩)]

noncomputable def L_iRiver_flowOrder_l5 : Loops := (⟨52, lvT [(9, [1, 3, 4, 5, 11, 12, 16, 17, 25, 26, 27]), (5, [1, 3, 11, 12, 16, 17]), (3, [1, 3, 11, 12])], mdT [(9, .exit 4, [], [25, 26, 27]), (5, .exit 2, [], [16, 17]), (3, .exit 0, [], [1, 11, 12])], fun k vs bs => bif Nat.beq k 9 then toldL S_iRiver_flowOrder_l9 X_iRiver_flowOrder_l9 (fun x => iRiver_flowOrder_l9 x.1 x.2.1 x.2.2.1 x.2.2.2.1 x.2.2.2.2.1 x.2.2.2.2.2.1 x.2.2.2.2.2.2.1 x.2.2.2.2.2.2.2.1 x.2.2.2.2.2.2.2.2.1 x.2.2.2.2.2.2.2.2.2.1 x.2.2.2.2.2.2.2.2.2.2.1 x.2.2.2.2.2.2.2.2.2.2.2.1 x.2.2.2.2.2.2.2.2.2.2.2.2) vs bs else .bad⟩ : Loops)

theorem iRiver_flowOrder_l5_e (s : Int × Int × Int × Int × List Int × (List (Int × Int × Int × Int)) × List Int × List Int) : (loopStep (envT Try.prog C21 M5) L_iRiver_flowOrder_l5 5 (loopC (loopC (bodyOf Try.f67) 3) 5) (S_iRiver_flowOrder_l5.enc (s.1, s.2.1, s.2.2.1, s.2.2.2.1, s.2.2.2.2.1, s.2.2.2.2.2.1, s.2.2.2.2.2.2.1, s.2.2.2.2.2.2.2)).1 (S_iRiver_flowOrder_l5.enc (s.1, s.2.1, s.2.2.1, s.2.2.2.1, s.2.2.2.2.1, s.2.2.2.2.2.1, s.2.2.2.2.2.2.1, s.2.2.2.2.2.2.2)).2).to (stepD S_iRiver_flowOrder_l5 X_iRiver_flowOrder_l5) = (iRiver_flowOrder_l5_t  s.1 s.2.1 s.2.2.1 s.2.2.2.1 s.2.2.2.2.1 s.2.2.2.2.2.1 s.2.2.2.2.2.2.1 s.2.2.2.2.2.2.2).map (Sum.map (fun s : Int × Int × Int × Int × List Int × (List (Int × Int × Int × Int)) × List Int × List Int => (show DR S_iRiver_flowOrder_l5.hs from (s.1, s.2.1, s.2.2.1, s.2.2.2.1, s.2.2.2.2.1, s.2.2.2.2.2.1, s.2.2.2.2.2.2.1, s.2.2.2.2.2.2.2))) id) := by kernel_rfl

theorem iRiver_flowOrder_l5_r (x : DR S_iRiver_flowOrder_l5.hs) : (iRiver_flowOrder_l5 x.1 x.2.1 x.2.2.1 x.2.2.2.1 x.2.2.2.2.1 x.2.2.2.2.2.1 x.2.2.2.2.2.2.1 x.2.2.2.2.2.2.2 : Option (SumD (X_iRiver_flowOrder_l5.map (·.2)))) = runL (meanS (envT Try.prog C21 M5) L_iRiver_flowOrder_l5 5 (loopC (loopC (bodyOf Try.f67) 3) 5) S_iRiver_flowOrder_l5 X_iRiver_flowOrder_l5) x := run_of (fun s : Int × Int × Int × Int × List Int × (List (Int × Int × Int × Int)) × List Int × List Int => (show DR S_iRiver_flowOrder_l5.hs from (s.1, s.2.1, s.2.2.1, s.2.2.2.1, s.2.2.2.2.1, s.2.2.2.2.2.1, s.2.2.2.2.2.2.1, s.2.2.2.2.2.2.2))) (iRiver_flowOrder_l5_e ) (x.1, x.2.1, x.2.2.1, x.2.2.2.1, x.2.2.2.2.1, x.2.2.2.2.2.1, x.2.2.2.2.2.2.1, x.2.2.2.2.2.2.2)

theorem iRiver_flowOrder_l5_k (L : Loops) (hn : L_iRiver_flowOrder_l5.n = L.n) (hlv : L_iRiver_flowOrder_l5.lv 5 = L.lv 5) (hL : ∀ vs bs, L.loop 5 vs bs = toldL S_iRiver_flowOrder_l5 X_iRiver_flowOrder_l5 (fun x => iRiver_flowOrder_l5 x.1 x.2.1 x.2.2.1 x.2.2.2.1 x.2.2.2.2.1 x.2.2.2.2.2.1 x.2.2.2.2.2.2.1 x.2.2.2.2.2.2.2) vs bs) : LOk Try.prog (envT Try.prog C21 M5) L 5 (loopC (loopC (bodyOf Try.f67) 3) 5) := toldL_ok (L1 := L_iRiver_flowOrder_l5) (envT_ok (C21_ok) (M5_ok)) mixedO hn hlv (loopsL (l := [(9, loopC (loopC (loopC (bodyOf Try.f67) 3) 5) 9)]) (by kernel_rfl) (lk_cons (iRiver_flowOrder_l9_k _ rfl rfl (fun _ _ => rfl)) lk_nil)) iRiver_flowOrder_l5_r hL

def S_iRiver_flowOrder_l3 : Shp := ⟨[.ref 0 0, .slw 1 1, .h, .h], [.cells [.h, .h, .h] false, .arr [.i .i64] false], [.i .i64, .i .i64, .sl [.i .i64], .sl [.i .i64, .i .i64, .i .i64, .i .i64], .sl [.i .i64], .sl [.i .i64]]⟩
def X_iRiver_flowOrder_l3 : List XShp := [(.exit 0, ⟨[.undef, .slw 0 1, .undef, .undef], [.arr [.i .i64] false], [.sl [.i .i64]]⟩)]

noncomputable def L_iRiver_flowOrder_l3 : Loops := (⟨52, lvT [(9, [1, 3, 4, 5, 11, 12, 16, 17, 25, 26, 27]), (5, [1, 3, 11, 12, 16, 17]), (3, [1, 3, 11, 12])], mdT [(9, .exit 4, [], [25, 26, 27]), (5, .exit 2, [], [16, 17]), (3, .exit 0, [], [1, 11, 12])], fun k vs bs => bif Nat.beq k 5 then toldL S_iRiver_flowOrder_l5 X_iRiver_flowOrder_l5 (fun x => iRiver_flowOrder_l5 x.1 x.2.1 x.2.2.1 x.2.2.2.1 x.2.2.2.2.1 x.2.2.2.2.2.1 x.2.2.2.2.2.2.1 x.2.2.2.2.2.2.2) vs bs else .bad⟩ : Loops)

theorem iRiver_flowOrder_l3_e (s : Int × Int × List Int × (List (Int × Int × Int × Int)) × List Int × List Int) : (loopStep (envT Try.prog C21 M5) L_iRiver_flowOrder_l3 3 (loopC (bodyOf Try.f67) 3) (S_iRiver_flowOrder_l3.enc (s.1, s.2.1, s.2.2.1, s.2.2.2.1, s.2.2.2.2.1, s.2.2.2.2.2)).1 (S_iRiver_flowOrder_l3.enc (s.1, s.2.1, s.2.2.1, s.2.2.2.1, s.2.2.2.2.1, s.2.2.2.2.2)).2).to (stepD S_iRiver_flowOrder_l3 X_iRiver_flowOrder_l3) = (iRiver_flowOrder_l3_t  s.1 s.2.1 s.2.2.1 s.2.2.2.1 s.2.2.2.2.1 s.2.2.2.2.2).map (Sum.map (fun s : Int × Int × List Int × (List (Int × Int × Int × Int)) × List Int × List Int => (show DR S_iRiver_flowOrder_l3.hs from (s.1, s.2.1, s.2.2.1, s.2.2.2.1, s.2.2.2.2.1, s.2.2.2.2.2))) id) := by kernel_rfl

theorem iRiver_flowOrder_l3_r (x : DR S_iRiver_flowOrder_l3.hs) : (iRiver_flowOrder_l3 x.1 x.2.1 x.2.2.1 x.2.2.2.1 x.2.2.2.2.1 x.2.2.2.2.2 : Option (SumD (X_iRiver_flowOrder_l3.map (·.2)))) = runL (meanS (envT Try.prog C21 M5) L_iRiver_flowOrder_l3 3 (loopC (bodyOf Try.f67) 3) S_iRiver_flowOrder_l3 X_iRiver_flowOrder_l3) x := run_of (fun s : Int × Int × List Int × (List (Int × Int × Int × Int)) × List Int × List Int => (show DR S_iRiver_flowOrder_l3.hs from (s.1, s.2.1, s.2.2.1, s.2.2.2.1, s.2.2.2.2.1, s.2.2.2.2.2))) (iRiver_flowOrder_l3_e ) (x.1, x.2.1, x.2.2.1, x.2.2.2.1, x.2.2.2.2.1, x.2.2.2.2.2)

theorem iRiver_flowOrder_l3_k (L : Loops) (hn : L_iRiver_flowOrder_l3.n = L.n) (hlv : L_iRiver_flowOrder_l3.lv 3 = L.lv 3) (hL : ∀ vs bs, L.loop 3 vs bs = toldL S_iRiver_flowOrder_l3 X_iRiver_flowOrder_l3 (fun x => iRiver_flowOrder_l3 x.1 x.2.1 x.2.2.1 x.2.2.2.1 x.2.2.2.2.1 x.2.2.2.2.2) vs bs) : LOk Try.prog (envT Try.prog C21 M5) L 3 (loopC (bodyOf Try.f67) 3) := toldL_ok (L1 := L_iRiver_flowOrder_l3) (envT_ok (C21_ok) (M5_ok)) mixedO hn hlv (loopsL (l := [(5, loopC (loopC (bodyOf Try.f67) 3) 5)]) (by kernel_rfl) (lk_cons (iRiver_flowOrder_l5_k _ rfl rfl (fun _ _ => rfl)) lk_nil)) iRiver_flowOrder_l3_r hL

def A_iRiver_flowOrder : Shp := ⟨[.agg [.h, .h, .h]], [], [.sl [.i .i64], .sl [.i .i64, .i .i64, .i .i64, .i .i64], .sl [.i .i64]]⟩
def R_iRiver_flowOrder : List XShp := [(.ret, ⟨[.slw 0 1], [.arr [.i .i64] false], [.sl [.i .i64]]⟩)]

noncomputable def L_iRiver_flowOrder : Loops := (⟨52, lvT [(9, [1, 3, 4, 5, 11, 12, 16, 17, 25, 26, 27]), (5, [1, 3, 11, 12, 16, 17]), (3, [1, 3, 11, 12])], mdT [(9, .exit 4, [], [25, 26, 27]), (5, .exit 2, [], [16, 17]), (3, .exit 0, [], [1, 11, 12])], fun k vs bs => bif Nat.beq k 3 then toldL S_iRiver_flowOrder_l3 X_iRiver_flowOrder_l3 (fun x => iRiver_flowOrder_l3 x.1 x.2.1 x.2.2.1 x.2.2.2.1 x.2.2.2.2.1 x.2.2.2.2.2) vs bs else .bad⟩ : Loops)

theorem iRiver_flowOrder_e (x : DR A_iRiver_flowOrder.hs) : (evFn (envT Try.prog C21 M5) L_iRiver_flowOrder Try.f67 (A_iRiver_flowOrder.enc x).1).to (fun q => decX R_iRiver_flowOrder .ret [q.1] q.2) = iRiver_flowOrder_t x.1 x.2.1 x.2.2 := by kernel_rfl

theorem iRiver_flowOrder_m (x : DR A_iRiver_flowOrder.hs) : meanF (envT Try.prog C21 M5) L_iRiver_flowOrder Try.f67 A_iRiver_flowOrder R_iRiver_flowOrder x = (show Option (SumD (R_iRiver_flowOrder.map (·.2))) from iRiver_flowOrder x.1 x.2.1 x.2.2) := meanF_of (iRiver_flowOrder_e x)

theorem iRiver_flowOrder_ok : SpecOk Try.prog 67 (evFn (envT Try.prog C21 M5) L_iRiver_flowOrder Try.f67) := fnL_ok (envT_ok (C21_ok) (M5_ok)) mixedO Try.func67 (by kernel_rfl) (c := bodyOf Try.f67) (by kernel_rfl) (loopsL (l := [(3, loopC (bodyOf Try.f67) 3)]) (by kernel_rfl) (lk_cons (iRiver_flowOrder_l3_k _ rfl rfl (fun _ _ => rfl)) lk_nil))

theorem iRiver_flowOrder_told : SpecOk Try.prog 67 (toldO A_iRiver_flowOrder R_iRiver_flowOrder (fun x => iRiver_flowOrder x.1 x.2.1 x.2.2) (C21 67)) := toldO_ok (by kernel_rfl) iRiver_flowOrder_ok (rest_ok (C21_ok) _) iRiver_flowOrder_m

noncomputable def C22 : Tab := tab 67 (toldO A_iRiver_flowOrder R_iRiver_flowOrder (fun x => iRiver_flowOrder x.1 x.2.1 x.2.2) (C21 67)) C21
theorem C22_ok : TabOk Try.prog C22 := tab_ok (iRiver_flowOrder_told) (C21_ok)

def S_iDayOf_l6 : Shp := ⟨[.ref 0 0, .ref 1 0, .ref 2 0, .slw 6 1, .slw 7 1, .slw 8 1, .slw 9 1, .h, .h], [.cells [.h, .h, .h] false, .cells [.nils, .nils, .nils] false, .cells [.slw 3 1, .slw 4 4, .slw 5 1] false, .arr [.i .i64] false, .arr [.i .i64, .i .i64, .i .i64, .i .i64] false, .arr [.i .i64] false, .arr [.i .i64] false, .arr [.i .i64] false, .arr [.i .i64] false, .arr [.i .i64] false], [.i .i64, .i .i64, .sl [.i .i64], .sl [.i .i64, .i .i64, .i .i64, .i .i64], .sl [.i .i64], .sl [.i .i64], .sl [.i .i64, .i .i64, .i .i64, .i .i64], .sl [.i .i64], .sl [.i .i64], .sl [.i .i64], .sl [.i .i64], .sl [.i .i64]]⟩
def X_iDayOf_l6 : List XShp := [(.exit 0, ⟨[.undef, .ref 0 0, .ref 1 0, .undef, .slw 5 1, .slw 6 1, .undef, .undef, .undef], [.cells [.nils, .nils, .nils] false, .cells [.slw 2 1, .slw 3 4, .slw 4 1] false, .arr [.i .i64] false, .arr [.i .i64, .i .i64, .i .i64, .i .i64] false, .arr [.i .i64] false, .arr [.i .i64] false, .arr [.i .i64] false], [.sl [.i .i64], .sl [.i .i64, .i .i64, .i .i64, .i .i64], .sl [.i .i64], .sl [.i .i64], .sl [.i .i64]]⟩)]

noncomputable def L_iDayOf_l6 : Loops := (⟨145, lvT [(6, [2, 4, 8, 9, 10, 11, 48, 49, 50])], mdT [(6, .exit 0, [], [2, 9, 48, 49, 50])], fun k vs bs => .bad⟩ : Loops)

theorem iDayOf_l6_e (y0 : Int) (y2 : List Int) (y3 : List (Int × Int × Int × Int)) (y4 : List Int) (y5 : List Int) (y7 : List Int) (y11 : List Int) (s : Int × (List (Int × Int × Int × Int)) × List Int × List Int × List Int) : (loopStep (envT Try.prog C22 M5) L_iDayOf_l6 6 (loopC (bodyOf Try.f32) 6) (S_iDayOf_l6.enc (y0, s.1, y2, y3, y4, y5, s.2.1, y7, s.2.2.1, s.2.2.2.1, s.2.2.2.2, y11)).1 (S_iDayOf_l6.enc (y0, s.1, y2, y3, y4, y5, s.2.1, y7, s.2.2.1, s.2.2.2.1, s.2.2.2.2, y11)).2).to (stepD S_iDayOf_l6 X_iDayOf_l6) = (iDayOf_l6_t y0 y2 y3 y4 y5 y7 y11 s.1 s.2.1 s.2.2.1 s.2.2.2.1 s.2.2.2.2).map (Sum.map (fun s : Int × (List (Int × Int × Int × Int)) × List Int × List Int × List Int => (show DR S_iDayOf_l6.hs from (y0, s.1, y2, y3, y4, y5, s.2.1, y7, s.2.2.1, s.2.2.2.1, s.2.2.2.2, y11))) id) := by kernel_rfl

theorem iDayOf_l6_r (x : DR S_iDayOf_l6.hs) : (iDayOf_l6 x.1 x.2.1 x.2.2.1 x.2.2.2.1 x.2.2.2.2.1 x.2.2.2.2.2.1 x.2.2.2.2.2.2.1 x.2.2.2.2.2.2.2.1 x.2.2.2.2.2.2.2.2.1 x.2.2.2.2.2.2.2.2.2.1 x.2.2.2.2.2.2.2.2.2.2.1 x.2.2.2.2.2.2.2.2.2.2.2 : Option (SumD (X_iDayOf_l6.map (·.2)))) = runL (meanS (envT Try.prog C22 M5) L_iDayOf_l6 6 (loopC (bodyOf Try.f32) 6) S_iDayOf_l6 X_iDayOf_l6) x := run_of (fun s : Int × (List (Int × Int × Int × Int)) × List Int × List Int × List Int => (show DR S_iDayOf_l6.hs from (x.1, s.1, x.2.2.1, x.2.2.2.1, x.2.2.2.2.1, x.2.2.2.2.2.1, s.2.1, x.2.2.2.2.2.2.2.1, s.2.2.1, s.2.2.2.1, s.2.2.2.2, x.2.2.2.2.2.2.2.2.2.2.2))) (iDayOf_l6_e (x.1) (x.2.2.1) (x.2.2.2.1) (x.2.2.2.2.1) (x.2.2.2.2.2.1) (x.2.2.2.2.2.2.2.1) (x.2.2.2.2.2.2.2.2.2.2.2)) (x.2.1, x.2.2.2.2.2.2.1, x.2.2.2.2.2.2.2.2.1, x.2.2.2.2.2.2.2.2.2.1, x.2.2.2.2.2.2.2.2.2.2.1)

theorem iDayOf_l6_k (L : Loops) (hn : L_iDayOf_l6.n = L.n) (hlv : L_iDayOf_l6.lv 6 = L.lv 6) (hL : ∀ vs bs, L.loop 6 vs bs = toldL S_iDayOf_l6 X_iDayOf_l6 (fun x => iDayOf_l6 x.1 x.2.1 x.2.2.1 x.2.2.2.1 x.2.2.2.2.1 x.2.2.2.2.2.1 x.2.2.2.2.2.2.1 x.2.2.2.2.2.2.2.1 x.2.2.2.2.2.2.2.2.1 x.2.2.2.2.2.2.2.2.2.1 x.2.2.2.2.2.2.2.2.2.2.1 x.2.2.2.2.2.2.2.2.2.2.2) vs bs) : LOk Try.prog (envT Try.prog C22 M5) L 6 (loopC (bodyOf Try.f32) 6) := toldL_ok (L1 := L_iDayOf_l6) (envT_ok (C22_ok) (M5_ok)) mixedO hn hlv (loopFree_ok (by kernel_rfl)) iDayOf_l6_r hL

def A_iDayOf : Shp := ⟨[.agg [.h, .h, .h], .h], [], [.sl [.i .i64], .sl [.i .i64, .i .i64, .i .i64, .i .i64], .sl [.i .i64], .sl [.i .i64]]⟩
def R_iDayOf : List XShp := [(.ret, ⟨[.tup [.agg [.nils, .nils, .nils], .nils, .nils, .lb false]], [], []⟩), (.ret, ⟨[.tup [.agg [.slw 0 1, .slw 1 4, .slw 2 1], .slw 3 1, .slw 4 1, .lb true]], [.arr [.i .i64] false, .arr [.i .i64, .i .i64, .i .i64, .i .i64] false, .arr [.i .i64] false, .arr [.i .i64] false, .arr [.i .i64] false], [.sl [.i .i64], .sl [.i .i64, .i .i64, .i .i64, .i .i64], .sl [.i .i64], .sl [.i .i64], .sl [.i .i64]]⟩)]

noncomputable def L_iDayOf : Loops := (⟨145, lvT [(6, [2, 4, 8, 9, 10, 11, 48, 49, 50])], mdT [(6, .exit 0, [], [2, 9, 48, 49, 50])], fun k vs bs => bif Nat.beq k 6 then toldL S_iDayOf_l6 X_iDayOf_l6 (fun x => iDayOf_l6 x.1 x.2.1 x.2.2.1 x.2.2.2.1 x.2.2.2.2.1 x.2.2.2.2.2.1 x.2.2.2.2.2.2.1 x.2.2.2.2.2.2.2.1 x.2.2.2.2.2.2.2.2.1 x.2.2.2.2.2.2.2.2.2.1 x.2.2.2.2.2.2.2.2.2.2.1 x.2.2.2.2.2.2.2.2.2.2.2) vs bs else .bad⟩ : Loops)

theorem iDayOf_e (x : DR A_iDayOf.hs) : (evFn (envT Try.prog C22 M5) L_iDayOf Try.f32 (A_iDayOf.enc x).1).to (fun q => decX R_iDayOf .ret [q.1] q.2) = iDayOf_t x.1 x.2.1 x.2.2.1 x.2.2.2 := by kernel_rfl

theorem iDayOf_m (x : DR A_iDayOf.hs) : meanF (envT Try.prog C22 M5) L_iDayOf Try.f32 A_iDayOf R_iDayOf x = (show Option (SumD (R_iDayOf.map (·.2))) from iDayOf x.1 x.2.1 x.2.2.1 x.2.2.2) := meanF_of (iDayOf_e x)

theorem iDayOf_ok : SpecOk Try.prog 32 (evFn (envT Try.prog C22 M5) L_iDayOf Try.f32) := fnL_ok (envT_ok (C22_ok) (M5_ok)) mixedO Try.func32 (by kernel_rfl) (c := bodyOf Try.f32) (by kernel_rfl) (loopsL (l := [(6, loopC (bodyOf Try.f32) 6)]) (by kernel_rfl) (lk_cons (iDayOf_l6_k _ rfl rfl (fun _ _ => rfl)) lk_nil))

theorem iDayOf_told : SpecOk Try.prog 32 (toldO A_iDayOf R_iDayOf (fun x => iDayOf x.1 x.2.1 x.2.2.1 x.2.2.2) (C22 32)) := toldO_ok (by kernel_rfl) iDayOf_ok (rest_ok (C22_ok) _) iDayOf_m

noncomputable def C23 : Tab := tab 32 (toldO A_iDayOf R_iDayOf (fun x => iDayOf x.1 x.2.1 x.2.2.1 x.2.2.2) (C22 32)) C22
theorem C23_ok : TabOk Try.prog C23 := tab_ok (iDayOf_told) (C22_ok)

def S_iRunDays_l13 : Shp := ⟨[.ref 0 0, .ref 4 0, .slw 5 1, .slw 6 1, .ref 7 0, .slw 11 1, .slw 12 1, .h, .h, .h, .h, .slw 1 1, .h, .h], [.cells [.slw 1 1, .slw 2 4, .slw 3 1] false, .arr [.i .i64] false, .arr [.i .i64, .i .i64, .i .i64, .i .i64] false, .arr [.i .i64] false, .cells [.nils, .nils, .nils] false, .arr [.sl [.i .i64]] false, .arr [.i .i64] false, .cells [.slw 8 1, .slw 9 4, .slw 10 1] false, .arr [.i .i64] false, .arr [.i .i64, .i .i64, .i .i64, .i .i64] false, .arr [.i .i64] false, .arr [.i .i64] false, .arr [.i .i64] false], [.i .i64, .sl [.sl [.i .i64]], .i .i64, .i .i64, .i .i64, .i .i64, .sl [.i .i64], .sl [.i .i64, .i .i64, .i .i64, .i .i64], .sl [.i .i64], .sl [.sl [.i .i64]], .sl [.i .i64], .sl [.i .i64], .sl [.i .i64, .i .i64, .i .i64, .i .i64], .sl [.i .i64], .sl [.i .i64], .sl [.i .i64]]⟩
def X_iRunDays_l13 : List XShp := [(.exit 2, ⟨[.ref 0 0, .ref 4 0, .slw 5 1, .slw 6 1, .ref 7 0, .slw 11 1, .undef, .h, .h, .h, .h, .undef, .undef, .undef], [.cells [.slw 1 1, .slw 2 4, .slw 3 1] false, .arr [.i .i64] false, .arr [.i .i64, .i .i64, .i .i64, .i .i64] false, .arr [.i .i64] false, .cells [.nils, .nils, .nils] false, .arr [.sl [.i .i64]] false, .arr [.i .i64] false, .cells [.slw 8 1, .slw 9 4, .slw 10 1] false, .arr [.i .i64] false, .arr [.i .i64, .i .i64, .i .i64, .i .i64] false, .arr [.i .i64] false, .arr [.i .i64] false], [.i .i64, .sl [.sl [.i .i64]], .i .i64, .i .i64, .sl [.i .i64], .sl [.i .i64, .i .i64, .i .i64, .i .i64], .sl [.i .i64], .sl [.sl [.i .i64]], .sl [.i .i64], .sl [.i .i64], .sl [.i .i64, .i .i64, .i .i64, .i .i64], .sl [.i .i64], .sl [.i .i64]]⟩)]

noncomputable def L_iRunDays_l13 : Loops := (⟨79, lvT [(13, [2, 4, 8, 9, 12, 13, 14, 16, 32, 33, 34, 50, 51, 52]), (6, [2, 4, 5, 6, 7, 8, 9, 32, 33, 34])], mdT [(13, .exit 2, [], [14, 50, 51, 52]), (6, .normal, [], [5, 6, 7]), (6, .exit 0, [], [5, 6, 7, 32, 33, 34]), (6, .ret, [], [2, 8, 9, 32, 33, 34])], fun k vs bs => .bad⟩ : Loops)

theorem iRunDays_l13_e (y1 : List (List Int)) (y2 : Int) (y3 : Int) (y4 : Int) (y6 : List Int) (y7 : List (Int × Int × Int × Int)) (y8 : List Int) (y9 : List (List Int)) (y10 : List Int) (y11 : List Int) (y12 : List (Int × Int × Int × Int)) (y13 : List Int) (y14 : List Int) (y15 : List Int) (s : Int × Int) : (loopStep (envT Try.prog C23 M5) L_iRunDays_l13 13 (loopC (loopC (bodyOf Try.f28) 6) 13) (S_iRunDays_l13.enc (s.1, y1, y2, y3, y4, s.2, y6, y7, y8, y9, y10, y11, y12, y13, y14, y15)).1 (S_iRunDays_l13.enc (s.1, y1, y2, y3, y4, s.2, y6, y7, y8, y9, y10, y11, y12, y13, y14, y15)).2).to (stepD S_iRunDays_l13 X_iRunDays_l13) = (iRunDays_l13_t y1 y2 y3 y4 y6 y7 y8 y9 y10 y11 y12 y13 y14 y15 s.1 s.2).map (Sum.map (fun s : Int × Int => (show DR S_iRunDays_l13.hs from (s.1, y1, y2, y3, y4, s.2, y6, y7, y8, y9, y10, y11, y12, y13, y14, y15))) id) := by kernel_rfl

theorem iRunDays_l13_r (x : DR S_iRunDays_l13.hs) : (iRunDays_l13 x.1 x.2.1 x.2.2.1 x.2.2.2.1 x.2.2.2.2.1 x.2.2.2.2.2.1 x.2.2.2.2.2.2.1 x.2.2.2.2.2.2.2.1 x.2.2.2.2.2.2.2.2.1 x.2.2.2.2.2.2.2.2.2.1 x.2.2.2.2.2.2.2.2.2.2.1 x.2.2.2.2.2.2.2.2.2.2.2.1 x.2.2.2.2.2.2.2.2.2.2.2.2.1 x.2.2.2.2.2.2.2.2.2.2.2.2.2.1 x.2.2.2.2.2.2.2.2.2.2.2.2.2.2.1 x.2.2.2.2.2.2.2.2.2.2.2.2.2.2.2 : Option (SumD (X_iRunDays_l13.map (·.2)))) = runL (meanS (envT Try.prog C23 M5) L_iRunDays_l13 13 (loopC (loopC (bodyOf Try.f28) 6) 13) S_iRunDays_l13 X_iRunDays_l13) x := run_of (fun s : Int × Int => (show DR S_iRunDays_l13.hs from (s.1, x.2.1, x.2.2.1, x.2.2.2.1, x.2.2.2.2.1, s.2, x.2.2.2.2.2.2.1, x.2.2.2.2.2.2.2.1, x.2.2.2.2.2.2.2.2.1, x.2.2.2.2.2.2.2.2.2.1, x.2.2.2.2.2.2.2.2.2.2.1, x.2.2.2.2.2.2.2.2.2.2.2.1, x.2.2.2.2.2.2.2.2.2.2.2.2.1, x.2.2.2.2.2.2.2.2.2.2.2.2.2.1, x.2.2.2.2.2.2.2.2.2.2.2.2.2.2.1, x.2.2.2.2.2.2.2.2.2.2.2.2.2.2.2))) (iRunDays_l13_e (x.2.1) (x.2.2.1) (x.2.2.2.1) (x.2.2.2.2.1) (x.2.2.2.2.2.2.1) (x.2.2.2.2.2.2.2.1) (x.2.2.2.2.2.2.2.2.1) (x.2.2.2.2.2.2.2.2.2.1) (x.2.2.2.2.2.2.2.2.2.2.1) (x.2.2.2.2.2.2.2.2.2.2.2.1) (x.2.2.2.2.2.2.2.2.2.2.2.2.1) (x.2.2.2.2.2.2.2.2.2.2.2.2.2.1) (x.2.2.2.2.2.2.2.2.2.2.2.2.2.2.1) (x.2.2.2.2.2.2.2.2.2.2.2.2.2.2.2)) (x.1, x.2.2.2.2.2.1)

theorem iRunDays_l13_k (L : Loops) (hn : L_iRunDays_l13.n = L.n) (hlv : L_iRunDays_l13.lv 13 = L.lv 13) (hL : ∀ vs bs, L.loop 13 vs bs = toldL S_iRunDays_l13 X_iRunDays_l13 (fun x => iRunDays_l13 x.1 x.2.1 x.2.2.1 x.2.2.2.1 x.2.2.2.2.1 x.2.2.2.2.2.1 x.2.2.2.2.2.2.1 x.2.2.2.2.2.2.2.1 x.2.2.2.2.2.2.2.2.1 x.2.2.2.2.2.2.2.2.2.1 x.2.2.2.2.2.2.2.2.2.2.1 x.2.2.2.2.2.2.2.2.2.2.2.1 x.2.2.2.2.2.2.2.2.2.2.2.2.1 x.2.2.2.2.2.2.2.2.2.2.2.2.2.1 x.2.2.2.2.2.2.2.2.2.2.2.2.2.2.1 x.2.2.2.2.2.2.2.2.2.2.2.2.2.2.2) vs bs) : LOk Try.prog (envT Try.prog C23 M5) L 13 (loopC (loopC (bodyOf Try.f28) 6) 13) := toldL_ok (L1 := L_iRunDays_l13) (envT_ok (C23_ok) (M5_ok)) mixedO hn hlv (loopFree_ok (by kernel_rfl)) iRunDays_l13_r hL

def S_iRunDays_l6 : Shp := ⟨[.ref 0 0, .ref 4 0, .undef, .undef, .undef, .slw 5 1, .slw 6 1, .h, .h, .h], [.cells [.slw 1 1, .slw 2 4, .slw 3 1] false, .arr [.i .i64] false, .arr [.i .i64, .i .i64, .i .i64, .i .i64] false, .arr [.i .i64] false, .cells [.nils, .nils, .nils] false, .arr [.sl [.i .i64]] false, .arr [.i .i64] false], [.sl [.sl [.i .i64]], .i .i64, .i .i64, .sl [.i .i64], .sl [.i .i64, .i .i64, .i .i64, .i .i64], .sl [.i .i64], .sl [.sl [.i .i64]], .sl [.i .i64]]⟩
def X_iRunDays_l6 : List XShp := [(.ret, ⟨[.undef, .ref 0 0, .nils, .nils, .lb false, .undef, .undef, .undef, .undef, .undef], [.cells [.nils, .nils, .nils] false], []⟩), (.exit 0, ⟨[.ref 0 0, .ref 4 0, .undef, .undef, .undef, .slw 5 1, .slw 6 1, .undef, .undef, .undef], [.cells [.slw 1 1, .slw 2 4, .slw 3 1] false, .arr [.i .i64] false, .arr [.i .i64, .i .i64, .i .i64, .i .i64] false, .arr [.i .i64] false, .cells [.nils, .nils, .nils] false, .arr [.sl [.i .i64]] false, .arr [.i .i64] false], [.sl [.i .i64], .sl [.i .i64, .i .i64, .i .i64, .i .i64], .sl [.i .i64], .sl [.sl [.i .i64]], .sl [.i .i64]]⟩)]

noncomputable def L_iRunDays_l6 : Loops := (⟨79, lvT [(13, [2, 4, 8, 9, 12, 13, 14, 16, 32, 33, 34, 50, 51, 52]), (6, [2, 4, 5, 6, 7, 8, 9, 32, 33, 34])], mdT [(13, .exit 2, [], [14, 50, 51, 52]), (6, .normal, [], [5, 6, 7]), (6, .exit 0, [], [5, 6, 7, 32, 33, 34]), (6, .ret, [], [2, 8, 9, 32, 33, 34])], fun k vs bs => bif Nat.beq k 13 then toldL S_iRunDays_l13 X_iRunDays_l13 (fun x => iRunDays_l13 x.1 x.2.1 x.2.2.1 x.2.2.2.1 x.2.2.2.2.1 x.2.2.2.2.2.1 x.2.2.2.2.2.2.1 x.2.2.2.2.2.2.2.1 x.2.2.2.2.2.2.2.2.1 x.2.2.2.2.2.2.2.2.2.1 x.2.2.2.2.2.2.2.2.2.2.1 x.2.2.2.2.2.2.2.2.2.2.2.1 x.2.2.2.2.2.2.2.2.2.2.2.2.1 x.2.2.2.2.2.2.2.2.2.2.2.2.2.1 x.2.2.2.2.2.2.2.2.2.2.2.2.2.2.1 x.2.2.2.2.2.2.2.2.2.2.2.2.2.2.2) vs bs else .bad⟩ : Loops)

theorem iRunDays_l6_e (s : List (List Int) × Int × Int × List Int × (List (Int × Int × Int × Int)) × List Int × List (List Int) × List Int) : (loopStep (envT Try.prog C23 M5) L_iRunDays_l6 6 (loopC (bodyOf Try.f28) 6) (S_iRunDays_l6.enc (s.1, s.2.1, s.2.2.1, s.2.2.2.1, s.2.2.2.2.1, s.2.2.2.2.2.1, s.2.2.2.2.2.2.1, s.2.2.2.2.2.2.2)).1 (S_iRunDays_l6.enc (s.1, s.2.1, s.2.2.1, s.2.2.2.1, s.2.2.2.2.1, s.2.2.2.2.2.1, s.2.2.2.2.2.2.1, s.2.2.2.2.2.2.2)).2).to (stepD S_iRunDays_l6 X_iRunDays_l6) = (iRunDays_l6_t  s.1 s.2.1 s.2.2.1 s.2.2.2.1 s.2.2.2.2.1 s.2.2.2.2.2.1 s.2.2.2.2.2.2.1 s.2.2.2.2.2.2.2).map (Sum.map (fun s : List (List Int) × Int × Int × List Int × (List (Int × Int × Int × Int)) × List Int × List (List Int) × List Int => (show DR S_iRunDays_l6.hs from (s.1, s.2.1, s.2.2.1, s.2.2.2.1, s.2.2.2.2.1, s.2.2.2.2.2.1, s.2.2.2.2.2.2.1, s.2.2.2.2.2.2.2))) id) := by kernel_rfl

theorem iRunDays_l6_r (x : DR S_iRunDays_l6.hs) : (iRunDays_l6 x.1 x.2.1 x.2.2.1 x.2.2.2.1 x.2.2.2.2.1 x.2.2.2.2.2.1 x.2.2.2.2.2.2.1 x.2.2.2.2.2.2.2 : Option (SumD (X_iRunDays_l6.map (·.2)))) = runL (meanS (envT Try.prog C23 M5) L_iRunDays_l6 6 (loopC (bodyOf Try.f28) 6) S_iRunDays_l6 X_iRunDays_l6) x := run_of (fun s : List (List Int) × Int × Int × List Int × (List (Int × Int × Int × Int)) × List Int × List (List Int) × List Int => (show DR S_iRunDays_l6.hs from (s.1, s.2.1, s.2.2.1, s.2.2.2.1, s.2.2.2.2.1, s.2.2.2.2.2.1, s.2.2.2.2.2.2.1, s.2.2.2.2.2.2.2))) (iRunDays_l6_e ) (x.1, x.2.1, x.2.2.1, x.2.2.2.1, x.2.2.2.2.1, x.2.2.2.2.2.1, x.2.2.2.2.2.2.1, x.2.2.2.2.2.2.2)

theorem iRunDays_l6_k (L : Loops) (hn : L_iRunDays_l6.n = L.n) (hlv : L_iRunDays_l6.lv 6 = L.lv 6) (hL : ∀ vs bs, L.loop 6 vs bs = toldL S_iRunDays_l6 X_iRunDays_l6 (fun x => iRunDays_l6 x.1 x.2.1 x.2.2.1 x.2.2.2.1 x.2.2.2.2.1 x.2.2.2.2.2.1 x.2.2.2.2.2.2.1 x.2.2.2.2.2.2.2) vs bs) : LOk Try.prog (envT Try.prog C23 M5) L 6 (loopC (bodyOf Try.f28) 6) := toldL_ok (L1 := L_iRunDays_l6) (envT_ok (C23_ok) (M5_ok)) mixedO hn hlv (loopsL (l := [(13, loopC (loopC (bodyOf Try.f28) 6) 13)]) (by kernel_rfl) (lk_cons (iRunDays_l13_k _ rfl rfl (fun _ _ => rfl)) lk_nil)) iRunDays_l6_r hL

def A_iRunDays : Shp := ⟨[.agg [.h, .h, .h], .h], [], [.sl [.i .i64], .sl [.i .i64, .i .i64, .i .i64, .i .i64], .sl [.i .i64], .sl [.sl [.i .i64]]]⟩
def R_iRunDays : List XShp := [(.ret, ⟨[.tup [.agg [.nils, .nils, .nils], .nils, .nils, .lb false]], [], []⟩), (.ret, ⟨[.tup [.agg [.slw 0 1, .slw 1 4, .slw 2 1], .slw 3 1, .slw 4 1, .lb true]], [.arr [.i .i64] false, .arr [.i .i64, .i .i64, .i .i64, .i .i64] false, .arr [.i .i64] false, .arr [.sl [.i .i64]] false, .arr [.i .i64] false], [.sl [.i .i64], .sl [.i .i64, .i .i64, .i .i64, .i .i64], .sl [.i .i64], .sl [.sl [.i .i64]], .sl [.i .i64]]⟩)]

noncomputable def L_iRunDays : Loops := (⟨79, lvT [(13, [2, 4, 8, 9, 12, 13, 14, 16, 32, 33, 34, 50, 51, 52]), (6, [2, 4, 5, 6, 7, 8, 9, 32, 33, 34])], mdT [(13, .exit 2, [], [14, 50, 51, 52]), (6, .normal, [], [5, 6, 7]), (6, .exit 0, [], [5, 6, 7, 32, 33, 34]), (6, .ret, [], [2, 8, 9, 32, 33, 34])], fun k vs bs => bif Nat.beq k 6 then toldL S_iRunDays_l6 X_iRunDays_l6 (fun x => iRunDays_l6 x.1 x.2.1 x.2.2.1 x.2.2.2.1 x.2.2.2.2.1 x.2.2.2.2.2.1 x.2.2.2.2.2.2.1 x.2.2.2.2.2.2.2) vs bs else .bad⟩ : Loops)

theorem iRunDays_e (x : DR A_iRunDays.hs) : (evFn (envT Try.prog C23 M5) L_iRunDays Try.f28 (A_iRunDays.enc x).1).to (fun q => decX R_iRunDays .ret [q.1] q.2) = iRunDays_t x.1 x.2.1 x.2.2.1 x.2.2.2 := by kernel_rfl

theorem iRunDays_m (x : DR A_iRunDays.hs) : meanF (envT Try.prog C23 M5) L_iRunDays Try.f28 A_iRunDays R_iRunDays x = (show Option (SumD (R_iRunDays.map (·.2))) from iRunDays x.1 x.2.1 x.2.2.1 x.2.2.2) := meanF_of (iRunDays_e x)

theorem iRunDays_ok : SpecOk Try.prog 28 (evFn (envT Try.prog C23 M5) L_iRunDays Try.f28) := fnL_ok (envT_ok (C23_ok) (M5_ok)) mixedO Try.func28 (by kernel_rfl) (c := bodyOf Try.f28) (by kernel_rfl) (loopsL (l := [(6, loopC (bodyOf Try.f28) 6)]) (by kernel_rfl) (lk_cons (iRunDays_l6_k _ rfl rfl (fun _ _ => rfl)) lk_nil))

theorem iRunDays_told : SpecOk Try.prog 28 (toldO A_iRunDays R_iRunDays (fun x => iRunDays x.1 x.2.1 x.2.2.1 x.2.2.2) (C23 28)) := toldO_ok (by kernel_rfl) iRunDays_ok (rest_ok (C23_ok) _) iRunDays_m

noncomputable def C24 : Tab := tab 28 (toldO A_iRunDays R_iRunDays (fun x => iRunDays x.1 x.2.1 x.2.2.1 x.2.2.2) (C23 28)) C23
theorem C24_ok : TabOk Try.prog C24 := tab_ok (iRunDays_told) (C23_ok)

def S_itotal_l6 : Shp := ⟨[.h, .h, .h, .h, .h, .h, .h], [], [.i .i64, .sl [.sl [.i .i64]], .i .i64, .i .i64, .sl [.i .i64], .i .i64, .i .i64]⟩
def X_itotal_l6 : List XShp := [(.exit 2, ⟨[.h, .h, .h, .h, .undef, .undef, .undef], [], [.i .i64, .sl [.sl [.i .i64]], .i .i64, .i .i64]⟩)]

noncomputable def L_itotal_l6 : Loops := (⟨26, lvT [(6, [3, 8, 9, 10, 14, 15, 16]), (3, [3, 8, 9, 10])], mdT [(6, .exit 2, [], [14, 15, 16]), (3, .exit 0, [], [8, 9, 10])], fun k vs bs => .bad⟩ : Loops)

theorem itotal_l6_e (y1 : List (List Int)) (y2 : Int) (y3 : Int) (y4 : List Int) (y5 : Int) (s : Int × Int) : (loopStep (envT Try.prog C24 M5) L_itotal_l6 6 (loopC (loopC (bodyOf Try.f58) 3) 6) (S_itotal_l6.enc (s.1, y1, y2, y3, y4, y5, s.2)).1 (S_itotal_l6.enc (s.1, y1, y2, y3, y4, y5, s.2)).2).to (stepD S_itotal_l6 X_itotal_l6) = (itotal_l6_t y1 y2 y3 y4 y5 s.1 s.2).map (Sum.map (fun s : Int × Int => (show DR S_itotal_l6.hs from (s.1, y1, y2, y3, y4, y5, s.2))) id) := by kernel_rfl

theorem itotal_l6_r (x : DR S_itotal_l6.hs) : (itotal_l6 x.1 x.2.1 x.2.2.1 x.2.2.2.1 x.2.2.2.2.1 x.2.2.2.2.2.1 x.2.2.2.2.2.2 : Option (SumD (X_itotal_l6.map (·.2)))) = runL (meanS (envT Try.prog C24 M5) L_itotal_l6 6 (loopC (loopC (bodyOf Try.f58) 3) 6) S_itotal_l6 X_itotal_l6) x := run_of (fun s : Int × Int => (show DR S_itotal_l6.hs from (s.1, x.2.1, x.2.2.1, x.2.2.2.1, x.2.2.2.2.1, x.2.2.2.2.2.1, s.2))) (itotal_l6_e (x.2.1) (x.2.2.1) (x.2.2.2.1) (x.2.2.2.2.1) (x.2.2.2.2.2.1)) (x.1, x.2.2.2.2.2.2)

theorem itotal_l6_k (L : Loops) (hn : L_itotal_l6.n = L.n) (hlv : L_itotal_l6.lv 6 = L.lv 6) (hL : ∀ vs bs, L.loop 6 vs bs = toldL S_itotal_l6 X_itotal_l6 (fun x => itotal_l6 x.1 x.2.1 x.2.2.1 x.2.2.2.1 x.2.2.2.2.1 x.2.2.2.2.2.1 x.2.2.2.2.2.2) vs bs) : LOk Try.prog (envT Try.prog C24 M5) L 6 (loopC (loopC (bodyOf Try.f58) 3) 6) := toldL_ok (L1 := L_itotal_l6) (envT_ok (C24_ok) (M5_ok)) mixedO hn hlv (loopFree_ok (by kernel_rfl)) itotal_l6_r hL

def S_itotal_l3 : Shp := ⟨[.h, .h, .h, .h], [], [.i .i64, .sl [.sl [.i .i64]], .i .i64, .i .i64]⟩
def X_itotal_l3 : List XShp := [(.exit 0, ⟨[.h, .undef, .undef, .undef], [], [.i .i64]⟩)]

noncomputable def L_itotal_l3 : Loops := (⟨26, lvT [(6, [3, 8, 9, 10, 14, 15, 16]), (3, [3, 8, 9, 10])], mdT [(6, .exit 2, [], [14, 15, 16]), (3, .exit 0, [], [8, 9, 10])], fun k vs bs => bif Nat.beq k 6 then toldL S_itotal_l6 X_itotal_l6 (fun x => itotal_l6 x.1 x.2.1 x.2.2.1 x.2.2.2.1 x.2.2.2.2.1 x.2.2.2.2.2.1 x.2.2.2.2.2.2) vs bs else .bad⟩ : Loops)

theorem itotal_l3_e (s : Int × List (List Int) × Int × Int) : (loopStep (envT Try.prog C24 M5) L_itotal_l3 3 (loopC (bodyOf Try.f58) 3) (S_itotal_l3.enc (s.1, s.2.1, s.2.2.1, s.2.2.2)).1 (S_itotal_l3.enc (s.1, s.2.1, s.2.2.1, s.2.2.2)).2).to (stepD S_itotal_l3 X_itotal_l3) = (itotal_l3_t  s.1 s.2.1 s.2.2.1 s.2.2.2).map (Sum.map (fun s : Int × List (List Int) × Int × Int => (show DR S_itotal_l3.hs from (s.1, s.2.1, s.2.2.1, s.2.2.2))) id) := by kernel_rfl

theorem itotal_l3_r (x : DR S_itotal_l3.hs) : (itotal_l3 x.1 x.2.1 x.2.2.1 x.2.2.2 : Option (SumD (X_itotal_l3.map (·.2)))) = runL (meanS (envT Try.prog C24 M5) L_itotal_l3 3 (loopC (bodyOf Try.f58) 3) S_itotal_l3 X_itotal_l3) x := run_of (fun s : Int × List (List Int) × Int × Int => (show DR S_itotal_l3.hs from (s.1, s.2.1, s.2.2.1, s.2.2.2))) (itotal_l3_e ) (x.1, x.2.1, x.2.2.1, x.2.2.2)

theorem itotal_l3_k (L : Loops) (hn : L_itotal_l3.n = L.n) (hlv : L_itotal_l3.lv 3 = L.lv 3) (hL : ∀ vs bs, L.loop 3 vs bs = toldL S_itotal_l3 X_itotal_l3 (fun x => itotal_l3 x.1 x.2.1 x.2.2.1 x.2.2.2) vs bs) : LOk Try.prog (envT Try.prog C24 M5) L 3 (loopC (bodyOf Try.f58) 3) := toldL_ok (L1 := L_itotal_l3) (envT_ok (C24_ok) (M5_ok)) mixedO hn hlv (loopsL (l := [(6, loopC (loopC (bodyOf Try.f58) 3) 6)]) (by kernel_rfl) (lk_cons (itotal_l6_k _ rfl rfl (fun _ _ => rfl)) lk_nil)) itotal_l3_r hL

def A_itotal : Shp := ⟨[.h], [], [.sl [.sl [.i .i64]]]⟩
def R_itotal : List XShp := [(.ret, ⟨[.h], [], [.i .i64]⟩)]

noncomputable def L_itotal : Loops := (⟨26, lvT [(6, [3, 8, 9, 10, 14, 15, 16]), (3, [3, 8, 9, 10])], mdT [(6, .exit 2, [], [14, 15, 16]), (3, .exit 0, [], [8, 9, 10])], fun k vs bs => bif Nat.beq k 3 then toldL S_itotal_l3 X_itotal_l3 (fun x => itotal_l3 x.1 x.2.1 x.2.2.1 x.2.2.2) vs bs else .bad⟩ : Loops)

theorem itotal_e (x : DR A_itotal.hs) : (evFn (envT Try.prog C24 M5) L_itotal Try.f58 (A_itotal.enc x).1).to (fun q => decX R_itotal .ret [q.1] q.2) = itotal_t x := by kernel_rfl

theorem itotal_m (x : DR A_itotal.hs) : meanF (envT Try.prog C24 M5) L_itotal Try.f58 A_itotal R_itotal x = (show Option (SumD (R_itotal.map (·.2))) from itotal x) := meanF_of (itotal_e x)

theorem itotal_ok : SpecOk Try.prog 58 (evFn (envT Try.prog C24 M5) L_itotal Try.f58) := fnL_ok (envT_ok (C24_ok) (M5_ok)) mixedO Try.func58 (by kernel_rfl) (c := bodyOf Try.f58) (by kernel_rfl) (loopsL (l := [(3, loopC (bodyOf Try.f58) 3)]) (by kernel_rfl) (lk_cons (itotal_l3_k _ rfl rfl (fun _ _ => rfl)) lk_nil))

theorem itotal_told : SpecOk Try.prog 58 (toldO A_itotal R_itotal (fun x => itotal x) (C24 58)) := toldO_ok (by kernel_rfl) itotal_ok (rest_ok (C24_ok) _) itotal_m

noncomputable def C25 : Tab := tab 58 (toldO A_itotal R_itotal (fun x => itotal x) (C24 58)) C24
theorem C25_ok : TabOk Try.prog C25 := tab_ok (itotal_told) (C24_ok)

def S_iRiver_stored_l3 : Shp := ⟨[.h, .h, .h, .h], [], [.i .i64, .sl [.i .i64, .i .i64, .i .i64, .i .i64], .i .i64, .i .i64]⟩
def X_iRiver_stored_l3 : List XShp := [(.exit 0, ⟨[.h, .undef, .undef, .undef], [], [.i .i64]⟩)]

noncomputable def L_iRiver_stored_l3 : Loops := (⟨19, lvT [(3, [3, 7, 8, 9])], mdT [(3, .exit 0, [], [7, 8, 9])], fun k vs bs => .bad⟩ : Loops)

theorem iRiver_stored_l3_e (y1 : List (Int × Int × Int × Int)) (y2 : Int) (s : Int × Int) : (loopStep (envT Try.prog C25 M5) L_iRiver_stored_l3 3 (loopC (bodyOf Try.f62) 3) (S_iRiver_stored_l3.enc (s.1, y1, y2, s.2)).1 (S_iRiver_stored_l3.enc (s.1, y1, y2, s.2)).2).to (stepD S_iRiver_stored_l3 X_iRiver_stored_l3) = (iRiver_stored_l3_t y1 y2 s.1 s.2).map (Sum.map (fun s : Int × Int => (show DR S_iRiver_stored_l3.hs from (s.1, y1, y2, s.2))) id) := by kernel_rfl

theorem iRiver_stored_l3_r (x : DR S_iRiver_stored_l3.hs) : (iRiver_stored_l3 x.1 x.2.1 x.2.2.1 x.2.2.2 : Option (SumD (X_iRiver_stored_l3.map (·.2)))) = runL (meanS (envT Try.prog C25 M5) L_iRiver_stored_l3 3 (loopC (bodyOf Try.f62) 3) S_iRiver_stored_l3 X_iRiver_stored_l3) x := run_of (fun s : Int × Int => (show DR S_iRiver_stored_l3.hs from (s.1, x.2.1, x.2.2.1, s.2))) (iRiver_stored_l3_e (x.2.1) (x.2.2.1)) (x.1, x.2.2.2)

theorem iRiver_stored_l3_k (L : Loops) (hn : L_iRiver_stored_l3.n = L.n) (hlv : L_iRiver_stored_l3.lv 3 = L.lv 3) (hL : ∀ vs bs, L.loop 3 vs bs = toldL S_iRiver_stored_l3 X_iRiver_stored_l3 (fun x => iRiver_stored_l3 x.1 x.2.1 x.2.2.1 x.2.2.2) vs bs) : LOk Try.prog (envT Try.prog C25 M5) L 3 (loopC (bodyOf Try.f62) 3) := toldL_ok (L1 := L_iRiver_stored_l3) (envT_ok (C25_ok) (M5_ok)) mixedO hn hlv (loopFree_ok (by kernel_rfl)) iRiver_stored_l3_r hL

def A_iRiver_stored : Shp := ⟨[.agg [.h, .h, .h]], [], [.sl [.i .i64], .sl [.i .i64, .i .i64, .i .i64, .i .i64], .sl [.i .i64]]⟩
def R_iRiver_stored : List XShp := [(.ret, ⟨[.h], [], [.i .i64]⟩)]

noncomputable def L_iRiver_stored : Loops := (⟨19, lvT [(3, [3, 7, 8, 9])], mdT [(3, .exit 0, [], [7, 8, 9])], fun k vs bs => bif Nat.beq k 3 then toldL S_iRiver_stored_l3 X_iRiver_stored_l3 (fun x => iRiver_stored_l3 x.1 x.2.1 x.2.2.1 x.2.2.2) vs bs else .bad⟩ : Loops)

theorem iRiver_stored_e (x : DR A_iRiver_stored.hs) : (evFn (envT Try.prog C25 M5) L_iRiver_stored Try.f62 (A_iRiver_stored.enc x).1).to (fun q => decX R_iRiver_stored .ret [q.1] q.2) = iRiver_stored_t x.1 x.2.1 x.2.2 := by kernel_rfl

theorem iRiver_stored_m (x : DR A_iRiver_stored.hs) : meanF (envT Try.prog C25 M5) L_iRiver_stored Try.f62 A_iRiver_stored R_iRiver_stored x = (show Option (SumD (R_iRiver_stored.map (·.2))) from iRiver_stored x.1 x.2.1 x.2.2) := meanF_of (iRiver_stored_e x)

theorem iRiver_stored_ok : SpecOk Try.prog 62 (evFn (envT Try.prog C25 M5) L_iRiver_stored Try.f62) := fnL_ok (envT_ok (C25_ok) (M5_ok)) mixedO Try.func62 (by kernel_rfl) (c := bodyOf Try.f62) (by kernel_rfl) (loopsL (l := [(3, loopC (bodyOf Try.f62) 3)]) (by kernel_rfl) (lk_cons (iRiver_stored_l3_k _ rfl rfl (fun _ _ => rfl)) lk_nil))

theorem iRiver_stored_told : SpecOk Try.prog 62 (toldO A_iRiver_stored R_iRiver_stored (fun x => iRiver_stored x.1 x.2.1 x.2.2) (C25 62)) := toldO_ok (by kernel_rfl) iRiver_stored_ok (rest_ok (C25_ok) _) iRiver_stored_m

noncomputable def C26 : Tab := tab 62 (toldO A_iRiver_stored R_iRiver_stored (fun x => iRiver_stored x.1 x.2.1 x.2.2) (C25 62)) C25
theorem C26_ok : TabOk Try.prog C26 := tab_ok (iRiver_stored_told) (C25_ok)

def A_iLedgerOf : Shp := ⟨[.agg [.h, .h, .h], .h], [], [.sl [.i .i64], .sl [.i .i64, .i .i64, .i .i64, .i .i64], .sl [.i .i64], .sl [.sl [.i .i64]]]⟩
def R_iLedgerOf : List XShp := [(.ret, ⟨[.tup [.h, .h, .h, .h, .h]], [], [.i .i64, .i .i64, .i .i64, .i .i64, .b]⟩)]

theorem iLedgerOf_e (x : DR A_iLedgerOf.hs) : (evFn (envT Try.prog C26 M5) noLoops Try.f29 (A_iLedgerOf.enc x).1).to (fun q => decX R_iLedgerOf .ret [q.1] q.2) = iLedgerOf_t x.1 x.2.1 x.2.2.1 x.2.2.2 := by kernel_rfl

theorem iLedgerOf_m (x : DR A_iLedgerOf.hs) : meanF (envT Try.prog C26 M5) noLoops Try.f29 A_iLedgerOf R_iLedgerOf x = (show Option (SumD (R_iLedgerOf.map (·.2))) from iLedgerOf x.1 x.2.1 x.2.2.1 x.2.2.2) := meanF_of (iLedgerOf_e x)

theorem iLedgerOf_ok : SpecOk Try.prog 29 (evFn (envT Try.prog C26 M5) noLoops Try.f29) := fnL_ok (envT_ok (C26_ok) (M5_ok)) mixedO Try.func29 (by kernel_rfl) (c := bodyOf Try.f29) (by kernel_rfl) (loopFree_ok (by kernel_rfl))

theorem iLedgerOf_told : SpecOk Try.prog 29 (toldO A_iLedgerOf R_iLedgerOf (fun x => iLedgerOf x.1 x.2.1 x.2.2.1 x.2.2.2) (C26 29)) := toldO_ok (by kernel_rfl) iLedgerOf_ok (rest_ok (C26_ok) _) iLedgerOf_m

noncomputable def C27 : Tab := tab 29 (toldO A_iLedgerOf R_iLedgerOf (fun x => iLedgerOf x.1 x.2.1 x.2.2.1 x.2.2.2) (C26 29)) C26
theorem C27_ok : TabOk Try.prog C27 := tab_ok (iLedgerOf_told) (C26_ok)

def A_iStoredIn : Shp := ⟨[.agg [.h, .h, .h]], [], [.sl [.i .i64], .sl [.i .i64, .i .i64, .i .i64, .i .i64], .sl [.i .i64]]⟩
def R_iStoredIn : List XShp := [(.ret, ⟨[.tup [.h, .h]], [], [.i .i64, .b]⟩)]

theorem iStoredIn_e (x : DR A_iStoredIn.hs) : (evFn (envT Try.prog C27 M5) noLoops Try.f30 (A_iStoredIn.enc x).1).to (fun q => decX R_iStoredIn .ret [q.1] q.2) = iStoredIn_t x.1 x.2.1 x.2.2 := by kernel_rfl

theorem iStoredIn_m (x : DR A_iStoredIn.hs) : meanF (envT Try.prog C27 M5) noLoops Try.f30 A_iStoredIn R_iStoredIn x = (show Option (SumD (R_iStoredIn.map (·.2))) from iStoredIn x.1 x.2.1 x.2.2) := meanF_of (iStoredIn_e x)

theorem iStoredIn_ok : SpecOk Try.prog 30 (evFn (envT Try.prog C27 M5) noLoops Try.f30) := fnL_ok (envT_ok (C27_ok) (M5_ok)) mixedO Try.func30 (by kernel_rfl) (c := bodyOf Try.f30) (by kernel_rfl) (loopFree_ok (by kernel_rfl))

theorem iStoredIn_told : SpecOk Try.prog 30 (toldO A_iStoredIn R_iStoredIn (fun x => iStoredIn x.1 x.2.1 x.2.2) (C27 30)) := toldO_ok (by kernel_rfl) iStoredIn_ok (rest_ok (C27_ok) _) iStoredIn_m

noncomputable def C28 : Tab := tab 30 (toldO A_iStoredIn R_iStoredIn (fun x => iStoredIn x.1 x.2.1 x.2.2) (C27 30)) C27
theorem C28_ok : TabOk Try.prog C28 := tab_ok (iStoredIn_told) (C27_ok)

def S_lEqual_l4 : Shp := ⟨[.h, .h, .undef, .h, .h], [], [.sl [.i .i64], .sl [.i .i64], .i .i64, .i .i64]⟩
def X_lEqual_l4 : List XShp := [(.ret, ⟨[.undef, .undef, .lb false, .undef, .undef], [], []⟩), (.exit 0, ⟨[.undef, .undef, .undef, .undef, .undef], [], []⟩)]

noncomputable def L_lEqual_l4 : Loops := (⟨26, lvT [(4, [0, 1, 4, 12, 13])], mdT [(4, .normal, [], [4]), (4, .exit 0, [], [0, 1, 4, 12, 13]), (4, .ret, [], [0, 1, 12, 13])], fun k vs bs => .bad⟩ : Loops)

theorem lEqual_l4_e (y0 : List Int) (y1 : List Int) (y2 : Int) (s : Int) : (loopStep (envT Try.prog C28 M5) L_lEqual_l4 4 (loopC (bodyOf Try.f68) 4) (S_lEqual_l4.enc (y0, y1, y2, s)).1 (S_lEqual_l4.enc (y0, y1, y2, s)).2).to (stepD S_lEqual_l4 X_lEqual_l4) = (lEqual_l4_t y0 y1 y2 s).map (Sum.map (fun s : Int => (show DR S_lEqual_l4.hs from (y0, y1, y2, s))) id) := by kernel_rfl

theorem lEqual_l4_r (x : DR S_lEqual_l4.hs) : (lEqual_l4 x.1 x.2.1 x.2.2.1 x.2.2.2 : Option (SumD (X_lEqual_l4.map (·.2)))) = runL (meanS (envT Try.prog C28 M5) L_lEqual_l4 4 (loopC (bodyOf Try.f68) 4) S_lEqual_l4 X_lEqual_l4) x := run_of (fun s : Int => (show DR S_lEqual_l4.hs from (x.1, x.2.1, x.2.2.1, s))) (lEqual_l4_e (x.1) (x.2.1) (x.2.2.1)) x.2.2.2

theorem lEqual_l4_k (L : Loops) (hn : L_lEqual_l4.n = L.n) (hlv : L_lEqual_l4.lv 4 = L.lv 4) (hL : ∀ vs bs, L.loop 4 vs bs = toldL S_lEqual_l4 X_lEqual_l4 (fun x => lEqual_l4 x.1 x.2.1 x.2.2.1 x.2.2.2) vs bs) : LOk Try.prog (envT Try.prog C28 M5) L 4 (loopC (bodyOf Try.f68) 4) := toldL_ok (L1 := L_lEqual_l4) (envT_ok (C28_ok) (M5_ok)) mixedO hn hlv (loopFree_ok (by kernel_rfl)) lEqual_l4_r hL

def A_lEqual : Shp := ⟨[.h, .h], [], [.sl [.i .i64], .sl [.i .i64]]⟩
def R_lEqual : List XShp := [(.ret, ⟨[.h], [], [.b]⟩)]

noncomputable def L_lEqual : Loops := (⟨26, lvT [(4, [0, 1, 4, 12, 13])], mdT [(4, .normal, [], [4]), (4, .exit 0, [], [0, 1, 4, 12, 13]), (4, .ret, [], [0, 1, 12, 13])], fun k vs bs => bif Nat.beq k 4 then toldL S_lEqual_l4 X_lEqual_l4 (fun x => lEqual_l4 x.1 x.2.1 x.2.2.1 x.2.2.2) vs bs else .bad⟩ : Loops)

theorem lEqual_e (x : DR A_lEqual.hs) : (evFn (envT Try.prog C28 M5) L_lEqual Try.f68 (A_lEqual.enc x).1).to (fun q => decX R_lEqual .ret [q.1] q.2) = lEqual_t x.1 x.2 := by kernel_rfl

theorem lEqual_m (x : DR A_lEqual.hs) : meanF (envT Try.prog C28 M5) L_lEqual Try.f68 A_lEqual R_lEqual x = (show Option (SumD (R_lEqual.map (·.2))) from lEqual x.1 x.2) := meanF_of (lEqual_e x)

theorem lEqual_ok : SpecOk Try.prog 68 (evFn (envT Try.prog C28 M5) L_lEqual Try.f68) := fnL_ok (envT_ok (C28_ok) (M5_ok)) mixedO Try.func68 (by kernel_rfl) (c := bodyOf Try.f68) (by kernel_rfl) (loopsL (l := [(4, loopC (bodyOf Try.f68) 4)]) (by kernel_rfl) (lk_cons (lEqual_l4_k _ rfl rfl (fun _ _ => rfl)) lk_nil))

theorem lEqual_told : SpecOk Try.prog 68 (toldO A_lEqual R_lEqual (fun x => lEqual x.1 x.2) (C28 68)) := toldO_ok (by kernel_rfl) lEqual_ok (rest_ok (C28_ok) _) lEqual_m

noncomputable def C29 : Tab := tab 68 (toldO A_lEqual R_lEqual (fun x => lEqual x.1 x.2) (C28 68)) C28
theorem C29_ok : TabOk Try.prog C29 := tab_ok (lEqual_told) (C28_ok)

def S_lEqual_n1_l4 : Shp := ⟨[.h, .h, .undef, .h, .h], [], [.sl [.i .i64, .i .i64, .i .i64, .i .i64], .sl [.i .i64, .i .i64, .i .i64, .i .i64], .i .i64, .i .i64]⟩
def X_lEqual_n1_l4 : List XShp := [(.ret, ⟨[.undef, .undef, .lb false, .undef, .undef], [], []⟩), (.exit 0, ⟨[.undef, .undef, .undef, .undef, .undef], [], []⟩)]

noncomputable def L_lEqual_n1_l4 : Loops := (⟨26, lvT [(4, [0, 1, 4, 12, 13])], mdT [(4, .normal, [], [4]), (4, .exit 0, [], [0, 1, 4, 12, 13]), (4, .ret, [], [0, 1, 12, 13])], fun k vs bs => .bad⟩ : Loops)

theorem lEqual_n1_l4_e (y0 : List (Int × Int × Int × Int)) (y1 : List (Int × Int × Int × Int)) (y2 : Int) (s : Int) : (loopStep (envT Try.prog C29 M5) L_lEqual_n1_l4 4 (loopC (bodyOf Try.f69) 4) (S_lEqual_n1_l4.enc (y0, y1, y2, s)).1 (S_lEqual_n1_l4.enc (y0, y1, y2, s)).2).to (stepD S_lEqual_n1_l4 X_lEqual_n1_l4) = (lEqual_n1_l4_t y0 y1 y2 s).map (Sum.map (fun s : Int => (show DR S_lEqual_n1_l4.hs from (y0, y1, y2, s))) id) := by kernel_rfl

theorem lEqual_n1_l4_r (x : DR S_lEqual_n1_l4.hs) : (lEqual_n1_l4 x.1 x.2.1 x.2.2.1 x.2.2.2 : Option (SumD (X_lEqual_n1_l4.map (·.2)))) = runL (meanS (envT Try.prog C29 M5) L_lEqual_n1_l4 4 (loopC (bodyOf Try.f69) 4) S_lEqual_n1_l4 X_lEqual_n1_l4) x := run_of (fun s : Int => (show DR S_lEqual_n1_l4.hs from (x.1, x.2.1, x.2.2.1, s))) (lEqual_n1_l4_e (x.1) (x.2.1) (x.2.2.1)) x.2.2.2

theorem lEqual_n1_l4_k (L : Loops) (hn : L_lEqual_n1_l4.n = L.n) (hlv : L_lEqual_n1_l4.lv 4 = L.lv 4) (hL : ∀ vs bs, L.loop 4 vs bs = toldL S_lEqual_n1_l4 X_lEqual_n1_l4 (fun x => lEqual_n1_l4 x.1 x.2.1 x.2.2.1 x.2.2.2) vs bs) : LOk Try.prog (envT Try.prog C29 M5) L 4 (loopC (bodyOf Try.f69) 4) := toldL_ok (L1 := L_lEqual_n1_l4) (envT_ok (C29_ok) (M5_ok)) mixedO hn hlv (loopFree_ok (by kernel_rfl)) lEqual_n1_l4_r hL

def A_lEqual_n1 : Shp := ⟨[.h, .h], [], [.sl [.i .i64, .i .i64, .i .i64, .i .i64], .sl [.i .i64, .i .i64, .i .i64, .i .i64]]⟩
def R_lEqual_n1 : List XShp := [(.ret, ⟨[.h], [], [.b]⟩)]

noncomputable def L_lEqual_n1 : Loops := (⟨26, lvT [(4, [0, 1, 4, 12, 13])], mdT [(4, .normal, [], [4]), (4, .exit 0, [], [0, 1, 4, 12, 13]), (4, .ret, [], [0, 1, 12, 13])], fun k vs bs => bif Nat.beq k 4 then toldL S_lEqual_n1_l4 X_lEqual_n1_l4 (fun x => lEqual_n1_l4 x.1 x.2.1 x.2.2.1 x.2.2.2) vs bs else .bad⟩ : Loops)

theorem lEqual_n1_e (x : DR A_lEqual_n1.hs) : (evFn (envT Try.prog C29 M5) L_lEqual_n1 Try.f69 (A_lEqual_n1.enc x).1).to (fun q => decX R_lEqual_n1 .ret [q.1] q.2) = lEqual_n1_t x.1 x.2 := by kernel_rfl

theorem lEqual_n1_m (x : DR A_lEqual_n1.hs) : meanF (envT Try.prog C29 M5) L_lEqual_n1 Try.f69 A_lEqual_n1 R_lEqual_n1 x = (show Option (SumD (R_lEqual_n1.map (·.2))) from lEqual_n1 x.1 x.2) := meanF_of (lEqual_n1_e x)

theorem lEqual_n1_ok : SpecOk Try.prog 69 (evFn (envT Try.prog C29 M5) L_lEqual_n1 Try.f69) := fnL_ok (envT_ok (C29_ok) (M5_ok)) mixedO Try.func69 (by kernel_rfl) (c := bodyOf Try.f69) (by kernel_rfl) (loopsL (l := [(4, loopC (bodyOf Try.f69) 4)]) (by kernel_rfl) (lk_cons (lEqual_n1_l4_k _ rfl rfl (fun _ _ => rfl)) lk_nil))

theorem lEqual_n1_told : SpecOk Try.prog 69 (toldO A_lEqual_n1 R_lEqual_n1 (fun x => lEqual_n1 x.1 x.2) (C29 69)) := toldO_ok (by kernel_rfl) lEqual_n1_ok (rest_ok (C29_ok) _) lEqual_n1_m

noncomputable def C30 : Tab := tab 69 (toldO A_lEqual_n1 R_lEqual_n1 (fun x => lEqual_n1 x.1 x.2) (C29 69)) C29
theorem C30_ok : TabOk Try.prog C30 := tab_ok (lEqual_n1_told) (C29_ok)

def A_iSameRiver : Shp := ⟨[.agg [.h, .h, .h], .agg [.h, .h, .h]], [], [.sl [.i .i64], .sl [.i .i64, .i .i64, .i .i64, .i .i64], .sl [.i .i64], .sl [.i .i64], .sl [.i .i64, .i .i64, .i .i64, .i .i64], .sl [.i .i64]]⟩
def R_iSameRiver : List XShp := [(.ret, ⟨[.h], [], [.b]⟩)]

theorem iSameRiver_e (x : DR A_iSameRiver.hs) : (evFn (envT Try.prog C30 M5) noLoops Try.f33 (A_iSameRiver.enc x).1).to (fun q => decX R_iSameRiver .ret [q.1] q.2) = iSameRiver_t x.1 x.2.1 x.2.2.1 x.2.2.2.1 x.2.2.2.2.1 x.2.2.2.2.2 := by kernel_rfl

theorem iSameRiver_m (x : DR A_iSameRiver.hs) : meanF (envT Try.prog C30 M5) noLoops Try.f33 A_iSameRiver R_iSameRiver x = (show Option (SumD (R_iSameRiver.map (·.2))) from iSameRiver x.1 x.2.1 x.2.2.1 x.2.2.2.1 x.2.2.2.2.1 x.2.2.2.2.2) := meanF_of (iSameRiver_e x)

theorem iSameRiver_ok : SpecOk Try.prog 33 (evFn (envT Try.prog C30 M5) noLoops Try.f33) := fnL_ok (envT_ok (C30_ok) (M5_ok)) mixedO Try.func33 (by kernel_rfl) (c := bodyOf Try.f33) (by kernel_rfl) (loopFree_ok (by kernel_rfl))

theorem iSameRiver_told : SpecOk Try.prog 33 (toldO A_iSameRiver R_iSameRiver (fun x => iSameRiver x.1 x.2.1 x.2.2.1 x.2.2.2.1 x.2.2.2.2.1 x.2.2.2.2.2) (C30 33)) := toldO_ok (by kernel_rfl) iSameRiver_ok (rest_ok (C30_ok) _) iSameRiver_m

noncomputable def C31 : Tab := tab 33 (toldO A_iSameRiver R_iSameRiver (fun x => iSameRiver x.1 x.2.1 x.2.2.1 x.2.2.2.1 x.2.2.2.2.1 x.2.2.2.2.2) (C30 33)) C30
theorem C31_ok : TabOk Try.prog C31 := tab_ok (iSameRiver_told) (C30_ok)

def A_wr8At : Shp := ⟨[.h, .h, .h], [], [.sl [.i .u8], .i .i64, .i .i64]⟩
def R_wr8At : List XShp := [(.ret, ⟨[.h], [], [.i .i64]⟩)]

theorem wr8At_e (x : DR A_wr8At.hs) : (evFn (envT Try.prog C31 M5) noLoops Try.f22 (A_wr8At.enc x).1).to (fun q => decX R_wr8At .ret [q.1] q.2) = wr8At_t x.1 x.2.1 x.2.2 := by kernel_rfl

theorem wr8At_m (x : DR A_wr8At.hs) : meanF (envT Try.prog C31 M5) noLoops Try.f22 A_wr8At R_wr8At x = (show Option (SumD (R_wr8At.map (·.2))) from wr8At x.1 x.2.1 x.2.2) := meanF_of (wr8At_e x)

theorem wr8At_ok : SpecOk Try.prog 22 (evFn (envT Try.prog C31 M5) noLoops Try.f22) := fnL_ok (envT_ok (C31_ok) (M5_ok)) mixedO Try.func22 (by kernel_rfl) (c := bodyOf Try.f22) (by kernel_rfl) (loopFree_ok (by kernel_rfl))

theorem wr8At_told : SpecOk Try.prog 22 (toldO A_wr8At R_wr8At (fun x => wr8At x.1 x.2.1 x.2.2) (C31 22)) := toldO_ok (by kernel_rfl) wr8At_ok (rest_ok (C31_ok) _) wr8At_m

noncomputable def C32 : Tab := tab 22 (toldO A_wr8At R_wr8At (fun x => wr8At x.1 x.2.1 x.2.2) (C31 22)) C31
theorem C32_ok : TabOk Try.prog C32 := tab_ok (wr8At_told) (C31_ok)

def S_iRunManyDays_l5 : Shp := ⟨[.h, .undef, .undef, .slw 0 3, .h, .h, .h], [.arr [.sl [.i .i64], .sl [.i .i64, .i .i64, .i .i64, .i .i64], .sl [.i .i64]] false], [.sl [.sl [.i .i64]], .sl [.sl [.i .i64], .sl [.i .i64, .i .i64, .i .i64, .i .i64], .sl [.i .i64]], .i .i64, .i .i64, .sl [.sl [.i .i64], .sl [.i .i64, .i .i64, .i .i64, .i .i64], .sl [.i .i64]]]⟩
def X_iRunManyDays_l5 : List XShp := [(.ret, ⟨[.undef, .nils, .lb false, .undef, .undef, .undef, .undef], [], []⟩), (.exit 0, ⟨[.undef, .undef, .undef, .slw 0 3, .undef, .undef, .undef], [.arr [.sl [.i .i64], .sl [.i .i64, .i .i64, .i .i64, .i .i64], .sl [.i .i64]] false], [.sl [.sl [.i .i64], .sl [.i .i64, .i .i64, .i .i64, .i .i64], .sl [.i .i64]]]⟩)]

noncomputable def L_iRunManyDays_l5 : Loops := (⟨46, lvT [(5, [1, 6, 7, 8, 24, 25, 26])], mdT [(5, .normal, [], [6, 7]), (5, .exit 0, [], [1, 6, 7, 24, 25, 26]), (5, .ret, [], [1, 8, 24, 25, 26])], fun k vs bs => .bad⟩ : Loops)

theorem iRunManyDays_l5_e (y0 : List (List Int)) (y1 : List (List Int × (List (Int × Int × Int × Int)) × List Int)) (y2 : Int) (s : Int × (List (List Int × (List (Int × Int × Int × Int)) × List Int))) : (loopStep (envT Try.prog C32 M5) L_iRunManyDays_l5 5 (loopC (bodyOf Try.f34) 5) (S_iRunManyDays_l5.enc (y0, y1, y2, s.1, s.2)).1 (S_iRunManyDays_l5.enc (y0, y1, y2, s.1, s.2)).2).to (stepD S_iRunManyDays_l5 X_iRunManyDays_l5) = (iRunManyDays_l5_t y0 y1 y2 s.1 s.2).map (Sum.map (fun s : Int × (List (List Int × (List (Int × Int × Int × Int)) × List Int)) => (show DR S_iRunManyDays_l5.hs from (y0, y1, y2, s.1, s.2))) id) := by kernel_rfl

theorem iRunManyDays_l5_r (x : DR S_iRunManyDays_l5.hs) : (iRunManyDays_l5 x.1 x.2.1 x.2.2.1 x.2.2.2.1 x.2.2.2.2 : Option (SumD (X_iRunManyDays_l5.map (·.2)))) = runL (meanS (envT Try.prog C32 M5) L_iRunManyDays_l5 5 (loopC (bodyOf Try.f34) 5) S_iRunManyDays_l5 X_iRunManyDays_l5) x := run_of (fun s : Int × (List (List Int × (List (Int × Int × Int × Int)) × List Int)) => (show DR S_iRunManyDays_l5.hs from (x.1, x.2.1, x.2.2.1, s.1, s.2))) (iRunManyDays_l5_e (x.1) (x.2.1) (x.2.2.1)) (x.2.2.2.1, x.2.2.2.2)

theorem iRunManyDays_l5_k (L : Loops) (hn : L_iRunManyDays_l5.n = L.n) (hlv : L_iRunManyDays_l5.lv 5 = L.lv 5) (hL : ∀ vs bs, L.loop 5 vs bs = toldL S_iRunManyDays_l5 X_iRunManyDays_l5 (fun x => iRunManyDays_l5 x.1 x.2.1 x.2.2.1 x.2.2.2.1 x.2.2.2.2) vs bs) : LOk Try.prog (envT Try.prog C32 M5) L 5 (loopC (bodyOf Try.f34) 5) := toldL_ok (L1 := L_iRunManyDays_l5) (envT_ok (C32_ok) (M5_ok)) mixedO hn hlv (loopFree_ok (by kernel_rfl)) iRunManyDays_l5_r hL

def A_iRunManyDays : Shp := ⟨[.h, .h, .h], [], [.sl [.sl [.i .i64], .sl [.i .i64, .i .i64, .i .i64, .i .i64], .sl [.i .i64]], .sl [.sl [.i .i64]], .i .i64]⟩
def R_iRunManyDays : List XShp := [(.ret, ⟨[.tup [.nils, .lb false]], [], []⟩), (.ret, ⟨[.tup [.slw 0 3, .lb true]], [.arr [.sl [.i .i64], .sl [.i .i64, .i .i64, .i .i64, .i .i64], .sl [.i .i64]] false], [.sl [.sl [.i .i64], .sl [.i .i64, .i .i64, .i .i64, .i .i64], .sl [.i .i64]]]⟩)]

noncomputable def L_iRunManyDays : Loops := (⟨46, lvT [(5, [1, 6, 7, 8, 24, 25, 26])], mdT [(5, .normal, [], [6, 7]), (5, .exit 0, [], [1, 6, 7, 24, 25, 26]), (5, .ret, [], [1, 8, 24, 25, 26])], fun k vs bs => bif Nat.beq k 5 then toldL S_iRunManyDays_l5 X_iRunManyDays_l5 (fun x => iRunManyDays_l5 x.1 x.2.1 x.2.2.1 x.2.2.2.1 x.2.2.2.2) vs bs else .bad⟩ : Loops)

theorem iRunManyDays_e (x : DR A_iRunManyDays.hs) : (evFn (envT Try.prog C32 M5) L_iRunManyDays Try.f34 (A_iRunManyDays.enc x).1).to (fun q => decX R_iRunManyDays .ret [q.1] q.2) = iRunManyDays_t x.1 x.2.1 x.2.2 := by kernel_rfl

theorem iRunManyDays_m (x : DR A_iRunManyDays.hs) : meanF (envT Try.prog C32 M5) L_iRunManyDays Try.f34 A_iRunManyDays R_iRunManyDays x = (show Option (SumD (R_iRunManyDays.map (·.2))) from iRunManyDays x.1 x.2.1 x.2.2) := meanF_of (iRunManyDays_e x)

theorem iRunManyDays_ok : SpecOk Try.prog 34 (evFn (envT Try.prog C32 M5) L_iRunManyDays Try.f34) := fnL_ok (envT_ok (C32_ok) (M5_ok)) mixedO Try.func34 (by kernel_rfl) (c := bodyOf Try.f34) (by kernel_rfl) (loopsL (l := [(5, loopC (bodyOf Try.f34) 5)]) (by kernel_rfl) (lk_cons (iRunManyDays_l5_k _ rfl rfl (fun _ _ => rfl)) lk_nil))

theorem iRunManyDays_told : SpecOk Try.prog 34 (toldO A_iRunManyDays R_iRunManyDays (fun x => iRunManyDays x.1 x.2.1 x.2.2) (C32 34)) := toldO_ok (by kernel_rfl) iRunManyDays_ok (rest_ok (C32_ok) _) iRunManyDays_m

noncomputable def C33 : Tab := tab 34 (toldO A_iRunManyDays R_iRunManyDays (fun x => iRunManyDays x.1 x.2.1 x.2.2) (C32 34)) C32
theorem C33_ok : TabOk Try.prog C33 := tab_ok (iRunManyDays_told) (C32_ok)

def S_iShortDays_l9 : Shp := ⟨[.ref 0 0, .slw 1 1, .slw 2 1, .h, .h, .h, .h, .h], [.cells [.h, .h, .h] false, .arr [.i .i64] false, .arr [.sl [.i .i64]] false], [.i .i64, .i .i64, .sl [.i .i64], .i .i64, .i .i64, .sl [.i .i64], .sl [.i .i64, .i .i64, .i .i64, .i .i64], .sl [.i .i64], .sl [.i .i64], .sl [.sl [.i .i64]]]⟩
def X_iShortDays_l9 : List XShp := [(.exit 2, ⟨[.ref 0 0, .slw 1 1, .slw 2 1, .h, .h, .undef, .undef, .undef], [.cells [.h, .h, .h] false, .arr [.i .i64] false, .arr [.sl [.i .i64]] false], [.i .i64, .i .i64, .sl [.i .i64], .sl [.i .i64, .i .i64, .i .i64, .i .i64], .sl [.i .i64], .sl [.i .i64], .sl [.sl [.i .i64]]]⟩)]

noncomputable def L_iShortDays_l9 : Loops := (⟨58, lvT [(9, [2, 10, 29, 30, 31, 35, 36, 37]), (6, [2, 10, 29, 30, 31])], mdT [(9, .exit 2, [], [35, 36, 37]), (6, .exit 0, [], [2, 29, 30, 31])], fun k vs bs => .bad⟩ : Loops)

theorem iShortDays_l9_e (y0 : Int) (y1 : Int) (y2 : List Int) (y3 : Int) (y5 : List Int) (y6 : List (Int × Int × Int × Int)) (y7 : List Int) (y9 : List (List Int)) (s : Int × List Int) : (loopStep (envT Try.prog C33 M5) L_iShortDays_l9 9 (loopC (loopC (bodyOf Try.f35) 6) 9) (S_iShortDays_l9.enc (y0, y1, y2, y3, s.1, y5, y6, y7, s.2, y9)).1 (S_iShortDays_l9.enc (y0, y1, y2, y3, s.1, y5, y6, y7, s.2, y9)).2).to (stepD S_iShortDays_l9 X_iShortDays_l9) = (iShortDays_l9_t y0 y1 y2 y3 y5 y6 y7 y9 s.1 s.2).map (Sum.map (fun s : Int × List Int => (show DR S_iShortDays_l9.hs from (y0, y1, y2, y3, s.1, y5, y6, y7, s.2, y9))) id) := by kernel_rfl

theorem iShortDays_l9_r (x : DR S_iShortDays_l9.hs) : (iShortDays_l9 x.1 x.2.1 x.2.2.1 x.2.2.2.1 x.2.2.2.2.1 x.2.2.2.2.2.1 x.2.2.2.2.2.2.1 x.2.2.2.2.2.2.2.1 x.2.2.2.2.2.2.2.2.1 x.2.2.2.2.2.2.2.2.2 : Option (SumD (X_iShortDays_l9.map (·.2)))) = runL (meanS (envT Try.prog C33 M5) L_iShortDays_l9 9 (loopC (loopC (bodyOf Try.f35) 6) 9) S_iShortDays_l9 X_iShortDays_l9) x := run_of (fun s : Int × List Int => (show DR S_iShortDays_l9.hs from (x.1, x.2.1, x.2.2.1, x.2.2.2.1, s.1, x.2.2.2.2.2.1, x.2.2.2.2.2.2.1, x.2.2.2.2.2.2.2.1, s.2, x.2.2.2.2.2.2.2.2.2))) (iShortDays_l9_e (x.1) (x.2.1) (x.2.2.1) (x.2.2.2.1) (x.2.2.2.2.2.1) (x.2.2.2.2.2.2.1) (x.2.2.2.2.2.2.2.1) (x.2.2.2.2.2.2.2.2.2)) (x.2.2.2.2.1, x.2.2.2.2.2.2.2.2.1)

theorem iShortDays_l9_k (L : Loops) (hn : L_iShortDays_l9.n = L.n) (hlv : L_iShortDays_l9.lv 9 = L.lv 9) (hL : ∀ vs bs, L.loop 9 vs bs = toldL S_iShortDays_l9 X_iShortDays_l9 (fun x => iShortDays_l9 x.1 x.2.1 x.2.2.1 x.2.2.2.1 x.2.2.2.2.1 x.2.2.2.2.2.1 x.2.2.2.2.2.2.1 x.2.2.2.2.2.2.2.1 x.2.2.2.2.2.2.2.2.1 x.2.2.2.2.2.2.2.2.2) vs bs) : LOk Try.prog (envT Try.prog C33 M5) L 9 (loopC (loopC (bodyOf Try.f35) 6) 9) := toldL_ok (L1 := L_iShortDays_l9) (envT_ok (C33_ok) (M5_ok)) mixedO hn hlv (loopFree_ok (by kernel_rfl)) iShortDays_l9_r hL

def S_iShortDays_l6 : Shp := ⟨[.ref 0 0, .slw 1 1, .slw 2 1, .h, .h], [.cells [.h, .h, .h] false, .arr [.i .i64] false, .arr [.sl [.i .i64]] false], [.i .i64, .i .i64, .sl [.i .i64], .sl [.i .i64, .i .i64, .i .i64, .i .i64], .sl [.i .i64], .sl [.i .i64], .sl [.sl [.i .i64]]]⟩
def X_iShortDays_l6 : List XShp := [(.exit 0, ⟨[.undef, .slw 0 1, .undef, .undef, .undef], [.arr [.i .i64] false], [.sl [.i .i64]]⟩)]

noncomputable def L_iShortDays_l6 : Loops := (⟨58, lvT [(9, [2, 10, 29, 30, 31, 35, 36, 37]), (6, [2, 10, 29, 30, 31])], mdT [(9, .exit 2, [], [35, 36, 37]), (6, .exit 0, [], [2, 29, 30, 31])], fun k vs bs => bif Nat.beq k 9 then toldL S_iShortDays_l9 X_iShortDays_l9 (fun x => iShortDays_l9 x.1 x.2.1 x.2.2.1 x.2.2.2.1 x.2.2.2.2.1 x.2.2.2.2.2.1 x.2.2.2.2.2.2.1 x.2.2.2.2.2.2.2.1 x.2.2.2.2.2.2.2.2.1 x.2.2.2.2.2.2.2.2.2) vs bs else .bad⟩ : Loops)

theorem iShortDays_l6_e (s : Int × Int × List Int × (List (Int × Int × Int × Int)) × List Int × List Int × List (List Int)) : (loopStep (envT Try.prog C33 M5) L_iShortDays_l6 6 (loopC (bodyOf Try.f35) 6) (S_iShortDays_l6.enc (s.1, s.2.1, s.2.2.1, s.2.2.2.1, s.2.2.2.2.1, s.2.2.2.2.2.1, s.2.2.2.2.2.2)).1 (S_iShortDays_l6.enc (s.1, s.2.1, s.2.2.1, s.2.2.2.1, s.2.2.2.2.1, s.2.2.2.2.2.1, s.2.2.2.2.2.2)).2).to (stepD S_iShortDays_l6 X_iShortDays_l6) = (iShortDays_l6_t  s.1 s.2.1 s.2.2.1 s.2.2.2.1 s.2.2.2.2.1 s.2.2.2.2.2.1 s.2.2.2.2.2.2).map (Sum.map (fun s : Int × Int × List Int × (List (Int × Int × Int × Int)) × List Int × List Int × List (List Int) => (show DR S_iShortDays_l6.hs from (s.1, s.2.1, s.2.2.1, s.2.2.2.1, s.2.2.2.2.1, s.2.2.2.2.2.1, s.2.2.2.2.2.2))) id) := by kernel_rfl

theorem iShortDays_l6_r (x : DR S_iShortDays_l6.hs) : (iShortDays_l6 x.1 x.2.1 x.2.2.1 x.2.2.2.1 x.2.2.2.2.1 x.2.2.2.2.2.1 x.2.2.2.2.2.2 : Option (SumD (X_iShortDays_l6.map (·.2)))) = runL (meanS (envT Try.prog C33 M5) L_iShortDays_l6 6 (loopC (bodyOf Try.f35) 6) S_iShortDays_l6 X_iShortDays_l6) x := run_of (fun s : Int × Int × List Int × (List (Int × Int × Int × Int)) × List Int × List Int × List (List Int) => (show DR S_iShortDays_l6.hs from (s.1, s.2.1, s.2.2.1, s.2.2.2.1, s.2.2.2.2.1, s.2.2.2.2.2.1, s.2.2.2.2.2.2))) (iShortDays_l6_e ) (x.1, x.2.1, x.2.2.1, x.2.2.2.1, x.2.2.2.2.1, x.2.2.2.2.2.1, x.2.2.2.2.2.2)

theorem iShortDays_l6_k (L : Loops) (hn : L_iShortDays_l6.n = L.n) (hlv : L_iShortDays_l6.lv 6 = L.lv 6) (hL : ∀ vs bs, L.loop 6 vs bs = toldL S_iShortDays_l6 X_iShortDays_l6 (fun x => iShortDays_l6 x.1 x.2.1 x.2.2.1 x.2.2.2.1 x.2.2.2.2.1 x.2.2.2.2.2.1 x.2.2.2.2.2.2) vs bs) : LOk Try.prog (envT Try.prog C33 M5) L 6 (loopC (bodyOf Try.f35) 6) := toldL_ok (L1 := L_iShortDays_l6) (envT_ok (C33_ok) (M5_ok)) mixedO hn hlv (loopsL (l := [(9, loopC (loopC (bodyOf Try.f35) 6) 9)]) (by kernel_rfl) (lk_cons (iShortDays_l9_k _ rfl rfl (fun _ _ => rfl)) lk_nil)) iShortDays_l6_r hL

def A_iShortDays : Shp := ⟨[.agg [.h, .h, .h], .h], [], [.sl [.i .i64], .sl [.i .i64, .i .i64, .i .i64, .i .i64], .sl [.i .i64], .sl [.sl [.i .i64]]]⟩
def R_iShortDays : List XShp := [(.ret, ⟨[.tup [.nils, .lb false]], [], []⟩), (.ret, ⟨[.tup [.slw 0 1, .lb true]], [.arr [.i .i64] false], [.sl [.i .i64]]⟩)]

noncomputable def L_iShortDays : Loops := (⟨58, lvT [(9, [2, 10, 29, 30, 31, 35, 36, 37]), (6, [2, 10, 29, 30, 31])], mdT [(9, .exit 2, [], [35, 36, 37]), (6, .exit 0, [], [2, 29, 30, 31])], fun k vs bs => bif Nat.beq k 6 then toldL S_iShortDays_l6 X_iShortDays_l6 (fun x => iShortDays_l6 x.1 x.2.1 x.2.2.1 x.2.2.2.1 x.2.2.2.2.1 x.2.2.2.2.2.1 x.2.2.2.2.2.2) vs bs else .bad⟩ : Loops)

theorem iShortDays_e (x : DR A_iShortDays.hs) : (evFn (envT Try.prog C33 M5) L_iShortDays Try.f35 (A_iShortDays.enc x).1).to (fun q => decX R_iShortDays .ret [q.1] q.2) = iShortDays_t x.1 x.2.1 x.2.2.1 x.2.2.2 := by kernel_rfl

theorem iShortDays_m (x : DR A_iShortDays.hs) : meanF (envT Try.prog C33 M5) L_iShortDays Try.f35 A_iShortDays R_iShortDays x = (show Option (SumD (R_iShortDays.map (·.2))) from iShortDays x.1 x.2.1 x.2.2.1 x.2.2.2) := meanF_of (iShortDays_e x)

theorem iShortDays_ok : SpecOk Try.prog 35 (evFn (envT Try.prog C33 M5) L_iShortDays Try.f35) := fnL_ok (envT_ok (C33_ok) (M5_ok)) mixedO Try.func35 (by kernel_rfl) (c := bodyOf Try.f35) (by kernel_rfl) (loopsL (l := [(6, loopC (bodyOf Try.f35) 6)]) (by kernel_rfl) (lk_cons (iShortDays_l6_k _ rfl rfl (fun _ _ => rfl)) lk_nil))

theorem iShortDays_told : SpecOk Try.prog 35 (toldO A_iShortDays R_iShortDays (fun x => iShortDays x.1 x.2.1 x.2.2.1 x.2.2.2) (C33 35)) := toldO_ok (by kernel_rfl) iShortDays_ok (rest_ok (C33_ok) _) iShortDays_m

noncomputable def C34 : Tab := tab 35 (toldO A_iShortDays R_iShortDays (fun x => iShortDays x.1 x.2.1 x.2.2.1 x.2.2.2) (C33 35)) C33
theorem C34_ok : TabOk Try.prog C34 := tab_ok (iShortDays_told) (C33_ok)

def S_iCutWants_l5 : Shp := ⟨[.h, .h, .ref 0 0, .ref 1 0, .h, .h], [.cells [.nils, .nils, .nils] false, .cells [.slw 2 1, .slw 3 4, .slw 4 1] false, .arr [.i .i64] false, .arr [.i .i64, .i .i64, .i .i64, .i .i64] false, .arr [.i .i64] false], [.i .i64, .i .i64, .i .i64, .i .i64, .sl [.i .i64], .sl [.i .i64, .i .i64, .i .i64, .i .i64], .sl [.i .i64]]⟩
def X_iCutWants_l5 : List XShp := [(.exit 0, ⟨[.undef, .undef, .ref 0 0, .ref 1 0, .undef, .undef], [.cells [.nils, .nils, .nils] false, .cells [.slw 2 1, .slw 3 4, .slw 4 1] false, .arr [.i .i64] false, .arr [.i .i64, .i .i64, .i .i64, .i .i64] false, .arr [.i .i64] false], [.sl [.i .i64], .sl [.i .i64, .i .i64, .i .i64, .i .i64], .sl [.i .i64]]⟩)]

noncomputable def L_iCutWants_l5 : Loops := (⟨48, lvT [(5, [1, 2, 6, 8, 29, 30])], mdT [(5, .exit 0, [], [1, 2, 29, 30])], fun k vs bs => .bad⟩ : Loops)

theorem iCutWants_l5_e (y0 : Int) (y1 : Int) (y2 : Int) (y4 : List Int) (y5 : List (Int × Int × Int × Int)) (s : Int × List Int) : (loopStep (envT Try.prog C34 M5) L_iCutWants_l5 5 (loopC (bodyOf Try.f11) 5) (S_iCutWants_l5.enc (y0, y1, y2, s.1, y4, y5, s.2)).1 (S_iCutWants_l5.enc (y0, y1, y2, s.1, y4, y5, s.2)).2).to (stepD S_iCutWants_l5 X_iCutWants_l5) = (iCutWants_l5_t y0 y1 y2 y4 y5 s.1 s.2).map (Sum.map (fun s : Int × List Int => (show DR S_iCutWants_l5.hs from (y0, y1, y2, s.1, y4, y5, s.2))) id) := by kernel_rfl

theorem iCutWants_l5_r (x : DR S_iCutWants_l5.hs) : (iCutWants_l5 x.1 x.2.1 x.2.2.1 x.2.2.2.1 x.2.2.2.2.1 x.2.2.2.2.2.1 x.2.2.2.2.2.2 : Option (SumD (X_iCutWants_l5.map (·.2)))) = runL (meanS (envT Try.prog C34 M5) L_iCutWants_l5 5 (loopC (bodyOf Try.f11) 5) S_iCutWants_l5 X_iCutWants_l5) x := run_of (fun s : Int × List Int => (show DR S_iCutWants_l5.hs from (x.1, x.2.1, x.2.2.1, s.1, x.2.2.2.2.1, x.2.2.2.2.2.1, s.2))) (iCutWants_l5_e (x.1) (x.2.1) (x.2.2.1) (x.2.2.2.2.1) (x.2.2.2.2.2.1)) (x.2.2.2.1, x.2.2.2.2.2.2)

theorem iCutWants_l5_k (L : Loops) (hn : L_iCutWants_l5.n = L.n) (hlv : L_iCutWants_l5.lv 5 = L.lv 5) (hL : ∀ vs bs, L.loop 5 vs bs = toldL S_iCutWants_l5 X_iCutWants_l5 (fun x => iCutWants_l5 x.1 x.2.1 x.2.2.1 x.2.2.2.1 x.2.2.2.2.1 x.2.2.2.2.2.1 x.2.2.2.2.2.2) vs bs) : LOk Try.prog (envT Try.prog C34 M5) L 5 (loopC (bodyOf Try.f11) 5) := toldL_ok (L1 := L_iCutWants_l5) (envT_ok (C34_ok) (M5_ok)) mixedO hn hlv (loopFree_ok (by kernel_rfl)) iCutWants_l5_r hL

def A_iCutWants : Shp := ⟨[.agg [.h, .h, .h], .h, .h], [], [.sl [.i .i64], .sl [.i .i64, .i .i64, .i .i64, .i .i64], .sl [.i .i64], .i .i64, .i .i64]⟩
def R_iCutWants : List XShp := [(.ret, ⟨[.tup [.agg [.nils, .nils, .nils], .lb false]], [], []⟩), (.ret, ⟨[.tup [.agg [.slw 0 1, .slw 1 4, .slw 2 1], .lb true]], [.arr [.i .i64] false, .arr [.i .i64, .i .i64, .i .i64, .i .i64] false, .arr [.i .i64] false], [.sl [.i .i64], .sl [.i .i64, .i .i64, .i .i64, .i .i64], .sl [.i .i64]]⟩)]

noncomputable def L_iCutWants : Loops := (⟨48, lvT [(5, [1, 2, 6, 8, 29, 30])], mdT [(5, .exit 0, [], [1, 2, 29, 30])], fun k vs bs => bif Nat.beq k 5 then toldL S_iCutWants_l5 X_iCutWants_l5 (fun x => iCutWants_l5 x.1 x.2.1 x.2.2.1 x.2.2.2.1 x.2.2.2.2.1 x.2.2.2.2.2.1 x.2.2.2.2.2.2) vs bs else .bad⟩ : Loops)

theorem iCutWants_e (x : DR A_iCutWants.hs) : (evFn (envT Try.prog C34 M5) L_iCutWants Try.f11 (A_iCutWants.enc x).1).to (fun q => decX R_iCutWants .ret [q.1] q.2) = iCutWants_t x.1 x.2.1 x.2.2.1 x.2.2.2.1 x.2.2.2.2 := by kernel_rfl

theorem iCutWants_m (x : DR A_iCutWants.hs) : meanF (envT Try.prog C34 M5) L_iCutWants Try.f11 A_iCutWants R_iCutWants x = (show Option (SumD (R_iCutWants.map (·.2))) from iCutWants x.1 x.2.1 x.2.2.1 x.2.2.2.1 x.2.2.2.2) := meanF_of (iCutWants_e x)

theorem iCutWants_ok : SpecOk Try.prog 11 (evFn (envT Try.prog C34 M5) L_iCutWants Try.f11) := fnL_ok (envT_ok (C34_ok) (M5_ok)) mixedO Try.func11 (by kernel_rfl) (c := bodyOf Try.f11) (by kernel_rfl) (loopsL (l := [(5, loopC (bodyOf Try.f11) 5)]) (by kernel_rfl) (lk_cons (iCutWants_l5_k _ rfl rfl (fun _ _ => rfl)) lk_nil))

theorem iCutWants_told : SpecOk Try.prog 11 (toldO A_iCutWants R_iCutWants (fun x => iCutWants x.1 x.2.1 x.2.2.1 x.2.2.2.1 x.2.2.2.2) (C34 11)) := toldO_ok (by kernel_rfl) iCutWants_ok (rest_ok (C34_ok) _) iCutWants_m

noncomputable def C35 : Tab := tab 11 (toldO A_iCutWants R_iCutWants (fun x => iCutWants x.1 x.2.1 x.2.2.1 x.2.2.2.1 x.2.2.2.2) (C34 11)) C34
theorem C35_ok : TabOk Try.prog C35 := tab_ok (iCutWants_told) (C34_ok)

def H_wFnRiverDays_l20 : List XShp := [(.normal, ⟨[.h, .undef, .ref 0 0, .h, .slw 4 1, .ref 5 0, .slw 9 1, .ref 10 0, .h, .ref 11 0, .slw 15 1, .slw 16 1, .h], [.cells [.slw 1 1, .slw 2 4, .slw 3 1] false, .arr [.i .i64] true, .arr [.i .i64, .i .i64, .i .i64, .i .i64] true, .arr [.i .i64] true, .arr [.sl [.i .i64]] true, .cells [.slw 6 1, .slw 7 4, .slw 8 1] false, .arr [.i .i64] false, .arr [.i .i64, .i .i64, .i .i64, .i .i64] false, .arr [.i .i64] false, .arr [.sl [.i .i64]] false, .cells [.slw 1 1, .slw 2 4, .slw 3 1] false, .cells [.slw 12 1, .slw 13 4, .slw 14 1] false, .arr [.i .i64] false, .arr [.i .i64, .i .i64, .i .i64, .i .i64] false, .arr [.i .i64] false, .arr [.i .i64] false, .arr [.i .i64] false], [.sl [.i .u8], .i .i64, .i .i64, .i .i64, .sl [.i .i64], .sl [.i .i64, .i .i64, .i .i64, .i .i64], .sl [.i .i64], .sl [.sl [.i .i64]], .sl [.i .i64], .sl [.i .i64, .i .i64, .i .i64, .i .i64], .sl [.i .i64], .sl [.sl [.i .i64]], .sl [.i .i64], .sl [.i .i64, .i .i64, .i .i64, .i .i64], .sl [.i .i64], .sl [.i .i64], .sl [.i .i64]]⟩), (.normal, ⟨[.h, .undef, .ref 0 0, .h, .slw 4 1, .ref 5 0, .slw 9 1, .ref 10 0, .h, .ref 14 0, .slw 18 1, .slw 19 1, .h], [.cells [.slw 1 1, .slw 2 4, .slw 3 1] false, .arr [.i .i64] true, .arr [.i .i64, .i .i64, .i .i64, .i .i64] true, .arr [.i .i64] true, .arr [.sl [.i .i64]] true, .cells [.slw 6 1, .slw 7 4, .slw 8 1] false, .arr [.i .i64] false, .arr [.i .i64, .i .i64, .i .i64, .i .i64] false, .arr [.i .i64] false, .arr [.sl [.i .i64]] false, .cells [.slw 11 1, .slw 12 4, .slw 13 1] false, .arr [.i .i64] false, .arr [.i .i64, .i .i64, .i .i64, .i .i64] false, .arr [.i .i64] false, .cells [.slw 15 1, .slw 16 4, .slw 17 1] false, .arr [.i .i64] false, .arr [.i .i64, .i .i64, .i .i64, .i .i64] false, .arr [.i .i64] false, .arr [.i .i64] false, .arr [.i .i64] false], [.sl [.i .u8], .i .i64, .i .i64, .i .i64, .sl [.i .i64], .sl [.i .i64, .i .i64, .i .i64, .i .i64], .sl [.i .i64], .sl [.sl [.i .i64]], .sl [.i .i64], .sl [.i .i64, .i .i64, .i .i64, .i .i64], .sl [.i .i64], .sl [.sl [.i .i64]], .sl [.i .i64], .sl [.i .i64, .i .i64, .i .i64, .i .i64], .sl [.i .i64], .sl [.i .i64], .sl [.i .i64, .i .i64, .i .i64, .i .i64], .sl [.i .i64], .sl [.i .i64], .sl [.i .i64]]⟩)]
def X_wFnRiverDays_l20 : List XShp := [(.ret, ⟨[.undef, .lb false, .undef, .undef, .undef, .undef, .undef, .undef, .undef, .undef, .undef, .undef, .undef], [], []⟩), (.exit 2, ⟨[.h, .undef, .ref 0 0, .h, .slw 4 1, .ref 5 0, .slw 9 1, .ref 10 0, .h, .ref 11 0, .undef, .undef, .undef], [.cells [.slw 1 1, .slw 2 4, .slw 3 1] false, .arr [.i .i64] true, .arr [.i .i64, .i .i64, .i .i64, .i .i64] true, .arr [.i .i64] true, .arr [.sl [.i .i64]] true, .cells [.slw 6 1, .slw 7 4, .slw 8 1] false, .arr [.i .i64] false, .arr [.i .i64, .i .i64, .i .i64, .i .i64] false, .arr [.i .i64] false, .arr [.sl [.i .i64]] false, .cells [.slw 1 1, .slw 2 4, .slw 3 1] false, .cells [.slw 12 1, .slw 13 4, .slw 14 1] false, .arr [.i .i64] false, .arr [.i .i64, .i .i64, .i .i64, .i .i64] false, .arr [.i .i64] false], [.sl [.i .u8], .i .i64, .i .i64, .sl [.i .i64], .sl [.i .i64, .i .i64, .i .i64, .i .i64], .sl [.i .i64], .sl [.sl [.i .i64]], .sl [.i .i64], .sl [.i .i64, .i .i64, .i .i64, .i .i64], .sl [.i .i64], .sl [.sl [.i .i64]], .sl [.i .i64], .sl [.i .i64, .i .i64, .i .i64, .i .i64], .sl [.i .i64]]⟩), (.exit 2, ⟨[.h, .undef, .ref 0 0, .h, .slw 4 1, .ref 5 0, .slw 9 1, .ref 10 0, .h, .ref 14 0, .undef, .undef, .undef], [.cells [.slw 1 1, .slw 2 4, .slw 3 1] false, .arr [.i .i64] true, .arr [.i .i64, .i .i64, .i .i64, .i .i64] true, .arr [.i .i64] true, .arr [.sl [.i .i64]] true, .cells [.slw 6 1, .slw 7 4, .slw 8 1] false, .arr [.i .i64] false, .arr [.i .i64, .i .i64, .i .i64, .i .i64] false, .arr [.i .i64] false, .arr [.sl [.i .i64]] false, .cells [.slw 11 1, .slw 12 4, .slw 13 1] false, .arr [.i .i64] false, .arr [.i .i64, .i .i64, .i .i64, .i .i64] false, .arr [.i .i64] false, .cells [.slw 15 1, .slw 16 4, .slw 17 1] false, .arr [.i .i64] false, .arr [.i .i64, .i .i64, .i .i64, .i .i64] false, .arr [.i .i64] false], [.sl [.i .u8], .i .i64, .i .i64, .sl [.i .i64], .sl [.i .i64, .i .i64, .i .i64, .i .i64], .sl [.i .i64], .sl [.sl [.i .i64]], .sl [.i .i64], .sl [.i .i64, .i .i64, .i .i64, .i .i64], .sl [.i .i64], .sl [.sl [.i .i64]], .sl [.i .i64], .sl [.i .i64, .i .i64, .i .i64, .i .i64], .sl [.i .i64], .sl [.i .i64], .sl [.i .i64, .i .i64, .i .i64, .i .i64], .sl [.i .i64]]⟩)]

noncomputable def L_wFnRiverDays_l20 : Loops := (⟨331, lvT [(35, [4, 6, 7, 30, 34, 38]), (20, [1, 4, 5, 6, 7, 8, 9, 21, 22, 23, 24, 25, 27]), (14, [1, 4, 5, 6, 7, 8, 9, 21, 22])], mdT [(35, .normal, [], [4]), (35, .exit 4, [], [4, 6, 7, 30, 34, 38]), (35, .ret, [], [6, 7, 30, 34, 38]), (20, .normal, [], [4]), (20, .exit 2, [], [4, 24, 25, 27]), (20, .ret, [], [1, 5, 6, 7, 8, 9, 21, 22, 23, 24, 25, 27]), (14, .normal, [], [4]), (14, .exit 0, [], [4, 9, 22]), (14, .ret, [], [1, 5, 6, 7, 8, 9, 21, 22])], fun k vs bs => .bad⟩ : Loops)

theorem wFnRiverDays_l20_e0 (y : DR (⟨[.h, .undef, .ref 0 0, .h, .slw 4 1, .ref 5 0, .slw 9 1, .ref 10 0, .h, .ref 11 0, .slw 15 1, .slw 16 1, .h], [.cells [.slw 1 1, .slw 2 4, .slw 3 1] false, .arr [.i .i64] true, .arr [.i .i64, .i .i64, .i .i64, .i .i64] true, .arr [.i .i64] true, .arr [.sl [.i .i64]] true, .cells [.slw 6 1, .slw 7 4, .slw 8 1] false, .arr [.i .i64] false, .arr [.i .i64, .i .i64, .i .i64, .i .i64] false, .arr [.i .i64] false, .arr [.sl [.i .i64]] false, .cells [.slw 1 1, .slw 2 4, .slw 3 1] false, .cells [.slw 12 1, .slw 13 4, .slw 14 1] false, .arr [.i .i64] false, .arr [.i .i64, .i .i64, .i .i64, .i .i64] false, .arr [.i .i64] false, .arr [.i .i64] false, .arr [.i .i64] false], [.sl [.i .u8], .i .i64, .i .i64, .i .i64, .sl [.i .i64], .sl [.i .i64, .i .i64, .i .i64, .i .i64], .sl [.i .i64], .sl [.sl [.i .i64]], .sl [.i .i64], .sl [.i .i64, .i .i64, .i .i64, .i .i64], .sl [.i .i64], .sl [.sl [.i .i64]], .sl [.i .i64], .sl [.i .i64, .i .i64, .i .i64, .i .i64], .sl [.i .i64], .sl [.i .i64], .sl [.i .i64]]⟩ : Shp).hs) : (loopStep (envT Try.prog C35 M5) L_wFnRiverDays_l20 20 (loopC (loopC (bodyOf Try.f7) 14) 20) ((⟨[.h, .undef, .ref 0 0, .h, .slw 4 1, .ref 5 0, .slw 9 1, .ref 10 0, .h, .ref 11 0, .slw 15 1, .slw 16 1, .h], [.cells [.slw 1 1, .slw 2 4, .slw 3 1] false, .arr [.i .i64] true, .arr [.i .i64, .i .i64, .i .i64, .i .i64] true, .arr [.i .i64] true, .arr [.sl [.i .i64]] true, .cells [.slw 6 1, .slw 7 4, .slw 8 1] false, .arr [.i .i64] false, .arr [.i .i64, .i .i64, .i .i64, .i .i64] false, .arr [.i .i64] false, .arr [.sl [.i .i64]] false, .cells [.slw 1 1, .slw 2 4, .slw 3 1] false, .cells [.slw 12 1, .slw 13 4, .slw 14 1] false, .arr [.i .i64] false, .arr [.i .i64, .i .i64, .i .i64, .i .i64] false, .arr [.i .i64] false, .arr [.i .i64] false, .arr [.i .i64] false], [.sl [.i .u8], .i .i64, .i .i64, .i .i64, .sl [.i .i64], .sl [.i .i64, .i .i64, .i .i64, .i .i64], .sl [.i .i64], .sl [.sl [.i .i64]], .sl [.i .i64], .sl [.i .i64, .i .i64, .i .i64, .i .i64], .sl [.i .i64], .sl [.sl [.i .i64]], .sl [.i .i64], .sl [.i .i64, .i .i64, .i .i64, .i .i64], .sl [.i .i64], .sl [.i .i64], .sl [.i .i64]]⟩ : Shp).enc y).1 ((⟨[.h, .undef, .ref 0 0, .h, .slw 4 1, .ref 5 0, .slw 9 1, .ref 10 0, .h, .ref 11 0, .slw 15 1, .slw 16 1, .h], [.cells [.slw 1 1, .slw 2 4, .slw 3 1] false, .arr [.i .i64] true, .arr [.i .i64, .i .i64, .i .i64, .i .i64] true, .arr [.i .i64] true, .arr [.sl [.i .i64]] true, .cells [.slw 6 1, .slw 7 4, .slw 8 1] false, .arr [.i .i64] false, .arr [.i .i64, .i .i64, .i .i64, .i .i64] false, .arr [.i .i64] false, .arr [.sl [.i .i64]] false, .cells [.slw 1 1, .slw 2 4, .slw 3 1] false, .cells [.slw 12 1, .slw 13 4, .slw 14 1] false, .arr [.i .i64] false, .arr [.i .i64, .i .i64, .i .i64, .i .i64] false, .arr [.i .i64] false, .arr [.i .i64] false, .arr [.i .i64] false], [.sl [.i .u8], .i .i64, .i .i64, .i .i64, .sl [.i .i64], .sl [.i .i64, .i .i64, .i .i64, .i .i64], .sl [.i .i64], .sl [.sl [.i .i64]], .sl [.i .i64], .sl [.i .i64, .i .i64, .i .i64, .i .i64], .sl [.i .i64], .sl [.sl [.i .i64]], .sl [.i .i64], .sl [.i .i64, .i .i64, .i .i64, .i .i64], .sl [.i .i64], .sl [.i .i64], .sl [.i .i64]]⟩ : Shp).enc y).2).to (stepH H_wFnRiverDays_l20 X_wFnRiverDays_l20) = wFnRiverDays_l20_t0 y.1 y.2.1 y.2.2.1 y.2.2.2.1 y.2.2.2.2.1 y.2.2.2.2.2.1 y.2.2.2.2.2.2.1 y.2.2.2.2.2.2.2.1 y.2.2.2.2.2.2.2.2.1 y.2.2.2.2.2.2.2.2.2.1 y.2.2.2.2.2.2.2.2.2.2.1 y.2.2.2.2.2.2.2.2.2.2.2.1 y.2.2.2.2.2.2.2.2.2.2.2.2.1 y.2.2.2.2.2.2.2.2.2.2.2.2.2.1 y.2.2.2.2.2.2.2.2.2.2.2.2.2.2.1 y.2.2.2.2.2.2.2.2.2.2.2.2.2.2.2.1 y.2.2.2.2.2.2.2.2.2.2.2.2.2.2.2.2 := by kernel_rfl

theorem wFnRiverDays_l20_e1 (y : DR (⟨[.h, .undef, .ref 0 0, .h, .slw 4 1, .ref 5 0, .slw 9 1, .ref 10 0, .h, .ref 14 0, .slw 18 1, .slw 19 1, .h], [.cells [.slw 1 1, .slw 2 4, .slw 3 1] false, .arr [.i .i64] true, .arr [.i .i64, .i .i64, .i .i64, .i .i64] true, .arr [.i .i64] true, .arr [.sl [.i .i64]] true, .cells [.slw 6 1, .slw 7 4, .slw 8 1] false, .arr [.i .i64] false, .arr [.i .i64, .i .i64, .i .i64, .i .i64] false, .arr [.i .i64] false, .arr [.sl [.i .i64]] false, .cells [.slw 11 1, .slw 12 4, .slw 13 1] false, .arr [.i .i64] false, .arr [.i .i64, .i .i64, .i .i64, .i .i64] false, .arr [.i .i64] false, .cells [.slw 15 1, .slw 16 4, .slw 17 1] false, .arr [.i .i64] false, .arr [.i .i64, .i .i64, .i .i64, .i .i64] false, .arr [.i .i64] false, .arr [.i .i64] false, .arr [.i .i64] false], [.sl [.i .u8], .i .i64, .i .i64, .i .i64, .sl [.i .i64], .sl [.i .i64, .i .i64, .i .i64, .i .i64], .sl [.i .i64], .sl [.sl [.i .i64]], .sl [.i .i64], .sl [.i .i64, .i .i64, .i .i64, .i .i64], .sl [.i .i64], .sl [.sl [.i .i64]], .sl [.i .i64], .sl [.i .i64, .i .i64, .i .i64, .i .i64], .sl [.i .i64], .sl [.i .i64], .sl [.i .i64, .i .i64, .i .i64, .i .i64], .sl [.i .i64], .sl [.i .i64], .sl [.i .i64]]⟩ : Shp).hs) : (loopStep (envT Try.prog C35 M5) L_wFnRiverDays_l20 20 (loopC (loopC (bodyOf Try.f7) 14) 20) ((⟨[.h, .undef, .ref 0 0, .h, .slw 4 1, .ref 5 0, .slw 9 1, .ref 10 0, .h, .ref 14 0, .slw 18 1, .slw 19 1, .h], [.cells [.slw 1 1, .slw 2 4, .slw 3 1] false, .arr [.i .i64] true, .arr [.i .i64, .i .i64, .i .i64, .i .i64] true, .arr [.i .i64] true, .arr [.sl [.i .i64]] true, .cells [.slw 6 1, .slw 7 4, .slw 8 1] false, .arr [.i .i64] false, .arr [.i .i64, .i .i64, .i .i64, .i .i64] false, .arr [.i .i64] false, .arr [.sl [.i .i64]] false, .cells [.slw 11 1, .slw 12 4, .slw 13 1] false, .arr [.i .i64] false, .arr [.i .i64, .i .i64, .i .i64, .i .i64] false, .arr [.i .i64] false, .cells [.slw 15 1, .slw 16 4, .slw 17 1] false, .arr [.i .i64] false, .arr [.i .i64, .i .i64, .i .i64, .i .i64] false, .arr [.i .i64] false, .arr [.i .i64] false, .arr [.i .i64] false], [.sl [.i .u8], .i .i64, .i .i64, .i .i64, .sl [.i .i64], .sl [.i .i64, .i .i64, .i .i64, .i .i64], .sl [.i .i64], .sl [.sl [.i .i64]], .sl [.i .i64], .sl [.i .i64, .i .i64, .i .i64, .i .i64], .sl [.i .i64], .sl [.sl [.i .i64]], .sl [.i .i64], .sl [.i .i64, .i .i64, .i .i64, .i .i64], .sl [.i .i64], .sl [.i .i64], .sl [.i .i64, .i .i64, .i .i64, .i .i64], .sl [.i .i64], .sl [.i .i64], .sl [.i .i64]]⟩ : Shp).enc y).1 ((⟨[.h, .undef, .ref 0 0, .h, .slw 4 1, .ref 5 0, .slw 9 1, .ref 10 0, .h, .ref 14 0, .slw 18 1, .slw 19 1, .h], [.cells [.slw 1 1, .slw 2 4, .slw 3 1] false, .arr [.i .i64] true, .arr [.i .i64, .i .i64, .i .i64, .i .i64] true, .arr [.i .i64] true, .arr [.sl [.i .i64]] true, .cells [.slw 6 1, .slw 7 4, .slw 8 1] false, .arr [.i .i64] false, .arr [.i .i64, .i .i64, .i .i64, .i .i64] false, .arr [.i .i64] false, .arr [.sl [.i .i64]] false, .cells [.slw 11 1, .slw 12 4, .slw 13 1] false, .arr [.i .i64] false, .arr [.i .i64, .i .i64, .i .i64, .i .i64] false, .arr [.i .i64] false, .cells [.slw 15 1, .slw 16 4, .slw 17 1] false, .arr [.i .i64] false, .arr [.i .i64, .i .i64, .i .i64, .i .i64] false, .arr [.i .i64] false, .arr [.i .i64] false, .arr [.i .i64] false], [.sl [.i .u8], .i .i64, .i .i64, .i .i64, .sl [.i .i64], .sl [.i .i64, .i .i64, .i .i64, .i .i64], .sl [.i .i64], .sl [.sl [.i .i64]], .sl [.i .i64], .sl [.i .i64, .i .i64, .i .i64, .i .i64], .sl [.i .i64], .sl [.sl [.i .i64]], .sl [.i .i64], .sl [.i .i64, .i .i64, .i .i64, .i .i64], .sl [.i .i64], .sl [.i .i64], .sl [.i .i64, .i .i64, .i .i64, .i .i64], .sl [.i .i64], .sl [.i .i64], .sl [.i .i64]]⟩ : Shp).enc y).2).to (stepH H_wFnRiverDays_l20 X_wFnRiverDays_l20) = wFnRiverDays_l20_t1 y.1 y.2.1 y.2.2.1 y.2.2.2.1 y.2.2.2.2.1 y.2.2.2.2.2.1 y.2.2.2.2.2.2.1 y.2.2.2.2.2.2.2.1 y.2.2.2.2.2.2.2.2.1 y.2.2.2.2.2.2.2.2.2.1 y.2.2.2.2.2.2.2.2.2.2.1 y.2.2.2.2.2.2.2.2.2.2.2.1 y.2.2.2.2.2.2.2.2.2.2.2.2.1 y.2.2.2.2.2.2.2.2.2.2.2.2.2.1 y.2.2.2.2.2.2.2.2.2.2.2.2.2.2.1 y.2.2.2.2.2.2.2.2.2.2.2.2.2.2.2.1 y.2.2.2.2.2.2.2.2.2.2.2.2.2.2.2.2.1 y.2.2.2.2.2.2.2.2.2.2.2.2.2.2.2.2.2.1 y.2.2.2.2.2.2.2.2.2.2.2.2.2.2.2.2.2.2.1 y.2.2.2.2.2.2.2.2.2.2.2.2.2.2.2.2.2.2.2 := by kernel_rfl

theorem wFnRiverDays_l20_o : ∀ x : (List Int × Int × Int × Int × List Int × (List (Int × Int × Int × Int)) × List Int × List (List Int) × List Int × (List (Int × Int × Int × Int)) × List Int × List (List Int) × List Int × (List (Int × Int × Int × Int)) × List Int × List Int × List Int) ⊕ (List Int × Int × Int × Int × List Int × (List (Int × Int × Int × Int)) × List Int × List (List Int) × List Int × (List (Int × Int × Int × Int)) × List Int × List (List Int) × List Int × (List (Int × Int × Int × Int)) × List Int × List Int × (List (Int × Int × Int × Int)) × List Int × List Int × List Int), meanH (envT Try.prog C35 M5) L_wFnRiverDays_l20 20 (loopC (loopC (bodyOf Try.f7) 14) 20) H_wFnRiverDays_l20 X_wFnRiverDays_l20 x = wFnRiverDays_l20_s x
  | (.inl y) => meanH_of (wFnRiverDays_l20_e0 y)
  | (.inr y) => meanH_of (wFnRiverDays_l20_e1 y)

theorem wFnRiverDays_l20_r (x : SumD (H_wFnRiverDays_l20.map (fun p : XShp => p.2))) : (show Option (SumD (X_wFnRiverDays_l20.map (fun p : XShp => p.2))) from wFnRiverDays_l20 x) = runL (meanH (envT Try.prog C35 M5) L_wFnRiverDays_l20 20 (loopC (loopC (bodyOf Try.f7) 14) 20) H_wFnRiverDays_l20 X_wFnRiverDays_l20) x := runH_of (H := H_wFnRiverDays_l20) (X := X_wFnRiverDays_l20) (g := wFnRiverDays_l20_s) wFnRiverDays_l20_o x

theorem wFnRiverDays_l20_k (L : Loops) (hn : L_wFnRiverDays_l20.n = L.n) (hlv : L_wFnRiverDays_l20.lv 20 = L.lv 20) (hL : ∀ vs bs, L.loop 20 vs bs = toldH H_wFnRiverDays_l20 X_wFnRiverDays_l20 (fun x => wFnRiverDays_l20 x) vs bs) : LOk Try.prog (envT Try.prog C35 M5) L 20 (loopC (loopC (bodyOf Try.f7) 14) 20) := toldH_ok (L1 := L_wFnRiverDays_l20) (envT_ok (C35_ok) (M5_ok)) mixedO hn hlv (loopFree_ok (by kernel_rfl)) wFnRiverDays_l20_r hL

def H_wFnRiverDays_l14 : List XShp := [(.normal, ⟨[.h, .undef, .ref 0 0, .h, .slw 4 1, .ref 5 0, .slw 9 1, .ref 10 0, .h], [.cells [.slw 1 1, .slw 2 4, .slw 3 1] false, .arr [.i .i64] true, .arr [.i .i64, .i .i64, .i .i64, .i .i64] true, .arr [.i .i64] true, .arr [.sl [.i .i64]] true, .cells [.slw 6 1, .slw 7 4, .slw 8 1] false, .arr [.i .i64] false, .arr [.i .i64, .i .i64, .i .i64, .i .i64] false, .arr [.i .i64] false, .arr [.sl [.i .i64]] false, .cells [.slw 1 1, .slw 2 4, .slw 3 1] false], [.sl [.i .u8], .i .i64, .i .i64, .sl [.i .i64], .sl [.i .i64, .i .i64, .i .i64, .i .i64], .sl [.i .i64], .sl [.sl [.i .i64]], .sl [.i .i64], .sl [.i .i64, .i .i64, .i .i64, .i .i64], .sl [.i .i64], .sl [.sl [.i .i64]]]⟩), (.normal, ⟨[.h, .undef, .ref 0 0, .h, .slw 4 1, .ref 5 0, .slw 9 1, .ref 10 0, .h], [.cells [.slw 1 1, .slw 2 4, .slw 3 1] false, .arr [.i .i64] true, .arr [.i .i64, .i .i64, .i .i64, .i .i64] true, .arr [.i .i64] true, .arr [.sl [.i .i64]] true, .cells [.slw 6 1, .slw 7 4, .slw 8 1] false, .arr [.i .i64] false, .arr [.i .i64, .i .i64, .i .i64, .i .i64] false, .arr [.i .i64] false, .arr [.sl [.i .i64]] false, .cells [.slw 11 1, .slw 12 4, .slw 13 1] false, .arr [.i .i64] false, .arr [.i .i64, .i .i64, .i .i64, .i .i64] false, .arr [.i .i64] false], [.sl [.i .u8], .i .i64, .i .i64, .sl [.i .i64], .sl [.i .i64, .i .i64, .i .i64, .i .i64], .sl [.i .i64], .sl [.sl [.i .i64]], .sl [.i .i64], .sl [.i .i64, .i .i64, .i .i64, .i .i64], .sl [.i .i64], .sl [.sl [.i .i64]], .sl [.i .i64], .sl [.i .i64, .i .i64, .i .i64, .i .i64], .sl [.i .i64]]⟩)]
def X_wFnRiverDays_l14 : List XShp := [(.ret, ⟨[.undef, .lb false, .undef, .undef, .undef, .undef, .undef, .undef, .undef], [], []⟩), (.exit 0, ⟨[.h, .undef, .ref 0 0, .h, .slw 4 1, .ref 5 0, .undef, .ref 9 0, .undef], [.cells [.slw 1 1, .slw 2 4, .slw 3 1] false, .arr [.i .i64] true, .arr [.i .i64, .i .i64, .i .i64, .i .i64] true, .arr [.i .i64] true, .arr [.sl [.i .i64]] true, .cells [.slw 6 1, .slw 7 4, .slw 8 1] false, .arr [.i .i64] false, .arr [.i .i64, .i .i64, .i .i64, .i .i64] false, .arr [.i .i64] false, .cells [.slw 1 1, .slw 2 4, .slw 3 1] false], [.sl [.i .u8], .i .i64, .sl [.i .i64], .sl [.i .i64, .i .i64, .i .i64, .i .i64], .sl [.i .i64], .sl [.sl [.i .i64]], .sl [.i .i64], .sl [.i .i64, .i .i64, .i .i64, .i .i64], .sl [.i .i64]]⟩), (.exit 0, ⟨[.h, .undef, .ref 0 0, .h, .slw 4 1, .ref 5 0, .undef, .ref 9 0, .undef], [.cells [.slw 1 1, .slw 2 4, .slw 3 1] false, .arr [.i .i64] true, .arr [.i .i64, .i .i64, .i .i64, .i .i64] true, .arr [.i .i64] true, .arr [.sl [.i .i64]] true, .cells [.slw 6 1, .slw 7 4, .slw 8 1] false, .arr [.i .i64] false, .arr [.i .i64, .i .i64, .i .i64, .i .i64] false, .arr [.i .i64] false, .cells [.slw 10 1, .slw 11 4, .slw 12 1] false, .arr [.i .i64] false, .arr [.i .i64, .i .i64, .i .i64, .i .i64] false, .arr [.i .i64] false], [.sl [.i .u8], .i .i64, .sl [.i .i64], .sl [.i .i64, .i .i64, .i .i64, .i .i64], .sl [.i .i64], .sl [.sl [.i .i64]], .sl [.i .i64], .sl [.i .i64, .i .i64, .i .i64, .i .i64], .sl [.i .i64], .sl [.i .i64], .sl [.i .i64, .i .i64, .i .i64, .i .i64], .sl [.i .i64]]⟩)]

noncomputable def L_wFnRiverDays_l14 : Loops := (⟨331, lvT [(35, [4, 6, 7, 30, 34, 38]), (20, [1, 4, 5, 6, 7, 8, 9, 21, 22, 23, 24, 25, 27]), (14, [1, 4, 5, 6, 7, 8, 9, 21, 22])], mdT [(35, .normal, [], [4]), (35, .exit 4, [], [4, 6, 7, 30, 34, 38]), (35, .ret, [], [6, 7, 30, 34, 38]), (20, .normal, [], [4]), (20, .exit 2, [], [4, 24, 25, 27]), (20, .ret, [], [1, 5, 6, 7, 8, 9, 21, 22, 23, 24, 25, 27]), (14, .normal, [], [4]), (14, .exit 0, [], [4, 9, 22]), (14, .ret, [], [1, 5, 6, 7, 8, 9, 21, 22])], fun k vs bs => bif Nat.beq k 20 then toldH H_wFnRiverDays_l20 X_wFnRiverDays_l20 (fun x => wFnRiverDays_l20 x) vs bs else .bad⟩ : Loops)

theorem wFnRiverDays_l14_e0 (y : DR (⟨[.h, .undef, .ref 0 0, .h, .slw 4 1, .ref 5 0, .slw 9 1, .ref 10 0, .h], [.cells [.slw 1 1, .slw 2 4, .slw 3 1] false, .arr [.i .i64] true, .arr [.i .i64, .i .i64, .i .i64, .i .i64] true, .arr [.i .i64] true, .arr [.sl [.i .i64]] true, .cells [.slw 6 1, .slw 7 4, .slw 8 1] false, .arr [.i .i64] false, .arr [.i .i64, .i .i64, .i .i64, .i .i64] false, .arr [.i .i64] false, .arr [.sl [.i .i64]] false, .cells [.slw 1 1, .slw 2 4, .slw 3 1] false], [.sl [.i .u8], .i .i64, .i .i64, .sl [.i .i64], .sl [.i .i64, .i .i64, .i .i64, .i .i64], .sl [.i .i64], .sl [.sl [.i .i64]], .sl [.i .i64], .sl [.i .i64, .i .i64, .i .i64, .i .i64], .sl [.i .i64], .sl [.sl [.i .i64]]]⟩ : Shp).hs) : (loopStep (envT Try.prog C35 M5) L_wFnRiverDays_l14 14 (loopC (bodyOf Try.f7) 14) ((⟨[.h, .undef, .ref 0 0, .h, .slw 4 1, .ref 5 0, .slw 9 1, .ref 10 0, .h], [.cells [.slw 1 1, .slw 2 4, .slw 3 1] false, .arr [.i .i64] true, .arr [.i .i64, .i .i64, .i .i64, .i .i64] true, .arr [.i .i64] true, .arr [.sl [.i .i64]] true, .cells [.slw 6 1, .slw 7 4, .slw 8 1] false, .arr [.i .i64] false, .arr [.i .i64, .i .i64, .i .i64, .i .i64] false, .arr [.i .i64] false, .arr [.sl [.i .i64]] false, .cells [.slw 1 1, .slw 2 4, .slw 3 1] false], [.sl [.i .u8], .i .i64, .i .i64, .sl [.i .i64], .sl [.i .i64, .i .i64, .i .i64, .i .i64], .sl [.i .i64], .sl [.sl [.i .i64]], .sl [.i .i64], .sl [.i .i64, .i .i64, .i .i64, .i .i64], .sl [.i .i64], .sl [.sl [.i .i64]]]⟩ : Shp).enc y).1 ((⟨[.h, .undef, .ref 0 0, .h, .slw 4 1, .ref 5 0, .slw 9 1, .ref 10 0, .h], [.cells [.slw 1 1, .slw 2 4, .slw 3 1] false, .arr [.i .i64] true, .arr [.i .i64, .i .i64, .i .i64, .i .i64] true, .arr [.i .i64] true, .arr [.sl [.i .i64]] true, .cells [.slw 6 1, .slw 7 4, .slw 8 1] false, .arr [.i .i64] false, .arr [.i .i64, .i .i64, .i .i64, .i .i64] false, .arr [.i .i64] false, .arr [.sl [.i .i64]] false, .cells [.slw 1 1, .slw 2 4, .slw 3 1] false], [.sl [.i .u8], .i .i64, .i .i64, .sl [.i .i64], .sl [.i .i64, .i .i64, .i .i64, .i .i64], .sl [.i .i64], .sl [.sl [.i .i64]], .sl [.i .i64], .sl [.i .i64, .i .i64, .i .i64, .i .i64], .sl [.i .i64], .sl [.sl [.i .i64]]]⟩ : Shp).enc y).2).to (stepH H_wFnRiverDays_l14 X_wFnRiverDays_l14) = wFnRiverDays_l14_t0 y.1 y.2.1 y.2.2.1 y.2.2.2.1 y.2.2.2.2.1 y.2.2.2.2.2.1 y.2.2.2.2.2.2.1 y.2.2.2.2.2.2.2.1 y.2.2.2.2.2.2.2.2.1 y.2.2.2.2.2.2.2.2.2.1 y.2.2.2.2.2.2.2.2.2.2 := by kernel_rfl

theorem wFnRiverDays_l14_e1 (y : DR (⟨[.h, .undef, .ref 0 0, .h, .slw 4 1, .ref 5 0, .slw 9 1, .ref 10 0, .h], [.cells [.slw 1 1, .slw 2 4, .slw 3 1] false, .arr [.i .i64] true, .arr [.i .i64, .i .i64, .i .i64, .i .i64] true, .arr [.i .i64] true, .arr [.sl [.i .i64]] true, .cells [.slw 6 1, .slw 7 4, .slw 8 1] false, .arr [.i .i64] false, .arr [.i .i64, .i .i64, .i .i64, .i .i64] false, .arr [.i .i64] false, .arr [.sl [.i .i64]] false, .cells [.slw 11 1, .slw 12 4, .slw 13 1] false, .arr [.i .i64] false, .arr [.i .i64, .i .i64, .i .i64, .i .i64] false, .arr [.i .i64] false], [.sl [.i .u8], .i .i64, .i .i64, .sl [.i .i64], .sl [.i .i64, .i .i64, .i .i64, .i .i64], .sl [.i .i64], .sl [.sl [.i .i64]], .sl [.i .i64], .sl [.i .i64, .i .i64, .i .i64, .i .i64], .sl [.i .i64], .sl [.sl [.i .i64]], .sl [.i .i64], .sl [.i .i64, .i .i64, .i .i64, .i .i64], .sl [.i .i64]]⟩ : Shp).hs) : (loopStep (envT Try.prog C35 M5) L_wFnRiverDays_l14 14 (loopC (bodyOf Try.f7) 14) ((⟨[.h, .undef, .ref 0 0, .h, .slw 4 1, .ref 5 0, .slw 9 1, .ref 10 0, .h], [.cells [.slw 1 1, .slw 2 4, .slw 3 1] false, .arr [.i .i64] true, .arr [.i .i64, .i .i64, .i .i64, .i .i64] true, .arr [.i .i64] true, .arr [.sl [.i .i64]] true, .cells [.slw 6 1, .slw 7 4, .slw 8 1] false, .arr [.i .i64] false, .arr [.i .i64, .i .i64, .i .i64, .i .i64] false, .arr [.i .i64] false, .arr [.sl [.i .i64]] false, .cells [.slw 11 1, .slw 12 4, .slw 13 1] false, .arr [.i .i64] false, .arr [.i .i64, .i .i64, .i .i64, .i .i64] false, .arr [.i .i64] false], [.sl [.i .u8], .i .i64, .i .i64, .sl [.i .i64], .sl [.i .i64, .i .i64, .i .i64, .i .i64], .sl [.i .i64], .sl [.sl [.i .i64]], .sl [.i .i64], .sl [.i .i64, .i .i64, .i .i64, .i .i64], .sl [.i .i64], .sl [.sl [.i .i64]], .sl [.i .i64], .sl [.i .i64, .i .i64, .i .i64, .i .i64], .sl [.i .i64]]⟩ : Shp).enc y).1 ((⟨[.h, .undef, .ref 0 0, .h, .slw 4 1, .ref 5 0, .slw 9 1, .ref 10 0, .h], [.cells [.slw 1 1, .slw 2 4, .slw 3 1] false, .arr [.i .i64] true, .arr [.i .i64, .i .i64, .i .i64, .i .i64] true, .arr [.i .i64] true, .arr [.sl [.i .i64]] true, .cells [.slw 6 1, .slw 7 4, .slw 8 1] false, .arr [.i .i64] false, .arr [.i .i64, .i .i64, .i .i64, .i .i64] false, .arr [.i .i64] false, .arr [.sl [.i .i64]] false, .cells [.slw 11 1, .slw 12 4, .slw 13 1] false, .arr [.i .i64] false, .arr [.i .i64, .i .i64, .i .i64, .i .i64] false, .arr [.i .i64] false], [.sl [.i .u8], .i .i64, .i .i64, .sl [.i .i64], .sl [.i .i64, .i .i64, .i .i64, .i .i64], .sl [.i .i64], .sl [.sl [.i .i64]], .sl [.i .i64], .sl [.i .i64, .i .i64, .i .i64, .i .i64], .sl [.i .i64], .sl [.sl [.i .i64]], .sl [.i .i64], .sl [.i .i64, .i .i64, .i .i64, .i .i64], .sl [.i .i64]]⟩ : Shp).enc y).2).to (stepH H_wFnRiverDays_l14 X_wFnRiverDays_l14) = wFnRiverDays_l14_t1 y.1 y.2.1 y.2.2.1 y.2.2.2.1 y.2.2.2.2.1 y.2.2.2.2.2.1 y.2.2.2.2.2.2.1 y.2.2.2.2.2.2.2.1 y.2.2.2.2.2.2.2.2.1 y.2.2.2.2.2.2.2.2.2.1 y.2.2.2.2.2.2.2.2.2.2.1 y.2.2.2.2.2.2.2.2.2.2.2.1 y.2.2.2.2.2.2.2.2.2.2.2.2.1 y.2.2.2.2.2.2.2.2.2.2.2.2.2 := by kernel_rfl

theorem wFnRiverDays_l14_o : ∀ x : (List Int × Int × Int × List Int × (List (Int × Int × Int × Int)) × List Int × List (List Int) × List Int × (List (Int × Int × Int × Int)) × List Int × List (List Int)) ⊕ (List Int × Int × Int × List Int × (List (Int × Int × Int × Int)) × List Int × List (List Int) × List Int × (List (Int × Int × Int × Int)) × List Int × List (List Int) × List Int × (List (Int × Int × Int × Int)) × List Int), meanH (envT Try.prog C35 M5) L_wFnRiverDays_l14 14 (loopC (bodyOf Try.f7) 14) H_wFnRiverDays_l14 X_wFnRiverDays_l14 x = wFnRiverDays_l14_s x
  | (.inl y) => meanH_of (wFnRiverDays_l14_e0 y)
  | (.inr y) => meanH_of (wFnRiverDays_l14_e1 y)

theorem wFnRiverDays_l14_r (x : SumD (H_wFnRiverDays_l14.map (fun p : XShp => p.2))) : (show Option (SumD (X_wFnRiverDays_l14.map (fun p : XShp => p.2))) from wFnRiverDays_l14 x) = runL (meanH (envT Try.prog C35 M5) L_wFnRiverDays_l14 14 (loopC (bodyOf Try.f7) 14) H_wFnRiverDays_l14 X_wFnRiverDays_l14) x := runH_of (H := H_wFnRiverDays_l14) (X := X_wFnRiverDays_l14) (g := wFnRiverDays_l14_s) wFnRiverDays_l14_o x

theorem wFnRiverDays_l14_k (L : Loops) (hn : L_wFnRiverDays_l14.n = L.n) (hlv : L_wFnRiverDays_l14.lv 14 = L.lv 14) (hL : ∀ vs bs, L.loop 14 vs bs = toldH H_wFnRiverDays_l14 X_wFnRiverDays_l14 (fun x => wFnRiverDays_l14 x) vs bs) : LOk Try.prog (envT Try.prog C35 M5) L 14 (loopC (bodyOf Try.f7) 14) := toldH_ok (L1 := L_wFnRiverDays_l14) (envT_ok (C35_ok) (M5_ok)) mixedO hn hlv (loopsL (l := [(20, loopC (loopC (bodyOf Try.f7) 14) 20)]) (by kernel_rfl) (lk_cons (wFnRiverDays_l20_k _ rfl rfl (fun _ _ => rfl)) lk_nil)) wFnRiverDays_l14_r hL

def S_wFnRiverDays_l35 : Shp := ⟨[.undef, .h, .slw 0 1, .slw 1 1, .slw 2 1, .h], [.arr [.sl [.i .i64]] true, .arr [.i .i64] false, .arr [.i .i64] false], [.i .i64, .i .i64, .sl [.sl [.i .i64]], .sl [.i .i64], .sl [.i .i64]]⟩
def X_wFnRiverDays_l35 : List XShp := [(.ret, ⟨[.lb false, .undef, .undef, .undef, .undef, .undef], [], []⟩), (.exit 4, ⟨[.undef, .undef, .undef, .undef, .undef, .undef], [], []⟩)]

noncomputable def L_wFnRiverDays_l35 : Loops := (⟨331, lvT [(35, [4, 6, 7, 30, 34, 38]), (20, [1, 4, 5, 6, 7, 8, 9, 21, 22, 23, 24, 25, 27]), (14, [1, 4, 5, 6, 7, 8, 9, 21, 22])], mdT [(35, .normal, [], [4]), (35, .exit 4, [], [4, 6, 7, 30, 34, 38]), (35, .ret, [], [6, 7, 30, 34, 38]), (20, .normal, [], [4]), (20, .exit 2, [], [4, 24, 25, 27]), (20, .ret, [], [1, 5, 6, 7, 8, 9, 21, 22, 23, 24, 25, 27]), (14, .normal, [], [4]), (14, .exit 0, [], [4, 9, 22]), (14, .ret, [], [1, 5, 6, 7, 8, 9, 21, 22])], fun k vs bs => .bad⟩ : Loops)

theorem wFnRiverDays_l35_e (y0 : Int) (y2 : List (List Int)) (y3 : List Int) (y4 : List Int) (s : Int) : (loopStep (envT Try.prog C35 M5) L_wFnRiverDays_l35 35 (loopC (bodyOf Try.f7) 35) (S_wFnRiverDays_l35.enc (y0, s, y2, y3, y4)).1 (S_wFnRiverDays_l35.enc (y0, s, y2, y3, y4)).2).to (stepD S_wFnRiverDays_l35 X_wFnRiverDays_l35) = (wFnRiverDays_l35_t y0 y2 y3 y4 s).map (Sum.map (fun s : Int => (show DR S_wFnRiverDays_l35.hs from (y0, s, y2, y3, y4))) id) := by kernel_rfl

theorem wFnRiverDays_l35_r (x : DR S_wFnRiverDays_l35.hs) : (wFnRiverDays_l35 x.1 x.2.1 x.2.2.1 x.2.2.2.1 x.2.2.2.2 : Option (SumD (X_wFnRiverDays_l35.map (·.2)))) = runL (meanS (envT Try.prog C35 M5) L_wFnRiverDays_l35 35 (loopC (bodyOf Try.f7) 35) S_wFnRiverDays_l35 X_wFnRiverDays_l35) x := run_of (fun s : Int => (show DR S_wFnRiverDays_l35.hs from (x.1, s, x.2.2.1, x.2.2.2.1, x.2.2.2.2))) (wFnRiverDays_l35_e (x.1) (x.2.2.1) (x.2.2.2.1) (x.2.2.2.2)) x.2.1

theorem wFnRiverDays_l35_k (L : Loops) (hn : L_wFnRiverDays_l35.n = L.n) (hlv : L_wFnRiverDays_l35.lv 35 = L.lv 35) (hL : ∀ vs bs, L.loop 35 vs bs = toldL S_wFnRiverDays_l35 X_wFnRiverDays_l35 (fun x => wFnRiverDays_l35 x.1 x.2.1 x.2.2.1 x.2.2.2.1 x.2.2.2.2) vs bs) : LOk Try.prog (envT Try.prog C35 M5) L 35 (loopC (bodyOf Try.f7) 35) := toldL_ok (L1 := L_wFnRiverDays_l35) (envT_ok (C35_ok) (M5_ok)) mixedO hn hlv (loopFree_ok (by kernel_rfl)) wFnRiverDays_l35_r hL

def A_wFnRiverDays : Shp := ⟨[.h, .h], [], [.sl [.i .u8], .sl [.i .u8]]⟩
def R_wFnRiverDays : List XShp := [(.ret, ⟨[.h], [], [.b]⟩)]

noncomputable def L_wFnRiverDays : Loops := (⟨331, lvT [(35, [4, 6, 7, 30, 34, 38]), (20, [1, 4, 5, 6, 7, 8, 9, 21, 22, 23, 24, 25, 27]), (14, [1, 4, 5, 6, 7, 8, 9, 21, 22])], mdT [(35, .normal, [], [4]), (35, .exit 4, [], [4, 6, 7, 30, 34, 38]), (35, .ret, [], [6, 7, 30, 34, 38]), (20, .normal, [], [4]), (20, .exit 2, [], [4, 24, 25, 27]), (20, .ret, [], [1, 5, 6, 7, 8, 9, 21, 22, 23, 24, 25, 27]), (14, .normal, [], [4]), (14, .exit 0, [], [4, 9, 22]), (14, .ret, [], [1, 5, 6, 7, 8, 9, 21, 22])], fun k vs bs => bif Nat.beq k 35 then toldL S_wFnRiverDays_l35 X_wFnRiverDays_l35 (fun x => wFnRiverDays_l35 x.1 x.2.1 x.2.2.1 x.2.2.2.1 x.2.2.2.2) vs bs else bif Nat.beq k 14 then toldH H_wFnRiverDays_l14 X_wFnRiverDays_l14 (fun x => wFnRiverDays_l14 x) vs bs else .bad⟩ : Loops)

theorem wFnRiverDays_e (x : DR A_wFnRiverDays.hs) : (evFn (envT Try.prog C35 M5) L_wFnRiverDays Try.f7 (A_wFnRiverDays.enc x).1).to (fun q => decX R_wFnRiverDays .ret [q.1] q.2) = wFnRiverDays_t x.1 x.2 := by kernel_rfl

theorem wFnRiverDays_m (x : DR A_wFnRiverDays.hs) : meanF (envT Try.prog C35 M5) L_wFnRiverDays Try.f7 A_wFnRiverDays R_wFnRiverDays x = (show Option (SumD (R_wFnRiverDays.map (·.2))) from wFnRiverDays x.1 x.2) := meanF_of (wFnRiverDays_e x)

theorem wFnRiverDays_ok : SpecOk Try.prog 7 (evFn (envT Try.prog C35 M5) L_wFnRiverDays Try.f7) := fnL_ok (envT_ok (C35_ok) (M5_ok)) mixedO Try.func7 (by kernel_rfl) (c := bodyOf Try.f7) (by kernel_rfl) (loopsL (l := [(14, loopC (bodyOf Try.f7) 14), (35, loopC (bodyOf Try.f7) 35)]) (by kernel_rfl) (lk_cons (wFnRiverDays_l14_k _ rfl rfl (fun _ _ => rfl)) (lk_cons (wFnRiverDays_l35_k _ rfl rfl (fun _ _ => rfl)) lk_nil)))

theorem wFnRiverDays_told : SpecOk Try.prog 7 (toldO A_wFnRiverDays R_wFnRiverDays (fun x => wFnRiverDays x.1 x.2) (C35 7)) := toldO_ok (by kernel_rfl) wFnRiverDays_ok (rest_ok (C35_ok) _) wFnRiverDays_m

noncomputable def C36 : Tab := tab 7 (toldO A_wFnRiverDays R_wFnRiverDays (fun x => wFnRiverDays x.1 x.2) (C35 7)) C35
theorem C36_ok : TabOk Try.prog C36 := tab_ok (wFnRiverDays_told) (C35_ok)

theorem lawFnRiverDays_ok : SpecOk Try.prog 7 (evFn (envT Try.prog C35 M5) L_wFnRiverDays Try.f7) := wFnRiverDays_ok
theorem lawFnRiverDays_says (x : DR A_wFnRiverDays.hs) (h : (show Option (SumD (R_wFnRiverDays.map (·.2))) from wFnRiverDays x.1 x.2) = some true) : saysTrue (evFn (envT Try.prog C35 M5) L_wFnRiverDays Try.f7 (A_wFnRiverDays.enc x).1) = true := law_says (x := x) ((wFnRiverDays_m x).trans h)

theorem lawFnRiverDays_true (x0 : List Int) (x1 : List Int) (h : wFnRiverDays x0 x1 = some true) : saysTrue (evFn (envT Try.prog C35 M5) L_wFnRiverDays Try.f7 [.ds [.i .u8] x0, .ds [.i .u8] x1]) = true := (congrArg (fun l => saysTrue (evFn (envT Try.prog C35 M5) L_wFnRiverDays Try.f7 l)) (by kernel_rfl : ([.ds [.i .u8] x0, .ds [.i .u8] x1] : List V) = (A_wFnRiverDays.enc (x0, x1)).1)).trans (lawFnRiverDays_says (x0, x1) h)
end Go.Proofs.Ytcjekndobhkmbaa
