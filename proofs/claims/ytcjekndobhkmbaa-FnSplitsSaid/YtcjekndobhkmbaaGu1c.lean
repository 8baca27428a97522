/- Functions, as plain functions. What the program comes to. -/
import Derived.Test.YtcjekndobhkmbaaGu1d
import Derived.Test.YtcjekndobhkmbaaDc
import Derived.Test.YtcjekndobhkmbaaNv
import Derived.KernelRfl
set_option linter.unusedVariables false
set_option linter.unusedSimpArgs false
set_option linter.constructorNameAsVariable false
namespace Go.Proofs.Ytcjekndobhkmbaa
open Go.RowKit
set_option maxRecDepth 100000
theorem mixedO : (Try.prog).follows .mixedOrders = true := by kernel_rfl
def A_wr8Long : Shp := ⟨[.h, .h], [], [.sl [.i .u8], .sl [.i .u8]]⟩
def R_wr8Long : List XShp := [(.ret, ⟨[.h], [], [.b]⟩)]

theorem wr8Long_e (x : DR A_wr8Long.hs) : (evFn (envT Try.prog tab0 mtab0) noLoops Try.f20 (A_wr8Long.enc x).1).to (fun q => decX R_wr8Long .ret [q.1] q.2) = wr8Long_t x.1 x.2 := by kernel_rfl

theorem wr8Long_m (x : DR A_wr8Long.hs) : meanF (envT Try.prog tab0 mtab0) noLoops Try.f20 A_wr8Long R_wr8Long x = some (show SumD (R_wr8Long.map (·.2)) from wr8Long x.1 x.2) := @meanF_tot _ _ _ _ _ _ _ (wr8Long_e x) (show Inhabited (Bool) from inferInstance) (by kernel_rfl)

theorem wr8Long_ok : SpecOk Try.prog 20 (evFn (envT Try.prog tab0 mtab0) noLoops Try.f20) := fnL_ok (envT_ok (tab0_ok _) (mtab0_ok _)) mixedO Try.func20 (by kernel_rfl) (c := bodyOf Try.f20) (by kernel_rfl) (loopFree_ok (by kernel_rfl))

theorem wr8Long_told : SpecOk Try.prog 20 (toldT A_wr8Long R_wr8Long (fun x => wr8Long x.1 x.2) (tab0 20)) := toldT_ok (by kernel_rfl) wr8Long_ok (rest_ok (tab0_ok _) _) wr8Long_m

noncomputable def C0 : Tab := tab 20 (toldT A_wr8Long R_wr8Long (fun x => wr8Long x.1 x.2) (tab0 20)) tab0
theorem C0_ok : TabOk Try.prog C0 := tab_ok (wr8Long_told) (tab0_ok _)

def A_sl00From : Shp := ⟨[.h], [], [.sl [.i .u8]]⟩
def R_sl00From : List XShp := [(.ret, ⟨[.ref 0 0], [.cells [.h, .h, .h] false], [.sl [.i .u8], .i .i64, .i .u64]⟩)]

theorem sl00From_e (x : DR A_sl00From.hs) : (evFn (envT Try.prog C0 mtab0) noLoops Try.f55 (A_sl00From.enc x).1).to (fun q => decX R_sl00From .ret [q.1] q.2) = sl00From_t x := by kernel_rfl

theorem sl00From_m (x : DR A_sl00From.hs) : meanF (envT Try.prog C0 mtab0) noLoops Try.f55 A_sl00From R_sl00From x = some (show SumD (R_sl00From.map (·.2)) from sl00From x) := @meanF_tot _ _ _ _ _ _ _ (sl00From_e x) (show Inhabited (List Int × Int × Int) from inferInstance) (by kernel_rfl)

theorem sl00From_ok : SpecOk Try.prog 55 (evFn (envT Try.prog C0 mtab0) noLoops Try.f55) := fnL_ok (envT_ok (C0_ok) (mtab0_ok _)) mixedO Try.func55 (by kernel_rfl) (c := bodyOf Try.f55) (by kernel_rfl) (loopFree_ok (by kernel_rfl))

theorem sl00From_told : SpecOk Try.prog 55 (toldT A_sl00From R_sl00From (fun x => sl00From x) (C0 55)) := toldT_ok (by kernel_rfl) sl00From_ok (rest_ok (C0_ok) _) sl00From_m

noncomputable def C1 : Tab := tab 55 (toldT A_sl00From R_sl00From (fun x => sl00From x) (C0 55)) C0
theorem C1_ok : TabOk Try.prog C1 := tab_ok (sl00From_told) (C0_ok)

def A_sl00Src_next : Shp := ⟨[.ref 0 0], [.cells [.h, .h, .h] false], [.sl [.i .u8], .i .i64, .i .u64]⟩
def R_sl00Src_next : List XShp := [(.ret, ⟨[.h], [.cells [.h, .h, .h] false], [.i .i64, .sl [.i .u8], .i .i64, .i .u64]⟩)]

theorem sl00Src_next_e (x : DR A_sl00Src_next.hs) : (evFnM (envW Try.prog C1 mtab0 1) noLoops Try.f73 (A_sl00Src_next.enc x).1 ((A_sl00Src_next.enc x).2.map (·.blk))).to (decM R_sl00Src_next) = sl00Src_next_t x.1 x.2.1 x.2.2 := by kernel_rfl

theorem sl00Src_next_m (x : DR A_sl00Src_next.hs) : meanM (envW Try.prog C1 mtab0 1) noLoops Try.f73 A_sl00Src_next R_sl00Src_next x = (show Option (SumD (R_sl00Src_next.map (·.2))) from sl00Src_next x.1 x.2.1 x.2.2) := meanM_of (sl00Src_next_e x)

theorem sl00Src_next_ok : MSpecOk Try.prog 73 (evFnM (envW Try.prog C1 mtab0 1) noLoops Try.f73) := fnM_ok (envW_ok (C1_ok) (mtab0_ok _)) rfl mixedO Try.func73 (by kernel_rfl) (c := bodyOf Try.f73) (by kernel_rfl) (loopFree_ok (by kernel_rfl))

theorem sl00Src_next_told : MSpecOk Try.prog 73 (toldMO A_sl00Src_next R_sl00Src_next (fun x => sl00Src_next x.1 x.2.1 x.2.2) (mrest mtab0 73)) := toldMO_ok (by kernel_rfl) sl00Src_next_ok (mrest_ok (mtab0_ok _) _) sl00Src_next_m

noncomputable def M2 : MTab := mtab 73 (toldMO A_sl00Src_next R_sl00Src_next (fun x => sl00Src_next x.1 x.2.1 x.2.2) (mrest mtab0 73)) mtab0
theorem M2_ok : MTabOk Try.prog M2 := mtab_ok (sl00Src_next_told) (mtab0_ok _)

def A_sl00Src_pick : Shp := ⟨[.ref 0 0, .h], [.cells [.h, .h, .h] false], [.i .i64, .sl [.i .u8], .i .i64, .i .u64]⟩
def R_sl00Src_pick : List XShp := [(.ret, ⟨[.h], [.cells [.h, .h, .h] false], [.i .i64, .sl [.i .u8], .i .i64, .i .u64]⟩)]

theorem sl00Src_pick_e (x : DR A_sl00Src_pick.hs) : (evFnM (envW Try.prog C1 M2 1) noLoops Try.f56 (A_sl00Src_pick.enc x).1 ((A_sl00Src_pick.enc x).2.map (·.blk))).to (decM R_sl00Src_pick) = sl00Src_pick_t x.1 x.2.1 x.2.2.1 x.2.2.2 := by kernel_rfl

theorem sl00Src_pick_m (x : DR A_sl00Src_pick.hs) : meanM (envW Try.prog C1 M2 1) noLoops Try.f56 A_sl00Src_pick R_sl00Src_pick x = (show Option (SumD (R_sl00Src_pick.map (·.2))) from sl00Src_pick x.1 x.2.1 x.2.2.1 x.2.2.2) := meanM_of (sl00Src_pick_e x)

theorem sl00Src_pick_ok : MSpecOk Try.prog 56 (evFnM (envW Try.prog C1 M2 1) noLoops Try.f56) := fnM_ok (envW_ok (C1_ok) (M2_ok)) rfl mixedO Try.func56 (by kernel_rfl) (c := bodyOf Try.f56) (by kernel_rfl) (loopFree_ok (by kernel_rfl))

theorem sl00Src_pick_told : MSpecOk Try.prog 56 (toldMO A_sl00Src_pick R_sl00Src_pick (fun x => sl00Src_pick x.1 x.2.1 x.2.2.1 x.2.2.2) (mrest M2 56)) := toldMO_ok (by kernel_rfl) sl00Src_pick_ok (mrest_ok (M2_ok) _) sl00Src_pick_m

noncomputable def M3 : MTab := mtab 56 (toldMO A_sl00Src_pick R_sl00Src_pick (fun x => sl00Src_pick x.1 x.2.1 x.2.2.1 x.2.2.2) (mrest M2 56)) M2
theorem M3_ok : MTabOk Try.prog M3 := mtab_ok (sl00Src_pick_told) (M2_ok)

def S_sR8Units_l4 : Shp := ⟨[.ref 0 0, .slw 1 1, .h], [.cells [.h, .h, .h] false, .arr [.i .i64] false], [.i .i64, .sl [.i .u8], .i .i64, .i .u64, .sl [.i .i64]]⟩
def X_sR8Units_l4 : List XShp := [(.exit 0, ⟨[.undef, .slw 0 1, .undef], [.arr [.i .i64] false], [.sl [.i .i64]]⟩)]

noncomputable def L_sR8Units_l4 : Loops := (⟨24, lvT [(4, [3, 4, 5])], mdT [(4, .exit 0, [], [3, 5])], fun k vs bs => .bad⟩ : Loops)

theorem sR8Units_l4_e (s : Int × List Int × Int × Int × List Int) : (loopStep (envT Try.prog C1 M3) L_sR8Units_l4 4 (loopC (bodyOf Try.f21) 4) (S_sR8Units_l4.enc (s.1, s.2.1, s.2.2.1, s.2.2.2.1, s.2.2.2.2)).1 (S_sR8Units_l4.enc (s.1, s.2.1, s.2.2.1, s.2.2.2.1, s.2.2.2.2)).2).to (stepD S_sR8Units_l4 X_sR8Units_l4) = (sR8Units_l4_t  s.1 s.2.1 s.2.2.1 s.2.2.2.1 s.2.2.2.2).map (Sum.map (fun s : Int × List Int × Int × Int × List Int => (show DR S_sR8Units_l4.hs from (s.1, s.2.1, s.2.2.1, s.2.2.2.1, s.2.2.2.2))) id) := by kernel_rfl

theorem sR8Units_l4_r (x : DR S_sR8Units_l4.hs) : (sR8Units_l4 x.1 x.2.1 x.2.2.1 x.2.2.2.1 x.2.2.2.2 : Option (SumD (X_sR8Units_l4.map (·.2)))) = runL (meanS (envT Try.prog C1 M3) L_sR8Units_l4 4 (loopC (bodyOf Try.f21) 4) S_sR8Units_l4 X_sR8Units_l4) x := run_of (fun s : Int × List Int × Int × Int × List Int => (show DR S_sR8Units_l4.hs from (s.1, s.2.1, s.2.2.1, s.2.2.2.1, s.2.2.2.2))) (sR8Units_l4_e ) (x.1, x.2.1, x.2.2.1, x.2.2.2.1, x.2.2.2.2)

theorem sR8Units_l4_k (L : Loops) (hn : L_sR8Units_l4.n = L.n) (hlv : L_sR8Units_l4.lv 4 = L.lv 4) (hL : ∀ vs bs, L.loop 4 vs bs = toldL S_sR8Units_l4 X_sR8Units_l4 (fun x => sR8Units_l4 x.1 x.2.1 x.2.2.1 x.2.2.2.1 x.2.2.2.2) vs bs) : LOk Try.prog (envT Try.prog C1 M3) L 4 (loopC (bodyOf Try.f21) 4) := toldL_ok (L1 := L_sR8Units_l4) (envT_ok (C1_ok) (M3_ok)) mixedO hn hlv (loopFree_ok (by kernel_rfl)) sR8Units_l4_r hL

def A_sR8Units : Shp := ⟨[.h], [], [.sl [.i .u8]]⟩
def R_sR8Units : List XShp := [(.ret, ⟨[.slw 0 1], [.arr [.i .i64] false], [.sl [.i .i64]]⟩)]

noncomputable def L_sR8Units : Loops := (⟨24, lvT [(4, [3, 4, 5])], mdT [(4, .exit 0, [], [3, 5])], fun k vs bs => bif Nat.beq k 4 then toldL S_sR8Units_l4 X_sR8Units_l4 (fun x => sR8Units_l4 x.1 x.2.1 x.2.2.1 x.2.2.2.1 x.2.2.2.2) vs bs else .bad⟩ : Loops)

theorem sR8Units_e (x : DR A_sR8Units.hs) : (evFn (envT Try.prog C1 M3) L_sR8Units Try.f21 (A_sR8Units.enc x).1).to (fun q => decX R_sR8Units .ret [q.1] q.2) = sR8Units_t x := by kernel_rfl

theorem sR8Units_m (x : DR A_sR8Units.hs) : meanF (envT Try.prog C1 M3) L_sR8Units Try.f21 A_sR8Units R_sR8Units x = (show Option (SumD (R_sR8Units.map (·.2))) from sR8Units x) := meanF_of (sR8Units_e x)

theorem sR8Units_ok : SpecOk Try.prog 21 (evFn (envT Try.prog C1 M3) L_sR8Units Try.f21) := fnL_ok (envT_ok (C1_ok) (M3_ok)) mixedO Try.func21 (by kernel_rfl) (c := bodyOf Try.f21) (by kernel_rfl) (loopsL (l := [(4, loopC (bodyOf Try.f21) 4)]) (by kernel_rfl) (lk_cons (sR8Units_l4_k _ rfl rfl (fun _ _ => rfl)) lk_nil))

theorem sR8Units_told : SpecOk Try.prog 21 (toldO A_sR8Units R_sR8Units (fun x => sR8Units x) (C1 21)) := toldO_ok (by kernel_rfl) sR8Units_ok (rest_ok (C1_ok) _) sR8Units_m

noncomputable def C4 : Tab := tab 21 (toldO A_sR8Units R_sR8Units (fun x => sR8Units x) (C1 21)) C1
theorem C4_ok : TabOk Try.prog C4 := tab_ok (sR8Units_told) (C1_ok)

def A_wr8At : Shp := ⟨[.h, .h, .h], [], [.sl [.i .u8], .i .i64, .i .i64]⟩
def R_wr8At : List XShp := [(.ret, ⟨[.h], [], [.i .i64]⟩)]

theorem wr8At_e (x : DR A_wr8At.hs) : (evFn (envT Try.prog C4 M3) noLoops Try.f22 (A_wr8At.enc x).1).to (fun q => decX R_wr8At .ret [q.1] q.2) = wr8At_t x.1 x.2.1 x.2.2 := by kernel_rfl

theorem wr8At_m (x : DR A_wr8At.hs) : meanF (envT Try.prog C4 M3) noLoops Try.f22 A_wr8At R_wr8At x = (show Option (SumD (R_wr8At.map (·.2))) from wr8At x.1 x.2.1 x.2.2) := meanF_of (wr8At_e x)

theorem wr8At_ok : SpecOk Try.prog 22 (evFn (envT Try.prog C4 M3) noLoops Try.f22) := fnL_ok (envT_ok (C4_ok) (M3_ok)) mixedO Try.func22 (by kernel_rfl) (c := bodyOf Try.f22) (by kernel_rfl) (loopFree_ok (by kernel_rfl))

theorem wr8At_told : SpecOk Try.prog 22 (toldO A_wr8At R_wr8At (fun x => wr8At x.1 x.2.1 x.2.2) (C4 22)) := toldO_ok (by kernel_rfl) wr8At_ok (rest_ok (C4_ok) _) wr8At_m

noncomputable def C5 : Tab := tab 22 (toldO A_wr8At R_wr8At (fun x => wr8At x.1 x.2.1 x.2.2) (C4 22)) C4
theorem C5_ok : TabOk Try.prog C5 := tab_ok (wr8At_told) (C4_ok)

def A_iwithin : Shp := ⟨[.h, .h, .h], [], [.i .i64, .i .i64, .i .i64]⟩
def R_iwithin : List XShp := [(.ret, ⟨[.h], [], [.b]⟩)]

theorem iwithin_e (x : DR A_iwithin.hs) : (evFn (envT Try.prog C5 M3) noLoops Try.f43 (A_iwithin.enc x).1).to (fun q => decX R_iwithin .ret [q.1] q.2) = iwithin_t x.1 x.2.1 x.2.2 := by kernel_rfl

theorem iwithin_m (x : DR A_iwithin.hs) : meanF (envT Try.prog C5 M3) noLoops Try.f43 A_iwithin R_iwithin x = some (show SumD (R_iwithin.map (·.2)) from iwithin x.1 x.2.1 x.2.2) := @meanF_tot _ _ _ _ _ _ _ (iwithin_e x) (show Inhabited (Bool) from inferInstance) (by kernel_rfl)

theorem iwithin_ok : SpecOk Try.prog 43 (evFn (envT Try.prog C5 M3) noLoops Try.f43) := fnL_ok (envT_ok (C5_ok) (M3_ok)) mixedO Try.func43 (by kernel_rfl) (c := bodyOf Try.f43) (by kernel_rfl) (loopFree_ok (by kernel_rfl))

theorem iwithin_told : SpecOk Try.prog 43 (toldT A_iwithin R_iwithin (fun x => iwithin x.1 x.2.1 x.2.2) (C5 43)) := toldT_ok (by kernel_rfl) iwithin_ok (rest_ok (C5_ok) _) iwithin_m

noncomputable def C6 : Tab := tab 43 (toldT A_iwithin R_iwithin (fun x => iwithin x.1 x.2.1 x.2.2) (C5 43)) C5
theorem C6_ok : TabOk Try.prog C6 := tab_ok (iwithin_told) (C5_ok)

def A_iareWithin_1 : Shp := ⟨[.h, .dpt [.h] 0, .dpt [.h] 0], [], [.i .i64, .i .i64, .i .i64]⟩
def R_iareWithin_1 : List XShp := [(.ret, ⟨[.h], [], [.b]⟩)]

theorem iareWithin_1_e (x : DR A_iareWithin_1.hs) : (evFn (envT Try.prog C6 M3) noLoops Try.f75 (A_iareWithin_1.enc x).1).to (fun q => decX R_iareWithin_1 .ret [q.1] q.2) = iareWithin_1_t x.1 x.2.1 x.2.2 := by kernel_rfl

theorem iareWithin_1_m (x : DR A_iareWithin_1.hs) : meanF (envT Try.prog C6 M3) noLoops Try.f75 A_iareWithin_1 R_iareWithin_1 x = some (show SumD (R_iareWithin_1.map (·.2)) from iareWithin_1 x.1 x.2.1 x.2.2) := @meanF_tot _ _ _ _ _ _ _ (iareWithin_1_e x) (show Inhabited (Bool) from inferInstance) (by kernel_rfl)

theorem iareWithin_1_ok : SpecOk Try.prog 75 (evFn (envT Try.prog C6 M3) noLoops Try.f75) := fnL_ok (envT_ok (C6_ok) (M3_ok)) mixedO Try.func75 (by kernel_rfl) (c := bodyOf Try.f75) (by kernel_rfl) (loopFree_ok (by kernel_rfl))

theorem iareWithin_1_told : SpecOk Try.prog 75 (toldT A_iareWithin_1 R_iareWithin_1 (fun x => iareWithin_1 x.1 x.2.1 x.2.2) (C6 75)) := toldT_ok (by kernel_rfl) iareWithin_1_ok (rest_ok (C6_ok) _) iareWithin_1_m

noncomputable def C7 : Tab := tab 75 (toldT A_iareWithin_1 R_iareWithin_1 (fun x => iareWithin_1 x.1 x.2.1 x.2.2) (C6 75)) C6
theorem C7_ok : TabOk Try.prog C7 := tab_ok (iareWithin_1_told) (C6_ok)

def S_lIndexFunc_iareWithin_1_l2 : Shp := ⟨[.h, .fn 75 [.dpt [.h] 0, .dpt [.h] 0], .undef, .h, .h], [], [.sl [.i .i64], .i .i64, .i .i64, .i .i64, .i .i64]⟩
def X_lIndexFunc_iareWithin_1_l2 : List XShp := [(.ret, ⟨[.undef, .undef, .h, .undef, .undef], [], [.i .i64]⟩), (.exit 0, ⟨[.undef, .undef, .undef, .undef, .undef], [], []⟩)]

noncomputable def L_lIndexFunc_iareWithin_1_l2 : Loops := (⟨19, lvT [(2, [0, 1, 4, 7, 8])], mdT [(2, .normal, [], [4]), (2, .exit 0, [], [0, 1, 4, 7, 8]), (2, .ret, [], [0, 1, 7, 8])], fun k vs bs => .bad⟩ : Loops)

theorem lIndexFunc_iareWithin_1_l2_e (y0 : List Int) (y1 : Int) (y2 : Int) (y3 : Int) (s : Int) : (loopStep (envT Try.prog C7 M3) L_lIndexFunc_iareWithin_1_l2 2 (loopC (bodyOf Try.f79) 2) (S_lIndexFunc_iareWithin_1_l2.enc (y0, y1, y2, y3, s)).1 (S_lIndexFunc_iareWithin_1_l2.enc (y0, y1, y2, y3, s)).2).to (stepD S_lIndexFunc_iareWithin_1_l2 X_lIndexFunc_iareWithin_1_l2) = (lIndexFunc_iareWithin_1_l2_t y0 y1 y2 y3 s).map (Sum.map (fun s : Int => (show DR S_lIndexFunc_iareWithin_1_l2.hs from (y0, y1, y2, y3, s))) id) := by kernel_rfl

theorem lIndexFunc_iareWithin_1_l2_r (x : DR S_lIndexFunc_iareWithin_1_l2.hs) : (lIndexFunc_iareWithin_1_l2 x.1 x.2.1 x.2.2.1 x.2.2.2.1 x.2.2.2.2 : Option (SumD (X_lIndexFunc_iareWithin_1_l2.map (·.2)))) = runL (meanS (envT Try.prog C7 M3) L_lIndexFunc_iareWithin_1_l2 2 (loopC (bodyOf Try.f79) 2) S_lIndexFunc_iareWithin_1_l2 X_lIndexFunc_iareWithin_1_l2) x := run_of (fun s : Int => (show DR S_lIndexFunc_iareWithin_1_l2.hs from (x.1, x.2.1, x.2.2.1, x.2.2.2.1, s))) (lIndexFunc_iareWithin_1_l2_e (x.1) (x.2.1) (x.2.2.1) (x.2.2.2.1)) x.2.2.2.2

theorem lIndexFunc_iareWithin_1_l2_k (L : Loops) (hn : L_lIndexFunc_iareWithin_1_l2.n = L.n) (hlv : L_lIndexFunc_iareWithin_1_l2.lv 2 = L.lv 2) (hL : ∀ vs bs, L.loop 2 vs bs = toldL S_lIndexFunc_iareWithin_1_l2 X_lIndexFunc_iareWithin_1_l2 (fun x => lIndexFunc_iareWithin_1_l2 x.1 x.2.1 x.2.2.1 x.2.2.2.1 x.2.2.2.2) vs bs) : LOk Try.prog (envT Try.prog C7 M3) L 2 (loopC (bodyOf Try.f79) 2) := toldL_ok (L1 := L_lIndexFunc_iareWithin_1_l2) (envT_ok (C7_ok) (M3_ok)) mixedO hn hlv (loopFree_ok (by kernel_rfl)) lIndexFunc_iareWithin_1_l2_r hL

def A_lIndexFunc_iareWithin_1 : Shp := ⟨[.h, .fn 75 [.dpt [.h] 0, .dpt [.h] 0]], [], [.sl [.i .i64], .i .i64, .i .i64]⟩
def R_lIndexFunc_iareWithin_1 : List XShp := [(.ret, ⟨[.h], [], [.i .i64]⟩)]

noncomputable def L_lIndexFunc_iareWithin_1 : Loops := (⟨19, lvT [(2, [0, 1, 4, 7, 8])], mdT [(2, .normal, [], [4]), (2, .exit 0, [], [0, 1, 4, 7, 8]), (2, .ret, [], [0, 1, 7, 8])], fun k vs bs => bif Nat.beq k 2 then toldL S_lIndexFunc_iareWithin_1_l2 X_lIndexFunc_iareWithin_1_l2 (fun x => lIndexFunc_iareWithin_1_l2 x.1 x.2.1 x.2.2.1 x.2.2.2.1 x.2.2.2.2) vs bs else .bad⟩ : Loops)

theorem lIndexFunc_iareWithin_1_e (x : DR A_lIndexFunc_iareWithin_1.hs) : (evFn (envT Try.prog C7 M3) L_lIndexFunc_iareWithin_1 Try.f79 (A_lIndexFunc_iareWithin_1.enc x).1).to (fun q => decX R_lIndexFunc_iareWithin_1 .ret [q.1] q.2) = lIndexFunc_iareWithin_1_t x.1 x.2.1 x.2.2 := by kernel_rfl

theorem lIndexFunc_iareWithin_1_m (x : DR A_lIndexFunc_iareWithin_1.hs) : meanF (envT Try.prog C7 M3) L_lIndexFunc_iareWithin_1 Try.f79 A_lIndexFunc_iareWithin_1 R_lIndexFunc_iareWithin_1 x = (show Option (SumD (R_lIndexFunc_iareWithin_1.map (·.2))) from lIndexFunc_iareWithin_1 x.1 x.2.1 x.2.2) := meanF_of (lIndexFunc_iareWithin_1_e x)

theorem lIndexFunc_iareWithin_1_ok : SpecOk Try.prog 79 (evFn (envT Try.prog C7 M3) L_lIndexFunc_iareWithin_1 Try.f79) := fnL_ok (envT_ok (C7_ok) (M3_ok)) mixedO Try.func79 (by kernel_rfl) (c := bodyOf Try.f79) (by kernel_rfl) (loopsL (l := [(2, loopC (bodyOf Try.f79) 2)]) (by kernel_rfl) (lk_cons (lIndexFunc_iareWithin_1_l2_k _ rfl rfl (fun _ _ => rfl)) lk_nil))

theorem lIndexFunc_iareWithin_1_told : SpecOk Try.prog 79 (toldO A_lIndexFunc_iareWithin_1 R_lIndexFunc_iareWithin_1 (fun x => lIndexFunc_iareWithin_1 x.1 x.2.1 x.2.2) (C7 79)) := toldO_ok (by kernel_rfl) lIndexFunc_iareWithin_1_ok (rest_ok (C7_ok) _) lIndexFunc_iareWithin_1_m

noncomputable def C8 : Tab := tab 79 (toldO A_lIndexFunc_iareWithin_1 R_lIndexFunc_iareWithin_1 (fun x => lIndexFunc_iareWithin_1 x.1 x.2.1 x.2.2) (C7 79)) C7
theorem C8_ok : TabOk Try.prog C8 := tab_ok (lIndexFunc_iareWithin_1_told) (C7_ok)

def A_lContainsFunc_iareWithin_1 : Shp := ⟨[.h, .fn 75 [.dpt [.h] 0, .dpt [.h] 0]], [], [.sl [.i .i64], .i .i64, .i .i64]⟩
def R_lContainsFunc_iareWithin_1 : List XShp := [(.ret, ⟨[.h], [], [.b]⟩)]

theorem lContainsFunc_iareWithin_1_e (x : DR A_lContainsFunc_iareWithin_1.hs) : (evFn (envT Try.prog C8 M3) noLoops Try.f74 (A_lContainsFunc_iareWithin_1.enc x).1).to (fun q => decX R_lContainsFunc_iareWithin_1 .ret [q.1] q.2) = lContainsFunc_iareWithin_1_t x.1 x.2.1 x.2.2 := by kernel_rfl

theorem lContainsFunc_iareWithin_1_m (x : DR A_lContainsFunc_iareWithin_1.hs) : meanF (envT Try.prog C8 M3) noLoops Try.f74 A_lContainsFunc_iareWithin_1 R_lContainsFunc_iareWithin_1 x = (show Option (SumD (R_lContainsFunc_iareWithin_1.map (·.2))) from lContainsFunc_iareWithin_1 x.1 x.2.1 x.2.2) := meanF_of (lContainsFunc_iareWithin_1_e x)

theorem lContainsFunc_iareWithin_1_ok : SpecOk Try.prog 74 (evFn (envT Try.prog C8 M3) noLoops Try.f74) := fnL_ok (envT_ok (C8_ok) (M3_ok)) mixedO Try.func74 (by kernel_rfl) (c := bodyOf Try.f74) (by kernel_rfl) (loopFree_ok (by kernel_rfl))

theorem lContainsFunc_iareWithin_1_told : SpecOk Try.prog 74 (toldO A_lContainsFunc_iareWithin_1 R_lContainsFunc_iareWithin_1 (fun x => lContainsFunc_iareWithin_1 x.1 x.2.1 x.2.2) (C8 74)) := toldO_ok (by kernel_rfl) lContainsFunc_iareWithin_1_ok (rest_ok (C8_ok) _) lContainsFunc_iareWithin_1_m

noncomputable def C9 : Tab := tab 74 (toldO A_lContainsFunc_iareWithin_1 R_lContainsFunc_iareWithin_1 (fun x => lContainsFunc_iareWithin_1 x.1 x.2.1 x.2.2) (C8 74)) C8
theorem C9_ok : TabOk Try.prog C9 := tab_ok (lContainsFunc_iareWithin_1_told) (C8_ok)

def A_iareWithin : Shp := ⟨[.h, .h, .h], [], [.sl [.i .i64], .i .i64, .i .i64]⟩
def R_iareWithin : List XShp := [(.ret, ⟨[.h], [], [.b]⟩)]

theorem iareWithin_e (x : DR A_iareWithin.hs) : (evFn (envT Try.prog C9 M3) noLoops Try.f60 (A_iareWithin.enc x).1).to (fun q => decX R_iareWithin .ret [q.1] q.2) = iareWithin_t x.1 x.2.1 x.2.2 := by kernel_rfl

theorem iareWithin_m (x : DR A_iareWithin.hs) : meanF (envT Try.prog C9 M3) noLoops Try.f60 A_iareWithin R_iareWithin x = (show Option (SumD (R_iareWithin.map (·.2))) from iareWithin x.1 x.2.1 x.2.2) := meanF_of (iareWithin_e x)

theorem iareWithin_ok : SpecOk Try.prog 60 (evFn (envT Try.prog C9 M3) noLoops Try.f60) := fnL_ok (envT_ok (C9_ok) (M3_ok)) mixedO Try.func60 (by kernel_rfl) (c := bodyOf Try.f60) (by kernel_rfl) (loopFree_ok (by kernel_rfl))

theorem iareWithin_told : SpecOk Try.prog 60 (toldO A_iareWithin R_iareWithin (fun x => iareWithin x.1 x.2.1 x.2.2) (C9 60)) := toldO_ok (by kernel_rfl) iareWithin_ok (rest_ok (C9_ok) _) iareWithin_m

noncomputable def C10 : Tab := tab 60 (toldO A_iareWithin R_iareWithin (fun x => iareWithin x.1 x.2.1 x.2.2) (C9 60)) C9
theorem C10_ok : TabOk Try.prog C10 := tab_ok (iareWithin_told) (C9_ok)

def A_iareUnits : Shp := ⟨[.h, .h], [], [.i .i64, .sl [.i .i64]]⟩
def R_iareUnits : List XShp := [(.ret, ⟨[.h], [], [.b]⟩)]

theorem iareUnits_e (x : DR A_iareUnits.hs) : (evFn (envT Try.prog C10 M3) noLoops Try.f57 (A_iareUnits.enc x).1).to (fun q => decX R_iareUnits .ret [q.1] q.2) = iareUnits_t x.1 x.2 := by kernel_rfl

theorem iareUnits_m (x : DR A_iareUnits.hs) : meanF (envT Try.prog C10 M3) noLoops Try.f57 A_iareUnits R_iareUnits x = (show Option (SumD (R_iareUnits.map (·.2))) from iareUnits x.1 x.2) := meanF_of (iareUnits_e x)

theorem iareUnits_ok : SpecOk Try.prog 57 (evFn (envT Try.prog C10 M3) noLoops Try.f57) := fnL_ok (envT_ok (C10_ok) (M3_ok)) mixedO Try.func57 (by kernel_rfl) (c := bodyOf Try.f57) (by kernel_rfl) (loopFree_ok (by kernel_rfl))

theorem iareUnits_told : SpecOk Try.prog 57 (toldO A_iareUnits R_iareUnits (fun x => iareUnits x.1 x.2) (C10 57)) := toldO_ok (by kernel_rfl) iareUnits_ok (rest_ok (C10_ok) _) iareUnits_m

noncomputable def C11 : Tab := tab 57 (toldO A_iareUnits R_iareUnits (fun x => iareUnits x.1 x.2) (C10 57)) C10
theorem C11_ok : TabOk Try.prog C11 := tab_ok (iareUnits_told) (C10_ok)

def S_itotal_l6 : Shp := ⟨[.h, .h, .h, .h, .h, .h, .h], [], [.i .i64, .sl [.sl [.i .i64]], .i .i64, .i .i64, .sl [.i .i64], .i .i64, .i .i64]⟩
def X_itotal_l6 : List XShp := [(.exit 2, ⟨[.h, .h, .h, .h, .undef, .undef, .undef], [], [.i .i64, .sl [.sl [.i .i64]], .i .i64, .i .i64]⟩)]

noncomputable def L_itotal_l6 : Loops := (⟨26, lvT [(6, [3, 8, 9, 10, 14, 15, 16]), (3, [3, 8, 9, 10])], mdT [(6, .exit 2, [], [14, 15, 16]), (3, .exit 0, [], [8, 9, 10])], fun k vs bs => .bad⟩ : Loops)

theorem itotal_l6_e (y1 : List (List Int)) (y2 : Int) (y3 : Int) (y4 : List Int) (y5 : Int) (s : Int × Int) : (loopStep (envT Try.prog C11 M3) L_itotal_l6 6 (loopC (loopC (bodyOf Try.f58) 3) 6) (S_itotal_l6.enc (s.1, y1, y2, y3, y4, y5, s.2)).1 (S_itotal_l6.enc (s.1, y1, y2, y3, y4, y5, s.2)).2).to (stepD S_itotal_l6 X_itotal_l6) = (itotal_l6_t y1 y2 y3 y4 y5 s.1 s.2).map (Sum.map (fun s : Int × Int => (show DR S_itotal_l6.hs from (s.1, y1, y2, y3, y4, y5, s.2))) id) := by kernel_rfl

theorem itotal_l6_r (x : DR S_itotal_l6.hs) : (itotal_l6 x.1 x.2.1 x.2.2.1 x.2.2.2.1 x.2.2.2.2.1 x.2.2.2.2.2.1 x.2.2.2.2.2.2 : Option (SumD (X_itotal_l6.map (·.2)))) = runL (meanS (envT Try.prog C11 M3) L_itotal_l6 6 (loopC (loopC (bodyOf Try.f58) 3) 6) S_itotal_l6 X_itotal_l6) x := run_of (fun s : Int × Int => (show DR S_itotal_l6.hs from (s.1, x.2.1, x.2.2.1, x.2.2.2.1, x.2.2.2.2.1, x.2.2.2.2.2.1, s.2))) (itotal_l6_e (x.2.1) (x.2.2.1) (x.2.2.2.1) (x.2.2.2.2.1) (x.2.2.2.2.2.1)) (x.1, x.2.2.2.2.2.2)

theorem itotal_l6_k (L : Loops) (hn : L_itotal_l6.n = L.n) (hlv : L_itotal_l6.lv 6 = L.lv 6) (hL : ∀ vs bs, L.loop 6 vs bs = toldL S_itotal_l6 X_itotal_l6 (fun x => itotal_l6 x.1 x.2.1 x.2.2.1 x.2.2.2.1 x.2.2.2.2.1 x.2.2.2.2.2.1 x.2.2.2.2.2.2) vs bs) : LOk Try.prog (envT Try.prog C11 M3) L 6 (loopC (loopC (bodyOf Try.f58) 3) 6) := toldL_ok (L1 := L_itotal_l6) (envT_ok (C11_ok) (M3_ok)) mixedO hn hlv (loopFree_ok (by kernel_rfl)) itotal_l6_r hL

def S_itotal_l3 : Shp := ⟨[.h, .h, .h, .h], [], [.i .i64, .sl [.sl [.i .i64]], .i .i64, .i .i64]⟩
def X_itotal_l3 : List XShp := [(.exit 0, ⟨[.h, .undef, .undef, .undef], [], [.i .i64]⟩)]

noncomputable def L_itotal_l3 : Loops := (⟨26, lvT [(6, [3, 8, 9, 10, 14, 15, 16]), (3, [3, 8, 9, 10])], mdT [(6, .exit 2, [], [14, 15, 16]), (3, .exit 0, [], [8, 9, 10])], fun k vs bs => bif Nat.beq k 6 then toldL S_itotal_l6 X_itotal_l6 (fun x => itotal_l6 x.1 x.2.1 x.2.2.1 x.2.2.2.1 x.2.2.2.2.1 x.2.2.2.2.2.1 x.2.2.2.2.2.2) vs bs else .bad⟩ : Loops)

theorem itotal_l3_e (s : Int × List (List Int) × Int × Int) : (loopStep (envT Try.prog C11 M3) L_itotal_l3 3 (loopC (bodyOf Try.f58) 3) (S_itotal_l3.enc (s.1, s.2.1, s.2.2.1, s.2.2.2)).1 (S_itotal_l3.enc (s.1, s.2.1, s.2.2.1, s.2.2.2)).2).to (stepD S_itotal_l3 X_itotal_l3) = (itotal_l3_t  s.1 s.2.1 s.2.2.1 s.2.2.2).map (Sum.map (fun s : Int × List (List Int) × Int × Int => (show DR S_itotal_l3.hs from (s.1, s.2.1, s.2.2.1, s.2.2.2))) id) := by kernel_rfl

theorem itotal_l3_r (x : DR S_itotal_l3.hs) : (itotal_l3 x.1 x.2.1 x.2.2.1 x.2.2.2 : Option (SumD (X_itotal_l3.map (·.2)))) = runL (meanS (envT Try.prog C11 M3) L_itotal_l3 3 (loopC (bodyOf Try.f58) 3) S_itotal_l3 X_itotal_l3) x := run_of (fun s : Int × List (List Int) × Int × Int => (show DR S_itotal_l3.hs from (s.1, s.2.1, s.2.2.1, s.2.2.2))) (itotal_l3_e ) (x.1, x.2.1, x.2.2.1, x.2.2.2)

theorem itotal_l3_k (L : Loops) (hn : L_itotal_l3.n = L.n) (hlv : L_itotal_l3.lv 3 = L.lv 3) (hL : ∀ vs bs, L.loop 3 vs bs = toldL S_itotal_l3 X_itotal_l3 (fun x => itotal_l3 x.1 x.2.1 x.2.2.1 x.2.2.2) vs bs) : LOk Try.prog (envT Try.prog C11 M3) L 3 (loopC (bodyOf Try.f58) 3) := toldL_ok (L1 := L_itotal_l3) (envT_ok (C11_ok) (M3_ok)) mixedO hn hlv (loopsL (l := [(6, loopC (loopC (bodyOf Try.f58) 3) 6)]) (by kernel_rfl) (lk_cons (itotal_l6_k _ rfl rfl (fun _ _ => rfl)) lk_nil)) itotal_l3_r hL

def A_itotal : Shp := ⟨[.h], [], [.sl [.sl [.i .i64]]]⟩
def R_itotal : List XShp := [(.ret, ⟨[.h], [], [.i .i64]⟩)]

noncomputable def L_itotal : Loops := (⟨26, lvT [(6, [3, 8, 9, 10, 14, 15, 16]), (3, [3, 8, 9, 10])], mdT [(6, .exit 2, [], [14, 15, 16]), (3, .exit 0, [], [8, 9, 10])], fun k vs bs => bif Nat.beq k 3 then toldL S_itotal_l3 X_itotal_l3 (fun x => itotal_l3 x.1 x.2.1 x.2.2.1 x.2.2.2) vs bs else .bad⟩ : Loops)

theorem itotal_e (x : DR A_itotal.hs) : (evFn (envT Try.prog C11 M3) L_itotal Try.f58 (A_itotal.enc x).1).to (fun q => decX R_itotal .ret [q.1] q.2) = itotal_t x := by kernel_rfl

theorem itotal_m (x : DR A_itotal.hs) : meanF (envT Try.prog C11 M3) L_itotal Try.f58 A_itotal R_itotal x = (show Option (SumD (R_itotal.map (·.2))) from itotal x) := meanF_of (itotal_e x)

theorem itotal_ok : SpecOk Try.prog 58 (evFn (envT Try.prog C11 M3) L_itotal Try.f58) := fnL_ok (envT_ok (C11_ok) (M3_ok)) mixedO Try.func58 (by kernel_rfl) (c := bodyOf Try.f58) (by kernel_rfl) (loopsL (l := [(3, loopC (bodyOf Try.f58) 3)]) (by kernel_rfl) (lk_cons (itotal_l3_k _ rfl rfl (fun _ _ => rfl)) lk_nil))

theorem itotal_told : SpecOk Try.prog 58 (toldO A_itotal R_itotal (fun x => itotal x) (C11 58)) := toldO_ok (by kernel_rfl) itotal_ok (rest_ok (C11_ok) _) itotal_m

noncomputable def C12 : Tab := tab 58 (toldO A_itotal R_itotal (fun x => itotal x) (C11 58)) C11
theorem C12_ok : TabOk Try.prog C12 := tab_ok (itotal_told) (C11_ok)

def S_isplit_l13 : Shp := ⟨[.h, .slw 0 1, .slw 1 1, .h, .slw 1 1, .h, .h], [.arr [.i .i64] false, .arr [.i .i64] false], [.i .i64, .i .i64, .i .i64, .i .i64, .sl [.i .i64], .sl [.i .i64]]⟩
def X_isplit_l13 : List XShp := [(.exit 4, ⟨[.h, .slw 0 1, .slw 1 1, .h, .undef, .undef, .undef], [.arr [.i .i64] false, .arr [.i .i64] false], [.i .i64, .i .i64, .sl [.i .i64], .sl [.i .i64]]⟩)]

noncomputable def L_isplit_l13 : Loops := (⟨79, lvT [(13, [6, 7, 8, 11, 54, 55, 56]), (9, [6, 7, 8]), (4, [0, 5, 6, 7, 8, 20, 21, 22])], mdT [(13, .exit 4, [], [54, 55, 56]), (9, .exit 2, [], [6, 8]), (4, .exit 0, [], [0, 5, 20, 21, 22])], fun k vs bs => .bad⟩ : Loops)

theorem isplit_l13_e (y0 : Int) (y2 : Int) (y4 : List Int) (y5 : List Int) (s : Int × Int) : (loopStep (envT Try.prog C12 M3) L_isplit_l13 13 (loopC (loopC (bodyOf Try.f59) 9) 13) (S_isplit_l13.enc (y0, s.1, y2, s.2, y4, y5)).1 (S_isplit_l13.enc (y0, s.1, y2, s.2, y4, y5)).2).to (stepD S_isplit_l13 X_isplit_l13) = (isplit_l13_t y0 y2 y4 y5 s.1 s.2).map (Sum.map (fun s : Int × Int => (show DR S_isplit_l13.hs from (y0, s.1, y2, s.2, y4, y5))) id) := by kernel_rfl

theorem isplit_l13_r (x : DR S_isplit_l13.hs) : (isplit_l13 x.1 x.2.1 x.2.2.1 x.2.2.2.1 x.2.2.2.2.1 x.2.2.2.2.2 : Option (SumD (X_isplit_l13.map (·.2)))) = runL (meanS (envT Try.prog C12 M3) L_isplit_l13 13 (loopC (loopC (bodyOf Try.f59) 9) 13) S_isplit_l13 X_isplit_l13) x := run_of (fun s : Int × Int => (show DR S_isplit_l13.hs from (x.1, s.1, x.2.2.1, s.2, x.2.2.2.2.1, x.2.2.2.2.2))) (isplit_l13_e (x.1) (x.2.2.1) (x.2.2.2.2.1) (x.2.2.2.2.2)) (x.2.1, x.2.2.2.1)

theorem isplit_l13_k (L : Loops) (hn : L_isplit_l13.n = L.n) (hlv : L_isplit_l13.lv 13 = L.lv 13) (hL : ∀ vs bs, L.loop 13 vs bs = toldL S_isplit_l13 X_isplit_l13 (fun x => isplit_l13 x.1 x.2.1 x.2.2.1 x.2.2.2.1 x.2.2.2.2.1 x.2.2.2.2.2) vs bs) : LOk Try.prog (envT Try.prog C12 M3) L 13 (loopC (loopC (bodyOf Try.f59) 9) 13) := toldL_ok (L1 := L_isplit_l13) (envT_ok (C12_ok) (M3_ok)) mixedO hn hlv (loopFree_ok (by kernel_rfl)) isplit_l13_r hL

def S_isplit_l4 : Shp := ⟨[.h, .h, .h, .slw 0 1, .slw 1 1, .h, .h, .h], [.arr [.i .i64] false, .arr [.i .i64] false], [.i .i64, .i .i64, .i .i64, .sl [.i .i64], .i .i64, .i .i64, .sl [.i .i64], .sl [.i .i64]]⟩
def X_isplit_l4 : List XShp := [(.exit 0, ⟨[.undef, .undef, .h, .slw 0 1, .slw 1 1, .undef, .undef, .undef], [.arr [.i .i64] false, .arr [.i .i64] false], [.i .i64, .sl [.i .i64], .sl [.i .i64]]⟩)]

noncomputable def L_isplit_l4 : Loops := (⟨79, lvT [(13, [6, 7, 8, 11, 54, 55, 56]), (9, [6, 7, 8]), (4, [0, 5, 6, 7, 8, 20, 21, 22])], mdT [(13, .exit 4, [], [54, 55, 56]), (9, .exit 2, [], [6, 8]), (4, .exit 0, [], [0, 5, 20, 21, 22])], fun k vs bs => .bad⟩ : Loops)

theorem isplit_l4_e (y0 : Int) (y1 : Int) (y3 : List Int) (y4 : Int) (s : Int × Int × List Int × List Int) : (loopStep (envT Try.prog C12 M3) L_isplit_l4 4 (loopC (bodyOf Try.f59) 4) (S_isplit_l4.enc (y0, y1, s.1, y3, y4, s.2.1, s.2.2.1, s.2.2.2)).1 (S_isplit_l4.enc (y0, y1, s.1, y3, y4, s.2.1, s.2.2.1, s.2.2.2)).2).to (stepD S_isplit_l4 X_isplit_l4) = (isplit_l4_t y0 y1 y3 y4 s.1 s.2.1 s.2.2.1 s.2.2.2).map (Sum.map (fun s : Int × Int × List Int × List Int => (show DR S_isplit_l4.hs from (y0, y1, s.1, y3, y4, s.2.1, s.2.2.1, s.2.2.2))) id) := by kernel_rfl

theorem isplit_l4_r (x : DR S_isplit_l4.hs) : (isplit_l4 x.1 x.2.1 x.2.2.1 x.2.2.2.1 x.2.2.2.2.1 x.2.2.2.2.2.1 x.2.2.2.2.2.2.1 x.2.2.2.2.2.2.2 : Option (SumD (X_isplit_l4.map (·.2)))) = runL (meanS (envT Try.prog C12 M3) L_isplit_l4 4 (loopC (bodyOf Try.f59) 4) S_isplit_l4 X_isplit_l4) x := run_of (fun s : Int × Int × List Int × List Int => (show DR S_isplit_l4.hs from (x.1, x.2.1, s.1, x.2.2.2.1, x.2.2.2.2.1, s.2.1, s.2.2.1, s.2.2.2))) (isplit_l4_e (x.1) (x.2.1) (x.2.2.2.1) (x.2.2.2.2.1)) (x.2.2.1, x.2.2.2.2.2.1, x.2.2.2.2.2.2.1, x.2.2.2.2.2.2.2)

theorem isplit_l4_k (L : Loops) (hn : L_isplit_l4.n = L.n) (hlv : L_isplit_l4.lv 4 = L.lv 4) (hL : ∀ vs bs, L.loop 4 vs bs = toldL S_isplit_l4 X_isplit_l4 (fun x => isplit_l4 x.1 x.2.1 x.2.2.1 x.2.2.2.1 x.2.2.2.2.1 x.2.2.2.2.2.1 x.2.2.2.2.2.2.1 x.2.2.2.2.2.2.2) vs bs) : LOk Try.prog (envT Try.prog C12 M3) L 4 (loopC (bodyOf Try.f59) 4) := toldL_ok (L1 := L_isplit_l4) (envT_ok (C12_ok) (M3_ok)) mixedO hn hlv (loopFree_ok (by kernel_rfl)) isplit_l4_r hL

def S_isplit_l9 : Shp := ⟨[.h, .slw 0 1, .slw 1 1], [.arr [.i .i64] false, .arr [.i .i64] false], [.i .i64, .sl [.i .i64], .sl [.i .i64]]⟩
def X_isplit_l9 : List XShp := [(.exit 2, ⟨[.undef, .slw 0 1, .undef], [.arr [.i .i64] false], [.sl [.i .i64]]⟩)]

noncomputable def L_isplit_l9 : Loops := (⟨79, lvT [(13, [6, 7, 8, 11, 54, 55, 56]), (9, [6, 7, 8]), (4, [0, 5, 6, 7, 8, 20, 21, 22])], mdT [(13, .exit 4, [], [54, 55, 56]), (9, .exit 2, [], [6, 8]), (4, .exit 0, [], [0, 5, 20, 21, 22])], fun k vs bs => bif Nat.beq k 13 then toldL S_isplit_l13 X_isplit_l13 (fun x => isplit_l13 x.1 x.2.1 x.2.2.1 x.2.2.2.1 x.2.2.2.2.1 x.2.2.2.2.2) vs bs else .bad⟩ : Loops)

theorem isplit_l9_e (s : Int × List Int × List Int) : (loopStep (envT Try.prog C12 M3) L_isplit_l9 9 (loopC (bodyOf Try.f59) 9) (S_isplit_l9.enc (s.1, s.2.1, s.2.2)).1 (S_isplit_l9.enc (s.1, s.2.1, s.2.2)).2).to (stepD S_isplit_l9 X_isplit_l9) = (isplit_l9_t  s.1 s.2.1 s.2.2).map (Sum.map (fun s : Int × List Int × List Int => (show DR S_isplit_l9.hs from (s.1, s.2.1, s.2.2))) id) := by kernel_rfl

theorem isplit_l9_r (x : DR S_isplit_l9.hs) : (isplit_l9 x.1 x.2.1 x.2.2 : Option (SumD (X_isplit_l9.map (·.2)))) = runL (meanS (envT Try.prog C12 M3) L_isplit_l9 9 (loopC (bodyOf Try.f59) 9) S_isplit_l9 X_isplit_l9) x := run_of (fun s : Int × List Int × List Int => (show DR S_isplit_l9.hs from (s.1, s.2.1, s.2.2))) (isplit_l9_e ) (x.1, x.2.1, x.2.2)

theorem isplit_l9_k (L : Loops) (hn : L_isplit_l9.n = L.n) (hlv : L_isplit_l9.lv 9 = L.lv 9) (hL : ∀ vs bs, L.loop 9 vs bs = toldL S_isplit_l9 X_isplit_l9 (fun x => isplit_l9 x.1 x.2.1 x.2.2) vs bs) : LOk Try.prog (envT Try.prog C12 M3) L 9 (loopC (bodyOf Try.f59) 9) := toldL_ok (L1 := L_isplit_l9) (envT_ok (C12_ok) (M3_ok)) mixedO hn hlv (loopsL (l := [(13, loopC (loopC (bodyOf Try.f59) 9) 13)]) (by kernel_rfl) (lk_cons (isplit_l13_k _ rfl rfl (fun _ _ => rfl)) lk_nil)) isplit_l9_r hL

def A_isplit : Shp := ⟨[.h, .h], [], [.i .i64, .sl [.i .i64]]⟩
def R_isplit : List XShp := [(.ret, ⟨[.slw 0 1], [.arr [.i .i64] false], [.sl [.i .i64]]⟩)]

noncomputable def L_isplit : Loops := (⟨79, lvT [(13, [6, 7, 8, 11, 54, 55, 56]), (9, [6, 7, 8]), (4, [0, 5, 6, 7, 8, 20, 21, 22])], mdT [(13, .exit 4, [], [54, 55, 56]), (9, .exit 2, [], [6, 8]), (4, .exit 0, [], [0, 5, 20, 21, 22])], fun k vs bs => bif Nat.beq k 9 then toldL S_isplit_l9 X_isplit_l9 (fun x => isplit_l9 x.1 x.2.1 x.2.2) vs bs else bif Nat.beq k 4 then toldL S_isplit_l4 X_isplit_l4 (fun x => isplit_l4 x.1 x.2.1 x.2.2.1 x.2.2.2.1 x.2.2.2.2.1 x.2.2.2.2.2.1 x.2.2.2.2.2.2.1 x.2.2.2.2.2.2.2) vs bs else .bad⟩ : Loops)

theorem isplit_e (x : DR A_isplit.hs) : (evFn (envT Try.prog C12 M3) L_isplit Try.f59 (A_isplit.enc x).1).to (fun q => decX R_isplit .ret [q.1] q.2) = isplit_t x.1 x.2 := by kernel_rfl

theorem isplit_m (x : DR A_isplit.hs) : meanF (envT Try.prog C12 M3) L_isplit Try.f59 A_isplit R_isplit x = (show Option (SumD (R_isplit.map (·.2))) from isplit x.1 x.2) := meanF_of (isplit_e x)

theorem isplit_ok : SpecOk Try.prog 59 (evFn (envT Try.prog C12 M3) L_isplit Try.f59) := fnL_ok (envT_ok (C12_ok) (M3_ok)) mixedO Try.func59 (by kernel_rfl) (c := bodyOf Try.f59) (by kernel_rfl) (loopsL (l := [(4, loopC (bodyOf Try.f59) 4), (9, loopC (bodyOf Try.f59) 9)]) (by kernel_rfl) (lk_cons (isplit_l4_k _ rfl rfl (fun _ _ => rfl)) (lk_cons (isplit_l9_k _ rfl rfl (fun _ _ => rfl)) lk_nil)))

theorem isplit_told : SpecOk Try.prog 59 (toldO A_isplit R_isplit (fun x => isplit x.1 x.2) (C12 59)) := toldO_ok (by kernel_rfl) isplit_ok (rest_ok (C12_ok) _) isplit_m

noncomputable def C13 : Tab := tab 59 (toldO A_isplit R_isplit (fun x => isplit x.1 x.2) (C12 59)) C12
theorem C13_ok : TabOk Try.prog C13 := tab_ok (isplit_told) (C12_ok)

def A_iSplitExact : Shp := ⟨[.h, .h], [], [.i .i64, .sl [.i .i64]]⟩
def R_iSplitExact : List XShp := [(.ret, ⟨[.tup [.nils, .lb false]], [], []⟩), (.ret, ⟨[.tup [.slw 0 1, .lb true]], [.arr [.i .i64] false], [.sl [.i .i64]]⟩)]

theorem iSplitExact_e (x : DR A_iSplitExact.hs) : (evFn (envT Try.prog C13 M3) noLoops Try.f23 (A_iSplitExact.enc x).1).to (fun q => decX R_iSplitExact .ret [q.1] q.2) = iSplitExact_t x.1 x.2 := by kernel_rfl

theorem iSplitExact_m (x : DR A_iSplitExact.hs) : meanF (envT Try.prog C13 M3) noLoops Try.f23 A_iSplitExact R_iSplitExact x = (show Option (SumD (R_iSplitExact.map (·.2))) from iSplitExact x.1 x.2) := meanF_of (iSplitExact_e x)

theorem iSplitExact_ok : SpecOk Try.prog 23 (evFn (envT Try.prog C13 M3) noLoops Try.f23) := fnL_ok (envT_ok (C13_ok) (M3_ok)) mixedO Try.func23 (by kernel_rfl) (c := bodyOf Try.f23) (by kernel_rfl) (loopFree_ok (by kernel_rfl))

theorem iSplitExact_told : SpecOk Try.prog 23 (toldO A_iSplitExact R_iSplitExact (fun x => iSplitExact x.1 x.2) (C13 23)) := toldO_ok (by kernel_rfl) iSplitExact_ok (rest_ok (C13_ok) _) iSplitExact_m

noncomputable def C14 : Tab := tab 23 (toldO A_iSplitExact R_iSplitExact (fun x => iSplitExact x.1 x.2) (C13 23)) C13
theorem C14_ok : TabOk Try.prog C14 := tab_ok (iSplitExact_told) (C13_ok)

def S_iByRights_l9 : Shp := ⟨[.h, .h, .h, .slw 0 1, .h, .slw 1 1, .slw 2 1, .h, .h, .h], [.arr [.i .i64] false, .arr [.i .i64] false, .arr [.i .i64] false], [.i .i64, .sl [.i .i64], .sl [.i .i64], .i .i64, .sl [.i .i64], .i .i64, .i .i64, .sl [.i .i64], .sl [.i .i64], .sl [.i .i64]]⟩
def X_iByRights_l9 : List XShp := [(.exit 2, ⟨[.h, .h, .h, .slw 0 1, .h, .slw 1 1, .slw 2 1, .undef, .undef, .undef], [.arr [.i .i64] false, .arr [.i .i64] false, .arr [.i .i64] false], [.i .i64, .sl [.i .i64], .sl [.i .i64], .i .i64, .sl [.i .i64], .sl [.i .i64], .sl [.i .i64]]⟩)]

noncomputable def L_iByRights_l9 : Loops := (⟨92, lvT [(17, [0, 1, 2, 8, 9, 10, 71, 72, 73]), (9, [0, 1, 2, 8, 9, 10, 11, 41, 42, 43]), (5, [0, 1, 2, 8, 9])], mdT [(17, .exit 4, [], [71, 72, 73]), (9, .exit 2, [], [41, 42, 43]), (5, .exit 0, [], [0, 1, 2, 9])], fun k vs bs => .bad⟩ : Loops)

theorem iByRights_l9_e (y0 : Int) (y1 : List Int) (y2 : List Int) (y3 : Int) (y4 : List Int) (y5 : Int) (y7 : List Int) (s : Int × List Int × List Int) : (loopStep (envT Try.prog C14 M3) L_iByRights_l9 9 (loopC (loopC (bodyOf Try.f24) 5) 9) (S_iByRights_l9.enc (y0, y1, y2, y3, y4, y5, s.1, y7, s.2.1, s.2.2)).1 (S_iByRights_l9.enc (y0, y1, y2, y3, y4, y5, s.1, y7, s.2.1, s.2.2)).2).to (stepD S_iByRights_l9 X_iByRights_l9) = (iByRights_l9_t y0 y1 y2 y3 y4 y5 y7 s.1 s.2.1 s.2.2).map (Sum.map (fun s : Int × List Int × List Int => (show DR S_iByRights_l9.hs from (y0, y1, y2, y3, y4, y5, s.1, y7, s.2.1, s.2.2))) id) := by kernel_rfl

theorem iByRights_l9_r (x : DR S_iByRights_l9.hs) : (iByRights_l9 x.1 x.2.1 x.2.2.1 x.2.2.2.1 x.2.2.2.2.1 x.2.2.2.2.2.1 x.2.2.2.2.2.2.1 x.2.2.2.2.2.2.2.1 x.2.2.2.2.2.2.2.2.1 x.2.2.2.2.2.2.2.2.2 : Option (SumD (X_iByRights_l9.map (·.2)))) = runL (meanS (envT Try.prog C14 M3) L_iByRights_l9 9 (loopC (loopC (bodyOf Try.f24) 5) 9) S_iByRights_l9 X_iByRights_l9) x := run_of (fun s : Int × List Int × List Int => (show DR S_iByRights_l9.hs from (x.1, x.2.1, x.2.2.1, x.2.2.2.1, x.2.2.2.2.1, x.2.2.2.2.2.1, s.1, x.2.2.2.2.2.2.2.1, s.2.1, s.2.2))) (iByRights_l9_e (x.1) (x.2.1) (x.2.2.1) (x.2.2.2.1) (x.2.2.2.2.1) (x.2.2.2.2.2.1) (x.2.2.2.2.2.2.2.1)) (x.2.2.2.2.2.2.1, x.2.2.2.2.2.2.2.2.1, x.2.2.2.2.2.2.2.2.2)

theorem iByRights_l9_k (L : Loops) (hn : L_iByRights_l9.n = L.n) (hlv : L_iByRights_l9.lv 9 = L.lv 9) (hL : ∀ vs bs, L.loop 9 vs bs = toldL S_iByRights_l9 X_iByRights_l9 (fun x => iByRights_l9 x.1 x.2.1 x.2.2.1 x.2.2.2.1 x.2.2.2.2.1 x.2.2.2.2.2.1 x.2.2.2.2.2.2.1 x.2.2.2.2.2.2.2.1 x.2.2.2.2.2.2.2.2.1 x.2.2.2.2.2.2.2.2.2) vs bs) : LOk Try.prog (envT Try.prog C14 M3) L 9 (loopC (loopC (bodyOf Try.f24) 5) 9) := toldL_ok (L1 := L_iByRights_l9) (envT_ok (C14_ok) (M3_ok)) mixedO hn hlv (loopFree_ok (by kernel_rfl)) iByRights_l9_r hL

def H_iByRights_l17 : List XShp := [(.normal, ⟨[.h, .h, .h, .slw 0 1, .h, .slw 1 1, .slw 2 1, .h, .h], [.arr [.i .i64] false, .arr [.i .i64] false, .arr [.i .i64] false], [.i .i64, .sl [.i .i64], .sl [.i .i64], .i .i64, .i .i64, .i .i64, .sl [.i .i64], .sl [.i .i64], .sl [.i .i64]]⟩), (.normal, ⟨[.h, .h, .h, .slw 0 1, .h, .slw 1 1, .slw 2 1, .h, .h], [.arr [.i .i64] false, .arr [.i .i64] true, .arr [.i .i64] false], [.i .i64, .sl [.i .i64], .sl [.i .i64], .i .i64, .i .i64, .i .i64, .sl [.i .i64], .sl [.i .i64], .sl [.i .i64]]⟩)]
def X_iByRights_l17 : List XShp := [(.exit 4, ⟨[.h, .h, .h, .slw 0 1, .h, .slw 1 1, .undef, .undef, .undef], [.arr [.i .i64] false, .arr [.i .i64] false], [.i .i64, .sl [.i .i64], .sl [.i .i64], .i .i64, .sl [.i .i64], .sl [.i .i64]]⟩), (.exit 4, ⟨[.h, .h, .h, .slw 0 1, .h, .slw 1 1, .undef, .undef, .undef], [.arr [.i .i64] false, .arr [.i .i64] true], [.i .i64, .sl [.i .i64], .sl [.i .i64], .i .i64, .sl [.i .i64], .sl [.i .i64]]⟩)]

noncomputable def L_iByRights_l17 : Loops := (⟨92, lvT [(17, [0, 1, 2, 8, 9, 10, 71, 72, 73]), (9, [0, 1, 2, 8, 9, 10, 11, 41, 42, 43]), (5, [0, 1, 2, 8, 9])], mdT [(17, .exit 4, [], [71, 72, 73]), (9, .exit 2, [], [41, 42, 43]), (5, .exit 0, [], [0, 1, 2, 9])], fun k vs bs => .bad⟩ : Loops)

theorem iByRights_l17_e0 (y : DR (⟨[.h, .h, .h, .slw 0 1, .h, .slw 1 1, .slw 2 1, .h, .h], [.arr [.i .i64] false, .arr [.i .i64] false, .arr [.i .i64] false], [.i .i64, .sl [.i .i64], .sl [.i .i64], .i .i64, .i .i64, .i .i64, .sl [.i .i64], .sl [.i .i64], .sl [.i .i64]]⟩ : Shp).hs) : (loopStep (envT Try.prog C14 M3) L_iByRights_l17 17 (loopC (loopC (bodyOf Try.f24) 5) 17) ((⟨[.h, .h, .h, .slw 0 1, .h, .slw 1 1, .slw 2 1, .h, .h], [.arr [.i .i64] false, .arr [.i .i64] false, .arr [.i .i64] false], [.i .i64, .sl [.i .i64], .sl [.i .i64], .i .i64, .i .i64, .i .i64, .sl [.i .i64], .sl [.i .i64], .sl [.i .i64]]⟩ : Shp).enc y).1 ((⟨[.h, .h, .h, .slw 0 1, .h, .slw 1 1, .slw 2 1, .h, .h], [.arr [.i .i64] false, .arr [.i .i64] false, .arr [.i .i64] false], [.i .i64, .sl [.i .i64], .sl [.i .i64], .i .i64, .i .i64, .i .i64, .sl [.i .i64], .sl [.i .i64], .sl [.i .i64]]⟩ : Shp).enc y).2).to (stepH H_iByRights_l17 X_iByRights_l17) = iByRights_l17_t0 y.1 y.2.1 y.2.2.1 y.2.2.2.1 y.2.2.2.2.1 y.2.2.2.2.2.1 y.2.2.2.2.2.2.1 y.2.2.2.2.2.2.2.1 y.2.2.2.2.2.2.2.2 := by kernel_rfl

theorem iByRights_l17_e1 (y : DR (⟨[.h, .h, .h, .slw 0 1, .h, .slw 1 1, .slw 2 1, .h, .h], [.arr [.i .i64] false, .arr [.i .i64] true, .arr [.i .i64] false], [.i .i64, .sl [.i .i64], .sl [.i .i64], .i .i64, .i .i64, .i .i64, .sl [.i .i64], .sl [.i .i64], .sl [.i .i64]]⟩ : Shp).hs) : (loopStep (envT Try.prog C14 M3) L_iByRights_l17 17 (loopC (loopC (bodyOf Try.f24) 5) 17) ((⟨[.h, .h, .h, .slw 0 1, .h, .slw 1 1, .slw 2 1, .h, .h], [.arr [.i .i64] false, .arr [.i .i64] true, .arr [.i .i64] false], [.i .i64, .sl [.i .i64], .sl [.i .i64], .i .i64, .i .i64, .i .i64, .sl [.i .i64], .sl [.i .i64], .sl [.i .i64]]⟩ : Shp).enc y).1 ((⟨[.h, .h, .h, .slw 0 1, .h, .slw 1 1, .slw 2 1, .h, .h], [.arr [.i .i64] false, .arr [.i .i64] true, .arr [.i .i64] false], [.i .i64, .sl [.i .i64], .sl [.i .i64], .i .i64, .i .i64, .i .i64, .sl [.i .i64], .sl [.i .i64], .sl [.i .i64]]⟩ : Shp).enc y).2).to (stepH H_iByRights_l17 X_iByRights_l17) = iByRights_l17_t1 y.1 y.2.1 y.2.2.1 y.2.2.2.1 y.2.2.2.2.1 y.2.2.2.2.2.1 y.2.2.2.2.2.2.1 y.2.2.2.2.2.2.2.1 y.2.2.2.2.2.2.2.2 := by kernel_rfl

theorem iByRights_l17_o : ∀ x : (Int × List Int × List Int × Int × Int × Int × List Int × List Int × List Int) ⊕ (Int × List Int × List Int × Int × Int × Int × List Int × List Int × List Int), meanH (envT Try.prog C14 M3) L_iByRights_l17 17 (loopC (loopC (bodyOf Try.f24) 5) 17) H_iByRights_l17 X_iByRights_l17 x = iByRights_l17_s x
  | (.inl y) => meanH_of (iByRights_l17_e0 y)
  | (.inr y) => meanH_of (iByRights_l17_e1 y)

theorem iByRights_l17_r (x : SumD (H_iByRights_l17.map (fun p : XShp => p.2))) : (show Option (SumD (X_iByRights_l17.map (fun p : XShp => p.2))) from iByRights_l17 x) = runL (meanH (envT Try.prog C14 M3) L_iByRights_l17 17 (loopC (loopC (bodyOf Try.f24) 5) 17) H_iByRights_l17 X_iByRights_l17) x := runH_of (H := H_iByRights_l17) (X := X_iByRights_l17) (g := iByRights_l17_s) iByRights_l17_o x

theorem iByRights_l17_k (L : Loops) (hn : L_iByRights_l17.n = L.n) (hlv : L_iByRights_l17.lv 17 = L.lv 17) (hL : ∀ vs bs, L.loop 17 vs bs = toldH H_iByRights_l17 X_iByRights_l17 (fun x => iByRights_l17 x) vs bs) : LOk Try.prog (envT Try.prog C14 M3) L 17 (loopC (loopC (bodyOf Try.f24) 5) 17) := toldH_ok (L1 := L_iByRights_l17) (envT_ok (C14_ok) (M3_ok)) mixedO hn hlv (loopFree_ok (by kernel_rfl)) iByRights_l17_r hL

def S_iByRights_l5 : Shp := ⟨[.h, .h, .h, .slw 0 1, .h], [.arr [.i .i64] false], [.i .i64, .sl [.i .i64], .sl [.i .i64], .i .i64, .sl [.i .i64]]⟩
def X_iByRights_l5 : List XShp := [(.exit 0, ⟨[.undef, .undef, .undef, .slw 0 1, .undef], [.arr [.i .i64] false], [.sl [.i .i64]]⟩)]

noncomputable def L_iByRights_l5 : Loops := (⟨92, lvT [(17, [0, 1, 2, 8, 9, 10, 71, 72, 73]), (9, [0, 1, 2, 8, 9, 10, 11, 41, 42, 43]), (5, [0, 1, 2, 8, 9])], mdT [(17, .exit 4, [], [71, 72, 73]), (9, .exit 2, [], [41, 42, 43]), (5, .exit 0, [], [0, 1, 2, 9])], fun k vs bs => bif Nat.beq k 17 then toldH H_iByRights_l17 X_iByRights_l17 (fun x => iByRights_l17 x) vs bs else bif Nat.beq k 9 then toldL S_iByRights_l9 X_iByRights_l9 (fun x => iByRights_l9 x.1 x.2.1 x.2.2.1 x.2.2.2.1 x.2.2.2.2.1 x.2.2.2.2.2.1 x.2.2.2.2.2.2.1 x.2.2.2.2.2.2.2.1 x.2.2.2.2.2.2.2.2.1 x.2.2.2.2.2.2.2.2.2) vs bs else .bad⟩ : Loops)

theorem iByRights_l5_e (s : Int × List Int × List Int × Int × List Int) : (loopStep (envT Try.prog C14 M3) L_iByRights_l5 5 (loopC (bodyOf Try.f24) 5) (S_iByRights_l5.enc (s.1, s.2.1, s.2.2.1, s.2.2.2.1, s.2.2.2.2)).1 (S_iByRights_l5.enc (s.1, s.2.1, s.2.2.1, s.2.2.2.1, s.2.2.2.2)).2).to (stepD S_iByRights_l5 X_iByRights_l5) = (iByRights_l5_t  s.1 s.2.1 s.2.2.1 s.2.2.2.1 s.2.2.2.2).map (Sum.map (fun s : Int × List Int × List Int × Int × List Int => (show DR S_iByRights_l5.hs from (s.1, s.2.1, s.2.2.1, s.2.2.2.1, s.2.2.2.2))) id) := by kernel_rfl

theorem iByRights_l5_r (x : DR S_iByRights_l5.hs) : (iByRights_l5 x.1 x.2.1 x.2.2.1 x.2.2.2.1 x.2.2.2.2 : Option (SumD (X_iByRights_l5.map (·.2)))) = runL (meanS (envT Try.prog C14 M3) L_iByRights_l5 5 (loopC (bodyOf Try.f24) 5) S_iByRights_l5 X_iByRights_l5) x := run_of (fun s : Int × List Int × List Int × Int × List Int => (show DR S_iByRights_l5.hs from (s.1, s.2.1, s.2.2.1, s.2.2.2.1, s.2.2.2.2))) (iByRights_l5_e ) (x.1, x.2.1, x.2.2.1, x.2.2.2.1, x.2.2.2.2)

theorem iByRights_l5_k (L : Loops) (hn : L_iByRights_l5.n = L.n) (hlv : L_iByRights_l5.lv 5 = L.lv 5) (hL : ∀ vs bs, L.loop 5 vs bs = toldL S_iByRights_l5 X_iByRights_l5 (fun x => iByRights_l5 x.1 x.2.1 x.2.2.1 x.2.2.2.1 x.2.2.2.2) vs bs) : LOk Try.prog (envT Try.prog C14 M3) L 5 (loopC (bodyOf Try.f24) 5) := toldL_ok (L1 := L_iByRights_l5) (envT_ok (C14_ok) (M3_ok)) mixedO hn hlv (loopsL (l := [(9, loopC (loopC (bodyOf Try.f24) 5) 9), (17, loopC (loopC (bodyOf Try.f24) 5) 17)]) (by kernel_rfl) (lk_cons (iByRights_l9_k _ rfl rfl (fun _ _ => rfl)) (lk_cons (iByRights_l17_k _ rfl rfl (fun _ _ => rfl)) lk_nil))) iByRights_l5_r hL

def A_iByRights : Shp := ⟨[.h, .h, .h], [], [.i .i64, .sl [.i .i64], .sl [.i .i64]]⟩
def R_iByRights : List XShp := [(.ret, ⟨[.tup [.nils, .lb false]], [], []⟩), (.ret, ⟨[.tup [.slw 0 1, .lb true]], [.arr [.i .i64] false], [.sl [.i .i64]]⟩)]

noncomputable def L_iByRights : Loops := (⟨92, lvT [(17, [0, 1, 2, 8, 9, 10, 71, 72, 73]), (9, [0, 1, 2, 8, 9, 10, 11, 41, 42, 43]), (5, [0, 1, 2, 8, 9])], mdT [(17, .exit 4, [], [71, 72, 73]), (9, .exit 2, [], [41, 42, 43]), (5, .exit 0, [], [0, 1, 2, 9])], fun k vs bs => bif Nat.beq k 5 then toldL S_iByRights_l5 X_iByRights_l5 (fun x => iByRights_l5 x.1 x.2.1 x.2.2.1 x.2.2.2.1 x.2.2.2.2) vs bs else .bad⟩ : Loops)

theorem iByRights_e (x : DR A_iByRights.hs) : (evFn (envT Try.prog C14 M3) L_iByRights Try.f24 (A_iByRights.enc x).1).to (fun q => decX R_iByRights .ret [q.1] q.2) = iByRights_t x.1 x.2.1 x.2.2 := by kernel_rfl

theorem iByRights_m (x : DR A_iByRights.hs) : meanF (envT Try.prog C14 M3) L_iByRights Try.f24 A_iByRights R_iByRights x = (show Option (SumD (R_iByRights.map (·.2))) from iByRights x.1 x.2.1 x.2.2) := meanF_of (iByRights_e x)

theorem iByRights_ok : SpecOk Try.prog 24 (evFn (envT Try.prog C14 M3) L_iByRights Try.f24) := fnL_ok (envT_ok (C14_ok) (M3_ok)) mixedO Try.func24 (by kernel_rfl) (c := bodyOf Try.f24) (by kernel_rfl) (loopsL (l := [(5, loopC (bodyOf Try.f24) 5)]) (by kernel_rfl) (lk_cons (iByRights_l5_k _ rfl rfl (fun _ _ => rfl)) lk_nil))

theorem iByRights_told : SpecOk Try.prog 24 (toldO A_iByRights R_iByRights (fun x => iByRights x.1 x.2.1 x.2.2) (C14 24)) := toldO_ok (by kernel_rfl) iByRights_ok (rest_ok (C14_ok) _) iByRights_m

noncomputable def C15 : Tab := tab 24 (toldO A_iByRights R_iByRights (fun x => iByRights x.1 x.2.1 x.2.2) (C14 24)) C14
theorem C15_ok : TabOk Try.prog C15 := tab_ok (iByRights_told) (C14_ok)

def S_iHalfWay_l10 : Shp := ⟨[.h, .slw 0 1, .h, .h, .h, .h, .h, .h], [.arr [.i .i64] false], [.sl [.sl [.i .i64]], .sl [.sl [.i .i64]], .i .i64, .i .i64, .sl [.i .i64], .i .i64, .i .i64, .sl [.i .i64]]⟩
def X_iHalfWay_l10 : List XShp := [(.exit 2, ⟨[.h, .slw 0 1, .h, .h, .h, .undef, .undef, .undef], [.arr [.i .i64] false], [.sl [.sl [.i .i64]], .sl [.sl [.i .i64]], .i .i64, .i .i64, .sl [.i .i64]]⟩)]

noncomputable def L_iHalfWay_l10 : Loops := (⟨96, lvT [(21, [0, 9, 10, 11, 12, 65, 66, 67, 72, 73, 74]), (17, [0, 9, 65, 66, 67]), (10, [0, 4, 32, 33, 34, 48, 49, 50]), (5, [0, 2, 3, 4, 32, 33, 34])], mdT [(21, .exit 6, [], [10, 11, 12, 72, 73, 74]), (17, .exit 4, [], [0, 65, 66, 67]), (10, .exit 2, [], [48, 49, 50]), (5, .normal, [], [2, 3]), (5, .exit 0, [], [2, 3, 32, 33, 34]), (5, .ret, [], [0, 4, 32, 33, 34])], fun k vs bs => .bad⟩ : Loops)

theorem iHalfWay_l10_e (y0 : List (List Int)) (y1 : List (List Int)) (y2 : Int) (y3 : Int) (y4 : List Int) (y5 : Int) (s : Int × List Int) : (loopStep (envT Try.prog C15 M3) L_iHalfWay_l10 10 (loopC (loopC (bodyOf Try.f25) 5) 10) (S_iHalfWay_l10.enc (y0, y1, y2, y3, y4, y5, s.1, s.2)).1 (S_iHalfWay_l10.enc (y0, y1, y2, y3, y4, y5, s.1, s.2)).2).to (stepD S_iHalfWay_l10 X_iHalfWay_l10) = (iHalfWay_l10_t y0 y1 y2 y3 y4 y5 s.1 s.2).map (Sum.map (fun s : Int × List Int => (show DR S_iHalfWay_l10.hs from (y0, y1, y2, y3, y4, y5, s.1, s.2))) id) := by kernel_rfl

theorem iHalfWay_l10_r (x : DR S_iHalfWay_l10.hs) : (iHalfWay_l10 x.1 x.2.1 x.2.2.1 x.2.2.2.1 x.2.2.2.2.1 x.2.2.2.2.2.1 x.2.2.2.2.2.2.1 x.2.2.2.2.2.2.2 : Option (SumD (X_iHalfWay_l10.map (·.2)))) = runL (meanS (envT Try.prog C15 M3) L_iHalfWay_l10 10 (loopC (loopC (bodyOf Try.f25) 5) 10) S_iHalfWay_l10 X_iHalfWay_l10) x := run_of (fun s : Int × List Int => (show DR S_iHalfWay_l10.hs from (x.1, x.2.1, x.2.2.1, x.2.2.2.1, x.2.2.2.2.1, x.2.2.2.2.2.1, s.1, s.2))) (iHalfWay_l10_e (x.1) (x.2.1) (x.2.2.1) (x.2.2.2.1) (x.2.2.2.2.1) (x.2.2.2.2.2.1)) (x.2.2.2.2.2.2.1, x.2.2.2.2.2.2.2)

theorem iHalfWay_l10_k (L : Loops) (hn : L_iHalfWay_l10.n = L.n) (hlv : L_iHalfWay_l10.lv 10 = L.lv 10) (hL : ∀ vs bs, L.loop 10 vs bs = toldL S_iHalfWay_l10 X_iHalfWay_l10 (fun x => iHalfWay_l10 x.1 x.2.1 x.2.2.1 x.2.2.2.1 x.2.2.2.2.1 x.2.2.2.2.2.1 x.2.2.2.2.2.2.1 x.2.2.2.2.2.2.2) vs bs) : LOk Try.prog (envT Try.prog C15 M3) L 10 (loopC (loopC (bodyOf Try.f25) 5) 10) := toldL_ok (L1 := L_iHalfWay_l10) (envT_ok (C15_ok) (M3_ok)) mixedO hn hlv (loopFree_ok (by kernel_rfl)) iHalfWay_l10_r hL

def S_iHalfWay_l21 : Shp := ⟨[.h, .slw 0 1, .h, .h, .h, .slw 1 1, .h, .h, .h, .h, .h], [.arr [.i .i64] false, .arr [.i .i64] false], [.sl [.sl [.i .i64]], .i .i64, .i .i64, .i .i64, .i .i64, .i .i64, .sl [.sl [.i .i64]], .i .i64, .i .i64, .sl [.i .i64], .sl [.i .i64]]⟩
def X_iHalfWay_l21 : List XShp := [(.exit 6, ⟨[.h, .slw 0 1, .undef, .undef, .undef, .slw 1 1, .h, .h, .undef, .undef, .undef], [.arr [.i .i64] false, .arr [.i .i64] false], [.sl [.sl [.i .i64]], .i .i64, .i .i64, .sl [.i .i64], .sl [.i .i64]]⟩)]

noncomputable def L_iHalfWay_l21 : Loops := (⟨96, lvT [(21, [0, 9, 10, 11, 12, 65, 66, 67, 72, 73, 74]), (17, [0, 9, 65, 66, 67]), (10, [0, 4, 32, 33, 34, 48, 49, 50]), (5, [0, 2, 3, 4, 32, 33, 34])], mdT [(21, .exit 6, [], [10, 11, 12, 72, 73, 74]), (17, .exit 4, [], [0, 65, 66, 67]), (10, .exit 2, [], [48, 49, 50]), (5, .normal, [], [2, 3]), (5, .exit 0, [], [2, 3, 32, 33, 34]), (5, .ret, [], [0, 4, 32, 33, 34])], fun k vs bs => .bad⟩ : Loops)

theorem iHalfWay_l21_e (y0 : List (List Int)) (y1 : Int) (y2 : Int) (y4 : Int) (y5 : Int) (y6 : List (List Int)) (y7 : Int) (y9 : List Int) (y10 : List Int) (s : Int × Int) : (loopStep (envT Try.prog C15 M3) L_iHalfWay_l21 21 (loopC (loopC (bodyOf Try.f25) 17) 21) (S_iHalfWay_l21.enc (y0, y1, y2, s.1, y4, y5, y6, y7, s.2, y9, y10)).1 (S_iHalfWay_l21.enc (y0, y1, y2, s.1, y4, y5, y6, y7, s.2, y9, y10)).2).to (stepD S_iHalfWay_l21 X_iHalfWay_l21) = (iHalfWay_l21_t y0 y1 y2 y4 y5 y6 y7 y9 y10 s.1 s.2).map (Sum.map (fun s : Int × Int => (show DR S_iHalfWay_l21.hs from (y0, y1, y2, s.1, y4, y5, y6, y7, s.2, y9, y10))) id) := by kernel_rfl

theorem iHalfWay_l21_r (x : DR S_iHalfWay_l21.hs) : (iHalfWay_l21 x.1 x.2.1 x.2.2.1 x.2.2.2.1 x.2.2.2.2.1 x.2.2.2.2.2.1 x.2.2.2.2.2.2.1 x.2.2.2.2.2.2.2.1 x.2.2.2.2.2.2.2.2.1 x.2.2.2.2.2.2.2.2.2.1 x.2.2.2.2.2.2.2.2.2.2 : Option (SumD (X_iHalfWay_l21.map (·.2)))) = runL (meanS (envT Try.prog C15 M3) L_iHalfWay_l21 21 (loopC (loopC (bodyOf Try.f25) 17) 21) S_iHalfWay_l21 X_iHalfWay_l21) x := run_of (fun s : Int × Int => (show DR S_iHalfWay_l21.hs from (x.1, x.2.1, x.2.2.1, s.1, x.2.2.2.2.1, x.2.2.2.2.2.1, x.2.2.2.2.2.2.1, x.2.2.2.2.2.2.2.1, s.2, x.2.2.2.2.2.2.2.2.2.1, x.2.2.2.2.2.2.2.2.2.2))) (iHalfWay_l21_e (x.1) (x.2.1) (x.2.2.1) (x.2.2.2.2.1) (x.2.2.2.2.2.1) (x.2.2.2.2.2.2.1) (x.2.2.2.2.2.2.2.1) (x.2.2.2.2.2.2.2.2.2.1) (x.2.2.2.2.2.2.2.2.2.2)) (x.2.2.2.1, x.2.2.2.2.2.2.2.2.1)

theorem iHalfWay_l21_k (L : Loops) (hn : L_iHalfWay_l21.n = L.n) (hlv : L_iHalfWay_l21.lv 21 = L.lv 21) (hL : ∀ vs bs, L.loop 21 vs bs = toldL S_iHalfWay_l21 X_iHalfWay_l21 (fun x => iHalfWay_l21 x.1 x.2.1 x.2.2.1 x.2.2.2.1 x.2.2.2.2.1 x.2.2.2.2.2.1 x.2.2.2.2.2.2.1 x.2.2.2.2.2.2.2.1 x.2.2.2.2.2.2.2.2.1 x.2.2.2.2.2.2.2.2.2.1 x.2.2.2.2.2.2.2.2.2.2) vs bs) : LOk Try.prog (envT Try.prog C15 M3) L 21 (loopC (loopC (bodyOf Try.f25) 17) 21) := toldL_ok (L1 := L_iHalfWay_l21) (envT_ok (C15_ok) (M3_ok)) mixedO hn hlv (loopFree_ok (by kernel_rfl)) iHalfWay_l21_r hL

def S_iHalfWay_l5 : Shp := ⟨[.h, .undef, .undef, .slw 0 1, .h, .h, .h], [.arr [.i .i64] false], [.sl [.sl [.i .i64]], .sl [.sl [.i .i64]], .i .i64, .i .i64, .sl [.i .i64]]⟩
def X_iHalfWay_l5 : List XShp := [(.ret, ⟨[.undef, .nils, .lb false, .undef, .undef, .undef, .undef], [], []⟩), (.exit 0, ⟨[.h, .undef, .undef, .slw 0 1, .undef, .undef, .undef], [.arr [.i .i64] false], [.sl [.sl [.i .i64]], .sl [.i .i64]]⟩)]

noncomputable def L_iHalfWay_l5 : Loops := (⟨96, lvT [(21, [0, 9, 10, 11, 12, 65, 66, 67, 72, 73, 74]), (17, [0, 9, 65, 66, 67]), (10, [0, 4, 32, 33, 34, 48, 49, 50]), (5, [0, 2, 3, 4, 32, 33, 34])], mdT [(21, .exit 6, [], [10, 11, 12, 72, 73, 74]), (17, .exit 4, [], [0, 65, 66, 67]), (10, .exit 2, [], [48, 49, 50]), (5, .normal, [], [2, 3]), (5, .exit 0, [], [2, 3, 32, 33, 34]), (5, .ret, [], [0, 4, 32, 33, 34])], fun k vs bs => bif Nat.beq k 10 then toldL S_iHalfWay_l10 X_iHalfWay_l10 (fun x => iHalfWay_l10 x.1 x.2.1 x.2.2.1 x.2.2.2.1 x.2.2.2.2.1 x.2.2.2.2.2.1 x.2.2.2.2.2.2.1 x.2.2.2.2.2.2.2) vs bs else .bad⟩ : Loops)

theorem iHalfWay_l5_e (s : List (List Int) × List (List Int) × Int × Int × List Int) : (loopStep (envT Try.prog C15 M3) L_iHalfWay_l5 5 (loopC (bodyOf Try.f25) 5) (S_iHalfWay_l5.enc (s.1, s.2.1, s.2.2.1, s.2.2.2.1, s.2.2.2.2)).1 (S_iHalfWay_l5.enc (s.1, s.2.1, s.2.2.1, s.2.2.2.1, s.2.2.2.2)).2).to (stepD S_iHalfWay_l5 X_iHalfWay_l5) = (iHalfWay_l5_t  s.1 s.2.1 s.2.2.1 s.2.2.2.1 s.2.2.2.2).map (Sum.map (fun s : List (List Int) × List (List Int) × Int × Int × List Int => (show DR S_iHalfWay_l5.hs from (s.1, s.2.1, s.2.2.1, s.2.2.2.1, s.2.2.2.2))) id) := by kernel_rfl

theorem iHalfWay_l5_r (x : DR S_iHalfWay_l5.hs) : (iHalfWay_l5 x.1 x.2.1 x.2.2.1 x.2.2.2.1 x.2.2.2.2 : Option (SumD (X_iHalfWay_l5.map (·.2)))) = runL (meanS (envT Try.prog C15 M3) L_iHalfWay_l5 5 (loopC (bodyOf Try.f25) 5) S_iHalfWay_l5 X_iHalfWay_l5) x := run_of (fun s : List (List Int) × List (List Int) × Int × Int × List Int => (show DR S_iHalfWay_l5.hs from (s.1, s.2.1, s.2.2.1, s.2.2.2.1, s.2.2.2.2))) (iHalfWay_l5_e ) (x.1, x.2.1, x.2.2.1, x.2.2.2.1, x.2.2.2.2)

theorem iHalfWay_l5_k (L : Loops) (hn : L_iHalfWay_l5.n = L.n) (hlv : L_iHalfWay_l5.lv 5 = L.lv 5) (hL : ∀ vs bs, L.loop 5 vs bs = toldL S_iHalfWay_l5 X_iHalfWay_l5 (fun x => iHalfWay_l5 x.1 x.2.1 x.2.2.1 x.2.2.2.1 x.2.2.2.2) vs bs) : LOk Try.prog (envT Try.prog C15 M3) L 5 (loopC (bodyOf Try.f25) 5) := toldL_ok (L1 := L_iHalfWay_l5) (envT_ok (C15_ok) (M3_ok)) mixedO hn hlv (loopsL (l := [(10, loopC (loopC (bodyOf Try.f25) 5) 10)]) (by kernel_rfl) (lk_cons (iHalfWay_l10_k _ rfl rfl (fun _ _ => rfl)) lk_nil)) iHalfWay_l5_r hL

def S_iHalfWay_l17 : Shp := ⟨[.h, .slw 0 1, .slw 1 1, .h, .h], [.arr [.i .i64] false, .arr [.i .i64] false], [.sl [.sl [.i .i64]], .i .i64, .i .i64, .sl [.i .i64], .sl [.i .i64]]⟩
def X_iHalfWay_l17 : List XShp := [(.exit 4, ⟨[.undef, .slw 0 1, .undef, .undef, .undef], [.arr [.i .i64] false], [.sl [.i .i64]]⟩)]

noncomputable def L_iHalfWay_l17 : Loops := (⟨96, lvT [(21, [0, 9, 10, 11, 12, 65, 66, 67, 72, 73, 74]), (17, [0, 9, 65, 66, 67]), (10, [0, 4, 32, 33, 34, 48, 49, 50]), (5, [0, 2, 3, 4, 32, 33, 34])], mdT [(21, .exit 6, [], [10, 11, 12, 72, 73, 74]), (17, .exit 4, [], [0, 65, 66, 67]), (10, .exit 2, [], [48, 49, 50]), (5, .normal, [], [2, 3]), (5, .exit 0, [], [2, 3, 32, 33, 34]), (5, .ret, [], [0, 4, 32, 33, 34])], fun k vs bs => bif Nat.beq k 21 then toldL S_iHalfWay_l21 X_iHalfWay_l21 (fun x => iHalfWay_l21 x.1 x.2.1 x.2.2.1 x.2.2.2.1 x.2.2.2.2.1 x.2.2.2.2.2.1 x.2.2.2.2.2.2.1 x.2.2.2.2.2.2.2.1 x.2.2.2.2.2.2.2.2.1 x.2.2.2.2.2.2.2.2.2.1 x.2.2.2.2.2.2.2.2.2.2) vs bs else .bad⟩ : Loops)

theorem iHalfWay_l17_e (s : List (List Int) × Int × Int × List Int × List Int) : (loopStep (envT Try.prog C15 M3) L_iHalfWay_l17 17 (loopC (bodyOf Try.f25) 17) (S_iHalfWay_l17.enc (s.1, s.2.1, s.2.2.1, s.2.2.2.1, s.2.2.2.2)).1 (S_iHalfWay_l17.enc (s.1, s.2.1, s.2.2.1, s.2.2.2.1, s.2.2.2.2)).2).to (stepD S_iHalfWay_l17 X_iHalfWay_l17) = (iHalfWay_l17_t  s.1 s.2.1 s.2.2.1 s.2.2.2.1 s.2.2.2.2).map (Sum.map (fun s : List (List Int) × Int × Int × List Int × List Int => (show DR S_iHalfWay_l17.hs from (s.1, s.2.1, s.2.2.1, s.2.2.2.1, s.2.2.2.2))) id) := by kernel_rfl

theorem iHalfWay_l17_r (x : DR S_iHalfWay_l17.hs) : (iHalfWay_l17 x.1 x.2.1 x.2.2.1 x.2.2.2.1 x.2.2.2.2 : Option (SumD (X_iHalfWay_l17.map (·.2)))) = runL (meanS (envT Try.prog C15 M3) L_iHalfWay_l17 17 (loopC (bodyOf Try.f25) 17) S_iHalfWay_l17 X_iHalfWay_l17) x := run_of (fun s : List (List Int) × Int × Int × List Int × List Int => (show DR S_iHalfWay_l17.hs from (s.1, s.2.1, s.2.2.1, s.2.2.2.1, s.2.2.2.2))) (iHalfWay_l17_e ) (x.1, x.2.1, x.2.2.1, x.2.2.2.1, x.2.2.2.2)

theorem iHalfWay_l17_k (L : Loops) (hn : L_iHalfWay_l17.n = L.n) (hlv : L_iHalfWay_l17.lv 17 = L.lv 17) (hL : ∀ vs bs, L.loop 17 vs bs = toldL S_iHalfWay_l17 X_iHalfWay_l17 (fun x => iHalfWay_l17 x.1 x.2.1 x.2.2.1 x.2.2.2.1 x.2.2.2.2) vs bs) : LOk Try.prog (envT Try.prog C15 M3) L 17 (loopC (bodyOf Try.f25) 17) := toldL_ok (L1 := L_iHalfWay_l17) (envT_ok (C15_ok) (M3_ok)) mixedO hn hlv (loopsL (l := [(21, loopC (loopC (bodyOf Try.f25) 17) 21)]) (by kernel_rfl) (lk_cons (iHalfWay_l21_k _ rfl rfl (fun _ _ => rfl)) lk_nil)) iHalfWay_l17_r hL

def A_iHalfWay : Shp := ⟨[.h], [], [.sl [.sl [.i .i64]]]⟩
def R_iHalfWay : List XShp := [(.ret, ⟨[.tup [.nils, .lb false]], [], []⟩), (.ret, ⟨[.tup [.slw 0 1, .lb true]], [.arr [.i .i64] false], [.sl [.i .i64]]⟩)]

noncomputable def L_iHalfWay : Loops := (⟨96, lvT [(21, [0, 9, 10, 11, 12, 65, 66, 67, 72, 73, 74]), (17, [0, 9, 65, 66, 67]), (10, [0, 4, 32, 33, 34, 48, 49, 50]), (5, [0, 2, 3, 4, 32, 33, 34])], mdT [(21, .exit 6, [], [10, 11, 12, 72, 73, 74]), (17, .exit 4, [], [0, 65, 66, 67]), (10, .exit 2, [], [48, 49, 50]), (5, .normal, [], [2, 3]), (5, .exit 0, [], [2, 3, 32, 33, 34]), (5, .ret, [], [0, 4, 32, 33, 34])], fun k vs bs => bif Nat.beq k 17 then toldL S_iHalfWay_l17 X_iHalfWay_l17 (fun x => iHalfWay_l17 x.1 x.2.1 x.2.2.1 x.2.2.2.1 x.2.2.2.2) vs bs else bif Nat.beq k 5 then toldL S_iHalfWay_l5 X_iHalfWay_l5 (fun x => iHalfWay_l5 x.1 x.2.1 x.2.2.1 x.2.2.2.1 x.2.2.2.2) vs bs else .bad⟩ : Loops)

theorem iHalfWay_e (x : DR A_iHalfWay.hs) : (evFn (envT Try.prog C15 M3) L_iHalfWay Try.f25 (A_iHalfWay.enc x).1).to (fun q => decX R_iHalfWay .ret [q.1] q.2) = iHalfWay_t x := by kernel_rfl

theorem iHalfWay_m (x : DR A_iHalfWay.hs) : meanF (envT Try.prog C15 M3) L_iHalfWay Try.f25 A_iHalfWay R_iHalfWay x = (show Option (SumD (R_iHalfWay.map (·.2))) from iHalfWay x) := meanF_of (iHalfWay_e x)

theorem iHalfWay_ok : SpecOk Try.prog 25 (evFn (envT Try.prog C15 M3) L_iHalfWay Try.f25) := fnL_ok (envT_ok (C15_ok) (M3_ok)) mixedO Try.func25 (by kernel_rfl) (c := bodyOf Try.f25) (by kernel_rfl) (loopsL (l := [(5, loopC (bodyOf Try.f25) 5), (17, loopC (bodyOf Try.f25) 17)]) (by kernel_rfl) (lk_cons (iHalfWay_l5_k _ rfl rfl (fun _ _ => rfl)) (lk_cons (iHalfWay_l17_k _ rfl rfl (fun _ _ => rfl)) lk_nil)))

theorem iHalfWay_told : SpecOk Try.prog 25 (toldO A_iHalfWay R_iHalfWay (fun x => iHalfWay x) (C15 25)) := toldO_ok (by kernel_rfl) iHalfWay_ok (rest_ok (C15_ok) _) iHalfWay_m

noncomputable def C16 : Tab := tab 25 (toldO A_iHalfWay R_iHalfWay (fun x => iHalfWay x) (C15 25)) C15
theorem C16_ok : TabOk Try.prog C16 := tab_ok (iHalfWay_told) (C15_ok)

def S_wFnSplits_l38 : Shp := ⟨[.undef, .slw 0 1, .h, .h, .h, .slw 1 1, .slw 2 1, .h, .h, .h, .h], [.arr [.i .i64] false, .arr [.i .i64] false, .arr [.i .i64] false], [.i .i64, .i .i64, .i .i64, .i .i64, .i .i64, .i .i64, .i .i64, .sl [.i .i64], .sl [.i .i64], .sl [.i .i64]]⟩
def X_wFnSplits_l38 : List XShp := [(.ret, ⟨[.lb false, .undef, .undef, .undef, .undef, .undef, .undef, .undef, .undef, .undef, .undef], [], []⟩), (.exit 8, ⟨[.undef, .slw 0 1, .h, .h, .h, .slw 1 1, .slw 2 1, .h, .h, .h, .undef], [.arr [.i .i64] false, .arr [.i .i64] false, .arr [.i .i64] false], [.i .i64, .i .i64, .i .i64, .i .i64, .i .i64, .i .i64, .sl [.i .i64], .sl [.i .i64], .sl [.i .i64]]⟩)]

noncomputable def L_wFnSplits_l38 : Loops := (⟨261, lvT [(55, [4, 5, 6, 24, 26]), (38, [4, 5, 6, 7, 10, 15, 17, 19, 20, 21, 22]), (35, [4, 5, 6, 7, 10, 15, 17, 19, 20, 21]), (26, [1, 5, 6, 7, 10, 15, 16]), (17, [1, 4, 5, 6, 7, 8, 10, 11, 13]), (12, [1, 5, 6, 7, 8, 10, 11, 12])], mdT [(55, .normal, [], [4]), (55, .exit 10, [], [4, 5, 6, 24, 26]), (55, .ret, [], [5, 6, 24, 26]), (38, .normal, [], [4]), (38, .exit 8, [], [4, 22]), (38, .ret, [], [5, 6, 7, 10, 15, 17, 19, 20, 21, 22]), (35, .normal, [], [4]), (35, .exit 6, [], [4, 15, 17, 20, 21]), (35, .ret, [], [5, 6, 7, 10, 15, 17, 19, 20, 21]), (26, .exit 4, [], [1, 16]), (17, .normal, [], [4]), (17, .exit 2, [], [4, 8, 13]), (17, .ret, [], [1, 5, 6, 7, 8, 10, 11, 13]), (12, .exit 0, [], [12])], fun k vs bs => .bad⟩ : Loops)

theorem wFnSplits_l38_e (y0 : Int) (y1 : Int) (y2 : Int) (y5 : Int) (y7 : List Int) (y8 : List Int) (y9 : List Int) (s : Int × Int × Int) : (loopStep (envT Try.prog C16 M3) L_wFnSplits_l38 38 (loopC (loopC (bodyOf Try.f6) 35) 38) (S_wFnSplits_l38.enc (y0, y1, y2, s.1, s.2.1, y5, s.2.2, y7, y8, y9)).1 (S_wFnSplits_l38.enc (y0, y1, y2, s.1, s.2.1, y5, s.2.2, y7, y8, y9)).2).to (stepD S_wFnSplits_l38 X_wFnSplits_l38) = (wFnSplits_l38_t y0 y1 y2 y5 y7 y8 y9 s.1 s.2.1 s.2.2).map (Sum.map (fun s : Int × Int × Int => (show DR S_wFnSplits_l38.hs from (y0, y1, y2, s.1, s.2.1, y5, s.2.2, y7, y8, y9))) id) := by kernel_rfl

theorem wFnSplits_l38_r (x : DR S_wFnSplits_l38.hs) : (wFnSplits_l38 x.1 x.2.1 x.2.2.1 x.2.2.2.1 x.2.2.2.2.1 x.2.2.2.2.2.1 x.2.2.2.2.2.2.1 x.2.2.2.2.2.2.2.1 x.2.2.2.2.2.2.2.2.1 x.2.2.2.2.2.2.2.2.2 : Option (SumD (X_wFnSplits_l38.map (·.2)))) = runL (meanS (envT Try.prog C16 M3) L_wFnSplits_l38 38 (loopC (loopC (bodyOf Try.f6) 35) 38) S_wFnSplits_l38 X_wFnSplits_l38) x := run_of (fun s : Int × Int × Int => (show DR S_wFnSplits_l38.hs from (x.1, x.2.1, x.2.2.1, s.1, s.2.1, x.2.2.2.2.2.1, s.2.2, x.2.2.2.2.2.2.2.1, x.2.2.2.2.2.2.2.2.1, x.2.2.2.2.2.2.2.2.2))) (wFnSplits_l38_e (x.1) (x.2.1) (x.2.2.1) (x.2.2.2.2.2.1) (x.2.2.2.2.2.2.2.1) (x.2.2.2.2.2.2.2.2.1) (x.2.2.2.2.2.2.2.2.2)) (x.2.2.2.1, x.2.2.2.2.1, x.2.2.2.2.2.2.1)

theorem wFnSplits_l38_k (L : Loops) (hn : L_wFnSplits_l38.n = L.n) (hlv : L_wFnSplits_l38.lv 38 = L.lv 38) (hL : ∀ vs bs, L.loop 38 vs bs = toldL S_wFnSplits_l38 X_wFnSplits_l38 (fun x => wFnSplits_l38 x.1 x.2.1 x.2.2.1 x.2.2.2.1 x.2.2.2.2.1 x.2.2.2.2.2.1 x.2.2.2.2.2.2.1 x.2.2.2.2.2.2.2.1 x.2.2.2.2.2.2.2.2.1 x.2.2.2.2.2.2.2.2.2) vs bs) : LOk Try.prog (envT Try.prog C16 M3) L 38 (loopC (loopC (bodyOf Try.f6) 35) 38) := toldL_ok (L1 := L_wFnSplits_l38) (envT_ok (C16_ok) (M3_ok)) mixedO hn hlv (loopFree_ok (by kernel_rfl)) wFnSplits_l38_r hL

def S_wFnSplits_l12 : Shp := ⟨[.h, .slw 0 1, .h, .h, .slw 1 1, .h, .h, .h], [.arr [.i .i64] false, .arr [.i .i64] false], [.sl [.i .u8], .i .i64, .i .i64, .i .i64, .i .i64, .i .i64, .sl [.i .i64], .sl [.i .i64]]⟩
def X_wFnSplits_l12 : List XShp := [(.exit 0, ⟨[.h, .slw 0 1, .h, .h, .slw 1 1, .h, .h, .undef], [.arr [.i .i64] false, .arr [.i .i64] false], [.sl [.i .u8], .i .i64, .i .i64, .i .i64, .i .i64, .sl [.i .i64], .sl [.i .i64]]⟩)]

noncomputable def L_wFnSplits_l12 : Loops := (⟨261, lvT [(55, [4, 5, 6, 24, 26]), (38, [4, 5, 6, 7, 10, 15, 17, 19, 20, 21, 22]), (35, [4, 5, 6, 7, 10, 15, 17, 19, 20, 21]), (26, [1, 5, 6, 7, 10, 15, 16]), (17, [1, 4, 5, 6, 7, 8, 10, 11, 13]), (12, [1, 5, 6, 7, 8, 10, 11, 12])], mdT [(55, .normal, [], [4]), (55, .exit 10, [], [4, 5, 6, 24, 26]), (55, .ret, [], [5, 6, 24, 26]), (38, .normal, [], [4]), (38, .exit 8, [], [4, 22]), (38, .ret, [], [5, 6, 7, 10, 15, 17, 19, 20, 21, 22]), (35, .normal, [], [4]), (35, .exit 6, [], [4, 15, 17, 20, 21]), (35, .ret, [], [5, 6, 7, 10, 15, 17, 19, 20, 21]), (26, .exit 4, [], [1, 16]), (17, .normal, [], [4]), (17, .exit 2, [], [4, 8, 13]), (17, .ret, [], [1, 5, 6, 7, 8, 10, 11, 13]), (12, .exit 0, [], [12])], fun k vs bs => .bad⟩ : Loops)

theorem wFnSplits_l12_e (y0 : List Int) (y1 : Int) (y2 : Int) (y6 : List Int) (y7 : List Int) (s : Int × Int × Int) : (loopStep (envT Try.prog C16 M3) L_wFnSplits_l12 12 (loopC (bodyOf Try.f6) 12) (S_wFnSplits_l12.enc (y0, y1, y2, s.1, s.2.1, s.2.2, y6, y7)).1 (S_wFnSplits_l12.enc (y0, y1, y2, s.1, s.2.1, s.2.2, y6, y7)).2).to (stepD S_wFnSplits_l12 X_wFnSplits_l12) = (wFnSplits_l12_t y0 y1 y2 y6 y7 s.1 s.2.1 s.2.2).map (Sum.map (fun s : Int × Int × Int => (show DR S_wFnSplits_l12.hs from (y0, y1, y2, s.1, s.2.1, s.2.2, y6, y7))) id) := by kernel_rfl

theorem wFnSplits_l12_r (x : DR S_wFnSplits_l12.hs) : (wFnSplits_l12 x.1 x.2.1 x.2.2.1 x.2.2.2.1 x.2.2.2.2.1 x.2.2.2.2.2.1 x.2.2.2.2.2.2.1 x.2.2.2.2.2.2.2 : Option (SumD (X_wFnSplits_l12.map (·.2)))) = runL (meanS (envT Try.prog C16 M3) L_wFnSplits_l12 12 (loopC (bodyOf Try.f6) 12) S_wFnSplits_l12 X_wFnSplits_l12) x := run_of (fun s : Int × Int × Int => (show DR S_wFnSplits_l12.hs from (x.1, x.2.1, x.2.2.1, s.1, s.2.1, s.2.2, x.2.2.2.2.2.2.1, x.2.2.2.2.2.2.2))) (wFnSplits_l12_e (x.1) (x.2.1) (x.2.2.1) (x.2.2.2.2.2.2.1) (x.2.2.2.2.2.2.2)) (x.2.2.2.1, x.2.2.2.2.1, x.2.2.2.2.2.1)

theorem wFnSplits_l12_k (L : Loops) (hn : L_wFnSplits_l12.n = L.n) (hlv : L_wFnSplits_l12.lv 12 = L.lv 12) (hL : ∀ vs bs, L.loop 12 vs bs = toldL S_wFnSplits_l12 X_wFnSplits_l12 (fun x => wFnSplits_l12 x.1 x.2.1 x.2.2.1 x.2.2.2.1 x.2.2.2.2.1 x.2.2.2.2.2.1 x.2.2.2.2.2.2.1 x.2.2.2.2.2.2.2) vs bs) : LOk Try.prog (envT Try.prog C16 M3) L 12 (loopC (bodyOf Try.f6) 12) := toldL_ok (L1 := L_wFnSplits_l12) (envT_ok (C16_ok) (M3_ok)) mixedO hn hlv (loopFree_ok (by kernel_rfl)) wFnSplits_l12_r hL

def S_wFnSplits_l17 : Shp := ⟨[.h, .undef, .slw 0 1, .h, .h, .slw 1 1, .h, .h, .h], [.arr [.i .i64] false, .arr [.i .i64] false], [.sl [.i .u8], .i .i64, .i .i64, .i .i64, .i .i64, .i .i64, .sl [.i .i64], .sl [.i .i64]]⟩
def X_wFnSplits_l17 : List XShp := [(.ret, ⟨[.undef, .lb false, .undef, .undef, .undef, .undef, .undef, .undef, .undef], [], []⟩), (.exit 2, ⟨[.h, .undef, .slw 0 1, .h, .h, .undef, .h, .h, .undef], [.arr [.i .i64] false], [.sl [.i .u8], .i .i64, .i .i64, .i .i64, .i .i64, .sl [.i .i64]]⟩)]

noncomputable def L_wFnSplits_l17 : Loops := (⟨261, lvT [(55, [4, 5, 6, 24, 26]), (38, [4, 5, 6, 7, 10, 15, 17, 19, 20, 21, 22]), (35, [4, 5, 6, 7, 10, 15, 17, 19, 20, 21]), (26, [1, 5, 6, 7, 10, 15, 16]), (17, [1, 4, 5, 6, 7, 8, 10, 11, 13]), (12, [1, 5, 6, 7, 8, 10, 11, 12])], mdT [(55, .normal, [], [4]), (55, .exit 10, [], [4, 5, 6, 24, 26]), (55, .ret, [], [5, 6, 24, 26]), (38, .normal, [], [4]), (38, .exit 8, [], [4, 22]), (38, .ret, [], [5, 6, 7, 10, 15, 17, 19, 20, 21, 22]), (35, .normal, [], [4]), (35, .exit 6, [], [4, 15, 17, 20, 21]), (35, .ret, [], [5, 6, 7, 10, 15, 17, 19, 20, 21]), (26, .exit 4, [], [1, 16]), (17, .normal, [], [4]), (17, .exit 2, [], [4, 8, 13]), (17, .ret, [], [1, 5, 6, 7, 8, 10, 11, 13]), (12, .exit 0, [], [12])], fun k vs bs => .bad⟩ : Loops)

theorem wFnSplits_l17_e (y0 : List Int) (y1 : Int) (y2 : Int) (y3 : Int) (y4 : Int) (y6 : List Int) (y7 : List Int) (s : Int) : (loopStep (envT Try.prog C16 M3) L_wFnSplits_l17 17 (loopC (bodyOf Try.f6) 17) (S_wFnSplits_l17.enc (y0, y1, y2, y3, y4, s, y6, y7)).1 (S_wFnSplits_l17.enc (y0, y1, y2, y3, y4, s, y6, y7)).2).to (stepD S_wFnSplits_l17 X_wFnSplits_l17) = (wFnSplits_l17_t y0 y1 y2 y3 y4 y6 y7 s).map (Sum.map (fun s : Int => (show DR S_wFnSplits_l17.hs from (y0, y1, y2, y3, y4, s, y6, y7))) id) := by kernel_rfl

theorem wFnSplits_l17_r (x : DR S_wFnSplits_l17.hs) : (wFnSplits_l17 x.1 x.2.1 x.2.2.1 x.2.2.2.1 x.2.2.2.2.1 x.2.2.2.2.2.1 x.2.2.2.2.2.2.1 x.2.2.2.2.2.2.2 : Option (SumD (X_wFnSplits_l17.map (·.2)))) = runL (meanS (envT Try.prog C16 M3) L_wFnSplits_l17 17 (loopC (bodyOf Try.f6) 17) S_wFnSplits_l17 X_wFnSplits_l17) x := run_of (fun s : Int => (show DR S_wFnSplits_l17.hs from (x.1, x.2.1, x.2.2.1, x.2.2.2.1, x.2.2.2.2.1, s, x.2.2.2.2.2.2.1, x.2.2.2.2.2.2.2))) (wFnSplits_l17_e (x.1) (x.2.1) (x.2.2.1) (x.2.2.2.1) (x.2.2.2.2.1) (x.2.2.2.2.2.2.1) (x.2.2.2.2.2.2.2)) x.2.2.2.2.2.1

theorem wFnSplits_l17_k (L : Loops) (hn : L_wFnSplits_l17.n = L.n) (hlv : L_wFnSplits_l17.lv 17 = L.lv 17) (hL : ∀ vs bs, L.loop 17 vs bs = toldL S_wFnSplits_l17 X_wFnSplits_l17 (fun x => wFnSplits_l17 x.1 x.2.1 x.2.2.1 x.2.2.2.1 x.2.2.2.2.1 x.2.2.2.2.2.1 x.2.2.2.2.2.2.1 x.2.2.2.2.2.2.2) vs bs) : LOk Try.prog (envT Try.prog C16 M3) L 17 (loopC (bodyOf Try.f6) 17) := toldL_ok (L1 := L_wFnSplits_l17) (envT_ok (C16_ok) (M3_ok)) mixedO hn hlv (loopFree_ok (by kernel_rfl)) wFnSplits_l17_r hL

def S_wFnSplits_l26 : Shp := ⟨[.h, .slw 0 1, .h, .h, .h, .slw 1 1, .h], [.arr [.i .i64] false, .arr [.i .i64] false], [.sl [.i .u8], .i .i64, .i .i64, .i .i64, .i .i64, .sl [.i .i64], .sl [.i .i64]]⟩
def X_wFnSplits_l26 : List XShp := [(.exit 4, ⟨[.undef, .slw 0 1, .h, .h, .h, .slw 1 1, .undef], [.arr [.i .i64] false, .arr [.i .i64] false], [.i .i64, .i .i64, .i .i64, .sl [.i .i64], .sl [.i .i64]]⟩)]

noncomputable def L_wFnSplits_l26 : Loops := (⟨261, lvT [(55, [4, 5, 6, 24, 26]), (38, [4, 5, 6, 7, 10, 15, 17, 19, 20, 21, 22]), (35, [4, 5, 6, 7, 10, 15, 17, 19, 20, 21]), (26, [1, 5, 6, 7, 10, 15, 16]), (17, [1, 4, 5, 6, 7, 8, 10, 11, 13]), (12, [1, 5, 6, 7, 8, 10, 11, 12])], mdT [(55, .normal, [], [4]), (55, .exit 10, [], [4, 5, 6, 24, 26]), (55, .ret, [], [5, 6, 24, 26]), (38, .normal, [], [4]), (38, .exit 8, [], [4, 22]), (38, .ret, [], [5, 6, 7, 10, 15, 17, 19, 20, 21, 22]), (35, .normal, [], [4]), (35, .exit 6, [], [4, 15, 17, 20, 21]), (35, .ret, [], [5, 6, 7, 10, 15, 17, 19, 20, 21]), (26, .exit 4, [], [1, 16]), (17, .normal, [], [4]), (17, .exit 2, [], [4, 8, 13]), (17, .ret, [], [1, 5, 6, 7, 8, 10, 11, 13]), (12, .exit 0, [], [12])], fun k vs bs => .bad⟩ : Loops)

theorem wFnSplits_l26_e (y0 : List Int) (y1 : Int) (y2 : Int) (y3 : Int) (y5 : List Int) (s : Int × List Int) : (loopStep (envT Try.prog C16 M3) L_wFnSplits_l26 26 (loopC (bodyOf Try.f6) 26) (S_wFnSplits_l26.enc (y0, y1, y2, y3, s.1, y5, s.2)).1 (S_wFnSplits_l26.enc (y0, y1, y2, y3, s.1, y5, s.2)).2).to (stepD S_wFnSplits_l26 X_wFnSplits_l26) = (wFnSplits_l26_t y0 y1 y2 y3 y5 s.1 s.2).map (Sum.map (fun s : Int × List Int => (show DR S_wFnSplits_l26.hs from (y0, y1, y2, y3, s.1, y5, s.2))) id) := by kernel_rfl

theorem wFnSplits_l26_r (x : DR S_wFnSplits_l26.hs) : (wFnSplits_l26 x.1 x.2.1 x.2.2.1 x.2.2.2.1 x.2.2.2.2.1 x.2.2.2.2.2.1 x.2.2.2.2.2.2 : Option (SumD (X_wFnSplits_l26.map (·.2)))) = runL (meanS (envT Try.prog C16 M3) L_wFnSplits_l26 26 (loopC (bodyOf Try.f6) 26) S_wFnSplits_l26 X_wFnSplits_l26) x := run_of (fun s : Int × List Int => (show DR S_wFnSplits_l26.hs from (x.1, x.2.1, x.2.2.1, x.2.2.2.1, s.1, x.2.2.2.2.2.1, s.2))) (wFnSplits_l26_e (x.1) (x.2.1) (x.2.2.1) (x.2.2.2.1) (x.2.2.2.2.2.1)) (x.2.2.2.2.1, x.2.2.2.2.2.2)

theorem wFnSplits_l26_k (L : Loops) (hn : L_wFnSplits_l26.n = L.n) (hlv : L_wFnSplits_l26.lv 26 = L.lv 26) (hL : ∀ vs bs, L.loop 26 vs bs = toldL S_wFnSplits_l26 X_wFnSplits_l26 (fun x => wFnSplits_l26 x.1 x.2.1 x.2.2.1 x.2.2.2.1 x.2.2.2.2.1 x.2.2.2.2.2.1 x.2.2.2.2.2.2) vs bs) : LOk Try.prog (envT Try.prog C16 M3) L 26 (loopC (bodyOf Try.f6) 26) := toldL_ok (L1 := L_wFnSplits_l26) (envT_ok (C16_ok) (M3_ok)) mixedO hn hlv (loopFree_ok (by kernel_rfl)) wFnSplits_l26_r hL

def S_wFnSplits_l35 : Shp := ⟨[.undef, .slw 0 1, .h, .h, .h, .slw 1 1, .slw 2 1, .h, .h, .h], [.arr [.i .i64] false, .arr [.i .i64] false, .arr [.i .i64] false], [.i .i64, .i .i64, .i .i64, .i .i64, .i .i64, .i .i64, .sl [.i .i64], .sl [.i .i64], .sl [.i .i64]]⟩
def X_wFnSplits_l35 : List XShp := [(.ret, ⟨[.lb false, .undef, .undef, .undef, .undef, .undef, .undef, .undef, .undef, .undef], [], []⟩), (.exit 6, ⟨[.undef, .slw 0 1, .h, .h, .h, .undef, .undef, .h, .undef, .undef], [.arr [.i .i64] false], [.i .i64, .i .i64, .i .i64, .i .i64, .sl [.i .i64]]⟩)]

noncomputable def L_wFnSplits_l35 : Loops := (⟨261, lvT [(55, [4, 5, 6, 24, 26]), (38, [4, 5, 6, 7, 10, 15, 17, 19, 20, 21, 22]), (35, [4, 5, 6, 7, 10, 15, 17, 19, 20, 21]), (26, [1, 5, 6, 7, 10, 15, 16]), (17, [1, 4, 5, 6, 7, 8, 10, 11, 13]), (12, [1, 5, 6, 7, 8, 10, 11, 12])], mdT [(55, .normal, [], [4]), (55, .exit 10, [], [4, 5, 6, 24, 26]), (55, .ret, [], [5, 6, 24, 26]), (38, .normal, [], [4]), (38, .exit 8, [], [4, 22]), (38, .ret, [], [5, 6, 7, 10, 15, 17, 19, 20, 21, 22]), (35, .normal, [], [4]), (35, .exit 6, [], [4, 15, 17, 20, 21]), (35, .ret, [], [5, 6, 7, 10, 15, 17, 19, 20, 21]), (26, .exit 4, [], [1, 16]), (17, .normal, [], [4]), (17, .exit 2, [], [4, 8, 13]), (17, .ret, [], [1, 5, 6, 7, 8, 10, 11, 13]), (12, .exit 0, [], [12])], fun k vs bs => bif Nat.beq k 38 then toldL S_wFnSplits_l38 X_wFnSplits_l38 (fun x => wFnSplits_l38 x.1 x.2.1 x.2.2.1 x.2.2.2.1 x.2.2.2.2.1 x.2.2.2.2.2.1 x.2.2.2.2.2.2.1 x.2.2.2.2.2.2.2.1 x.2.2.2.2.2.2.2.2.1 x.2.2.2.2.2.2.2.2.2) vs bs else .bad⟩ : Loops)

theorem wFnSplits_l35_e (s : Int × Int × Int × Int × Int × Int × List Int × List Int × List Int) : (loopStep (envT Try.prog C16 M3) L_wFnSplits_l35 35 (loopC (bodyOf Try.f6) 35) (S_wFnSplits_l35.enc (s.1, s.2.1, s.2.2.1, s.2.2.2.1, s.2.2.2.2.1, s.2.2.2.2.2.1, s.2.2.2.2.2.2.1, s.2.2.2.2.2.2.2.1, s.2.2.2.2.2.2.2.2)).1 (S_wFnSplits_l35.enc (s.1, s.2.1, s.2.2.1, s.2.2.2.1, s.2.2.2.2.1, s.2.2.2.2.2.1, s.2.2.2.2.2.2.1, s.2.2.2.2.2.2.2.1, s.2.2.2.2.2.2.2.2)).2).to (stepD S_wFnSplits_l35 X_wFnSplits_l35) = (wFnSplits_l35_t  s.1 s.2.1 s.2.2.1 s.2.2.2.1 s.2.2.2.2.1 s.2.2.2.2.2.1 s.2.2.2.2.2.2.1 s.2.2.2.2.2.2.2.1 s.2.2.2.2.2.2.2.2).map (Sum.map (fun s : Int × Int × Int × Int × Int × Int × List Int × List Int × List Int => (show DR S_wFnSplits_l35.hs from (s.1, s.2.1, s.2.2.1, s.2.2.2.1, s.2.2.2.2.1, s.2.2.2.2.2.1, s.2.2.2.2.2.2.1, s.2.2.2.2.2.2.2.1, s.2.2.2.2.2.2.2.2))) id) := by kernel_rfl

theorem wFnSplits_l35_r (x : DR S_wFnSplits_l35.hs) : (wFnSplits_l35 x.1 x.2.1 x.2.2.1 x.2.2.2.1 x.2.2.2.2.1 x.2.2.2.2.2.1 x.2.2.2.2.2.2.1 x.2.2.2.2.2.2.2.1 x.2.2.2.2.2.2.2.2 : Option (SumD (X_wFnSplits_l35.map (·.2)))) = runL (meanS (envT Try.prog C16 M3) L_wFnSplits_l35 35 (loopC (bodyOf Try.f6) 35) S_wFnSplits_l35 X_wFnSplits_l35) x := run_of (fun s : Int × Int × Int × Int × Int × Int × List Int × List Int × List Int => (show DR S_wFnSplits_l35.hs from (s.1, s.2.1, s.2.2.1, s.2.2.2.1, s.2.2.2.2.1, s.2.2.2.2.2.1, s.2.2.2.2.2.2.1, s.2.2.2.2.2.2.2.1, s.2.2.2.2.2.2.2.2))) (wFnSplits_l35_e ) (x.1, x.2.1, x.2.2.1, x.2.2.2.1, x.2.2.2.2.1, x.2.2.2.2.2.1, x.2.2.2.2.2.2.1, x.2.2.2.2.2.2.2.1, x.2.2.2.2.2.2.2.2)

theorem wFnSplits_l35_k (L : Loops) (hn : L_wFnSplits_l35.n = L.n) (hlv : L_wFnSplits_l35.lv 35 = L.lv 35) (hL : ∀ vs bs, L.loop 35 vs bs = toldL S_wFnSplits_l35 X_wFnSplits_l35 (fun x => wFnSplits_l35 x.1 x.2.1 x.2.2.1 x.2.2.2.1 x.2.2.2.2.1 x.2.2.2.2.2.1 x.2.2.2.2.2.2.1 x.2.2.2.2.2.2.2.1 x.2.2.2.2.2.2.2.2) vs bs) : LOk Try.prog (envT Try.prog C16 M3) L 35 (loopC (bodyOf Try.f6) 35) := toldL_ok (L1 := L_wFnSplits_l35) (envT_ok (C16_ok) (M3_ok)) mixedO hn hlv (loopsL (l := [(38, loopC (loopC (bodyOf Try.f6) 35) 38)]) (by kernel_rfl) (lk_cons (wFnSplits_l38_k _ rfl rfl (fun _ _ => rfl)) lk_nil)) wFnSplits_l35_r hL

def S_wFnSplits_l55 : Shp := ⟨[.undef, .slw 0 1, .h, .slw 1 1, .h], [.arr [.i .i64] true, .arr [.i .i64] false], [.i .i64, .i .i64, .sl [.i .i64], .sl [.i .i64]]⟩
def X_wFnSplits_l55 : List XShp := [(.ret, ⟨[.lb false, .undef, .undef, .undef, .undef], [], []⟩), (.exit 10, ⟨[.undef, .undef, .undef, .undef, .undef], [], []⟩)]

noncomputable def L_wFnSplits_l55 : Loops := (⟨261, lvT [(55, [4, 5, 6, 24, 26]), (38, [4, 5, 6, 7, 10, 15, 17, 19, 20, 21, 22]), (35, [4, 5, 6, 7, 10, 15, 17, 19, 20, 21]), (26, [1, 5, 6, 7, 10, 15, 16]), (17, [1, 4, 5, 6, 7, 8, 10, 11, 13]), (12, [1, 5, 6, 7, 8, 10, 11, 12])], mdT [(55, .normal, [], [4]), (55, .exit 10, [], [4, 5, 6, 24, 26]), (55, .ret, [], [5, 6, 24, 26]), (38, .normal, [], [4]), (38, .exit 8, [], [4, 22]), (38, .ret, [], [5, 6, 7, 10, 15, 17, 19, 20, 21, 22]), (35, .normal, [], [4]), (35, .exit 6, [], [4, 15, 17, 20, 21]), (35, .ret, [], [5, 6, 7, 10, 15, 17, 19, 20, 21]), (26, .exit 4, [], [1, 16]), (17, .normal, [], [4]), (17, .exit 2, [], [4, 8, 13]), (17, .ret, [], [1, 5, 6, 7, 8, 10, 11, 13]), (12, .exit 0, [], [12])], fun k vs bs => .bad⟩ : Loops)

theorem wFnSplits_l55_e (y0 : Int) (y2 : List Int) (y3 : List Int) (s : Int) : (loopStep (envT Try.prog C16 M3) L_wFnSplits_l55 55 (loopC (bodyOf Try.f6) 55) (S_wFnSplits_l55.enc (y0, s, y2, y3)).1 (S_wFnSplits_l55.enc (y0, s, y2, y3)).2).to (stepD S_wFnSplits_l55 X_wFnSplits_l55) = (wFnSplits_l55_t y0 y2 y3 s).map (Sum.map (fun s : Int => (show DR S_wFnSplits_l55.hs from (y0, s, y2, y3))) id) := by kernel_rfl

theorem wFnSplits_l55_r (x : DR S_wFnSplits_l55.hs) : (wFnSplits_l55 x.1 x.2.1 x.2.2.1 x.2.2.2 : Option (SumD (X_wFnSplits_l55.map (·.2)))) = runL (meanS (envT Try.prog C16 M3) L_wFnSplits_l55 55 (loopC (bodyOf Try.f6) 55) S_wFnSplits_l55 X_wFnSplits_l55) x := run_of (fun s : Int => (show DR S_wFnSplits_l55.hs from (x.1, s, x.2.2.1, x.2.2.2))) (wFnSplits_l55_e (x.1) (x.2.2.1) (x.2.2.2)) x.2.1

theorem wFnSplits_l55_k (L : Loops) (hn : L_wFnSplits_l55.n = L.n) (hlv : L_wFnSplits_l55.lv 55 = L.lv 55) (hL : ∀ vs bs, L.loop 55 vs bs = toldL S_wFnSplits_l55 X_wFnSplits_l55 (fun x => wFnSplits_l55 x.1 x.2.1 x.2.2.1 x.2.2.2) vs bs) : LOk Try.prog (envT Try.prog C16 M3) L 55 (loopC (bodyOf Try.f6) 55) := toldL_ok (L1 := L_wFnSplits_l55) (envT_ok (C16_ok) (M3_ok)) mixedO hn hlv (loopFree_ok (by kernel_rfl)) wFnSplits_l55_r hL

def A_wFnSplits : Shp := ⟨[.h, .h], [], [.sl [.i .u8], .sl [.i .u8]]⟩
def R_wFnSplits : List XShp := [(.ret, ⟨[.h], [], [.b]⟩)]

noncomputable def L_wFnSplits : Loops := (⟨261, lvT [(55, [4, 5, 6, 24, 26]), (38, [4, 5, 6, 7, 10, 15, 17, 19, 20, 21, 22]), (35, [4, 5, 6, 7, 10, 15, 17, 19, 20, 21]), (26, [1, 5, 6, 7, 10, 15, 16]), (17, [1, 4, 5, 6, 7, 8, 10, 11, 13]), (12, [1, 5, 6, 7, 8, 10, 11, 12])], mdT [(55, .normal, [], [4]), (55, .exit 10, [], [4, 5, 6, 24, 26]), (55, .ret, [], [5, 6, 24, 26]), (38, .normal, [], [4]), (38, .exit 8, [], [4, 22]), (38, .ret, [], [5, 6, 7, 10, 15, 17, 19, 20, 21, 22]), (35, .normal, [], [4]), (35, .exit 6, [], [4, 15, 17, 20, 21]), (35, .ret, [], [5, 6, 7, 10, 15, 17, 19, 20, 21]), (26, .exit 4, [], [1, 16]), (17, .normal, [], [4]), (17, .exit 2, [], [4, 8, 13]), (17, .ret, [], [1, 5, 6, 7, 8, 10, 11, 13]), (12, .exit 0, [], [12])], fun k vs bs => bif Nat.beq k 55 then toldL S_wFnSplits_l55 X_wFnSplits_l55 (fun x => wFnSplits_l55 x.1 x.2.1 x.2.2.1 x.2.2.2) vs bs else bif Nat.beq k 35 then toldL S_wFnSplits_l35 X_wFnSplits_l35 (fun x => wFnSplits_l35 x.1 x.2.1 x.2.2.1 x.2.2.2.1 x.2.2.2.2.1 x.2.2.2.2.2.1 x.2.2.2.2.2.2.1 x.2.2.2.2.2.2.2.1 x.2.2.2.2.2.2.2.2) vs bs else bif Nat.beq k 26 then toldL S_wFnSplits_l26 X_wFnSplits_l26 (fun x => wFnSplits_l26 x.1 x.2.1 x.2.2.1 x.2.2.2.1 x.2.2.2.2.1 x.2.2.2.2.2.1 x.2.2.2.2.2.2) vs bs else bif Nat.beq k 17 then toldL S_wFnSplits_l17 X_wFnSplits_l17 (fun x => wFnSplits_l17 x.1 x.2.1 x.2.2.1 x.2.2.2.1 x.2.2.2.2.1 x.2.2.2.2.2.1 x.2.2.2.2.2.2.1 x.2.2.2.2.2.2.2) vs bs else bif Nat.beq k 12 then toldL S_wFnSplits_l12 X_wFnSplits_l12 (fun x => wFnSplits_l12 x.1 x.2.1 x.2.2.1 x.2.2.2.1 x.2.2.2.2.1 x.2.2.2.2.2.1 x.2.2.2.2.2.2.1 x.2.2.2.2.2.2.2) vs bs else .bad⟩ : Loops)

theorem wFnSplits_e (x : DR A_wFnSplits.hs) : (evFn (envT Try.prog C16 M3) L_wFnSplits Try.f6 (A_wFnSplits.enc x).1).to (fun q => decX R_wFnSplits .ret [q.1] q.2) = wFnSplits_t x.1 x.2 := by kernel_rfl

theorem wFnSplits_m (x : DR A_wFnSplits.hs) : meanF (envT Try.prog C16 M3) L_wFnSplits Try.f6 A_wFnSplits R_wFnSplits x = (show Option (SumD (R_wFnSplits.map (·.2))) from wFnSplits x.1 x.2) := meanF_of (wFnSplits_e x)

theorem wFnSplits_ok : SpecOk Try.prog 6 (evFn (envT Try.prog C16 M3) L_wFnSplits Try.f6) := fnL_ok (envT_ok (C16_ok) (M3_ok)) mixedO Try.func6 (by kernel_rfl) (c := bodyOf Try.f6) (by kernel_rfl) (loopsL (l := [(12, loopC (bodyOf Try.f6) 12), (17, loopC (bodyOf Try.f6) 17), (26, loopC (bodyOf Try.f6) 26), (35, loopC (bodyOf Try.f6) 35), (55, loopC (bodyOf Try.f6) 55)]) (by kernel_rfl) (lk_cons (wFnSplits_l12_k _ rfl rfl (fun _ _ => rfl)) (lk_cons (wFnSplits_l17_k _ rfl rfl (fun _ _ => rfl)) (lk_cons (wFnSplits_l26_k _ rfl rfl (fun _ _ => rfl)) (lk_cons (wFnSplits_l35_k _ rfl rfl (fun _ _ => rfl)) (lk_cons (wFnSplits_l55_k _ rfl rfl (fun _ _ => rfl)) lk_nil))))))

theorem wFnSplits_told : SpecOk Try.prog 6 (toldO A_wFnSplits R_wFnSplits (fun x => wFnSplits x.1 x.2) (C16 6)) := toldO_ok (by kernel_rfl) wFnSplits_ok (rest_ok (C16_ok) _) wFnSplits_m

noncomputable def C17 : Tab := tab 6 (toldO A_wFnSplits R_wFnSplits (fun x => wFnSplits x.1 x.2) (C16 6)) C16
theorem C17_ok : TabOk Try.prog C17 := tab_ok (wFnSplits_told) (C16_ok)

theorem lawFnSplits_ok : SpecOk Try.prog 6 (evFn (envT Try.prog C16 M3) L_wFnSplits Try.f6) := wFnSplits_ok
theorem lawFnSplits_says (x : DR A_wFnSplits.hs) (h : (show Option (SumD (R_wFnSplits.map (·.2))) from wFnSplits x.1 x.2) = some true) : saysTrue (evFn (envT Try.prog C16 M3) L_wFnSplits Try.f6 (A_wFnSplits.enc x).1) = true := law_says (x := x) ((wFnSplits_m x).trans h)

theorem lawFnSplits_true (x0 : List Int) (x1 : List Int) (h : wFnSplits x0 x1 = some true) : saysTrue (evFn (envT Try.prog C16 M3) L_wFnSplits Try.f6 [.ds [.i .u8] x0, .ds [.i .u8] x1]) = true := (congrArg (fun l => saysTrue (evFn (envT Try.prog C16 M3) L_wFnSplits Try.f6 l)) (by kernel_rfl : ([.ds [.i .u8] x0, .ds [.i .u8] x1] : List V) = (A_wFnSplits.enc (x0, x1)).1)).trans (lawFnSplits_says (x0, x1) h)
end Go.Proofs.Ytcjekndobhkmbaa
