/- Waves. -/
import Derived.Test.YtihoaflcjkppnaaNv
import Derived.Test.YtihoaflcjkppnaaDf
import Derived.Test.YtihoaflcjkppnaaRg
set_option linter.unusedVariables false
set_option linter.unusedSimpArgs false
namespace Go.Proofs.Ytihoaflcjkppnaa
open Go.RowKit

set_option maxRecDepth 100000 in
set_option maxHeartbeats 400000 in
theorem l05Flow_c {x cx : Nat} (hx : Fl .f32 x cx) {y cy : Nat} (hy : Fl .f32 y cy) {w : World} : Calls Try.prog 71 #[.float .f32 x, .float .f32 y] w (RF .f32 w (wFlow cx cy)) := by
  go_enter Try.func71, Try.ntmps71
  go_wp2_with (first | (go_at_call 91; refine (l01Sqrt_c (by first | assumption | exact fl_lit (by decide +kernel))).mono ?_; rintro e w' ⟨r, hr, rfl, n, rfl⟩) | (refine wpList_farith rfl _ _ _ _ _ rfl rfl _ _ _ rfl rfl _ rfl ?_; intro r n hr; replace hr := hr _ _ (by first | assumption | exact fl_lit (by decide +kernel)) (by first | assumption | exact fl_lit (by decide +kernel))) | (refine wpList_fsame rfl _ _ _ rfl _ _ rfl (by rw [Try.underlying22]; rfl) Try.underlying22 ?_))
  all_goals
    go_ret
    first | exact RF.mk (by first | assumption | (simp only [wFlow, *]; assumption)) | exact RF.mk0 (by first | assumption | (simp only [wFlow, *]; assumption))

set_option maxRecDepth 100000 in
set_option maxHeartbeats 400000 in
theorem waveFlow_c {x cx : Nat} (hx : Fl .f32 x cx) {y cy : Nat} (hy : Fl .f32 y cy) {w : World} : Calls Try.prog 73 #[.float .f32 x, .float .f32 y] w (RF .f32 w (wFlow cx cy)) := by
  go_enter Try.func73, Try.ntmps73
  go_wp2_with (first | (go_at_call 92; refine (RootNumber_c (by first | assumption | exact fl_lit (by decide +kernel))).mono ?_; rintro e w' ⟨r, hr, rfl, n, rfl⟩) | (refine wpList_farith rfl _ _ _ _ _ rfl rfl _ _ _ rfl rfl _ rfl ?_; intro r n hr; replace hr := hr _ _ (by first | assumption | exact fl_lit (by decide +kernel)) (by first | assumption | exact fl_lit (by decide +kernel))) | (refine wpList_fsame rfl _ _ _ rfl _ _ rfl (by rw [Try.underlying22]; rfl) Try.underlying22 ?_))
  all_goals
    go_ret
    first | exact RF.mk (by first | assumption | (simp only [wFlow, *]; assumption)) | exact RF.mk0 (by first | assumption | (simp only [wFlow, *]; assumption))

set_option maxRecDepth 100000 in
set_option maxHeartbeats 400000 in
theorem specWave_c {x cx : Nat} (hx : Fl .f32 x cx) {y cy : Nat} (hy : Fl .f32 y cy) {w : World} : Calls Try.prog 33 #[.float .f32 x, .float .f32 y] w (RFB .f32 w (waveF cx cy)) := by
  go_enter Try.func33, Try.ntmps33
  go_wp2_with (first | (go_at_call 58; refine (l02Above_c (by first | assumption | exact fl_lit (by decide +kernel))).mono ?_; rintro e w' ⟨b, hb, rfl, n, rfl⟩; cases b) | (go_at_call 70; refine (l02Least_c (by first | assumption | exact fl_lit (by decide +kernel))).mono ?_; rintro e w' ⟨b, hb, rfl, n, rfl⟩; cases b) | (go_at_call 71; refine (l05Flow_c (by first | assumption | exact fl_lit (by decide +kernel)) (by first | assumption | exact fl_lit (by decide +kernel))).mono ?_; rintro e w' ⟨r, hr, rfl, n, rfl⟩) | (go_at_call 55; refine (l02Number_c (by first | assumption | exact fl_lit (by decide +kernel))).mono ?_; rintro e w' ⟨r, b, hr, hb, rfl, n, rfl⟩; cases b))
  all_goals
    go_ret2
    first | exact RFB.mk (by first | assumption | exact fl_lit (by decide +kernel)) (by simp [waveF, Prod.ext_iff, *]) | exact RFB.mk0 (by first | assumption | exact fl_lit (by decide +kernel)) (by simp [waveF, Prod.ext_iff, *])

set_option maxRecDepth 100000 in
set_option maxHeartbeats 400000 in
theorem implWave_c {x cx : Nat} (hx : Fl .f32 x cx) {y cy : Nat} (hy : Fl .f32 y cy) {w : World} : Calls Try.prog 34 #[.float .f32 x, .float .f32 y] w (RFB .f32 w (waveF cx cy)) := by
  go_enter Try.func34, Try.ntmps34
  go_wp2_with (first | (go_at_call 53; refine (aLength_c (by first | assumption | exact fl_lit (by decide +kernel))).mono ?_; rintro e w' ⟨b, hb, rfl, n, rfl⟩; cases b) | (go_at_call 72; refine (aMass_c (by first | assumption | exact fl_lit (by decide +kernel))).mono ?_; rintro e w' ⟨b, hb, rfl, n, rfl⟩; cases b) | (go_at_call 73; refine (waveFlow_c (by first | assumption | exact fl_lit (by decide +kernel)) (by first | assumption | exact fl_lit (by decide +kernel))).mono ?_; rintro e w' ⟨r, hr, rfl, n, rfl⟩) | (go_at_call 57; refine (finite32_c (by first | assumption | exact fl_lit (by decide +kernel))).mono ?_; rintro e w' ⟨r, b, hr, hb, rfl, n, rfl⟩; cases b))
  all_goals
    go_ret2
    first | exact RFB.mk (by first | assumption | exact fl_lit (by decide +kernel)) (by simp [waveF, Prod.ext_iff, *]) | exact RFB.mk0 (by first | assumption | exact fl_lit (by decide +kernel)) (by simp [waveF, Prod.ext_iff, *])

set_option maxRecDepth 100000 in
set_option maxHeartbeats 1000000 in
theorem lawWaveFlow {w : World} {x y cx cy : Nat} (hx : Fl .f32 x cx) (hy : Fl .f32 y cy) :
    Calls Try.prog 8 #[.float .f32 x, .float .f32 y] w (BV w (.bool true)) := by
  go_enter Try.func8, Try.ntmps8
  go_wp2_with (first | (go_at_call 33; refine (specWave_c (by first | assumption | exact fl_lit (by decide +kernel)) (by first | assumption | exact fl_lit (by decide +kernel))).mono ?_; rintro e w' ⟨r, b, hr, hb, rfl, n, rfl⟩; cases b) | (go_at_call 34; refine (implWave_c (by first | assumption | exact fl_lit (by decide +kernel)) (by first | assumption | exact fl_lit (by decide +kernel))).mono ?_; rintro e w' ⟨r, b, hr, hb, rfl, n, rfl⟩; cases b) | (refine wpList_up rfl _ _ _ rfl _ rfl (by rw [Try.underlying22]; rfl) Try.underlying32 ?_; intro r n hr; replace hr := hr _ (by first | assumption | exact fl_lit (by decide +kernel))) | (go_at_call 20; refine (sameFloat_c (by first | assumption | exact fl_lit (by decide +kernel)) (by first | assumption | exact fl_lit (by decide +kernel))).mono ?_; rintro e w' ⟨b, hb, rfl, n, rfl⟩; cases b))
  all_goals first | (go_ret; exact BV.mk rfl (by repeat (first | exact Below.refl _ _ | assumption | refine Below.draws ?_ _ | refine Below.drew ?_ | refine below_plus ?_ (by first | omega | (simp only [World.size_alloc, World.size_setCell, World.heap_drewN, size_plus]; omega) | (simp; done) | (simp; omega)) _ _ | refine Below.alloc ?_ (by first | omega | (simp only [World.size_alloc, World.size_setCell, World.heap_drewN, size_plus]; omega) | (simp; done) | (simp; omega)) _ | refine Below.setCell ?_ (by first | omega | (simp only [World.size_alloc, World.size_setCell, World.heap_drewN, size_plus]; omega) | (simp; done) | (simp; omega)) _))) | (exfalso; simp_all; done) | (exfalso; contradiction)

end Go.Proofs.Ytihoaflcjkppnaa
