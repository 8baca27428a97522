/- The contracts of the functions on numbers, part 2. -/
import Derived.Test.YtikmeahdcipanaaNu
set_option linter.unusedVariables false
set_option linter.unusedSimpArgs false
namespace Go.Proofs.Ytikmeahdcipanaa
open Go.RowKit

set_option maxRecDepth 100000 in
set_option maxHeartbeats 400000 in
theorem sameFloat_c {x y c : Nat} (hx : Fl .f64 x c) (hy : Fl .f64 y c) {w : World} : Calls Try.prog 19 #[.float .f64 x, .float .f64 y] w (RB w true) := by
  have f1 := feq_self .f64 c
  cases nx : isN .f64 c
  all_goals
    rw [nx] at f1
    go_enter Try.func19, Try.ntmps19
    go_wp2_with (first | (refine wpList_fcmp rfl _ _ _ _ _ rfl _ _ _ rfl rfl _ rfl ?_; intro b hc; replace hc := hc _ _ (by first | assumption | exact fl_lit (by decide +kernel)) (by first | assumption | exact fl_lit (by decide +kernel)); cases b) | (refine wpList_farith rfl _ _ _ _ _ rfl rfl _ _ _ rfl rfl _ rfl ?_; intro r n hr; replace hr := hr _ _ (by first | assumption | exact fl_lit (by decide +kernel)) (by first | assumption | exact fl_lit (by decide +kernel))))
    all_goals first | (exfalso; simp_all; done) | (go_ret; first | exact RB.mk0 (by simp [*]) | exact RB.mk (by simp [*]))

set_option maxRecDepth 100000 in
set_option maxHeartbeats 400000 in
theorem Sqrt_c {x cx : Nat} (hx : Fl .f64 x cx) {w : World} : Calls Try.prog 134 #[.float .f64 x] w (RF .f64 w (fsqrt .f64 cx)) := by
  go_enter Try.func134, Try.ntmps134
  go_wp2_with (first | (refine wpList_ext rfl 148 _ _ rfl _ rfl (ext_sqrt (by first | assumption | exact fl_lit (by decide +kernel))) ?_; rintro _ n ⟨r, rfl, hr⟩))
  all_goals
    go_ret
    first | exact RF.mk (by first | assumption | (simp only [fop_add, *]; assumption)) | exact RF.mk0 (by first | assumption | (simp only [fop_add, *]; assumption))

set_option maxRecDepth 100000 in
set_option maxHeartbeats 400000 in
theorem l01Narrow_c {x cx : Nat} (hx : Fl .f64 x cx) (hov : fover cx = false) {w : World} : Calls Try.prog 139 #[.float .f64 x] w (RF .f32 w (fdown cx)) := by
  go_enter Try.func139, Try.ntmps139
  go_wp2_with (first | (refine wpList_down rfl _ _ _ rfl _ rfl (by rw [Try.underlying32]; rfl) Try.underlying25 ?_; intro r n c' hr hd; replace hd := hd _ (by first | assumption | exact fl_lit (by decide +kernel)); obtain rfl := hd hov))
  go_ret
  exact RF.mk (by assumption)

set_option maxRecDepth 100000 in
set_option maxHeartbeats 400000 in
theorem l01Sqrt_c {x cx : Nat} (hx : Fl .f32 x cx) {w : World} : Calls Try.prog 132 #[.float .f32 x] w (RF .f32 w (froot cx)) := by
  go_enter Try.func132, Try.ntmps132
  go_wp2_with (first | (refine wpList_up rfl _ _ _ rfl _ rfl (by rw [Try.underlying25]; rfl) Try.underlying32 ?_; intro r n hr; replace hr := hr _ (by first | assumption | exact fl_lit (by decide +kernel))) | (go_at_call 134; refine (Sqrt_c (by first | assumption | exact fl_lit (by decide +kernel))).mono ?_; rintro e w' ⟨r, hr, rfl, n, rfl⟩) | (go_at_call 139; refine (l01Narrow_c (by first | assumption | exact fl_lit (by decide +kernel)) (fover_root _)).mono ?_; rintro e w' ⟨r, hr, rfl, n, rfl⟩))
  all_goals
    go_ret
    first | exact RF.mk (by first | assumption | (simp only [fop_add, *]; assumption)) | exact RF.mk0 (by first | assumption | (simp only [fop_add, *]; assumption))

set_option maxRecDepth 100000 in
set_option maxHeartbeats 400000 in
theorem RootNumber_c {x cx : Nat} (hx : Fl .f32 x cx) {w : World} : Calls Try.prog 107 #[.float .f32 x] w (RF .f32 w (froot cx)) := by
  go_enter Try.func107, Try.ntmps107
  go_wp2_with (first | (refine wpList_up rfl _ _ _ rfl _ rfl (by rw [Try.underlying25]; rfl) Try.underlying32 ?_; intro r n hr; replace hr := hr _ (by first | assumption | exact fl_lit (by decide +kernel))) | (go_at_call 134; refine (Sqrt_c (by first | assumption | exact fl_lit (by decide +kernel))).mono ?_; rintro e w' ⟨r, hr, rfl, n, rfl⟩) | (refine wpList_down rfl _ _ _ rfl _ rfl (by rw [Try.underlying32]; rfl) Try.underlying25 ?_; intro r n c' hr hd; replace hd := hd _ (by first | assumption | exact fl_lit (by decide +kernel)); obtain rfl := hd (fover_root _)))
  all_goals
    go_ret
    first | exact RF.mk (by first | assumption | (simp only [fop_add, *]; assumption)) | exact RF.mk0 (by first | assumption | (simp only [fop_add, *]; assumption))

end Go.Proofs.Ytikmeahdcipanaa

