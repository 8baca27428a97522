/- The contracts of the functions on numbers. -/
import Derived.Test.YtikmeahdcipanaaEx
import Derived.Test.YtikmeahdcipanaaMb
import Derived.WalkLawsBesides
import Derived.Laws.BitsAllLaws
set_option linter.unusedVariables false
set_option linter.unusedSimpArgs false
namespace Go.Proofs.Ytikmeahdcipanaa
open Go.RowKit

set_option maxRecDepth 100000 in
set_option maxHeartbeats 400000 in
theorem l01Finite_c {x cx : Nat} (hx : Fl .f32 x cx) {w : World} : Calls Try.prog 68 #[.float .f32 x] w (RB w (isFin .f32 cx)) := by
  go_enter Try.func68, Try.ntmps68
  go_wp2_with (first | (refine wpList_farith rfl _ _ _ _ _ rfl rfl _ _ _ rfl rfl _ rfl ?_; intro r n hr; replace hr := hr _ _ (by first | assumption | exact fl_lit (by decide +kernel)) (by first | assumption | exact fl_lit (by decide +kernel))) | (refine wpList_fcmp rfl _ _ _ _ _ rfl _ _ _ rfl rfl _ rfl ?_; intro b hc; replace hc := hc _ _ (by first | assumption | exact fl_lit (by decide +kernel)) (by first | assumption | exact fl_lit (by decide +kernel)); cases b))
  all_goals
    go_ret
    first | exact RB.mk (by rw [← fin_sub]; assumption) | exact RB.mk0 (by rw [← fin_sub]; assumption)

set_option maxRecDepth 100000 in
set_option maxHeartbeats 400000 in
theorem isNaN_c {f cf : Nat} (hf : Fl .f64 f cf) {w : World} : Calls Try.prog 145 #[.float .f64 f] w (RB w (isN .f64 cf)) := by
  go_enter Try.func145, Try.ntmps145
  go_wp2_with (first | (refine wpList_farith rfl _ _ _ _ _ rfl rfl _ _ _ rfl rfl _ rfl ?_; intro r n hr; replace hr := hr _ _ (by first | assumption | exact fl_lit (by decide +kernel)) (by first | assumption | exact fl_lit (by decide +kernel))) | (refine wpList_fcmp rfl _ _ _ _ _ rfl _ _ _ rfl rfl _ rfl ?_; intro b hc; replace hc := hc _ _ (by first | assumption | exact fl_lit (by decide +kernel)) (by first | assumption | exact fl_lit (by decide +kernel)); cases b))
  all_goals
    go_ret
    exact RB.mk0 (by rw [feq_self] at hc; simpa using hc)

set_option maxRecDepth 100000 in
set_option maxHeartbeats 400000 in
theorem abs_c {x cx : Nat} (hx : Fl .f64 x cx) {w : World} : Calls Try.prog 149 #[.float .f64 x] w (RF .f64 w (fabs .f64 cx)) := by
  go_enter Try.func149, Try.ntmps149
  go_wp2_with (first | (refine wpList_ext rfl 151 _ _ rfl _ rfl (ext_bits64 (by first | assumption | exact fl_lit (by decide +kernel))) ?_; rintro _ n rfl) | (refine wpList_unsign rfl _ _ _ _ rfl _ rfl ?_ ‹Fl _ _ _›.lt ?_; exact (by decide)) | (refine wpList_ext rfl 150 _ _ rfl _ rfl (ext_from64 _) ?_; rintro _ n rfl))
  go_ret
  exact RF.mk (abs_fl hx)

set_option maxRecDepth 100000 in
set_option maxHeartbeats 400000 in
theorem isInf_c {x cx : Nat} (hx : Fl .f64 x cx) {w : World} : Calls Try.prog 146 #[.float .f64 x, .int .i64 0] w (RB w (isInf .f64 cx)) := by
  go_enter Try.func146, Try.ntmps146
  go_wp2_with (first | (go_at_call 149; refine (abs_c (by first | assumption | exact fl_lit (by decide +kernel))).mono ?_; rintro e w' ⟨r, hr, rfl, n, rfl⟩) | (refine wpList_fcmp rfl _ _ _ _ _ rfl _ _ _ rfl rfl _ rfl ?_; intro b hc; replace hc := hc _ _ (by first | assumption | exact fl_lit (by decide +kernel)) (by first | assumption | exact fl_lit (by decide +kernel)); cases b))
  all_goals
    go_ret
    exact RB.mk (by rw [← fgt_abs]; assumption)

set_option maxRecDepth 100000 in
set_option maxHeartbeats 400000 in
theorem finite_c {x cx : Nat} (hx : Fl .f64 x cx) {w : World} : Calls Try.prog 120 #[.float .f64 x] w (RB w (isFin .f64 cx)) := by
  go_enter Try.func120, Try.ntmps120
  go_wp2_with (first | (go_at_call 145; refine (isNaN_c (by first | assumption | exact fl_lit (by decide +kernel))).mono ?_; rintro e w' ⟨b, hb, rfl, n, rfl⟩; cases b) | (go_at_call 146; refine (isInf_c (by first | assumption | exact fl_lit (by decide +kernel))).mono ?_; rintro e w' ⟨b, hb, rfl, n, rfl⟩; cases b))
  all_goals
    go_ret
    first | exact RB.mk (by simp [fin_not, *]) | exact RB.mk0 (by simp [fin_not, *])

set_option maxRecDepth 100000 in
set_option maxHeartbeats 400000 in
theorem IsFinite_c {x cx : Nat} (hx : Fl .f32 x cx) {w : World} : Calls Try.prog 72 #[.float .f32 x] w (RB w (isFin .f32 cx)) := by
  go_enter Try.func72, Try.ntmps72
  go_wp2_with (first | (refine wpList_up rfl _ _ _ rfl _ rfl (by rw [Try.underlying25]; rfl) Try.underlying32 ?_; intro r n hr; replace hr := hr _ (by first | assumption | exact fl_lit (by decide +kernel))) | (go_at_call 120; refine (finite_c (by first | assumption | exact fl_lit (by decide +kernel))).mono ?_; rintro e w' ⟨b, hb, rfl, n, rfl⟩; cases b))
  all_goals
    go_ret
    first | exact RB.mk (by simp [← fin_up, *]) | exact RB.mk0 (by simp [← fin_up, *])

set_option maxRecDepth 100000 in
set_option maxHeartbeats 400000 in
theorem l02Above_c {x cx : Nat} (hx : Fl .f32 x cx) {w : World} : Calls Try.prog 77 #[.float .f32 x] w (RB w (isLen cx)) := by
  go_enter Try.func77, Try.ntmps77
  go_wp2_with (first | (go_at_call 68; refine (l01Finite_c (by first | assumption | exact fl_lit (by decide +kernel))).mono ?_; rintro e w' ⟨b, hb, rfl, n, rfl⟩; cases b) | (refine wpList_fcmp rfl _ _ _ _ _ rfl _ _ _ rfl rfl _ rfl ?_; intro b hc; replace hc := hc _ _ (by first | assumption | exact fl_lit (by decide +kernel)) (by first | assumption | exact fl_lit (by decide +kernel)); cases b))
  all_goals
    go_ret
    first | exact RB.mk (by simp [isLen, *]) | exact RB.mk0 (by simp [isLen, *])

set_option maxRecDepth 100000 in
set_option maxHeartbeats 400000 in
theorem aLength_c {x cx : Nat} (hx : Fl .f32 x cx) {w : World} : Calls Try.prog 81 #[.float .f32 x] w (RB w (isLen cx)) := by
  go_enter Try.func81, Try.ntmps81
  go_wp2_with (first | (go_at_call 72; refine (IsFinite_c (by first | assumption | exact fl_lit (by decide +kernel))).mono ?_; rintro e w' ⟨b, hb, rfl, n, rfl⟩; cases b) | (refine wpList_fcmp rfl _ _ _ _ _ rfl _ _ _ rfl rfl _ rfl ?_; intro b hc; replace hc := hc _ _ (by first | assumption | exact fl_lit (by decide +kernel)) (by first | assumption | exact fl_lit (by decide +kernel)); cases b))
  all_goals
    go_ret
    first | exact RB.mk (by simp [isLen, *]) | exact RB.mk0 (by simp [isLen, *])

set_option maxRecDepth 100000 in
set_option maxHeartbeats 400000 in
theorem l02Least_c {x cx : Nat} (hx : Fl .f32 x cx) {w : World} : Calls Try.prog 76 #[.float .f32 x] w (RB w (isMass cx)) := by
  go_enter Try.func76, Try.ntmps76
  go_wp2_with (first | (go_at_call 68; refine (l01Finite_c (by first | assumption | exact fl_lit (by decide +kernel))).mono ?_; rintro e w' ⟨b, hb, rfl, n, rfl⟩; cases b) | (refine wpList_fcmp rfl _ _ _ _ _ rfl _ _ _ rfl rfl _ rfl ?_; intro b hc; replace hc := hc _ _ (by first | assumption | exact fl_lit (by decide +kernel)) (by first | assumption | exact fl_lit (by decide +kernel)); cases b))
  all_goals
    go_ret
    first | exact RB.mk (by simp [isMass, *]) | exact RB.mk0 (by simp [isMass, *])

set_option maxRecDepth 100000 in
set_option maxHeartbeats 400000 in
theorem aMass_c {x cx : Nat} (hx : Fl .f32 x cx) {w : World} : Calls Try.prog 106 #[.float .f32 x] w (RB w (isMass cx)) := by
  go_enter Try.func106, Try.ntmps106
  go_wp2_with (first | (go_at_call 72; refine (IsFinite_c (by first | assumption | exact fl_lit (by decide +kernel))).mono ?_; rintro e w' ⟨b, hb, rfl, n, rfl⟩; cases b) | (refine wpList_fcmp rfl _ _ _ _ _ rfl _ _ _ rfl rfl _ rfl ?_; intro b hc; replace hc := hc _ _ (by first | assumption | exact fl_lit (by decide +kernel)) (by first | assumption | exact fl_lit (by decide +kernel)); cases b))
  all_goals
    go_ret
    first | exact RB.mk (by simp [isMass, *]) | exact RB.mk0 (by simp [isMass, *])

set_option maxRecDepth 100000 in
set_option maxHeartbeats 400000 in
theorem l02Number_c {x cx : Nat} (hx : Fl .f32 x cx) {w : World} : Calls Try.prog 69 #[.float .f32 x] w (RFB .f32 w (num32 cx)) := by
  go_enter Try.func69, Try.ntmps69
  go_wp2_with (first | (go_at_call 68; refine (l01Finite_c (by first | assumption | exact fl_lit (by decide +kernel))).mono ?_; rintro e w' ⟨b, hb, rfl, n, rfl⟩; cases b))
  all_goals
    go_ret2
    first | exact RFB.mk (by first | assumption | exact fl_lit (by decide +kernel)) (by simp [num32, *]) | exact RFB.mk0 (by first | assumption | exact fl_lit (by decide +kernel)) (by simp [num32, *])

set_option maxRecDepth 100000 in
set_option maxHeartbeats 400000 in
theorem finite32_c {x cx : Nat} (hx : Fl .f32 x cx) {w : World} : Calls Try.prog 73 #[.float .f32 x] w (RFB .f32 w (num32 cx)) := by
  go_enter Try.func73, Try.ntmps73
  go_wp2_with (first | (go_at_call 72; refine (IsFinite_c (by first | assumption | exact fl_lit (by decide +kernel))).mono ?_; rintro e w' ⟨b, hb, rfl, n, rfl⟩; cases b))
  all_goals
    go_ret2
    first | exact RFB.mk (by first | assumption | exact fl_lit (by decide +kernel)) (by simp [num32, *]) | exact RFB.mk0 (by first | assumption | exact fl_lit (by decide +kernel)) (by simp [num32, *])

end Go.Proofs.Ytikmeahdcipanaa

