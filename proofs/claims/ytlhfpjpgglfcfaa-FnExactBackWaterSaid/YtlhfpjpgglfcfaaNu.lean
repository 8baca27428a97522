/- The contracts of the functions on numbers. -/
import Derived.Test.YtlhfpjpgglfcfaaEx
import Derived.Test.YtlhfpjpgglfcfaaMb
import Derived.WalkLawsBesides
import Derived.Laws.BitsAllLaws
set_option linter.unusedVariables false
set_option linter.unusedSimpArgs false
namespace Go.Proofs.Ytlhfpjpgglfcfaa
open Go.RowKit

set_option maxRecDepth 100000 in
set_option maxHeartbeats 400000 in
theorem l01Finite_c {x cx : Nat} (hx : Fl .f32 x cx) {w : World} : Calls Try.prog 85 #[.float .f32 x] w (RB w (isFin .f32 cx)) := by
  go_enter Try.func85, Try.ntmps85
  go_wp2_with (first | (refine wpList_farith rfl _ _ _ _ _ rfl rfl _ _ _ rfl rfl _ rfl ?_; intro r n hr; replace hr := hr _ _ (by first | assumption | exact fl_lit (by decide +kernel)) (by first | assumption | exact fl_lit (by decide +kernel))) | (refine wpList_fcmp rfl _ _ _ _ _ rfl _ _ _ rfl rfl _ rfl ?_; intro b hc; replace hc := hc _ _ (by first | assumption | exact fl_lit (by decide +kernel)) (by first | assumption | exact fl_lit (by decide +kernel)); cases b))
  all_goals
    go_ret
    first | exact RB.mk (by rw [← fin_sub]; assumption) | exact RB.mk0 (by rw [← fin_sub]; assumption)

set_option maxRecDepth 100000 in
set_option maxHeartbeats 400000 in
theorem isNaN_c {f cf : Nat} (hf : Fl .f64 f cf) {w : World} : Calls Try.prog 119 #[.float .f64 f] w (RB w (isN .f64 cf)) := by
  go_enter Try.func119, Try.ntmps119
  go_wp2_with (first | (refine wpList_farith rfl _ _ _ _ _ rfl rfl _ _ _ rfl rfl _ rfl ?_; intro r n hr; replace hr := hr _ _ (by first | assumption | exact fl_lit (by decide +kernel)) (by first | assumption | exact fl_lit (by decide +kernel))) | (refine wpList_fcmp rfl _ _ _ _ _ rfl _ _ _ rfl rfl _ rfl ?_; intro b hc; replace hc := hc _ _ (by first | assumption | exact fl_lit (by decide +kernel)) (by first | assumption | exact fl_lit (by decide +kernel)); cases b))
  all_goals
    go_ret
    exact RB.mk0 (by rw [feq_self] at hc; simpa using hc)

set_option maxRecDepth 100000 in
set_option maxHeartbeats 400000 in
theorem abs_c {x cx : Nat} (hx : Fl .f64 x cx) {w : World} : Calls Try.prog 121 #[.float .f64 x] w (RF .f64 w (fabs .f64 cx)) := by
  go_enter Try.func121, Try.ntmps121
  go_wp2_with (first | (refine wpList_ext rfl 122 _ _ rfl _ rfl (ext_bits64 (by first | assumption | exact fl_lit (by decide +kernel))) ?_; rintro _ n rfl) | (refine wpList_unsign rfl _ _ _ _ rfl _ rfl ?_ ‹Fl _ _ _›.lt ?_; exact (by decide)) | (refine wpList_ext rfl 116 _ _ rfl _ rfl (ext_from64 _) ?_; rintro _ n rfl))
  go_ret
  exact RF.mk (abs_fl hx)

set_option maxRecDepth 100000 in
set_option maxHeartbeats 400000 in
theorem isInf_c {x cx : Nat} (hx : Fl .f64 x cx) {w : World} : Calls Try.prog 118 #[.float .f64 x, .int .i64 0] w (RB w (isInf .f64 cx)) := by
  go_enter Try.func118, Try.ntmps118
  go_wp2_with (first | (go_at_call 121; refine (abs_c (by first | assumption | exact fl_lit (by decide +kernel))).mono ?_; rintro e w' ⟨r, hr, rfl, n, rfl⟩) | (refine wpList_fcmp rfl _ _ _ _ _ rfl _ _ _ rfl rfl _ rfl ?_; intro b hc; replace hc := hc _ _ (by first | assumption | exact fl_lit (by decide +kernel)) (by first | assumption | exact fl_lit (by decide +kernel)); cases b))
  all_goals
    go_ret
    exact RB.mk (by rw [← fgt_abs]; assumption)

set_option maxRecDepth 100000 in
set_option maxHeartbeats 400000 in
theorem finite_c {x cx : Nat} (hx : Fl .f64 x cx) {w : World} : Calls Try.prog 109 #[.float .f64 x] w (RB w (isFin .f64 cx)) := by
  go_enter Try.func109, Try.ntmps109
  go_wp2_with (first | (go_at_call 119; refine (isNaN_c (by first | assumption | exact fl_lit (by decide +kernel))).mono ?_; rintro e w' ⟨b, hb, rfl, n, rfl⟩; cases b) | (go_at_call 118; refine (isInf_c (by first | assumption | exact fl_lit (by decide +kernel))).mono ?_; rintro e w' ⟨b, hb, rfl, n, rfl⟩; cases b))
  all_goals
    go_ret
    first | exact RB.mk (by simp [fin_not, *]) | exact RB.mk0 (by simp [fin_not, *])

set_option maxRecDepth 100000 in
set_option maxHeartbeats 400000 in
theorem IsFinite_c {x cx : Nat} (hx : Fl .f32 x cx) {w : World} : Calls Try.prog 86 #[.float .f32 x] w (RB w (isFin .f32 cx)) := by
  go_enter Try.func86, Try.ntmps86
  go_wp2_with (first | (refine wpList_up rfl _ _ _ rfl _ rfl (by rw [Try.underlying22]; rfl) Try.underlying30 ?_; intro r n hr; replace hr := hr _ (by first | assumption | exact fl_lit (by decide +kernel))) | (go_at_call 109; refine (finite_c (by first | assumption | exact fl_lit (by decide +kernel))).mono ?_; rintro e w' ⟨b, hb, rfl, n, rfl⟩; cases b))
  all_goals
    go_ret
    first | exact RB.mk (by simp [← fin_up, *]) | exact RB.mk0 (by simp [← fin_up, *])

set_option maxRecDepth 100000 in
set_option maxHeartbeats 400000 in
theorem l02Above_c {x cx : Nat} (hx : Fl .f32 x cx) {w : World} : Calls Try.prog 60 #[.float .f32 x] w (RB w (isLen cx)) := by
  go_enter Try.func60, Try.ntmps60
  go_wp2_with (first | (go_at_call 85; refine (l01Finite_c (by first | assumption | exact fl_lit (by decide +kernel))).mono ?_; rintro e w' ⟨b, hb, rfl, n, rfl⟩; cases b) | (refine wpList_fcmp rfl _ _ _ _ _ rfl _ _ _ rfl rfl _ rfl ?_; intro b hc; replace hc := hc _ _ (by first | assumption | exact fl_lit (by decide +kernel)) (by first | assumption | exact fl_lit (by decide +kernel)); cases b))
  all_goals
    go_ret
    first | exact RB.mk (by simp [isLen, *]) | exact RB.mk0 (by simp [isLen, *])

set_option maxRecDepth 100000 in
set_option maxHeartbeats 400000 in
theorem aLength_c {x cx : Nat} (hx : Fl .f32 x cx) {w : World} : Calls Try.prog 63 #[.float .f32 x] w (RB w (isLen cx)) := by
  go_enter Try.func63, Try.ntmps63
  go_wp2_with (first | (go_at_call 86; refine (IsFinite_c (by first | assumption | exact fl_lit (by decide +kernel))).mono ?_; rintro e w' ⟨b, hb, rfl, n, rfl⟩; cases b) | (refine wpList_fcmp rfl _ _ _ _ _ rfl _ _ _ rfl rfl _ rfl ?_; intro b hc; replace hc := hc _ _ (by first | assumption | exact fl_lit (by decide +kernel)) (by first | assumption | exact fl_lit (by decide +kernel)); cases b))
  all_goals
    go_ret
    first | exact RB.mk (by simp [isLen, *]) | exact RB.mk0 (by simp [isLen, *])

set_option maxRecDepth 100000 in
set_option maxHeartbeats 400000 in
theorem l02Least_c {x cx : Nat} (hx : Fl .f32 x cx) {w : World} : Calls Try.prog 90 #[.float .f32 x] w (RB w (isMass cx)) := by
  go_enter Try.func90, Try.ntmps90
  go_wp2_with (first | (go_at_call 85; refine (l01Finite_c (by first | assumption | exact fl_lit (by decide +kernel))).mono ?_; rintro e w' ⟨b, hb, rfl, n, rfl⟩; cases b) | (refine wpList_fcmp rfl _ _ _ _ _ rfl _ _ _ rfl rfl _ rfl ?_; intro b hc; replace hc := hc _ _ (by first | assumption | exact fl_lit (by decide +kernel)) (by first | assumption | exact fl_lit (by decide +kernel)); cases b))
  all_goals
    go_ret
    first | exact RB.mk (by simp [isMass, *]) | exact RB.mk0 (by simp [isMass, *])

set_option maxRecDepth 100000 in
set_option maxHeartbeats 400000 in
theorem aMass_c {x cx : Nat} (hx : Fl .f32 x cx) {w : World} : Calls Try.prog 93 #[.float .f32 x] w (RB w (isMass cx)) := by
  go_enter Try.func93, Try.ntmps93
  go_wp2_with (first | (go_at_call 86; refine (IsFinite_c (by first | assumption | exact fl_lit (by decide +kernel))).mono ?_; rintro e w' ⟨b, hb, rfl, n, rfl⟩; cases b) | (refine wpList_fcmp rfl _ _ _ _ _ rfl _ _ _ rfl rfl _ rfl ?_; intro b hc; replace hc := hc _ _ (by first | assumption | exact fl_lit (by decide +kernel)) (by first | assumption | exact fl_lit (by decide +kernel)); cases b))
  all_goals
    go_ret
    first | exact RB.mk (by simp [isMass, *]) | exact RB.mk0 (by simp [isMass, *])

set_option maxRecDepth 100000 in
set_option maxHeartbeats 400000 in
theorem l02Number_c {x cx : Nat} (hx : Fl .f32 x cx) {w : World} : Calls Try.prog 52 #[.float .f32 x] w (RFB .f32 w (num32 cx)) := by
  go_enter Try.func52, Try.ntmps52
  go_wp2_with (first | (go_at_call 85; refine (l01Finite_c (by first | assumption | exact fl_lit (by decide +kernel))).mono ?_; rintro e w' ⟨b, hb, rfl, n, rfl⟩; cases b))
  all_goals
    go_ret2
    first | exact RFB.mk (by first | assumption | exact fl_lit (by decide +kernel)) (by simp [num32, *]) | exact RFB.mk0 (by first | assumption | exact fl_lit (by decide +kernel)) (by simp [num32, *])

set_option maxRecDepth 100000 in
set_option maxHeartbeats 400000 in
theorem finite32_c {x cx : Nat} (hx : Fl .f32 x cx) {w : World} : Calls Try.prog 48 #[.float .f32 x] w (RFB .f32 w (num32 cx)) := by
  go_enter Try.func48, Try.ntmps48
  go_wp2_with (first | (go_at_call 86; refine (IsFinite_c (by first | assumption | exact fl_lit (by decide +kernel))).mono ?_; rintro e w' ⟨b, hb, rfl, n, rfl⟩; cases b))
  all_goals
    go_ret2
    first | exact RFB.mk (by first | assumption | exact fl_lit (by decide +kernel)) (by simp [num32, *]) | exact RFB.mk0 (by first | assumption | exact fl_lit (by decide +kernel)) (by simp [num32, *])

end Go.Proofs.Ytlhfpjpgglfcfaa

