/- The contracts of the functions on numbers. -/
import Derived.Test.YtpglfnkkmafhbaaEx
import Derived.Test.YtpglfnkkmafhbaaMb
import Derived.WalkLawsBesides
import Derived.Laws.BitsAllLaws
set_option linter.unusedVariables false
set_option linter.unusedSimpArgs false
namespace Go.Proofs.Ytpglfnkkmafhbaa
open Go.RowKit

set_option maxRecDepth 100000 in
set_option maxHeartbeats 400000 in
theorem l01Finite_c {x cx : Nat} (hx : Fl .f32 x cx) {w : World} : Calls Try.prog 113 #[.float .f32 x] w (RB w (isFin .f32 cx)) := by
  go_enter Try.func113, Try.ntmps113
  go_wp2_with (first | (refine wpList_farith rfl _ _ _ _ _ rfl rfl _ _ _ rfl rfl _ rfl ?_; intro r n hr; replace hr := hr _ _ (by first | assumption | exact fl_lit (by decide +kernel)) (by first | assumption | exact fl_lit (by decide +kernel))) | (refine wpList_fcmp rfl _ _ _ _ _ rfl _ _ _ rfl rfl _ rfl ?_; intro b hc; replace hc := hc _ _ (by first | assumption | exact fl_lit (by decide +kernel)) (by first | assumption | exact fl_lit (by decide +kernel)); cases b))
  all_goals
    go_ret
    first | exact RB.mk (by rw [← fin_sub]; assumption) | exact RB.mk0 (by rw [← fin_sub]; assumption)

set_option maxRecDepth 100000 in
set_option maxHeartbeats 400000 in
theorem isNaN_c {f cf : Nat} (hf : Fl .f64 f cf) {w : World} : Calls Try.prog 124 #[.float .f64 f] w (RB w (isN .f64 cf)) := by
  go_enter Try.func124, Try.ntmps124
  go_wp2_with (first | (refine wpList_farith rfl _ _ _ _ _ rfl rfl _ _ _ rfl rfl _ rfl ?_; intro r n hr; replace hr := hr _ _ (by first | assumption | exact fl_lit (by decide +kernel)) (by first | assumption | exact fl_lit (by decide +kernel))) | (refine wpList_fcmp rfl _ _ _ _ _ rfl _ _ _ rfl rfl _ rfl ?_; intro b hc; replace hc := hc _ _ (by first | assumption | exact fl_lit (by decide +kernel)) (by first | assumption | exact fl_lit (by decide +kernel)); cases b))
  all_goals
    go_ret
    exact RB.mk0 (by rw [feq_self] at hc; simpa using hc)

set_option maxRecDepth 100000 in
set_option maxHeartbeats 400000 in
theorem abs_c {x cx : Nat} (hx : Fl .f64 x cx) {w : World} : Calls Try.prog 123 #[.float .f64 x] w (RF .f64 w (fabs .f64 cx)) := by
  go_enter Try.func123, Try.ntmps123
  go_wp2_with (first | (refine wpList_ext rfl 133 _ _ rfl _ rfl (ext_bits64 (by first | assumption | exact fl_lit (by decide +kernel))) ?_; rintro _ n rfl) | (refine wpList_unsign rfl _ _ _ _ rfl _ rfl ?_ ‹Fl _ _ _›.lt ?_; exact (by decide)) | (refine wpList_ext rfl 131 _ _ rfl _ rfl (ext_from64 _) ?_; rintro _ n rfl))
  go_ret
  exact RF.mk (abs_fl hx)

set_option maxRecDepth 100000 in
set_option maxHeartbeats 400000 in
theorem isInf_c {x cx : Nat} (hx : Fl .f64 x cx) {w : World} : Calls Try.prog 125 #[.float .f64 x, .int .i64 0] w (RB w (isInf .f64 cx)) := by
  go_enter Try.func125, Try.ntmps125
  go_wp2_with (first | (go_at_call 123; refine (abs_c (by first | assumption | exact fl_lit (by decide +kernel))).mono ?_; rintro e w' ⟨r, hr, rfl, n, rfl⟩) | (refine wpList_fcmp rfl _ _ _ _ _ rfl _ _ _ rfl rfl _ rfl ?_; intro b hc; replace hc := hc _ _ (by first | assumption | exact fl_lit (by decide +kernel)) (by first | assumption | exact fl_lit (by decide +kernel)); cases b))
  all_goals
    go_ret
    exact RB.mk (by rw [← fgt_abs]; assumption)

set_option maxRecDepth 100000 in
set_option maxHeartbeats 400000 in
theorem finite_c {x cx : Nat} (hx : Fl .f64 x cx) {w : World} : Calls Try.prog 100 #[.float .f64 x] w (RB w (isFin .f64 cx)) := by
  go_enter Try.func100, Try.ntmps100
  go_wp2_with (first | (go_at_call 124; refine (isNaN_c (by first | assumption | exact fl_lit (by decide +kernel))).mono ?_; rintro e w' ⟨b, hb, rfl, n, rfl⟩; cases b) | (go_at_call 125; refine (isInf_c (by first | assumption | exact fl_lit (by decide +kernel))).mono ?_; rintro e w' ⟨b, hb, rfl, n, rfl⟩; cases b))
  all_goals
    go_ret
    first | exact RB.mk (by simp [fin_not, *]) | exact RB.mk0 (by simp [fin_not, *])

set_option maxRecDepth 100000 in
set_option maxHeartbeats 400000 in
theorem IsFinite_c {x cx : Nat} (hx : Fl .f32 x cx) {w : World} : Calls Try.prog 65 #[.float .f32 x] w (RB w (isFin .f32 cx)) := by
  go_enter Try.func65, Try.ntmps65
  go_wp2_with (first | (refine wpList_up rfl _ _ _ rfl _ rfl (by rw [Try.underlying28]; rfl) Try.underlying35 ?_; intro r n hr; replace hr := hr _ (by first | assumption | exact fl_lit (by decide +kernel))) | (go_at_call 100; refine (finite_c (by first | assumption | exact fl_lit (by decide +kernel))).mono ?_; rintro e w' ⟨b, hb, rfl, n, rfl⟩; cases b))
  all_goals
    go_ret
    first | exact RB.mk (by simp [← fin_up, *]) | exact RB.mk0 (by simp [← fin_up, *])

set_option maxRecDepth 100000 in
set_option maxHeartbeats 400000 in
theorem l02Above_c {x cx : Nat} (hx : Fl .f32 x cx) {w : World} : Calls Try.prog 111 #[.float .f32 x] w (RB w (isLen cx)) := by
  go_enter Try.func111, Try.ntmps111
  go_wp2_with (first | (go_at_call 113; refine (l01Finite_c (by first | assumption | exact fl_lit (by decide +kernel))).mono ?_; rintro e w' ⟨b, hb, rfl, n, rfl⟩; cases b) | (refine wpList_fcmp rfl _ _ _ _ _ rfl _ _ _ rfl rfl _ rfl ?_; intro b hc; replace hc := hc _ _ (by first | assumption | exact fl_lit (by decide +kernel)) (by first | assumption | exact fl_lit (by decide +kernel)); cases b))
  all_goals
    go_ret
    first | exact RB.mk (by simp [isLen, *]) | exact RB.mk0 (by simp [isLen, *])

set_option maxRecDepth 100000 in
set_option maxHeartbeats 400000 in
theorem aLength_c {x cx : Nat} (hx : Fl .f32 x cx) {w : World} : Calls Try.prog 70 #[.float .f32 x] w (RB w (isLen cx)) := by
  go_enter Try.func70, Try.ntmps70
  go_wp2_with (first | (go_at_call 65; refine (IsFinite_c (by first | assumption | exact fl_lit (by decide +kernel))).mono ?_; rintro e w' ⟨b, hb, rfl, n, rfl⟩; cases b) | (refine wpList_fcmp rfl _ _ _ _ _ rfl _ _ _ rfl rfl _ rfl ?_; intro b hc; replace hc := hc _ _ (by first | assumption | exact fl_lit (by decide +kernel)) (by first | assumption | exact fl_lit (by decide +kernel)); cases b))
  all_goals
    go_ret
    first | exact RB.mk (by simp [isLen, *]) | exact RB.mk0 (by simp [isLen, *])

set_option maxRecDepth 100000 in
set_option maxHeartbeats 400000 in
theorem l02Least_c {x cx : Nat} (hx : Fl .f32 x cx) {w : World} : Calls Try.prog 83 #[.float .f32 x] w (RB w (isMass cx)) := by
  go_enter Try.func83, Try.ntmps83
  go_wp2_with (first | (go_at_call 113; refine (l01Finite_c (by first | assumption | exact fl_lit (by decide +kernel))).mono ?_; rintro e w' ⟨b, hb, rfl, n, rfl⟩; cases b) | (refine wpList_fcmp rfl _ _ _ _ _ rfl _ _ _ rfl rfl _ rfl ?_; intro b hc; replace hc := hc _ _ (by first | assumption | exact fl_lit (by decide +kernel)) (by first | assumption | exact fl_lit (by decide +kernel)); cases b))
  all_goals
    go_ret
    first | exact RB.mk (by simp [isMass, *]) | exact RB.mk0 (by simp [isMass, *])

set_option maxRecDepth 100000 in
set_option maxHeartbeats 400000 in
theorem aMass_c {x cx : Nat} (hx : Fl .f32 x cx) {w : World} : Calls Try.prog 86 #[.float .f32 x] w (RB w (isMass cx)) := by
  go_enter Try.func86, Try.ntmps86
  go_wp2_with (first | (go_at_call 65; refine (IsFinite_c (by first | assumption | exact fl_lit (by decide +kernel))).mono ?_; rintro e w' ⟨b, hb, rfl, n, rfl⟩; cases b) | (refine wpList_fcmp rfl _ _ _ _ _ rfl _ _ _ rfl rfl _ rfl ?_; intro b hc; replace hc := hc _ _ (by first | assumption | exact fl_lit (by decide +kernel)) (by first | assumption | exact fl_lit (by decide +kernel)); cases b))
  all_goals
    go_ret
    first | exact RB.mk (by simp [isMass, *]) | exact RB.mk0 (by simp [isMass, *])

set_option maxRecDepth 100000 in
set_option maxHeartbeats 400000 in
theorem finite32_c {x cx : Nat} (hx : Fl .f32 x cx) {w : World} : Calls Try.prog 66 #[.float .f32 x] w (RFB .f32 w (num32 cx)) := by
  go_enter Try.func66, Try.ntmps66
  go_wp2_with (first | (go_at_call 65; refine (IsFinite_c (by first | assumption | exact fl_lit (by decide +kernel))).mono ?_; rintro e w' ⟨b, hb, rfl, n, rfl⟩; cases b))
  all_goals
    go_ret2
    first | exact RFB.mk (by first | assumption | exact fl_lit (by decide +kernel)) (by simp [num32, *]) | exact RFB.mk0 (by first | assumption | exact fl_lit (by decide +kernel)) (by simp [num32, *])

set_option maxRecDepth 100000 in
set_option maxHeartbeats 400000 in
theorem l01Bits_c {x cx : Nat} (hx : Fl .f32 x cx) {w : World} : Calls Try.prog 107 #[.float .f32 x] w (RV w (.int .i64 (cx : Int))) := by
  go_enter Try.func107, Try.ntmps107
  go_wp2_with (first | (refine wpList_fcmp rfl _ _ _ _ _ rfl _ _ _ rfl rfl _ rfl ?_; intro b hc; replace hc := hc _ _ (by first | assumption | exact fl_lit (by decide +kernel)) (by first | assumption | exact fl_lit (by decide +kernel)); cases b) | (refine wpList_ext rfl 127 _ _ rfl _ rfl (ext_bits32 (by first | assumption | exact fl_lit (by decide +kernel))) ?_; rintro _ n rfl))
  · go_ret
    have hn : isN .f32 cx = false := by rw [feq_self] at hc; simpa using hc
    exact RV.mk (by rw [← canon_num hx hn]; exact congrArg _ (wrap64_small hx.lt).symm)
  · go_ret
    have hn : isN .f32 cx = true := by rw [feq_self] at hc; simpa using hc
    exact RV.mk0 (by rw [nan_canon hx hn]; rfl)
set_option maxRecDepth 100000 in
set_option maxHeartbeats 400000 in
theorem signbit_c {x cx : Nat} (hx : Fl .f64 x cx) (hn : isN .f64 cx = false) {w : World} : Calls Try.prog 126 #[.float .f64 x] w (RB w (sgn .f64 cx)) := by
  go_enter Try.func126, Try.ntmps126
  go_wp2_with (first | (refine wpList_ext rfl 133 _ _ rfl _ rfl (ext_bits64 (by first | assumption | exact fl_lit (by decide +kernel))) ?_; rintro _ n rfl))
  go_ret
  exact RB.mk (by rw [← canon_num hx hn]; exact sgn_wrap hx.lt)

end Go.Proofs.Ytpglfnkkmafhbaa

