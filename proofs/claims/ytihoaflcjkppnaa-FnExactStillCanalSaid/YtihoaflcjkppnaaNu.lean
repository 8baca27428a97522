/- The contracts of the functions on numbers. -/
import Derived.Test.YtihoaflcjkppnaaEx
import Derived.Test.YtihoaflcjkppnaaMb
import Derived.WalkLawsBesides
import Derived.Laws.BitsAllLaws
set_option linter.unusedVariables false
set_option linter.unusedSimpArgs false
namespace Go.Proofs.Ytihoaflcjkppnaa
open Go.RowKit

set_option maxRecDepth 100000 in
set_option maxHeartbeats 400000 in
theorem l01Finite_c {x cx : Nat} (hx : Fl .f32 x cx) {w : World} : Calls Try.prog 54 #[.float .f32 x] w (RB w (isFin .f32 cx)) := by
  go_enter Try.func54, Try.ntmps54
  go_wp2_with (first | (refine wpList_farith rfl _ _ _ _ _ rfl rfl _ _ _ rfl rfl _ rfl ?_; intro r n hr; replace hr := hr _ _ (by first | assumption | exact fl_lit (by decide +kernel)) (by first | assumption | exact fl_lit (by decide +kernel))) | (refine wpList_fcmp rfl _ _ _ _ _ rfl _ _ _ rfl rfl _ rfl ?_; intro b hc; replace hc := hc _ _ (by first | assumption | exact fl_lit (by decide +kernel)) (by first | assumption | exact fl_lit (by decide +kernel)); cases b))
  all_goals
    go_ret
    first | exact RB.mk (by rw [← fin_sub]; assumption) | exact RB.mk0 (by rw [← fin_sub]; assumption)

set_option maxRecDepth 100000 in
set_option maxHeartbeats 400000 in
theorem isNaN_c {f cf : Nat} (hf : Fl .f64 f cf) {w : World} : Calls Try.prog 101 #[.float .f64 f] w (RB w (isN .f64 cf)) := by
  go_enter Try.func101, Try.ntmps101
  go_wp2_with (first | (refine wpList_farith rfl _ _ _ _ _ rfl rfl _ _ _ rfl rfl _ rfl ?_; intro r n hr; replace hr := hr _ _ (by first | assumption | exact fl_lit (by decide +kernel)) (by first | assumption | exact fl_lit (by decide +kernel))) | (refine wpList_fcmp rfl _ _ _ _ _ rfl _ _ _ rfl rfl _ rfl ?_; intro b hc; replace hc := hc _ _ (by first | assumption | exact fl_lit (by decide +kernel)) (by first | assumption | exact fl_lit (by decide +kernel)); cases b))
  all_goals
    go_ret
    exact RB.mk0 (by rw [feq_self] at hc; simpa using hc)

set_option maxRecDepth 100000 in
set_option maxHeartbeats 400000 in
theorem abs_c {x cx : Nat} (hx : Fl .f64 x cx) {w : World} : Calls Try.prog 104 #[.float .f64 x] w (RF .f64 w (fabs .f64 cx)) := by
  go_enter Try.func104, Try.ntmps104
  go_wp2_with (first | (refine wpList_ext rfl 98 _ _ rfl _ rfl (ext_bits64 (by first | assumption | exact fl_lit (by decide +kernel))) ?_; rintro _ n rfl) | (refine wpList_unsign rfl _ _ _ _ rfl _ rfl ?_ ‹Fl _ _ _›.lt ?_; exact (by decide)) | (refine wpList_ext rfl 105 _ _ rfl _ rfl (ext_from64 _) ?_; rintro _ n rfl))
  go_ret
  exact RF.mk (abs_fl hx)

set_option maxRecDepth 100000 in
set_option maxHeartbeats 400000 in
theorem isInf_c {x cx : Nat} (hx : Fl .f64 x cx) {w : World} : Calls Try.prog 102 #[.float .f64 x, .int .i64 0] w (RB w (isInf .f64 cx)) := by
  go_enter Try.func102, Try.ntmps102
  go_wp2_with (first | (go_at_call 104; refine (abs_c (by first | assumption | exact fl_lit (by decide +kernel))).mono ?_; rintro e w' ⟨r, hr, rfl, n, rfl⟩) | (refine wpList_fcmp rfl _ _ _ _ _ rfl _ _ _ rfl rfl _ rfl ?_; intro b hc; replace hc := hc _ _ (by first | assumption | exact fl_lit (by decide +kernel)) (by first | assumption | exact fl_lit (by decide +kernel)); cases b))
  all_goals
    go_ret
    exact RB.mk (by rw [← fgt_abs]; assumption)

set_option maxRecDepth 100000 in
set_option maxHeartbeats 400000 in
theorem finite_c {x cx : Nat} (hx : Fl .f64 x cx) {w : World} : Calls Try.prog 95 #[.float .f64 x] w (RB w (isFin .f64 cx)) := by
  go_enter Try.func95, Try.ntmps95
  go_wp2_with (first | (go_at_call 101; refine (isNaN_c (by first | assumption | exact fl_lit (by decide +kernel))).mono ?_; rintro e w' ⟨b, hb, rfl, n, rfl⟩; cases b) | (go_at_call 102; refine (isInf_c (by first | assumption | exact fl_lit (by decide +kernel))).mono ?_; rintro e w' ⟨b, hb, rfl, n, rfl⟩; cases b))
  all_goals
    go_ret
    first | exact RB.mk (by simp [fin_not, *]) | exact RB.mk0 (by simp [fin_not, *])

set_option maxRecDepth 100000 in
set_option maxHeartbeats 400000 in
theorem IsFinite_c {x cx : Nat} (hx : Fl .f32 x cx) {w : World} : Calls Try.prog 80 #[.float .f32 x] w (RB w (isFin .f32 cx)) := by
  go_enter Try.func80, Try.ntmps80
  go_wp2_with (first | (refine wpList_up rfl _ _ _ rfl _ rfl (by rw [Try.underlying22]; rfl) Try.underlying32 ?_; intro r n hr; replace hr := hr _ (by first | assumption | exact fl_lit (by decide +kernel))) | (go_at_call 95; refine (finite_c (by first | assumption | exact fl_lit (by decide +kernel))).mono ?_; rintro e w' ⟨b, hb, rfl, n, rfl⟩; cases b))
  all_goals
    go_ret
    first | exact RB.mk (by simp [← fin_up, *]) | exact RB.mk0 (by simp [← fin_up, *])

set_option maxRecDepth 100000 in
set_option maxHeartbeats 400000 in
theorem l02Above_c {x cx : Nat} (hx : Fl .f32 x cx) {w : World} : Calls Try.prog 58 #[.float .f32 x] w (RB w (isLen cx)) := by
  go_enter Try.func58, Try.ntmps58
  go_wp2_with (first | (go_at_call 54; refine (l01Finite_c (by first | assumption | exact fl_lit (by decide +kernel))).mono ?_; rintro e w' ⟨b, hb, rfl, n, rfl⟩; cases b) | (refine wpList_fcmp rfl _ _ _ _ _ rfl _ _ _ rfl rfl _ rfl ?_; intro b hc; replace hc := hc _ _ (by first | assumption | exact fl_lit (by decide +kernel)) (by first | assumption | exact fl_lit (by decide +kernel)); cases b))
  all_goals
    go_ret
    first | exact RB.mk (by simp [isLen, *]) | exact RB.mk0 (by simp [isLen, *])

set_option maxRecDepth 100000 in
set_option maxHeartbeats 400000 in
theorem aLength_c {x cx : Nat} (hx : Fl .f32 x cx) {w : World} : Calls Try.prog 53 #[.float .f32 x] w (RB w (isLen cx)) := by
  go_enter Try.func53, Try.ntmps53
  go_wp2_with (first | (go_at_call 80; refine (IsFinite_c (by first | assumption | exact fl_lit (by decide +kernel))).mono ?_; rintro e w' ⟨b, hb, rfl, n, rfl⟩; cases b) | (refine wpList_fcmp rfl _ _ _ _ _ rfl _ _ _ rfl rfl _ rfl ?_; intro b hc; replace hc := hc _ _ (by first | assumption | exact fl_lit (by decide +kernel)) (by first | assumption | exact fl_lit (by decide +kernel)); cases b))
  all_goals
    go_ret
    first | exact RB.mk (by simp [isLen, *]) | exact RB.mk0 (by simp [isLen, *])

set_option maxRecDepth 100000 in
set_option maxHeartbeats 400000 in
theorem l02Least_c {x cx : Nat} (hx : Fl .f32 x cx) {w : World} : Calls Try.prog 70 #[.float .f32 x] w (RB w (isMass cx)) := by
  go_enter Try.func70, Try.ntmps70
  go_wp2_with (first | (go_at_call 54; refine (l01Finite_c (by first | assumption | exact fl_lit (by decide +kernel))).mono ?_; rintro e w' ⟨b, hb, rfl, n, rfl⟩; cases b) | (refine wpList_fcmp rfl _ _ _ _ _ rfl _ _ _ rfl rfl _ rfl ?_; intro b hc; replace hc := hc _ _ (by first | assumption | exact fl_lit (by decide +kernel)) (by first | assumption | exact fl_lit (by decide +kernel)); cases b))
  all_goals
    go_ret
    first | exact RB.mk (by simp [isMass, *]) | exact RB.mk0 (by simp [isMass, *])

set_option maxRecDepth 100000 in
set_option maxHeartbeats 400000 in
theorem aMass_c {x cx : Nat} (hx : Fl .f32 x cx) {w : World} : Calls Try.prog 72 #[.float .f32 x] w (RB w (isMass cx)) := by
  go_enter Try.func72, Try.ntmps72
  go_wp2_with (first | (go_at_call 80; refine (IsFinite_c (by first | assumption | exact fl_lit (by decide +kernel))).mono ?_; rintro e w' ⟨b, hb, rfl, n, rfl⟩; cases b) | (refine wpList_fcmp rfl _ _ _ _ _ rfl _ _ _ rfl rfl _ rfl ?_; intro b hc; replace hc := hc _ _ (by first | assumption | exact fl_lit (by decide +kernel)) (by first | assumption | exact fl_lit (by decide +kernel)); cases b))
  all_goals
    go_ret
    first | exact RB.mk (by simp [isMass, *]) | exact RB.mk0 (by simp [isMass, *])

set_option maxRecDepth 100000 in
set_option maxHeartbeats 400000 in
theorem l02Number_c {x cx : Nat} (hx : Fl .f32 x cx) {w : World} : Calls Try.prog 55 #[.float .f32 x] w (RFB .f32 w (num32 cx)) := by
  go_enter Try.func55, Try.ntmps55
  go_wp2_with (first | (go_at_call 54; refine (l01Finite_c (by first | assumption | exact fl_lit (by decide +kernel))).mono ?_; rintro e w' ⟨b, hb, rfl, n, rfl⟩; cases b))
  all_goals
    go_ret2
    first | exact RFB.mk (by first | assumption | exact fl_lit (by decide +kernel)) (by simp [num32, *]) | exact RFB.mk0 (by first | assumption | exact fl_lit (by decide +kernel)) (by simp [num32, *])

set_option maxRecDepth 100000 in
set_option maxHeartbeats 400000 in
theorem finite32_c {x cx : Nat} (hx : Fl .f32 x cx) {w : World} : Calls Try.prog 57 #[.float .f32 x] w (RFB .f32 w (num32 cx)) := by
  go_enter Try.func57, Try.ntmps57
  go_wp2_with (first | (go_at_call 80; refine (IsFinite_c (by first | assumption | exact fl_lit (by decide +kernel))).mono ?_; rintro e w' ⟨b, hb, rfl, n, rfl⟩; cases b))
  all_goals
    go_ret2
    first | exact RFB.mk (by first | assumption | exact fl_lit (by decide +kernel)) (by simp [num32, *]) | exact RFB.mk0 (by first | assumption | exact fl_lit (by decide +kernel)) (by simp [num32, *])

set_option maxRecDepth 100000 in
set_option maxHeartbeats 400000 in
theorem l01Bits_c {x cx : Nat} (hx : Fl .f32 x cx) {w : World} : Calls Try.prog 88 #[.float .f32 x] w (RV w (.int .i64 (cx : Int))) := by
  go_enter Try.func88, Try.ntmps88
  go_wp2_with (first | (refine wpList_fcmp rfl _ _ _ _ _ rfl _ _ _ rfl rfl _ rfl ?_; intro b hc; replace hc := hc _ _ (by first | assumption | exact fl_lit (by decide +kernel)) (by first | assumption | exact fl_lit (by decide +kernel)); cases b) | (refine wpList_ext rfl 97 _ _ rfl _ rfl (ext_bits32 (by first | assumption | exact fl_lit (by decide +kernel))) ?_; rintro _ n rfl))
  · go_ret
    have hn : isN .f32 cx = false := by rw [feq_self] at hc; simpa using hc
    exact RV.mk (by rw [← canon_num hx hn]; exact congrArg _ (wrap64_small hx.lt).symm)
  · go_ret
    have hn : isN .f32 cx = true := by rw [feq_self] at hc; simpa using hc
    exact RV.mk0 (by rw [nan_canon hx hn]; rfl)
set_option maxRecDepth 100000 in
set_option maxHeartbeats 400000 in
theorem signbit_c {x cx : Nat} (hx : Fl .f64 x cx) (hn : isN .f64 cx = false) {w : World} : Calls Try.prog 89 #[.float .f64 x] w (RB w (sgn .f64 cx)) := by
  go_enter Try.func89, Try.ntmps89
  go_wp2_with (first | (refine wpList_ext rfl 98 _ _ rfl _ rfl (ext_bits64 (by first | assumption | exact fl_lit (by decide +kernel))) ?_; rintro _ n rfl))
  go_ret
  exact RB.mk (by rw [← canon_num hx hn]; exact sgn_wrap hx.lt)

end Go.Proofs.Ytihoaflcjkppnaa
