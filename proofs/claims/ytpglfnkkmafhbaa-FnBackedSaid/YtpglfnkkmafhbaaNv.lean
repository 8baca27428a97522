/- The contracts of the functions on numbers, part 2. -/
import Derived.Test.YtpglfnkkmafhbaaNu
set_option linter.unusedVariables false
set_option linter.unusedSimpArgs false
namespace Go.Proofs.Ytpglfnkkmafhbaa
open Go.RowKit

set_option maxRecDepth 100000 in
set_option maxHeartbeats 400000 in
theorem l01Same_c {x cx : Nat} (hx : Fl .f32 x cx) {y cy : Nat} (hy : Fl .f32 y cy) {w : World} : Calls Try.prog 76 #[.float .f32 x, .float .f32 y] w (RB w (decide (cx = cy))) := by
  go_enter Try.func76, Try.ntmps76
  go_wp2_with (first | (go_at_call 107; refine (l01Bits_c (by first | assumption | exact fl_lit (by decide +kernel))).mono ?_; rintro e w' ⟨rfl, n, rfl⟩))
  all_goals
    go_ret
    exact RB.mk (beqInt cx cy)

set_option maxRecDepth 100000 in
set_option maxHeartbeats 1000000 in
theorem SameNumber_c {x cx y cy : Nat} (hx : Fl .f32 x cx) (hy : Fl .f32 y cy) {w : World} : Calls Try.prog 106 #[.float .f32 x, .float .f32 y] w (RB w (decide (cx = cy))) := by
  cases nx : isN .f32 cx with
  | true =>
    cases ny : isN .f32 cy with
    | true =>
      have e1 := nan_canon hx nx
      have e2 := nan_canon hy ny
      have E := Lib.hid (show decide (cx = cy) = true from by rw [e1, e2]; decide)
      have f1 := feq_self .f32 cx; rw [nx] at f1
      have f2 := feq_self .f32 cy; rw [ny] at f2
      clear e1 e2
      go_enter Try.func106, Try.ntmps106
      go_wp2_with (first | (refine wpList_fcmp rfl _ _ _ _ _ rfl _ _ _ rfl rfl _ rfl ?_; intro b hc; replace hc := hc _ _ (by first | assumption | exact fl_lit (by decide +kernel)) (by first | assumption | exact fl_lit (by decide +kernel)); cases b))
      all_goals first | (exfalso; simp_all; done) | (go_ret; first | exact RB.mk0 E.out | exact RB.mk E.out)
    | false =>
      have E := Lib.hid (show decide (cx = cy) = false from by simp; intro e; rw [e, ny] at nx; cases nx)
      have f1 := feq_self .f32 cx; rw [nx] at f1
      have f2 := feq_self .f32 cy; rw [ny] at f2
      go_enter Try.func106, Try.ntmps106
      go_wp2_with (first | (refine wpList_fcmp rfl _ _ _ _ _ rfl _ _ _ rfl rfl _ rfl ?_; intro b hc; replace hc := hc _ _ (by first | assumption | exact fl_lit (by decide +kernel)) (by first | assumption | exact fl_lit (by decide +kernel)); cases b))
      all_goals first | (exfalso; simp_all; done) | (go_ret; first | exact RB.mk0 E.out | exact RB.mk E.out)
  | false =>
    cases ny : isN .f32 cy with
    | true =>
      have E := Lib.hid (show decide (cx = cy) = false from by simp; intro e; rw [e, ny] at nx; cases nx)
      have f1 := feq_self .f32 cx; rw [nx] at f1
      have f2 := feq_self .f32 cy; rw [ny] at f2
      go_enter Try.func106, Try.ntmps106
      go_wp2_with (first | (refine wpList_fcmp rfl _ _ _ _ _ rfl _ _ _ rfl rfl _ rfl ?_; intro b hc; replace hc := hc _ _ (by first | assumption | exact fl_lit (by decide +kernel)) (by first | assumption | exact fl_lit (by decide +kernel)); cases b))
      all_goals first | (exfalso; simp_all; done) | (go_ret; first | exact RB.mk0 E.out | exact RB.mk E.out)
    | false =>
      have E := Lib.hid (same_num hx hy nx ny)
      have f1 := feq_self .f32 cx; rw [nx] at f1
      have f2 := feq_self .f32 cy; rw [ny] at f2
      have ux : isN .f64 (fup cx) = false := isN_up nx
      have uy : isN .f64 (fup cy) = false := isN_up ny
      go_enter Try.func106, Try.ntmps106
      go_wp2_with (first | (refine wpList_fcmp rfl _ _ _ _ _ rfl _ _ _ rfl rfl _ rfl ?_; intro b hc; replace hc := hc _ _ (by first | assumption | exact fl_lit (by decide +kernel)) (by first | assumption | exact fl_lit (by decide +kernel)); cases b) | (refine wpList_up rfl _ _ _ rfl _ rfl (by rw [Try.underlying28]; rfl) Try.underlying35 ?_; intro r n hr; replace hr := hr _ (by first | assumption | exact fl_lit (by decide +kernel))) | (go_at_call 126; refine (signbit_c (by first | assumption | exact fl_lit (by decide +kernel)) (by assumption)).mono ?_; rintro e w' ⟨b, hb, rfl, n, rfl⟩; cases b))
      all_goals first | (exfalso; simp_all; done) | (go_ret; first | exact RB.mk0 (by rw [E.out]; simp [*]) | exact RB.mk (by rw [E.out]; simp [*]))

set_option maxRecDepth 100000 in
set_option maxHeartbeats 400000 in
theorem Sqrt_c {x cx : Nat} (hx : Fl .f64 x cx) {w : World} : Calls Try.prog 116 #[.float .f64 x] w (RF .f64 w (fsqrt .f64 cx)) := by
  go_enter Try.func116, Try.ntmps116
  go_wp2_with (first | (refine wpList_ext rfl 130 _ _ rfl _ rfl (ext_sqrt (by first | assumption | exact fl_lit (by decide +kernel))) ?_; rintro _ n ⟨r, rfl, hr⟩))
  all_goals
    go_ret
    first | exact RF.mk (by first | assumption | (simp only [fop_add, *]; assumption)) | exact RF.mk0 (by first | assumption | (simp only [fop_add, *]; assumption))

set_option maxRecDepth 100000 in
set_option maxHeartbeats 400000 in
theorem l01Narrow_c {x cx : Nat} (hx : Fl .f64 x cx) (hov : fover cx = false) {w : World} : Calls Try.prog 129 #[.float .f64 x] w (RF .f32 w (fdown cx)) := by
  go_enter Try.func129, Try.ntmps129
  go_wp2_with (first | (refine wpList_down rfl _ _ _ rfl _ rfl (by rw [Try.underlying35]; rfl) Try.underlying28 ?_; intro r n c' hr hd; replace hd := hd _ (by first | assumption | exact fl_lit (by decide +kernel)); obtain rfl := hd hov))
  go_ret
  exact RF.mk (by assumption)

set_option maxRecDepth 100000 in
set_option maxHeartbeats 400000 in
theorem l01Sqrt_c {x cx : Nat} (hx : Fl .f32 x cx) {w : World} : Calls Try.prog 114 #[.float .f32 x] w (RF .f32 w (froot cx)) := by
  go_enter Try.func114, Try.ntmps114
  go_wp2_with (first | (refine wpList_up rfl _ _ _ rfl _ rfl (by rw [Try.underlying28]; rfl) Try.underlying35 ?_; intro r n hr; replace hr := hr _ (by first | assumption | exact fl_lit (by decide +kernel))) | (go_at_call 116; refine (Sqrt_c (by first | assumption | exact fl_lit (by decide +kernel))).mono ?_; rintro e w' ⟨r, hr, rfl, n, rfl⟩) | (go_at_call 129; refine (l01Narrow_c (by first | assumption | exact fl_lit (by decide +kernel)) (fover_root _)).mono ?_; rintro e w' ⟨r, hr, rfl, n, rfl⟩))
  all_goals
    go_ret
    first | exact RF.mk (by first | assumption | (simp only [fop_add, *]; assumption)) | exact RF.mk0 (by first | assumption | (simp only [fop_add, *]; assumption))

set_option maxRecDepth 100000 in
set_option maxHeartbeats 400000 in
theorem RootNumber_c {x cx : Nat} (hx : Fl .f32 x cx) {w : World} : Calls Try.prog 87 #[.float .f32 x] w (RF .f32 w (froot cx)) := by
  go_enter Try.func87, Try.ntmps87
  go_wp2_with (first | (refine wpList_up rfl _ _ _ rfl _ rfl (by rw [Try.underlying28]; rfl) Try.underlying35 ?_; intro r n hr; replace hr := hr _ (by first | assumption | exact fl_lit (by decide +kernel))) | (go_at_call 116; refine (Sqrt_c (by first | assumption | exact fl_lit (by decide +kernel))).mono ?_; rintro e w' ⟨r, hr, rfl, n, rfl⟩) | (refine wpList_down rfl _ _ _ rfl _ rfl (by rw [Try.underlying35]; rfl) Try.underlying28 ?_; intro r n c' hr hd; replace hd := hd _ (by first | assumption | exact fl_lit (by decide +kernel)); obtain rfl := hd (fover_root _)))
  all_goals
    go_ret
    first | exact RF.mk (by first | assumption | (simp only [fop_add, *]; assumption)) | exact RF.mk0 (by first | assumption | (simp only [fop_add, *]; assumption))

end Go.Proofs.Ytpglfnkkmafhbaa

