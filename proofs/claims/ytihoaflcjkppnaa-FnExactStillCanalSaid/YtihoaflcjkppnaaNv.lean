/- The contracts of the functions on numbers, part 2. -/
import Derived.Test.YtihoaflcjkppnaaNu
set_option linter.unusedVariables false
set_option linter.unusedSimpArgs false
namespace Go.Proofs.Ytihoaflcjkppnaa
open Go.RowKit

set_option maxRecDepth 100000 in
set_option maxHeartbeats 400000 in
theorem l01Same_c {x cx : Nat} (hx : Fl .f32 x cx) {y cy : Nat} (hy : Fl .f32 y cy) {w : World} : Calls Try.prog 60 #[.float .f32 x, .float .f32 y] w (RB w (decide (cx = cy))) := by
  go_enter Try.func60, Try.ntmps60
  go_wp2_with (first | (go_at_call 88; refine (l01Bits_c (by first | assumption | exact fl_lit (by decide +kernel))).mono ?_; rintro e w' ⟨rfl, n, rfl⟩))
  all_goals
    go_ret
    exact RB.mk (beqInt cx cy)

set_option maxRecDepth 100000 in
set_option maxHeartbeats 1000000 in
theorem SameNumber_c {x cx y cy : Nat} (hx : Fl .f32 x cx) (hy : Fl .f32 y cy) {w : World} : Calls Try.prog 63 #[.float .f32 x, .float .f32 y] w (RB w (decide (cx = cy))) := by
  cases nx : isN .f32 cx with
  | true =>
    cases ny : isN .f32 cy with
    | true =>
      have e1 := nan_canon hx nx
      have e2 := nan_canon hy ny
      have E := Lib.hid (show decide (cx = cy) = true from by rw [e1, e2]; decide)
      have f1 := feq_self .f32 cx; rw [nx] at f1
      have f2 := feq_self .f32 cy; rw [ny] at f2
      clear e1 e2
      go_enter Try.func63, Try.ntmps63
      go_wp2_with (first | (refine wpList_fcmp rfl _ _ _ _ _ rfl _ _ _ rfl rfl _ rfl ?_; intro b hc; replace hc := hc _ _ (by first | assumption | exact fl_lit (by decide +kernel)) (by first | assumption | exact fl_lit (by decide +kernel)); cases b))
      all_goals first | (exfalso; simp_all; done) | (go_ret; first | exact RB.mk0 E.out | exact RB.mk E.out)
    | false =>
      have E := Lib.hid (show decide (cx = cy) = false from by simp; intro e; rw [e, ny] at nx; cases nx)
      have f1 := feq_self .f32 cx; rw [nx] at f1
      have f2 := feq_self .f32 cy; rw [ny] at f2
      go_enter Try.func63, Try.ntmps63
      go_wp2_with (first | (refine wpList_fcmp rfl _ _ _ _ _ rfl _ _ _ rfl rfl _ rfl ?_; intro b hc; replace hc := hc _ _ (by first | assumption | exact fl_lit (by decide +kernel)) (by first | assumption | exact fl_lit (by decide +kernel)); cases b))
      all_goals first | (exfalso; simp_all; done) | (go_ret; first | exact RB.mk0 E.out | exact RB.mk E.out)
  | false =>
    cases ny : isN .f32 cy with
    | true =>
      have E := Lib.hid (show decide (cx = cy) = false from by simp; intro e; rw [e, ny] at nx; cases nx)
      have f1 := feq_self .f32 cx; rw [nx] at f1
      have f2 := feq_self .f32 cy; rw [ny] at f2
      go_enter Try.func63, Try.ntmps63
      go_wp2_with (first | (refine wpList_fcmp rfl _ _ _ _ _ rfl _ _ _ rfl rfl _ rfl ?_; intro b hc; replace hc := hc _ _ (by first | assumption | exact fl_lit (by decide +kernel)) (by first | assumption | exact fl_lit (by decide +kernel)); cases b))
      all_goals first | (exfalso; simp_all; done) | (go_ret; first | exact RB.mk0 E.out | exact RB.mk E.out)
    | false =>
      have E := Lib.hid (same_num hx hy nx ny)
      have f1 := feq_self .f32 cx; rw [nx] at f1
      have f2 := feq_self .f32 cy; rw [ny] at f2
      have ux : isN .f64 (fup cx) = false := isN_up nx
      have uy : isN .f64 (fup cy) = false := isN_up ny
      go_enter Try.func63, Try.ntmps63
      go_wp2_with (first | (refine wpList_fcmp rfl _ _ _ _ _ rfl _ _ _ rfl rfl _ rfl ?_; intro b hc; replace hc := hc _ _ (by first | assumption | exact fl_lit (by decide +kernel)) (by first | assumption | exact fl_lit (by decide +kernel)); cases b) | (refine wpList_up rfl _ _ _ rfl _ rfl (by rw [Try.underlying22]; rfl) Try.underlying32 ?_; intro r n hr; replace hr := hr _ (by first | assumption | exact fl_lit (by decide +kernel))) | (go_at_call 89; refine (signbit_c (by first | assumption | exact fl_lit (by decide +kernel)) (by assumption)).mono ?_; rintro e w' ⟨b, hb, rfl, n, rfl⟩; cases b))
      all_goals first | (exfalso; simp_all; done) | (go_ret; first | exact RB.mk0 (by rw [E.out]; simp [*]) | exact RB.mk (by rw [E.out]; simp [*]))

set_option maxRecDepth 100000 in
set_option maxHeartbeats 400000 in
theorem sameFloat_c {x y c : Nat} (hx : Fl .f64 x c) (hy : Fl .f64 y c) {w : World} : Calls Try.prog 20 #[.float .f64 x, .float .f64 y] w (RB w true) := by
  have f1 := feq_self .f64 c
  cases nx : isN .f64 c
  all_goals
    rw [nx] at f1
    go_enter Try.func20, Try.ntmps20
    go_wp2_with (first | (refine wpList_fcmp rfl _ _ _ _ _ rfl _ _ _ rfl rfl _ rfl ?_; intro b hc; replace hc := hc _ _ (by first | assumption | exact fl_lit (by decide +kernel)) (by first | assumption | exact fl_lit (by decide +kernel)); cases b) | (refine wpList_farith rfl _ _ _ _ _ rfl rfl _ _ _ rfl rfl _ rfl ?_; intro r n hr; replace hr := hr _ _ (by first | assumption | exact fl_lit (by decide +kernel)) (by first | assumption | exact fl_lit (by decide +kernel))))
    all_goals first | (exfalso; simp_all; done) | (go_ret; first | exact RB.mk0 (by simp [*]) | exact RB.mk (by simp [*]))

set_option maxRecDepth 100000 in
set_option maxHeartbeats 400000 in
theorem Sqrt_c {x cx : Nat} (hx : Fl .f64 x cx) {w : World} : Calls Try.prog 100 #[.float .f64 x] w (RF .f64 w (fsqrt .f64 cx)) := by
  go_enter Try.func100, Try.ntmps100
  go_wp2_with (first | (refine wpList_ext rfl 103 _ _ rfl _ rfl (ext_sqrt (by first | assumption | exact fl_lit (by decide +kernel))) ?_; rintro _ n ⟨r, rfl, hr⟩))
  all_goals
    go_ret
    first | exact RF.mk (by first | assumption | (simp only [fop_add, *]; assumption)) | exact RF.mk0 (by first | assumption | (simp only [fop_add, *]; assumption))

set_option maxRecDepth 100000 in
set_option maxHeartbeats 400000 in
theorem l01Narrow_c {x cx : Nat} (hx : Fl .f64 x cx) (hov : fover cx = false) {w : World} : Calls Try.prog 99 #[.float .f64 x] w (RF .f32 w (fdown cx)) := by
  go_enter Try.func99, Try.ntmps99
  go_wp2_with (first | (refine wpList_down rfl _ _ _ rfl _ rfl (by rw [Try.underlying32]; rfl) Try.underlying22 ?_; intro r n c' hr hd; replace hd := hd _ (by first | assumption | exact fl_lit (by decide +kernel)); obtain rfl := hd hov))
  go_ret
  exact RF.mk (by assumption)

set_option maxRecDepth 100000 in
set_option maxHeartbeats 400000 in
theorem l01Sqrt_c {x cx : Nat} (hx : Fl .f32 x cx) {w : World} : Calls Try.prog 91 #[.float .f32 x] w (RF .f32 w (froot cx)) := by
  go_enter Try.func91, Try.ntmps91
  go_wp2_with (first | (refine wpList_up rfl _ _ _ rfl _ rfl (by rw [Try.underlying22]; rfl) Try.underlying32 ?_; intro r n hr; replace hr := hr _ (by first | assumption | exact fl_lit (by decide +kernel))) | (go_at_call 100; refine (Sqrt_c (by first | assumption | exact fl_lit (by decide +kernel))).mono ?_; rintro e w' ⟨r, hr, rfl, n, rfl⟩) | (go_at_call 99; refine (l01Narrow_c (by first | assumption | exact fl_lit (by decide +kernel)) (fover_root _)).mono ?_; rintro e w' ⟨r, hr, rfl, n, rfl⟩))
  all_goals
    go_ret
    first | exact RF.mk (by first | assumption | (simp only [fop_add, *]; assumption)) | exact RF.mk0 (by first | assumption | (simp only [fop_add, *]; assumption))

set_option maxRecDepth 100000 in
set_option maxHeartbeats 400000 in
theorem RootNumber_c {x cx : Nat} (hx : Fl .f32 x cx) {w : World} : Calls Try.prog 92 #[.float .f32 x] w (RF .f32 w (froot cx)) := by
  go_enter Try.func92, Try.ntmps92
  go_wp2_with (first | (refine wpList_up rfl _ _ _ rfl _ rfl (by rw [Try.underlying22]; rfl) Try.underlying32 ?_; intro r n hr; replace hr := hr _ (by first | assumption | exact fl_lit (by decide +kernel))) | (go_at_call 100; refine (Sqrt_c (by first | assumption | exact fl_lit (by decide +kernel))).mono ?_; rintro e w' ⟨r, hr, rfl, n, rfl⟩) | (refine wpList_down rfl _ _ _ rfl _ rfl (by rw [Try.underlying32]; rfl) Try.underlying22 ?_; intro r n c' hr hd; replace hd := hd _ (by first | assumption | exact fl_lit (by decide +kernel)); obtain rfl := hd (fover_root _)))
  all_goals
    go_ret
    first | exact RF.mk (by first | assumption | (simp only [fop_add, *]; assumption)) | exact RF.mk0 (by first | assumption | (simp only [fop_add, *]; assumption))

end Go.Proofs.Ytihoaflcjkppnaa
