/- Reaches. -/
import Derived.Test.YtihoaflcjkppnaaNv
import Derived.Test.YtihoaflcjkppnaaDf
set_option linter.unusedVariables false
set_option linter.unusedSimpArgs false
namespace Go.Proofs.Ytihoaflcjkppnaa
open Go.RowKit

set_option maxHeartbeats 400000 in
theorem l05Reach_c {w : World} {b o x y cx cy : Nat} (h0 : w.cell? ⟨b, o, none⟩ = some (.float .f32 x)) (h1 : w.cell? ⟨b, o + 1, none⟩ = some (.float .f32 y)) (hx : Fl .f32 x cx) (hy : Fl .f32 y cy) :
    Calls Try.prog 52 #[.pointer (some ⟨b, o, none⟩)] w (RB w (vReach cx cy)) := by
  go_enter Try.func52, Try.ntmps52
  go_wp2_with (first | (go_at_call 58; refine (l02Above_c (by first | assumption | exact fl_lit (by decide +kernel))).mono ?_; rintro e w' ⟨b, hb, rfl, n, rfl⟩; cases b) | (refine wpList_fcmp rfl _ _ _ _ _ rfl _ _ _ rfl rfl _ rfl ?_; intro b hc; replace hc := hc _ _ (by first | assumption | exact fl_lit (by decide +kernel)) (by first | assumption | exact fl_lit (by decide +kernel)); cases b))
  all_goals
    go_ret
    first | exact RB.mk (by simp [vReach, *]) | exact RB.mk0 (by simp [vReach, *])
set_option maxHeartbeats 400000 in
theorem specValidReach_c {w : World} {x y cx cy : Nat} (hx : Fl .f32 x cx) (hy : Fl .f32 y cy) :
    Calls Try.prog 15 #[.agg #[.float .f32 x, .float .f32 y]] w (BB w (vReach cx cy)) := by
  go_enter Try.func15, Try.ntmps15
  go_wp2_with (first | (go_at_call 52; refine (l05Reach_c (by first | (go_simp; done) | (go_simp; rfl)) (by first | (go_simp; done) | (go_simp; rfl)) (by first | assumption | exact fl_lit (by decide +kernel)) (by first | assumption | exact fl_lit (by decide +kernel))).mono ?_; rintro e w' ⟨b, hb, rfl, n, rfl⟩; cases b))
  all_goals
    go_ret
    exact BB.mk (by simp [*]) (by repeat (first | exact Below.refl _ _ | assumption | refine Below.draws ?_ _ | refine Below.drew ?_ | refine below_plus ?_ (by first | omega | (simp only [World.size_alloc, World.size_setCell, World.heap_drewN, size_plus]; omega) | (simp; done) | (simp; omega)) _ _ | refine Below.alloc ?_ (by first | omega | (simp only [World.size_alloc, World.size_setCell, World.heap_drewN, size_plus]; omega) | (simp; done) | (simp; omega)) _ | refine Below.setCell ?_ (by first | omega | (simp only [World.size_alloc, World.size_setCell, World.heap_drewN, size_plus]; omega) | (simp; done) | (simp; omega)) _))
set_option maxHeartbeats 400000 in
theorem implValidReach_c {w : World} {x y cx cy : Nat} (hx : Fl .f32 x cx) (hy : Fl .f32 y cy) :
    Calls Try.prog 17 #[.agg #[.float .f32 x, .float .f32 y]] w (BB w (vReach cx cy)) := by
  go_enter Try.func17, Try.ntmps17
  go_wp2_with (first | (go_at_call 53; refine (aLength_c (by first | assumption | exact fl_lit (by decide +kernel))).mono ?_; rintro e w' ⟨b, hb, rfl, n, rfl⟩; cases b) | (refine wpList_fcmp rfl _ _ _ _ _ rfl _ _ _ rfl rfl _ rfl ?_; intro b hc; replace hc := hc _ _ (by first | assumption | exact fl_lit (by decide +kernel)) (by first | assumption | exact fl_lit (by decide +kernel)); cases b))
  all_goals
    go_ret
    exact BB.mk (by simp [vReach, *]) (by repeat (first | exact Below.refl _ _ | assumption | refine Below.draws ?_ _ | refine Below.drew ?_ | refine below_plus ?_ (by first | omega | (simp only [World.size_alloc, World.size_setCell, World.heap_drewN, size_plus]; omega) | (simp; done) | (simp; omega)) _ _ | refine Below.alloc ?_ (by first | omega | (simp only [World.size_alloc, World.size_setCell, World.heap_drewN, size_plus]; omega) | (simp; done) | (simp; omega)) _ | refine Below.setCell ?_ (by first | omega | (simp only [World.size_alloc, World.size_setCell, World.heap_drewN, size_plus]; omega) | (simp; done) | (simp; omega)) _))
set_option maxHeartbeats 400000 in
theorem toReach_c {w : World} {x y : Nat} :
    Calls Try.prog 16 #[.agg #[.float .f32 x, .float .f32 y]] w (BV w (.agg #[.float .f32 x, .float .f32 y])) := by
  go_enter Try.func16, Try.ntmps16
  go_wp2
  exact bodyPost_ret (v := .agg #[.float .f32 x, .float .f32 y]) (by simp [results, Try.results16, go_sem]) rfl (BV.mk rfl (by repeat (first | exact Below.refl _ _ | assumption | refine Below.draws ?_ _ | refine Below.drew ?_ | refine below_plus ?_ (by first | omega | (simp only [World.size_alloc, World.size_setCell, World.heap_drewN, size_plus]; omega) | (simp; done) | (simp; omega)) _ _ | refine Below.alloc ?_ (by first | omega | (simp only [World.size_alloc, World.size_setCell, World.heap_drewN, size_plus]; omega) | (simp; done) | (simp; omega)) _ | refine Below.setCell ?_ (by first | omega | (simp only [World.size_alloc, World.size_setCell, World.heap_drewN, size_plus]; omega) | (simp; done) | (simp; omega)) _)))
set_option maxHeartbeats 400000 in
theorem lawValidReach {w : World} {x y cx cy : Nat} (hx : Fl .f32 x cx) (hy : Fl .f32 y cy) :
    Calls Try.prog 3 #[.agg #[.float .f32 x, .float .f32 y]] w (BV w (.bool true)) := by
  go_enter Try.func3, Try.ntmps3
  go_wp2_with (first | (go_at_call 16; refine (toReach_c).mono ?_; rintro e w' ⟨rfl, hbl⟩; obtain ⟨d, e, rfl⟩ := to_plus hbl; clear hbl) | (go_at_call 15; refine (specValidReach_c (by first | assumption | exact fl_lit (by decide +kernel)) (by first | assumption | exact fl_lit (by decide +kernel))).mono ?_; rintro e w' ⟨b, hb, rfl, hbl⟩; obtain ⟨d, e, rfl⟩ := to_plus hbl; clear hbl; cases b) | (go_at_call 17; refine (implValidReach_c (by first | assumption | exact fl_lit (by decide +kernel)) (by first | assumption | exact fl_lit (by decide +kernel))).mono ?_; rintro e w' ⟨b, hb, rfl, hbl⟩; obtain ⟨d, e, rfl⟩ := to_plus hbl; clear hbl; cases b))
  all_goals first | (go_ret; exact BV.mk rfl (by repeat (first | exact Below.refl _ _ | assumption | refine Below.draws ?_ _ | refine Below.drew ?_ | refine below_plus ?_ (by first | omega | (simp only [World.size_alloc, World.size_setCell, World.heap_drewN, size_plus]; omega) | (simp; done) | (simp; omega)) _ _ | refine Below.alloc ?_ (by first | omega | (simp only [World.size_alloc, World.size_setCell, World.heap_drewN, size_plus]; omega) | (simp; done) | (simp; omega)) _ | refine Below.setCell ?_ (by first | omega | (simp only [World.size_alloc, World.size_setCell, World.heap_drewN, size_plus]; omega) | (simp; done) | (simp; omega)) _))) | (exfalso; simp_all; done)

end Go.Proofs.Ytihoaflcjkppnaa
