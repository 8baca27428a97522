/- Canals that hold. -/
import Derived.Test.YtihoaflcjkppnaaVc
set_option linter.unusedVariables false
set_option linter.unusedSimpArgs false
namespace Go.Proofs.Ytihoaflcjkppnaa
open Go.RowKit

set_option maxRecDepth 100000 in
set_option maxHeartbeats 4000000 in
theorem implValidCanal_c {w : World} {x y z cx cy cz : Nat} (hx : Fl .f32 x cx) (hy : Fl .f32 y cy) (hz : Fl .f32 z cz) {A B : Option Addr} {n m ca cb : Nat} {cs ds : List Nat} (h1 : RdF w A n cs) (h2 : RdF w B m ds) : Calls Try.prog 43 #[.agg #[.float .f32 x, .float .f32 y, .float .f32 z, .slice A n ca, .slice B m cb]] w (BB w (vCanal cx cy cz n m cs ds)) := by
  have hm1 := h1.2.1
  have hm2 := h2.2.1
  by_cases g1 : 1 ≤ n
  all_goals by_cases g2 : n ≤ 48
  all_goals by_cases g3 : m = n
  all_goals (have k1 : (1 : Int) ≤ n ↔ 1 ≤ n := by omega)
  all_goals (have k2 : (n : Int) ≤ 48 ↔ n ≤ 48 := by omega)
  all_goals (have k3 : ((m : Int) == (n : Int)) = decide (m = n) := by (by_cases h : m = n; (simp [h]); (have h' : ¬ (m : Int) = n := by omega); simp [h, h']))
  all_goals (have k4 : ((m : Int) = (n : Int)) ↔ m = n := by omega)
  all_goals first
    | (exfalso; omega)
    | skip
  all_goals (try subst g3)
  all_goals
    go_enter Try.func43, Try.ntmps43
    go_wp2_with (first | (go_at_call 78; refine (areLengths_c (rdF_2 (by first | assumption | exact fl_lit (by decide +kernel)) (by first | assumption | exact fl_lit (by decide +kernel)) (by first | rfl | simp))).mono ?_; rintro e w' ⟨b, hb, rfl, n, rfl⟩; cases b) | (go_at_call 72; refine (aMass_c (by first | assumption | exact fl_lit (by decide +kernel))).mono ?_; rintro e w' ⟨b, hb, rfl, n, rfl⟩; cases b) | (go_at_call 75; refine within_c.mono ?_; rintro e w' ⟨b, hb, rfl, n', rfl⟩; cases b) | (go_at_call 56; refine (areFinite_c (RdF.grow (by with_reducible assumption) (by (try simp only [plus_plus]); repeat (first | ((with_reducible apply below_ext); (try simp only [Array.append_assoc]); with_reducible rfl) | with_reducible exact Below.refl _ _ | with_reducible assumption | with_reducible exact below_app _ _ _ _ _ | with_reducible exact below_dr _ _ _ _ | with_reducible refine Below.draws ?_ _ | with_reducible refine Below.drew ?_ | ((with_reducible refine below_plus ?h ?s _ _); case s => exact (by first | omega | (simp only [World.size_alloc, World.size_setCell, World.heap_drewN, size_plus]; omega) | (simp; done) | (simp; omega))) | ((with_reducible refine Below.alloc ?h ?s _); case s => exact (by first | omega | (simp only [World.size_alloc, World.size_setCell, World.heap_drewN, size_plus]; omega) | (simp; done) | (simp; omega))) | ((with_reducible refine Below.setCell ?h ?s _); case s => exact (by first | omega | (simp only [World.size_alloc, World.size_setCell, World.heap_drewN, size_plus]; omega) | (simp; done) | (simp; omega))))))).mono ?_; rintro e w' ⟨b, hb, rfl, n', rfl⟩; cases b))
    all_goals first | (go_ret; exact BB.mk (by first | (simp [vCanal, *]; done) | (simp_all [vCanal]; done) | grind [vCanal]) (by (try simp only [plus_plus]); repeat (first | ((with_reducible apply below_ext); (try simp only [Array.append_assoc]); with_reducible rfl) | with_reducible exact Below.refl _ _ | with_reducible assumption | with_reducible exact below_app _ _ _ _ _ | with_reducible exact below_dr _ _ _ _ | with_reducible refine Below.draws ?_ _ | with_reducible refine Below.drew ?_ | ((with_reducible refine below_plus ?h ?s _ _); case s => exact (by first | omega | (simp only [World.size_alloc, World.size_setCell, World.heap_drewN, size_plus]; omega) | (simp; done) | (simp; omega))) | ((with_reducible refine Below.alloc ?h ?s _); case s => exact (by first | omega | (simp only [World.size_alloc, World.size_setCell, World.heap_drewN, size_plus]; omega) | (simp; done) | (simp; omega))) | ((with_reducible refine Below.setCell ?h ?s _); case s => exact (by first | omega | (simp only [World.size_alloc, World.size_setCell, World.heap_drewN, size_plus]; omega) | (simp; done) | (simp; omega)))))) | skip

end Go.Proofs.Ytihoaflcjkppnaa
