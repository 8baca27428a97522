/- Lists of floats that are compared. -/
import Derived.Test.YtihoaflcjkppnaaSl
import Derived.Test.YtihoaflcjkppnaaRg
set_option linter.unusedVariables false
set_option linter.unusedSimpArgs false
namespace Go.Proofs.Ytihoaflcjkppnaa
open Go.RowKit

set_option maxRecDepth 100000 in
set_option maxHeartbeats 2000000 in
theorem eqFloat32S_c {w : World} {A B : Option Addr} {n ca cb : Nat} {cs ds : List Nat} (h1 : RdF w A n cs) (h2 : RdF w B n ds) (he : cs = ds) : Calls Try.prog 69 #[.slice A n ca, .slice B n cb] w (RB w true) := by
  obtain ⟨hl, hm, h1⟩ := h1
  obtain ⟨hl2, _, h2⟩ := h2
  have hnn : ((n : Int) == (n : Int)) = true := by simp
  have hnn' : ((n : Int) != (n : Int)) = false := by simp
  rcases h1 with rfl | ⟨b, o, rfl, hc⟩
  · obtain rfl : cs = [] := List.eq_nil_of_length_eq_zero hl
    obtain rfl : ds = [] := List.eq_nil_of_length_eq_zero hl2
    clear hl hl2 h2 hm hnn hnn'
    go_enter Try.func69, Try.ntmps69
    go_wp2
    go_loopw [5] (fun i wr => i = .int .i64 0 ∧ wr = w) (fun i _ => 0 - (intOf i).toNat)
    case atStart => exact ⟨rfl, rfl⟩
    case round =>
      obtain ⟨rfl, rfl⟩ := hrel
      go_wp2
      go_ret
      exact RB.mk0 rfl
  · rcases h2 with rfl | ⟨b', o', rfl, hc'⟩
    · obtain rfl : cs = [] := List.eq_nil_of_length_eq_zero hl
      obtain rfl : ds = [] := List.eq_nil_of_length_eq_zero hl2
      clear hl hl2 hc hm hnn hnn'
      go_enter Try.func69, Try.ntmps69
      go_wp2
      go_loopw [5] (fun i wr => i = .int .i64 0 ∧ wr = w) (fun i _ => 0 - (intOf i).toNat)
      case atStart => exact ⟨rfl, rfl⟩
      case round =>
        obtain ⟨rfl, rfl⟩ := hrel
        go_wp2
        go_ret
        exact RB.mk0 rfl
    have HC := Lib.hid hc; clear hc
    have HC' := Lib.hid hc'; clear hc'
    have HL := Lib.hid hl; clear hl
    have HL2 := Lib.hid hl2; clear hl2
    go_enter Try.func69, Try.ntmps69
    go_wp2
    go_loopw [5] (fun i wr => ∃ k m : Nat, k ≤ n ∧ i = .int .i64 k ∧ Hid (∀ j, j < k → cs.getD j 0 = ds.getD j 0) ∧ wr = w.drewN m) (fun i _ => n - (intOf i).toNat)
    case atStart => exact ⟨0, 0, Nat.zero_le _, rfl, fun j hj => absurd hj (by omega), rfl⟩
    case round =>
      obtain ⟨k, m, hk, rfl, HP, rfl⟩ := hrel
      by_cases hlt : k < n
      · obtain ⟨r1, hcell1, hf1⟩ := HC.out k hlt
        obtain ⟨r2, hcell2, hf2⟩ := HC'.out k hlt
        have HE : Hid (cs.getD k 0 = ds.getD k 0) := by subst he; rfl
        rw [show ds.getD k 0 = cs.getD k 0 from HE.out.symm] at hf2
        clear he
        go_wp2_with (first | (refine wp_region_rel (ClsD _) (GT 20 .f64) (by kernel_rfl) (by kernel_rfl) (ClsD.start _) ?_; (repeat' (first | (refine wpRel_call2 rfl 20 _ _ _ rfl _ _ _ rfl rfl (run_enter Try.func20 (by kernel_rfl) (by kernel_rfl)) (fun w hw => GT.of (by first | assumption | exact fl_lit (by decide +kernel)) (by first | assumption | exact fl_lit (by decide +kernel)) (sameFloat_c (by first | assumption | exact fl_lit (by decide +kernel)) (by first | assumption | exact fl_lit (by decide +kernel))) hw) ?_; rintro z ⟨-, b, rfl, hb⟩; obtain rfl := hb _ _ _ rfl (by first | assumption | exact fl_lit (by decide +kernel)) (by first | assumption | exact fl_lit (by decide +kernel))) | (refine wpRel_move rfl _ rfl _ rfl ?_) | (refine wpRel_assign rfl _ rfl _ rfl ?_) | (refine wpRel_farith rfl (ClsD.draws (w := _)) _ _ _ _ _ rfl rfl _ _ _ rfl rfl _ rfl ?_; intro r hr; replace hr := hr _ _ (by first | assumption | exact fl_lit (by decide +kernel)) (by first | assumption | exact fl_lit (by decide +kernel))) | (refine wpRel_fcmp rfl _ _ _ _ _ rfl _ _ _ rfl rfl _ rfl ?_; intro b hc; replace hc := hc _ _ (by first | assumption | exact fl_lit (by decide +kernel)) (by first | assumption | exact fl_lit (by decide +kernel)); cases b) | (refine wpRel_up rfl (ClsD.draws (w := _)) _ _ _ rfl _ rfl (by rw [Try.underlying22]; rfl) Try.underlying32 ?_; intro r hr; replace hr := hr _ (by first | assumption | exact fl_lit (by decide +kernel))) | (refine wpRel_fsame rfl _ _ _ rfl _ _ rfl (by rw [Try.underlying22]; rfl) Try.underlying22 ?_) | (refine wpRel_fneg rfl _ _ rfl _ _ rfl ?_; intro r hr; replace hr := hr _ (by first | assumption | exact fl_lit (by decide +kernel))) | (refine wpRel_skip rfl ?_) | (refine wpRel_plain (fun K hK => ?_); go_simp; refine hK _ ?_; clear hK K))); all_goals (refine wpRel_nil ?_; rintro w' ⟨n, rfl⟩; go_simp)))
        all_goals first
          | (refine ⟨⟨k + 1, _, by omega, by go_num, (fun j hj => by rcases Nat.lt_succ_iff_lt_or_eq.1 hj with h | rfl; exact HP.out j h; first | exact HE.out | simpa using hb), rfl⟩, by simp [intOf]; omega⟩)
          | (go_roundw; case rel => exact ⟨k + 1, _, by omega, by go_num, (fun j hj => by rcases Nat.lt_succ_iff_lt_or_eq.1 hj with h | rfl; exact HP.out j h; first | exact HE.out | simpa using hb), by go_simp⟩; case measure => simp [intOf]; omega)
          | (go_ret; exact RB.mk rfl)
      · go_wp2
        go_ret
        exact RB.mk rfl

set_option maxRecDepth 100000 in
set_option maxHeartbeats 2000000 in
theorem l01SameAll_c {w : World} {A B : Option Addr} {n ca cb : Nat} {cs ds : List Nat} (h1 : RdF w A n cs) (h2 : RdF w B n ds) : Calls Try.prog 66 #[.slice A n ca, .slice B n cb] w (RB w (decide (cs = ds))) := by
  obtain ⟨hl, hm, h1⟩ := h1
  obtain ⟨hl2, _, h2⟩ := h2
  have hnn : ((n : Int) == (n : Int)) = true := by simp
  have hnn' : ((n : Int) != (n : Int)) = false := by simp
  rcases h1 with rfl | ⟨b, o, rfl, hc⟩
  · obtain rfl : cs = [] := List.eq_nil_of_length_eq_zero hl
    obtain rfl : ds = [] := List.eq_nil_of_length_eq_zero hl2
    clear hl hl2 h2 hm hnn hnn'
    go_enter Try.func66, Try.ntmps66
    go_wp2
    go_loopw [5] (fun i wr => i = .int .i64 0 ∧ wr = w) (fun i _ => 0 - (intOf i).toNat)
    case atStart => exact ⟨rfl, rfl⟩
    case round =>
      obtain ⟨rfl, rfl⟩ := hrel
      go_wp2
      go_ret
      exact RB.mk0 (by simp)
  · rcases h2 with rfl | ⟨b', o', rfl, hc'⟩
    · obtain rfl : cs = [] := List.eq_nil_of_length_eq_zero hl
      obtain rfl : ds = [] := List.eq_nil_of_length_eq_zero hl2
      clear hl hl2 hc hm hnn hnn'
      go_enter Try.func66, Try.ntmps66
      go_wp2
      go_loopw [5] (fun i wr => i = .int .i64 0 ∧ wr = w) (fun i _ => 0 - (intOf i).toNat)
      case atStart => exact ⟨rfl, rfl⟩
      case round =>
        obtain ⟨rfl, rfl⟩ := hrel
        go_wp2
        go_ret
        exact RB.mk0 (by simp)
    have HC := Lib.hid hc; clear hc
    have HC' := Lib.hid hc'; clear hc'
    have HL := Lib.hid hl; clear hl
    have HL2 := Lib.hid hl2; clear hl2
    go_enter Try.func66, Try.ntmps66
    go_wp2
    go_loopw [5] (fun i wr => ∃ k m : Nat, k ≤ n ∧ i = .int .i64 k ∧ Hid (∀ j, j < k → cs.getD j 0 = ds.getD j 0) ∧ wr = w.drewN m) (fun i _ => n - (intOf i).toNat)
    case atStart => exact ⟨0, 0, Nat.zero_le _, rfl, fun j hj => absurd hj (by omega), rfl⟩
    case round =>
      obtain ⟨k, m, hk, rfl, HP, rfl⟩ := hrel
      by_cases hlt : k < n
      · obtain ⟨r1, hcell1, hf1⟩ := HC.out k hlt
        obtain ⟨r2, hcell2, hf2⟩ := HC'.out k hlt
        skip
        go_wp2_with (first | (refine wp_region_rel (ClsD _) (G2 60 .f32 (fun c d b => decide (c = d) = b)) (by kernel_rfl) (by kernel_rfl) (ClsD.start _) ?_; (repeat' (first | (refine wpRel_call2 rfl 60 _ _ _ rfl _ _ _ rfl rfl (run_enter Try.func60 (by kernel_rfl) (by kernel_rfl)) (fun w hw => G2.of (by first | assumption | exact fl_lit (by decide +kernel)) (by first | assumption | exact fl_lit (by decide +kernel)) (l01Same_c (by first | assumption | exact fl_lit (by decide +kernel)) (by first | assumption | exact fl_lit (by decide +kernel))) hw) ?_; rintro z ⟨-, b, rfl, hb⟩; replace hb := hb _ _ _ _ rfl (by first | assumption | exact fl_lit (by decide +kernel)) (by first | assumption | exact fl_lit (by decide +kernel)); cases b) | (refine wpRel_move rfl _ rfl _ rfl ?_) | (refine wpRel_assign rfl _ rfl _ rfl ?_) | (refine wpRel_farith rfl (ClsD.draws (w := _)) _ _ _ _ _ rfl rfl _ _ _ rfl rfl _ rfl ?_; intro r hr; replace hr := hr _ _ (by first | assumption | exact fl_lit (by decide +kernel)) (by first | assumption | exact fl_lit (by decide +kernel))) | (refine wpRel_fcmp rfl _ _ _ _ _ rfl _ _ _ rfl rfl _ rfl ?_; intro b hc; replace hc := hc _ _ (by first | assumption | exact fl_lit (by decide +kernel)) (by first | assumption | exact fl_lit (by decide +kernel)); cases b) | (refine wpRel_up rfl (ClsD.draws (w := _)) _ _ _ rfl _ rfl (by rw [Try.underlying22]; rfl) Try.underlying32 ?_; intro r hr; replace hr := hr _ (by first | assumption | exact fl_lit (by decide +kernel))) | (refine wpRel_fsame rfl _ _ _ rfl _ _ rfl (by rw [Try.underlying22]; rfl) Try.underlying22 ?_) | (refine wpRel_fneg rfl _ _ rfl _ _ rfl ?_; intro r hr; replace hr := hr _ (by first | assumption | exact fl_lit (by decide +kernel))) | (refine wpRel_skip rfl ?_) | (refine wpRel_plain (fun K hK => ?_); go_simp; refine hK _ ?_; clear hK K))); all_goals (refine wpRel_nil ?_; rintro w' ⟨n, rfl⟩; go_simp)))
        all_goals first
          | (refine ⟨⟨k + 1, _, by omega, by go_num, (fun j hj => by rcases Nat.lt_succ_iff_lt_or_eq.1 hj with h | rfl; exact HP.out j h; first | exact HE.out | simpa using hb), rfl⟩, by simp [intOf]; omega⟩)
          | (go_roundw; case rel => exact ⟨k + 1, _, by omega, by go_num, (fun j hj => by rcases Nat.lt_succ_iff_lt_or_eq.1 hj with h | rfl; exact HP.out j h; first | exact HE.out | simpa using hb), by go_simp⟩; case measure => simp [intOf]; omega)
          | (go_ret; exact RB.mk (decide_eq_false (fun e => by subst e; simp at hb)))
      · go_wp2
        go_ret
        exact RB.mk (decide_eq_true (List.ext_getElem (by rw [HL.out, HL2.out]) fun j h1 h2 => by have := HP.out j (by rw [HL.out] at h1; omega); simpa [List.getD_eq_getElem?_getD, List.getElem?_eq_getElem h1, List.getElem?_eq_getElem h2] using this))

set_option maxRecDepth 100000 in
set_option maxHeartbeats 1000000 in
theorem l01SameAll_c_ne {w : World} {A B : Option Addr} {n m ca cb : Nat} (hm : n ≤ 9223372036854775807) (hm2 : m ≤ 9223372036854775807) (hne : n ≠ m) : Calls Try.prog 66 #[.slice A n ca, .slice B m cb] w (RB w false) := by
  have hnn : ((n : Int) != (m : Int)) = true := by rw [bne_iff_ne]; omega
  clear hne
  go_enter Try.func66, Try.ntmps66
  go_wp2
  go_ret
  exact RB.mk0 rfl
theorem l01SameAll_c_any {w : World} {A B : Option Addr} {n m ca cb : Nat} {cs ds : List Nat} (h1 : RdF w A n cs) (h2 : RdF w B m ds) : Calls Try.prog 66 #[.slice A n ca, .slice B m cb] w (RB w (decide (cs = ds))) := by
  by_cases h : n = m
  · subst h; exact l01SameAll_c h1 h2
  · have e : decide (cs = ds) = false := decide_eq_false (fun e => h (by rw [← h1.1, ← h2.1, e]))
    rw [e]
    exact l01SameAll_c_ne h1.2.1 h2.2.1 h

set_option maxRecDepth 100000 in
set_option maxHeartbeats 2000000 in
theorem equalFunc_c {w : World} {A B : Option Addr} {n ca cb : Nat} {cs ds : List Nat} (h1 : RdF w A n cs) (h2 : RdF w B n ds) : Calls Try.prog 90 #[.slice A n ca, .slice B n cb, .func (.func 63) #[] #[]] w (RB w (decide (cs = ds))) := by
  obtain ⟨hl, hm, h1⟩ := h1
  obtain ⟨hl2, _, h2⟩ := h2
  have hnn : ((n : Int) == (n : Int)) = true := by simp
  have hnn' : ((n : Int) != (n : Int)) = false := by simp
  rcases h1 with rfl | ⟨b, o, rfl, hc⟩
  · obtain rfl : cs = [] := List.eq_nil_of_length_eq_zero hl
    obtain rfl : ds = [] := List.eq_nil_of_length_eq_zero hl2
    clear hl hl2 h2 hm hnn hnn'
    go_enter Try.func90, Try.ntmps90
    go_wp2
    go_loopw [17] (fun i wr => i = .int .i64 0 ∧ wr = w) (fun i _ => 0 - (intOf i).toNat)
    case atStart => exact ⟨rfl, rfl⟩
    case round =>
      obtain ⟨rfl, rfl⟩ := hrel
      go_wp2
      go_ret
      exact RB.mk0 (by simp)
  · rcases h2 with rfl | ⟨b', o', rfl, hc'⟩
    · obtain rfl : cs = [] := List.eq_nil_of_length_eq_zero hl
      obtain rfl : ds = [] := List.eq_nil_of_length_eq_zero hl2
      clear hl hl2 hc hm hnn hnn'
      go_enter Try.func90, Try.ntmps90
      go_wp2
      go_loopw [17] (fun i wr => i = .int .i64 0 ∧ wr = w) (fun i _ => 0 - (intOf i).toNat)
      case atStart => exact ⟨rfl, rfl⟩
      case round =>
        obtain ⟨rfl, rfl⟩ := hrel
        go_wp2
        go_ret
        exact RB.mk0 (by simp)
    have HC := Lib.hid hc; clear hc
    have HC' := Lib.hid hc'; clear hc'
    have HL := Lib.hid hl; clear hl
    have HL2 := Lib.hid hl2; clear hl2
    go_enter Try.func90, Try.ntmps90
    go_wp2
    go_loopw [17] (fun i wr => ∃ k m : Nat, k ≤ n ∧ i = .int .i64 k ∧ Hid (∀ j, j < k → cs.getD j 0 = ds.getD j 0) ∧ wr = w.drewN m) (fun i _ => n - (intOf i).toNat)
    case atStart => exact ⟨0, 0, Nat.zero_le _, rfl, fun j hj => absurd hj (by omega), rfl⟩
    case round =>
      obtain ⟨k, m, hk, rfl, HP, rfl⟩ := hrel
      by_cases hlt : k < n
      · obtain ⟨r1, hcell1, hf1⟩ := HC.out k hlt
        obtain ⟨r2, hcell2, hf2⟩ := HC'.out k hlt
        have hcf := (run_enter Try.func63 (by kernel_rfl) (by kernel_rfl))
        go_wp2_with (first | (go_at_call 63; refine (SameNumber_c (by first | assumption | exact fl_lit (by decide +kernel)) (by first | assumption | exact fl_lit (by decide +kernel))).mono ?_; rintro e w' ⟨b, hb, rfl, n, rfl⟩; cases b))
        all_goals first
          | (refine ⟨⟨k + 1, _, by omega, by go_num, (fun j hj => by rcases Nat.lt_succ_iff_lt_or_eq.1 hj with h | rfl; exact HP.out j h; first | exact HE.out | simpa using hb), rfl⟩, by simp [intOf]; omega⟩)
          | (go_roundw; case rel => exact ⟨k + 1, _, by omega, by go_num, (fun j hj => by rcases Nat.lt_succ_iff_lt_or_eq.1 hj with h | rfl; exact HP.out j h; first | exact HE.out | simpa using hb), by go_simp⟩; case measure => simp [intOf]; omega)
          | (go_ret; exact RB.mk (decide_eq_false (fun e => by subst e; simp at hb)))
      · go_wp2
        go_ret
        exact RB.mk (decide_eq_true (List.ext_getElem (by rw [HL.out, HL2.out]) fun j h1 h2 => by have := HP.out j (by rw [HL.out] at h1; omega); simpa [List.getD_eq_getElem?_getD, List.getElem?_eq_getElem h1, List.getElem?_eq_getElem h2] using this))

set_option maxRecDepth 100000 in
set_option maxHeartbeats 1000000 in
theorem equalFunc_c_ne {w : World} {A B : Option Addr} {n m ca cb : Nat} (hm : n ≤ 9223372036854775807) (hm2 : m ≤ 9223372036854775807) (hne : n ≠ m) : Calls Try.prog 90 #[.slice A n ca, .slice B m cb, .func (.func 63) #[] #[]] w (RB w false) := by
  have hnn : ((n : Int) != (m : Int)) = true := by rw [bne_iff_ne]; omega
  clear hne
  go_enter Try.func90, Try.ntmps90
  go_wp2
  go_ret
  exact RB.mk0 rfl
theorem equalFunc_c_any {w : World} {A B : Option Addr} {n m ca cb : Nat} {cs ds : List Nat} (h1 : RdF w A n cs) (h2 : RdF w B m ds) : Calls Try.prog 90 #[.slice A n ca, .slice B m cb, .func (.func 63) #[] #[]] w (RB w (decide (cs = ds))) := by
  by_cases h : n = m
  · subst h; exact equalFunc_c h1 h2
  · have e : decide (cs = ds) = false := decide_eq_false (fun e => h (by rw [← h1.1, ← h2.1, e]))
    rw [e]
    exact equalFunc_c_ne h1.2.1 h2.2.1 h

set_option maxRecDepth 100000 in
theorem sameNumbers_c {w : World} {A B : Option Addr} {n m ca cb : Nat} {cs ds : List Nat} (h1 : RdF w A n cs) (h2 : RdF w B m ds) : Calls Try.prog 68 #[.slice A n ca, .slice B m cb] w (RB w (decide (cs = ds))) := by
  have hm := h1.2.1
  have hm2 := h2.2.1
  have H := Lib.hid (equalFunc_c_any (ca := ca) (cb := cb) h1 h2)
  clear h1 h2
  go_enter Try.func68, Try.ntmps68
  go_wp2_with (refine H.out.mono ?_; rintro e w' ⟨b, hb, rfl, n', rfl⟩)
  go_ret
  exact RB.mk hb
set_option maxRecDepth 100000 in
theorem szFloat32S_c {w : World} {A : Option Addr} {n c : Nat} {l : Int} (hn : n ≤ 9223372036854775807) (h0 : -1 ≤ l) (h1 : l ≤ 1048576) : Calls Try.prog 65 #[.slice A n c, .int .i64 l] w (RV w (.int .i64 (if l - n < 0 then -1 else l - n))) := by
  by_cases h : l - n < 0
  all_goals
    go_enter Try.func65, Try.ntmps65
    go_wp2
    go_ret
    exact RV.mk0 (by simp [h])

end Go.Proofs.Ytihoaflcjkppnaa
