/- Slices of floats that are read. -/
import Derived.Test.YtihoaflcjkppnaaNv
import Derived.Test.YtihoaflcjkppnaaRg
set_option linter.unusedVariables false
set_option linter.unusedSimpArgs false
namespace Go.Proofs.Ytihoaflcjkppnaa
open Go.RowKit

/-- A slice value leads to n floats with these canonical words. -/
def RdF (w : World) (A : Option Addr) (n : Nat) (cs : List Nat) : Prop :=
  cs.length = n ∧ n ≤ 9223372036854775807 ∧ (n = 0 ∨ ∃ b o, A = some ⟨b, o, none⟩ ∧ ∀ i, i < n → ∃ r, w.cell? ⟨b, o + i, none⟩ = some (.float .f32 r) ∧ Fl .f32 r (cs.getD i 0))
theorem RdF.grow {w w' : World} {A : Option Addr} {n : Nat} {cs : List Nat} (h : RdF w A n cs) (hb : Below w.heap.size w w') : RdF w' A n cs := by
  obtain ⟨h1, h2, h3⟩ := h
  refine ⟨h1, h2, ?_⟩
  rcases h3 with h3 | ⟨b, o, rfl, hc⟩
  · exact .inl h3
  · refine .inr ⟨b, o, rfl, fun i hi => ?_⟩
    obtain ⟨r, hr, hf⟩ := hc i hi
    exact ⟨r, (hb.cell (p := ⟨b, o + i, none⟩) (World.block_lt_of_cell? w _ hr)).trans hr, hf⟩
theorem RdF.draws {w : World} {A : Option Addr} {n : Nat} {cs : List Nat} (h : RdF w A n cs) (m : Nat) : RdF (w.drewN m) A n cs := h
/-- The first place where something holds; -1 if there is none. -/
def idxOf (p : Nat → Bool) (cs : List Nat) : Int := match cs.findIdx? p with
  | some i => i
  | none => -1
theorem idxOf_here {p : Nat → Bool} {cs : List Nat} {k : Nat} (hk : k < cs.length) (h0 : ∀ j, j < k → p (cs.getD j 0) = false) (h1 : p (cs.getD k 0) = true) : idxOf p cs = k := by
  have e : cs.findIdx? p = some k := by
    rw [List.findIdx?_eq_some_iff_getElem]
    refine ⟨hk, by simpa [List.getD_eq_getElem?_getD, List.getElem?_eq_getElem hk] using h1, fun j hj => ?_⟩
    have := h0 j hj
    simpa [List.getD_eq_getElem?_getD, List.getElem?_eq_getElem (Nat.lt_trans hj hk)] using this
  unfold idxOf; rw [e]
theorem idxOf_none {p : Nat → Bool} {cs : List Nat} (h0 : ∀ j, j < cs.length → p (cs.getD j 0) = false) : idxOf p cs = -1 := by
  have e : cs.findIdx? p = none := by
    rw [List.findIdx?_eq_none_iff]
    intro x hx
    obtain ⟨j, hj, rfl⟩ := List.mem_iff_getElem.1 hx
    have := h0 j hj
    simpa [List.getD_eq_getElem?_getD, List.getElem?_eq_getElem hj] using this
  unfold idxOf; rw [e]
theorem idxOf_any (p : Nat → Bool) (cs : List Nat) : decide (0 ≤ idxOf p cs) = cs.any p := by
  unfold idxOf
  cases h : cs.findIdx? p with
  | none =>
    rw [List.findIdx?_eq_none_iff] at h
    have : cs.any p = false := by rw [List.any_eq_false]; intro x hx; simp [h x hx]
    rw [this]; rfl
  | some i =>
    rw [List.findIdx?_eq_some_iff_getElem] at h
    obtain ⟨hi, h1, _⟩ := h
    have : cs.any p = true := List.any_eq_true.2 ⟨cs[i], List.getElem_mem hi, h1⟩
    rw [this]; simp
set_option maxRecDepth 100000 in
set_option maxHeartbeats 1000000 in
theorem indexFunc_c (g : FuncId) (p : Nat → Bool) {w : World} {A : Option Addr} {n c : Nat} {cs : List Nat} (h : RdF w A n cs)
    (hcf : ∀ args w, (callFunc g args).run Try.prog w = .ok (.enter g args) w) (hg : ∀ (x cx m : Nat), Fl .f32 x cx → Calls Try.prog g #[.float .f32 x] (w.drewN m) (RB (w.drewN m) (p cx))) :
    Calls Try.prog 96 #[.slice A n c, .func (.func g) #[] #[]] w (RV w (.int .i64 (idxOf p cs))) := by
  obtain ⟨hl, hm, h⟩ := h
  rcases h with rfl | ⟨b, o, rfl, hc⟩
  · have e0 : idxOf p cs = -1 := idxOf_none (fun j hj => absurd hj (by omega))
    rw [e0]
    clear hg hl e0 hcf
    go_enter Try.func96, Try.ntmps96
    go_wp2
    go_loopw [8] (fun i wr => i = .int .i64 0 ∧ wr = w) (fun i _ => 0 - (intOf i).toNat)
    case atStart => exact ⟨rfl, rfl⟩
    case round =>
      obtain ⟨rfl, rfl⟩ := hrel
      go_wp2
      go_ret
      exact RV.mk0 rfl
  · have HG := Lib.hid hg; clear hg
    have HC := Lib.hid hc; clear hc
    have HL := Lib.hid hl; clear hl
    go_enter Try.func96, Try.ntmps96
    go_wp2
    go_loopw [8] (fun i wr => ∃ k m : Nat, k ≤ n ∧ i = .int .i64 k ∧ Hid (∀ j, j < k → p (cs.getD j 0) = false) ∧ wr = w.drewN m) (fun i _ => n - (intOf i).toNat)
    case atStart => exact ⟨0, 0, Nat.zero_le _, rfl, fun j hj => absurd hj (by omega), rfl⟩
    case round =>
      obtain ⟨k, m, hk, rfl, HP, rfl⟩ := hrel
      by_cases hlt : k < n
      · obtain ⟨r, hcell, hf⟩ := HC.out k hlt
        go_wp2_with (refine (HG.out _ _ _ hf).mono ?_; rintro e w' ⟨bb, hb, rfl, n', rfl⟩; cases bb)
        · go_roundw
          case rel => exact ⟨k + 1, m + n', by omega, by go_num, (fun j hj => by rcases Nat.lt_succ_iff_lt_or_eq.1 hj with h | rfl; exact HP.out j h; exact hb), by go_simp⟩
          case measure => simp [intOf]; omega
        · go_ret
          exact RV.mk (by rw [idxOf_here (by rw [HL.out]; exact hlt) HP.out hb]; rfl)
      · go_wp2
        go_ret
        exact RV.mk (by rw [idxOf_none (fun j hj => HP.out j (by rw [HL.out] at hj; omega))]; rfl)

theorem any_not (p : Nat → Bool) (cs : List Nat) : (!cs.any fun c => !p c) = cs.all p := by
  induction cs with
  | nil => rfl
  | cons x cs ih => simp only [List.any_cons, List.all_cons, ← ih]; cases p x <;> simp
theorem all_here {p : Nat → Bool} {cs : List Nat} {k : Nat} (hk : k < cs.length) (h : p (cs.getD k 0) = false) : cs.all p = false := by
  rw [List.all_eq_false]
  refine ⟨cs[k], List.getElem_mem hk, ?_⟩
  simpa [List.getD_eq_getElem?_getD, List.getElem?_eq_getElem hk] using h
theorem all_of {p : Nat → Bool} {cs : List Nat} (h : ∀ j, j < cs.length → p (cs.getD j 0) = true) : cs.all p = true := by
  rw [List.all_eq_true]
  intro x hx
  obtain ⟨j, hj, rfl⟩ := List.mem_iff_getElem.1 hx
  have := h j hj
  simpa [List.getD_eq_getElem?_getD, List.getElem?_eq_getElem hj] using this
set_option maxRecDepth 100000 in
set_option maxHeartbeats 1000000 in
theorem containsFunc_c (g : FuncId) (p : Nat → Bool) {w : World} {A : Option Addr} {n c : Nat} {cs : List Nat} (h : RdF w A n cs)
    (hcf : ∀ args w, (callFunc g args).run Try.prog w = .ok (.enter g args) w) (hg : ∀ (x cx m : Nat), Fl .f32 x cx → Calls Try.prog g #[.float .f32 x] (w.drewN m) (RB (w.drewN m) (p cx))) :
    Calls Try.prog 86 #[.slice A n c, .func (.func g) #[] #[]] w (RB w (cs.any p)) := by
  have hm := h.2.1
  have H := Lib.hid (indexFunc_c (c := c) g p h hcf hg)
  clear hcf hg h
  go_enter Try.func86, Try.ntmps86
  go_wp2_with (refine H.out.mono ?_; rintro e w' ⟨rfl, m, rfl⟩)
  go_ret
  exact RB.mk (by rw [← idxOf_any])
set_option maxRecDepth 100000 in
set_option maxHeartbeats 400000 in
theorem areFinite1_c {x cx : Nat} (hx : Fl .f32 x cx) {w : World} : Calls Try.prog 87 #[.float .f32 x] w (RB w (!isFin .f32 cx)) := by
  go_enter Try.func87, Try.ntmps87
  go_wp2_with (first | (go_at_call 80; refine (IsFinite_c (by first | assumption | exact fl_lit (by decide +kernel))).mono ?_; rintro e w' ⟨b, hb, rfl, n, rfl⟩; cases b))
  all_goals
    go_ret
    first | exact RB.mk (by simp [fop_add, *]) | exact RB.mk0 (by simp [fop_add, *])

set_option maxRecDepth 100000 in
set_option maxHeartbeats 400000 in
theorem areMasses1_c {x cx : Nat} (hx : Fl .f32 x cx) {w : World} : Calls Try.prog 93 #[.float .f32 x] w (RB w (!isMass cx)) := by
  go_enter Try.func93, Try.ntmps93
  go_wp2_with (first | (go_at_call 72; refine (aMass_c (by first | assumption | exact fl_lit (by decide +kernel))).mono ?_; rintro e w' ⟨b, hb, rfl, n, rfl⟩; cases b))
  all_goals
    go_ret
    first | exact RB.mk (by simp [fop_add, *]) | exact RB.mk0 (by simp [fop_add, *])

set_option maxRecDepth 100000 in
set_option maxHeartbeats 1000000 in
theorem areFinite_c {w : World} {A : Option Addr} {n c : Nat} {cs : List Nat} (h : RdF w A n cs) : Calls Try.prog 56 #[.slice A n c] w (RB w (cs.all (isFin .f32))) := by
  have hm := h.2.1
  have H := Lib.hid (containsFunc_c (c := c) 87 (fun c => !(isFin .f32 c)) h (run_enter Try.func87 (by kernel_rfl) (by kernel_rfl)) (fun x cx m hx => areFinite1_c hx))
  clear h
  go_enter Try.func56, Try.ntmps56
  go_wp2_with (refine H.out.mono ?_; rintro e w' ⟨b, hb, rfl, m, rfl⟩)
  go_ret
  exact RB.mk (by rw [← any_not, hb])

set_option maxRecDepth 100000 in
set_option maxHeartbeats 1000000 in
theorem areMasses_c {w : World} {A : Option Addr} {n c : Nat} {cs : List Nat} (h : RdF w A n cs) : Calls Try.prog 76 #[.slice A n c] w (RB w (cs.all (isMass))) := by
  have hm := h.2.1
  have H := Lib.hid (containsFunc_c (c := c) 93 (fun c => !(isMass c)) h (run_enter Try.func93 (by kernel_rfl) (by kernel_rfl)) (fun x cx m hx => areMasses1_c hx))
  clear h
  go_enter Try.func76, Try.ntmps76
  go_wp2_with (refine H.out.mono ?_; rintro e w' ⟨b, hb, rfl, m, rfl⟩)
  go_ret
  exact RB.mk (by rw [← any_not, hb])

set_option maxRecDepth 100000 in
set_option maxHeartbeats 1000000 in
theorem areLengths_c {w : World} {A : Option Addr} {n c : Nat} {cs : List Nat} (h : RdF w A n cs) : Calls Try.prog 78 #[.slice A n c] w (RB w (cs.all (isLen))) := by
  obtain ⟨hl, hm, h⟩ := h
  rcases h with rfl | ⟨b, o, rfl, hc⟩
  · have e0 : cs.all (isLen) = true := all_of (fun j hj => absurd hj (by omega))
    rw [e0]
    clear hl e0
    go_enter Try.func78, Try.ntmps78
    go_wp2
    go_loopw [7] (fun i wr => i = .int .i64 0 ∧ wr = w) (fun i _ => 0 - (intOf i).toNat)
    case atStart => exact ⟨rfl, rfl⟩
    case round =>
      obtain ⟨rfl, rfl⟩ := hrel
      go_wp2
      go_ret
      exact RB.mk0 rfl
  · have HC := Lib.hid hc; clear hc
    have HL := Lib.hid hl; clear hl
    go_enter Try.func78, Try.ntmps78
    go_wp2
    go_loopw [7] (fun i wr => ∃ k m : Nat, k ≤ n ∧ i = .int .i64 k ∧ Hid (∀ j, j < k → (isLen) (cs.getD j 0) = true) ∧ wr = w.drewN m) (fun i _ => n - (intOf i).toNat)
    case atStart => exact ⟨0, 0, Nat.zero_le _, rfl, fun j hj => absurd hj (by omega), rfl⟩
    case round =>
      obtain ⟨k, m, hk, rfl, HP, rfl⟩ := hrel
      by_cases hlt : k < n
      · obtain ⟨r, hcell, hf⟩ := HC.out k hlt
        go_wp2_with (go_at_call 53; refine (aLength_c hf).mono ?_; rintro e w' ⟨bb, hb, rfl, n', rfl⟩; cases bb)
        · go_ret
          exact RB.mk (all_here (by rw [HL.out]; exact hlt) hb)
        · go_roundw
          case rel => exact ⟨k + 1, m + n', by omega, by go_num, (fun j hj => by rcases Nat.lt_succ_iff_lt_or_eq.1 hj with h | rfl; exact HP.out j h; exact hb), by go_simp⟩
          case measure => simp [intOf]; omega
      · go_wp2
        go_ret
        exact RB.mk (all_of (fun j hj => HP.out j (by rw [HL.out] at hj; omega)))

set_option maxRecDepth 100000 in
set_option maxHeartbeats 1000000 in
theorem l02Finite_c {w : World} {A : Option Addr} {n c : Nat} {cs : List Nat} (h : RdF w A n cs) : Calls Try.prog 94 #[.slice A n c] w (RB w (cs.all (isFin .f32))) := by
  obtain ⟨hl, hm, h⟩ := h
  rcases h with rfl | ⟨b, o, rfl, hc⟩
  · have e0 : cs.all (isFin .f32) = true := all_of (fun j hj => absurd hj (by omega))
    rw [e0]
    clear hl e0
    go_enter Try.func94, Try.ntmps94
    go_wp2
    go_loopw [3] (fun i wr => i = .int .i64 0 ∧ wr = w) (fun i _ => 0 - (intOf i).toNat)
    case atStart => exact ⟨rfl, rfl⟩
    case round =>
      obtain ⟨rfl, rfl⟩ := hrel
      go_wp2
      go_ret
      exact RB.mk0 rfl
  · have HC := Lib.hid hc; clear hc
    have HL := Lib.hid hl; clear hl
    go_enter Try.func94, Try.ntmps94
    go_wp2
    go_loopw [3] (fun i wr => ∃ k m : Nat, k ≤ n ∧ i = .int .i64 k ∧ Hid (∀ j, j < k → (isFin .f32) (cs.getD j 0) = true) ∧ wr = w.drewN m) (fun i _ => n - (intOf i).toNat)
    case atStart => exact ⟨0, 0, Nat.zero_le _, rfl, fun j hj => absurd hj (by omega), rfl⟩
    case round =>
      obtain ⟨k, m, hk, rfl, HP, rfl⟩ := hrel
      by_cases hlt : k < n
      · obtain ⟨r, hcell, hf⟩ := HC.out k hlt
        go_wp2_with (go_at_call 54; refine (l01Finite_c hf).mono ?_; rintro e w' ⟨bb, hb, rfl, n', rfl⟩; cases bb)
        · go_ret
          exact RB.mk (all_here (by rw [HL.out]; exact hlt) hb)
        · go_roundw
          case rel => exact ⟨k + 1, m + n', by omega, by go_num, (fun j hj => by rcases Nat.lt_succ_iff_lt_or_eq.1 hj with h | rfl; exact HP.out j h; exact hb), by go_simp⟩
          case measure => simp [intOf]; omega
      · go_wp2
        go_ret
        exact RB.mk (all_of (fun j hj => HP.out j (by rw [HL.out] at hj; omega)))

section
variable {w : World} {t : TypeId} {x y z u cx cy cz cu : Nat}
theorem new_cell (cs : Array Value) (i : Nat) : (w.alloc (.cells cs t)).cell? ⟨w.heap.size, i, none⟩ = cs[i]? := World.cell?_alloc_at _ _ _ _ rfl
theorem rdF_1 {b : Nat} (hx : Fl .f32 x cx) (hb : b = w.heap.size) : RdF (w.alloc (.cells #[.float .f32 x] t)) (some ⟨b, 0, none⟩) 1 [cx] := by
  subst hb
  exact ⟨rfl, by omega, .inr ⟨_, _, rfl, fun i hi => by
    obtain rfl : i = 0 := by omega
    exact ⟨x, new_cell _ _, hx⟩⟩⟩
theorem rdF_2 {b : Nat} (hx : Fl .f32 x cx) (hy : Fl .f32 y cy) (hb : b = w.heap.size) : RdF (w.alloc (.cells #[.float .f32 x, .float .f32 y] t)) (some ⟨b, 0, none⟩) 2 [cx, cy] := by
  subst hb
  exact ⟨rfl, by omega, .inr ⟨_, _, rfl, fun i hi => by
    have : i = 0 ∨ i = 1 := by omega
    rcases this with rfl | rfl
    · exact ⟨x, new_cell _ _, hx⟩
    · exact ⟨y, new_cell _ _, hy⟩⟩⟩
theorem rdF_3 {b : Nat} (hx : Fl .f32 x cx) (hy : Fl .f32 y cy) (hz : Fl .f32 z cz) (hb : b = w.heap.size) : RdF (w.alloc (.cells #[.float .f32 x, .float .f32 y, .float .f32 z] t)) (some ⟨b, 0, none⟩) 3 [cx, cy, cz] := by
  subst hb
  exact ⟨rfl, by omega, .inr ⟨_, _, rfl, fun i hi => by
    have : i = 0 ∨ i = 1 ∨ i = 2 := by omega
    rcases this with rfl | rfl | rfl
    · exact ⟨x, new_cell _ _, hx⟩
    · exact ⟨y, new_cell _ _, hy⟩
    · exact ⟨z, new_cell _ _, hz⟩⟩⟩
theorem rdF_4 {b : Nat} (hx : Fl .f32 x cx) (hy : Fl .f32 y cy) (hz : Fl .f32 z cz) (hu : Fl .f32 u cu) (hb : b = w.heap.size) : RdF (w.alloc (.cells #[.float .f32 x, .float .f32 y, .float .f32 z, .float .f32 u] t)) (some ⟨b, 0, none⟩) 4 [cx, cy, cz, cu] := by
  subst hb
  exact ⟨rfl, by omega, .inr ⟨_, _, rfl, fun i hi => by
    have : i = 0 ∨ i = 1 ∨ i = 2 ∨ i = 3 := by omega
    rcases this with rfl | rfl | rfl | rfl
    · exact ⟨x, new_cell _ _, hx⟩
    · exact ⟨y, new_cell _ _, hy⟩
    · exact ⟨z, new_cell _ _, hz⟩
    · exact ⟨u, new_cell _ _, hu⟩⟩⟩
end

end Go.Proofs.Ytihoaflcjkppnaa
