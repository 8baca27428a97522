/- River days: nothing is lost, runs can be cut, workers change nothing. -/
import Derived.Test.YtcjekndobhkmbaaJf
set_option linter.unusedVariables false
set_option linter.unusedSimpArgs false
set_option linter.constructorNameAsVariable false
namespace Go.Proofs.Ytcjekndobhkmbaa
open Go.RowKit
set_option maxRecDepth 100000
theorem Z_at {c : List Int} (hc : bytesL c) (k : Nat) (hk : k ≤ 1048576) (n : Int) (hn : 2 ≤ n) : ∃ v, wr8At c k n = some v ∧ 0 ≤ v ∧ v < n := by
  unfold wr8At wr8At_t
  simp only [decide_eq_false (show ¬ n ≤ 1 by omega), Tr.sem, cond_false]
  by_cases h1 : (k : Int) ≥ (c.length : Int)
  · simp only [decide_eq_true h1, cond_true]
    exact ⟨0, rfl, by omega, by omega⟩
  · have hk' : k < c.length := by omega
    obtain ⟨b0, b1⟩ := byte_at hc hk'
    have hb : IntKind.wrap .i64 (c.getD k 0) = c.getD k 0 := wrap_id (by omega) (by omega)
    have hne : decide (n ≠ (0 : Int)) = true := by simp only [decide_eq_true_eq]; omega
    simp only [decide_eq_false h1, cond_false, ltRange hk', zeroLe, Bool.and_self, cond_true, hne, Int.toNat_natCast, hb]
    exact ⟨_, rfl, Int.tmod_nonneg _ b0, Int.tmod_lt_of_pos _ (by omega)⟩
theorem bytes_wf {l : List Int} (hs : l.length ≤ 48) (h : ∀ x : Int, List.Mem x l → (Lit.int .u8 x).wf = true) : bytesL l := bytes_of (by omega) h
theorem long_parts {c m : List Int} (h : wr8Long c m = false) : c.length ≤ 48 ∧ m.length ≤ 48 := by
  unfold wr8Long wr8Long_t at h
  by_cases h1 : ((c.length : Nat) : Int) > 48
  · simp [Tr.val, h1] at h
  · simp [Tr.val, h1] at h; omega
theorem J_20t0 (m : List Int) (n k : Nat) (a : List Int) (b : List Dam) (c : List Int) (xs : List (List Int)) (ea : List Int) (eD : List Dam) (ec : List Int) (gs : List (List Int)) (na : List Int) (nDm : List Dam) (nc : List Int) (L : List Int) (hn : n ≤ 12) (hc : c.length = n) (hk : k < gs.length) (hg : (gs.getD k []).length = n) (hL : L.length = n) (hgi : ∀ j, j < n → 0 ≤ (gs.getD k []).getD j 0 ∧ (gs.getD k []).getD j 0 ≤ c.getD j 0) (hLi : ∀ j, j < n → 0 ≤ L.getD j 0) :
    wFnRiverDays_l20 (.inl (m, (n : Int), (k : Int), 0, a, b, c, xs, ea, eD, ec, gs, na, nDm, nc, gs.getD k [], L)) = some (.inr (.inl (m, (n : Int), (k : Int), a, b, c, xs, ea, eD, ec, gs, na, nDm, nc))) := by
  refine runL_steps (f := wFnRiverDays_l20_s) (r := .inr (.inl (m, (n : Int), (k : Int), a, b, c, xs, ea, eD, ec, gs, na, nDm, nc))) n 0 (fun j => .inl (m, (n : Int), (k : Int), (j : Int), a, b, c, xs, ea, eD, ec, gs, na, nDm, nc, gs.getD k [], L)) (fun j _ hj => ?_) ?_
  · have hj : j < n := by omega
    have p1 := hgi j hj
    have p2 := hLi j hj
    show (wFnRiverDays_l20_t0 m (n : Int) (k : Int) (j : Int) a b c xs ea eD ec gs na nDm nc (gs.getD k []) L).sem = _
    simp only [wFnRiverDays_l20_t0, Tr.sem, ltRange hj, ltRange (show j < (gs.getD k []).length by omega), ltRange hk, ltRange (show j < L.length by omega), ltRange (show j < c.length by omega), zeroLe, Bool.and_self, cond_true, cond_false, Int.toNat_natCast, bne_self_eq_false, decide_eq_false (show ¬ (gs.getD k []).getD j 0 < 0 by omega), decide_eq_false (show ¬ (gs.getD k []).getD j 0 > c.getD j 0 by omega), decide_eq_false (show ¬ L.getD j 0 < 0 by omega), up1 (show j ≤ 1048576 by omega)]
  · rw [Nat.zero_add]
    show (wFnRiverDays_l20_t0 m (n : Int) (k : Int) (n : Int) a b c xs ea eD ec gs na nDm nc (gs.getD k []) L).sem = _
    simp only [wFnRiverDays_l20_t0, Tr.sem, not_lt_self, cond_false]
theorem J_20t1 (m : List Int) (n k : Nat) (a : List Int) (b : List Dam) (c : List Int) (xs : List (List Int)) (ea : List Int) (eD : List Dam) (ec : List Int) (gs : List (List Int)) (o1 : List Int) (o2 : List Dam) (o3 : List Int) (na : List Int) (nDm : List Dam) (nc : List Int) (L : List Int) (hn : n ≤ 12) (hc : c.length = n) (hk : k < gs.length) (hg : (gs.getD k []).length = n) (hL : L.length = n) (hgi : ∀ j, j < n → 0 ≤ (gs.getD k []).getD j 0 ∧ (gs.getD k []).getD j 0 ≤ c.getD j 0) (hLi : ∀ j, j < n → 0 ≤ L.getD j 0) :
    wFnRiverDays_l20 (.inr (m, (n : Int), (k : Int), 0, a, b, c, xs, ea, eD, ec, gs, o1, o2, o3, na, nDm, nc, gs.getD k [], L)) = some (.inr (.inr (m, (n : Int), (k : Int), a, b, c, xs, ea, eD, ec, gs, o1, o2, o3, na, nDm, nc))) := by
  refine runL_steps (f := wFnRiverDays_l20_s) (r := .inr (.inr (m, (n : Int), (k : Int), a, b, c, xs, ea, eD, ec, gs, o1, o2, o3, na, nDm, nc))) n 0 (fun j => .inr (m, (n : Int), (k : Int), (j : Int), a, b, c, xs, ea, eD, ec, gs, o1, o2, o3, na, nDm, nc, gs.getD k [], L)) (fun j _ hj => ?_) ?_
  · have hj : j < n := by omega
    have p1 := hgi j hj
    have p2 := hLi j hj
    show (wFnRiverDays_l20_t1 m (n : Int) (k : Int) (j : Int) a b c xs ea eD ec gs o1 o2 o3 na nDm nc (gs.getD k []) L).sem = _
    simp only [wFnRiverDays_l20_t1, Tr.sem, ltRange hj, ltRange (show j < (gs.getD k []).length by omega), ltRange hk, ltRange (show j < L.length by omega), ltRange (show j < c.length by omega), zeroLe, Bool.and_self, cond_true, cond_false, Int.toNat_natCast, bne_self_eq_false, decide_eq_false (show ¬ (gs.getD k []).getD j 0 < 0 by omega), decide_eq_false (show ¬ (gs.getD k []).getD j 0 > c.getD j 0 by omega), decide_eq_false (show ¬ L.getD j 0 < 0 by omega), up1 (show j ≤ 1048576 by omega)]
  · rw [Nat.zero_add]
    show (wFnRiverDays_l20_t1 m (n : Int) (k : Int) (n : Int) a b c xs ea eD ec gs o1 o2 o3 na nDm nc (gs.getD k []) L).sem = _
    simp only [wFnRiverDays_l20_t1, Tr.sem, not_lt_self, cond_false]
/-- Day by day, the same comes. -/
theorem J_14 {a : List Int} {b : List Dam} {c : List Int} (hv : rivB a b c = true) (m : List Int) (xs : List (List Int)) (hx : ∀ x ∈ xs, dayOk a x) (hl : xs.length ≤ 64) :
    (xs.length = 0 ∧ wFnRiverDays_l14 (.inl (m, ((a.length : Nat) : Int), 0, a, b, c, xs, a, endD a c b xs, c, givD a c b xs)) = some (.inr (.inl (m, ((a.length : Nat) : Int), a, b, c, xs, a, endD a c b xs, c)))) ∨
    wFnRiverDays_l14 (.inl (m, ((a.length : Nat) : Int), 0, a, b, c, xs, a, endD a c b xs, c, givD a c b xs)) = some (.inr (.inr (m, ((a.length : Nat) : Int), a, b, c, xs, a, endD a c b xs, c, a, endD a c b xs, c))) := by
  obtain ⟨hg, h1, hn, hw, hb, hc, hcw, hbd⟩ := riv_parts hv
  have hgl := giv_len a c xs b
  have hgm := giv_mem xs b hv hx
  have facts : ∀ k, k < xs.length → ∃ (D : List Dam) (L : List Int), iDayOf a (endD a c b (xs.take k)) c (xs.getD k []) = some (.inr (a, D, c, (givD a c b xs).getD k [], L)) ∧ D = endD a c b (xs.take (k + 1)) ∧ L.length = a.length ∧ ∀ j, j < a.length → 0 ≤ L.getD j 0 := fun k hk => by
    have hr := riv_end (xs.take k) b hv (fun x h => hx x (List.mem_of_mem_take h))
    obtain ⟨d1, d2⟩ := J_dayN hr (hx _ (getD_mem (d := []) hk))
    refine ⟨nD a (endD a c b (xs.take k)) c (xs.getD k []), _, ?_, ?_, d2.lL, d2.nL⟩
    · rw [giv_at xs b k hk]; exact d1
    · rw [take_succ xs k [] hk, end_snoc]
  by_cases h0 : xs.length = 0
  · left
    refine ⟨h0, runL_out ?_⟩
    show (wFnRiverDays_l14_t0 m (a.length : Nat) 0 a b c xs a (endD a c b xs) c (givD a c b xs)).sem = _
    simp only [wFnRiverDays_l14_t0, Tr.sem, h0, show decide ((0 : Int) < ((0 : Nat) : Int)) = false from rfl, cond_false]
  · right
    -- the later days
    have rest : ∀ (j k : Nat), k + j = xs.length → runL wFnRiverDays_l14_s (.inr (m, ((a.length : Nat) : Int), (k : Int), a, b, c, xs, a, endD a c b xs, c, givD a c b xs, a, endD a c b (xs.take k), c)) = some (.inr (.inr (m, ((a.length : Nat) : Int), a, b, c, xs, a, endD a c b xs, c, a, endD a c b xs, c))) := fun j => by
      induction j with
      | zero =>
        intro k hk
        have : k = xs.length := by omega
        subst this
        refine runL_out ?_
        rw [List.take_length]
        show (wFnRiverDays_l14_t1 m (a.length : Nat) (xs.length : Nat) a b c xs a (endD a c b xs) c (givD a c b xs) a (endD a c b xs) c).sem = _
        simp only [wFnRiverDays_l14_t1, Tr.sem, not_lt_self, cond_false]
      | succ j ih =>
        intro k hk
        have hk' : k < xs.length := by omega
        obtain ⟨D, L, f1, f2, f3, f4⟩ := facts k hk'
        subst f2
        obtain ⟨g1, g2⟩ := hgm _ (getD_mem (d := []) (show k < (givD a c b xs).length by omega))
        have e20 := J_20t1 m a.length k a b c xs a (endD a c b xs) c (givD a c b xs) a (endD a c b (xs.take k)) c a (endD a c b (xs.take (k + 1))) c L hn hc (by omega) g1 f3 g2 f4
        refine (runL_in (s' := .inr (m, ((a.length : Nat) : Int), ((k + 1 : Nat) : Int), a, b, c, xs, a, endD a c b xs, c, givD a c b xs, a, endD a c b (xs.take (k + 1)), c)) ?_).trans (ih (k + 1) (by omega))
        show (wFnRiverDays_l14_t1 m (a.length : Nat) (k : Nat) a b c xs a (endD a c b xs) c (givD a c b xs) a (endD a c b (xs.take k)) c).sem = _
        simp only [wFnRiverDays_l14_t1, wFnRiverDays_l14_h0_o1, wFnRiverDays_l14_h0_o2, wFnRiverDays_l14_h1_o1, wFnRiverDays_l14_h1_o2, Tr.sem, ltRange hk', ltRange (show k < (givD a c b xs).length by omega), zeroLe, Bool.and_self, cond_true, cond_false, Int.toNat_natCast, f1, g1, f3, e20, osome, oget, isL, unR, unL, bne_self_eq_false, up1 (show k ≤ 1048576 by omega)]
    have hk' : 0 < xs.length := by omega
    obtain ⟨D, L, f1, f2, f3, f4⟩ := facts 0 hk'
    subst f2
    obtain ⟨g1, g2⟩ := hgm _ (getD_mem (d := []) (show 0 < (givD a c b xs).length by omega))
    have e20 := J_20t0 m a.length 0 a b c xs a (endD a c b xs) c (givD a c b xs) a (endD a c b (xs.take (0 + 1))) c L hn hc (by omega) g1 f3 g2 f4
    have r0 := ltRange hk'
    have r1 := ltRange (show 0 < (givD a c b xs).length by omega)
    have u := up1 (show 0 ≤ 1048576 by omega)
    simp only [Int.natCast_zero] at e20 r0 r1 u
    refine (runL_in (s' := .inr (m, ((a.length : Nat) : Int), ((0 + 1 : Nat) : Int), a, b, c, xs, a, endD a c b xs, c, givD a c b xs, a, endD a c b (xs.take (0 + 1)), c)) ?_).trans (rest (xs.length - 1) (0 + 1) (by omega))
    show (wFnRiverDays_l14_t0 m (a.length : Nat) 0 a b c xs a (endD a c b xs) c (givD a c b xs)).sem = _
    rw [List.take_zero] at f1
    have f1' : iDayOf a b c (xs.getD (Int.toNat 0) []) = _ := f1
    have g1' : ((givD a c b xs).getD (Int.toNat 0) []).length = a.length := g1
    simp only [wFnRiverDays_l14_t0, wFnRiverDays_l14_h0_o1, wFnRiverDays_l14_h0_o2, wFnRiverDays_l14_h1_o1, wFnRiverDays_l14_h1_o2, Tr.sem, r0, r1, show decide ((0 : Int) ≤ 0) = true from rfl, Bool.and_self, cond_true, cond_false, f1', g1', g1, f3, e20, osome, oget, isL, unR, unL, bne_self_eq_false, u]
/-- **RIVER DAYS.** -/
theorem pureFnRiverDays (x0 x1 : List Int) (h0 : List.length x0 ≤ 9223372036854775807 ∧ ∀ x : Int, List.Mem x x0 → (Lit.int .u8 x).wf = true) (h1 : List.length x1 ≤ 9223372036854775807 ∧ ∀ x : Int, List.Mem x x1 → (Lit.int .u8 x).wf = true) : wFnRiverDays x0 x1 = some true := by
  unfold wFnRiverDays
  simp only [wFnRiverDays_t, Tr.sem]
  cases hL : wr8Long x0 x1 with
  | true => rfl
  | false =>
  obtain ⟨la, lb⟩ := long_parts hL
  have hc0 := bytes_wf la h0.2
  have hm := bytes_wf lb h1.2
  obtain ⟨a, b, c, d1, hv, hn5⟩ := J_river hc0
  obtain ⟨xs, d2, hl6, hxs⟩ := J_days hm a.length hn5
  obtain ⟨hg, h1, hn, hw, hb, hc, hcw, hbd⟩ := riv_parts hv
  have hx : ∀ x ∈ xs, dayOk a x := fun x h => hxs x h
  have hl : xs.length ≤ 64 := by omega
  have hr := riv_end xs b hv hx
  obtain ⟨t1, t2, t3, t4, t5⟩ := all_days xs b hv hx
  have n1 := nowS_nn hv
  have n2 := nowS_nn hr
  have run := J_run hv xs hx hl
  have led := J_ledger hv xs hx hl
  have st1 := J_storedIn hv
  have st2 := J_storedIn hr
  have val := Q_valid a (endD a c b xs) c (by have := (riv_parts hr).2.2.2.2.1; omega) (by omega)
  rw [hr] at val
  have k1 : IntKind.wrap .i64 (isums (givD a c b xs) + isum (seaD a c b xs)) = isums (givD a c b xs) + isum (seaD a c b xs) := wrap_id (by omega) (by omega)
  have k2 : IntKind.wrap .i64 (isums (givD a c b xs) + isum (seaD a c b xs) + (nowS (endD a c b xs) a.length - nowS b a.length)) = isums xs := by rw [wrap_id (by omega) (by omega)]; omega
  have k3 : IntKind.wrap .i64 (nowS (endD a c b xs) a.length - nowS b a.length) = nowS (endD a c b xs) a.length - nowS b a.length := wrap_id (by omega) (by omega)
  obtain ⟨wk, w1, w2, w3⟩ := Z_at hm 40 (by omega) 8 (by omega)
  have w1' : wr8At x1 40 8 = some wk := w1
  have k4 : IntKind.wrap .i64 (1 + wk) = 1 + wk := wrap_id (by omega) (by omega)
  have many := J_many hv xs hx hl (1 + wk) (by omega) (by omega)
  obtain ⟨so, so1, so2, so3⟩ := J_short hv xs hx hl
  have cut := J_cut hv 0 1 (by omega) (by omega) (by omega) (by omega)
  obtain ⟨z1, z2⟩ := cut_none c
  have hv0 := riv_cut hv z1 z2
  obtain ⟨no, no1, no2, no3⟩ := J_short hv0 xs hx hl
  have whole := J_cut hv 3 3 (by omega) (by omega) (by omega) (by omega)
  rw [cut_whole (nn_of hc fun j hj => (want_at hv hj).1)] at whole
  have el := (riv_parts hr).2.2.2.2.1
  have sm1 := J_same a (endD a c b xs) c (by omega) (by omega) (by omega)
  have sm2 := J_same a b c (by omega) (by omega) (by omega)
  have noz : ∀ i, i < a.length → no.getD i 0 = 0 := fun i hi => (no3 i hi).2.2 (z2 _ (getD_mem (by omega)))
  have h35 : wFnRiverDays_l35 (a.length : Nat) 0 xs so no = some (.inr ()) := by
    have key := runL_steps (f := fun s : Int => (wFnRiverDays_l35_t (a.length : Nat) xs so no s).sem) (r := .inr ()) a.length 0 (fun k => (k : Int)) (fun j _ hj => by
      have hj : j < a.length := by omega
      have p := so3 j hj
      simp only [wFnRiverDays_l35_t, Tr.sem, ltRange hj, ltRange (show j < no.length by omega), ltRange (show j < so.length by omega), zeroLe, Bool.and_self, cond_true, cond_false, Int.toNat_natCast, noz j hj, bne_self_eq_false, decide_eq_false (show ¬ so.getD j 0 < 0 by omega), decide_eq_false (show ¬ so.getD j 0 > (xs.length : Int) by omega), up1 (show j ≤ 1048576 by omega)]) (by
      rw [Nat.zero_add]; simp only [wFnRiverDays_l35_t, Tr.sem, not_lt_self, cond_false])
    exact key
  have i0 : (decide ((0 : Int) ≤ 0) && decide ((0 : Int) < (([(a, endD a c b xs, c), (a, endD a c b xs, c)].length : Nat) : Int))) = true := rfl
  have i1 : (decide ((0 : Int) ≤ 1) && decide ((1 : Int) < (([(a, endD a c b xs, c), (a, endD a c b xs, c)].length : Nat) : Int))) = true := rfl
  have i2 : ((([(a, endD a c b xs, c), (a, endD a c b xs, c)].length : Nat) : Int) != 2) = false := rfl
  have i3 : [(a, endD a c b xs, c), (a, endD a c b xs, c)].getD (Int.toNat 0) ([], [], []) = (a, endD a c b xs, c) := rfl
  have i4 : [(a, endD a c b xs, c), (a, endD a c b xs, c)].getD (Int.toNat 1) ([], [], []) = (a, endD a c b xs, c) := rfl
  rcases J_14 hv x1 xs hx hl with ⟨q0, q⟩ | q
  · have e0 : xs = [] := List.length_eq_zero_iff.1 q0
    have eb : endD a c b xs = b := by rw [e0]; rfl
    have sm3 : iSameRiver a b c a (endD a c b xs) c = some true := by rw [eb]; exact sm2
    simp only [wFnRiverDays_o1, wFnRiverDays_o2, wFnRiverDays_o3, wFnRiverDays_o4, wFnRiverDays_o5, wFnRiverDays_o6, wFnRiverDays_o7, wFnRiverDays_o8, wFnRiverDays_o9, wFnRiverDays_o10, wFnRiverDays_o11, wFnRiverDays_o12, wFnRiverDays_o13, wFnRiverDays_o14, wFnRiverDays_o15, wFnRiverDays_o16, wFnRiverDays_o17, wFnRiverDays_o18, wFnRiverDays_o19, wFnRiverDays_o20, wFnRiverDays_o21, wFnRiverDays_o22, wFnRiverDays_o23, wFnRiverDays_o24, wFnRiverDays_o25, wFnRiverDays_o26, wFnRiverDays_o27, wFnRiverDays_o28, wFnRiverDays_o29, wFnRiverDays_o30, wFnRiverDays_o31, wFnRiverDays_o32, wFnRiverDays_o33, wFnRiverDays_o34, wFnRiverDays_o35, wFnRiverDays_o36, wFnRiverDays_o37, wFnRiverDays_o38, wFnRiverDays_o39, wFnRiverDays_o40, wFnRiverDays_o41, wFnRiverDays_o42, wFnRiverDays_o43, wFnRiverDays_o44, wFnRiverDays_o45, wFnRiverDays_o46, wFnRiverDays_o47, wFnRiverDays_o48, wFnRiverDays_o49, wFnRiverDays_o50, wFnRiverDays_o51, wFnRiverDays_o52, wFnRiverDays_o53, wFnRiverDays_o54, wFnRiverDays_o55, wFnRiverDays_o56, wFnRiverDays_o57, wFnRiverDays_o58, wFnRiverDays_o59, wFnRiverDays_o60, wFnRiverDays_o61, wFnRiverDays_o62, wFnRiverDays_o63, wFnRiverDays_o64, wFnRiverDays_o65, wFnRiverDays_o66, wFnRiverDays_o67, wFnRiverDays_o68, wFnRiverDays_o69, wFnRiverDays_o70, wFnRiverDays_o71, wFnRiverDays_o72, wFnRiverDays_o73, wFnRiverDays_o74, wFnRiverDays_o75, wFnRiverDays_o76, wFnRiverDays_o77, wFnRiverDays_o78, wFnRiverDays_o79, wFnRiverDays_o80, wFnRiverDays_o81, wFnRiverDays_o82, wFnRiverDays_o83, wFnRiverDays_o84, wFnRiverDays_o85, Tr.sem, d1, d2, run, led, st1, st2, val, giv_len, sea_len, k1, k2, k3, q, w1', k4, many, so1, cut, no1, whole, i0, i1, i2, i3, i4, sm1, sm2, sm3, so2, no2, h35, osome, oget, isL, unR, unL, bne_self_eq_false, Bool.not_true, Bool.not_false, cond_true, cond_false]
  · simp only [wFnRiverDays_o1, wFnRiverDays_o2, wFnRiverDays_o3, wFnRiverDays_o4, wFnRiverDays_o5, wFnRiverDays_o6, wFnRiverDays_o7, wFnRiverDays_o8, wFnRiverDays_o9, wFnRiverDays_o10, wFnRiverDays_o11, wFnRiverDays_o12, wFnRiverDays_o13, wFnRiverDays_o14, wFnRiverDays_o15, wFnRiverDays_o16, wFnRiverDays_o17, wFnRiverDays_o18, wFnRiverDays_o19, wFnRiverDays_o20, wFnRiverDays_o21, wFnRiverDays_o22, wFnRiverDays_o23, wFnRiverDays_o24, wFnRiverDays_o25, wFnRiverDays_o26, wFnRiverDays_o27, wFnRiverDays_o28, wFnRiverDays_o29, wFnRiverDays_o30, wFnRiverDays_o31, wFnRiverDays_o32, wFnRiverDays_o33, wFnRiverDays_o34, wFnRiverDays_o35, wFnRiverDays_o36, wFnRiverDays_o37, wFnRiverDays_o38, wFnRiverDays_o39, wFnRiverDays_o40, wFnRiverDays_o41, wFnRiverDays_o42, wFnRiverDays_o43, wFnRiverDays_o44, wFnRiverDays_o45, wFnRiverDays_o46, wFnRiverDays_o47, wFnRiverDays_o48, wFnRiverDays_o49, wFnRiverDays_o50, wFnRiverDays_o51, wFnRiverDays_o52, wFnRiverDays_o53, wFnRiverDays_o54, wFnRiverDays_o55, wFnRiverDays_o56, wFnRiverDays_o57, wFnRiverDays_o58, wFnRiverDays_o59, wFnRiverDays_o60, wFnRiverDays_o61, wFnRiverDays_o62, wFnRiverDays_o63, wFnRiverDays_o64, wFnRiverDays_o65, wFnRiverDays_o66, wFnRiverDays_o67, wFnRiverDays_o68, wFnRiverDays_o69, wFnRiverDays_o70, wFnRiverDays_o71, wFnRiverDays_o72, wFnRiverDays_o73, wFnRiverDays_o74, wFnRiverDays_o75, wFnRiverDays_o76, wFnRiverDays_o77, wFnRiverDays_o78, wFnRiverDays_o79, wFnRiverDays_o80, wFnRiverDays_o81, wFnRiverDays_o82, wFnRiverDays_o83, wFnRiverDays_o84, wFnRiverDays_o85, Tr.sem, d1, d2, run, led, st1, st2, val, giv_len, sea_len, k1, k2, k3, q, w1', k4, many, so1, cut, no1, whole, i0, i1, i2, i3, i4, sm1, sm2, so2, no2, h35, osome, oget, isL, unR, unL, bne_self_eq_false, Bool.not_true, Bool.not_false, cond_true, cond_false]
end Go.Proofs.Ytcjekndobhkmbaa
