/- Drawn units; days half gone. -/
import Derived.Test.YtcjekndobhkmbaaZd
import Derived.Test.YtcjekndobhkmbaaSv
set_option linter.unusedVariables false
set_option linter.unusedSimpArgs false
set_option linter.constructorNameAsVariable false
namespace Go.Proofs.Ytcjekndobhkmbaa
open Go.RowKit
set_option maxRecDepth 100000
def wr {α : Type} (g : Nat → α) (xs : List α) (k : Nat) : List α := (List.range k).map g ++ xs.drop k
theorem wr_len {α : Type} (g : Nat → α) (xs : List α) (k : Nat) (h : k ≤ xs.length) : (wr g xs k).length = xs.length := by simp [wr]; omega
theorem wr_zero {α : Type} (g : Nat → α) (xs : List α) : wr g xs 0 = xs := by simp [wr]
theorem wr_end {α : Type} (g : Nat → α) (xs : List α) : wr g xs xs.length = (List.range xs.length).map g := by simp [wr]
theorem wr_set {α : Type} (g : Nat → α) (xs : List α) (k : Nat) (h : k < xs.length) : (wr g xs k).set k (g k) = wr g xs (k + 1) := by
  unfold wr
  rw [List.set_append_right _ _ (by simp)]
  simp only [List.length_map, List.length_range, Nat.sub_self]
  rw [List.drop_eq_getElem_cons h, List.set_cons_zero, List.range_succ, List.map_append, List.append_assoc]; rfl
theorem range_getD {α : Type} (g : Nat → α) (n k : Nat) (d : α) (h : k < n) : ((List.range n).map g).getD k d = g k := by
  rw [List.getD_eq_getElem?_getD, List.getElem?_map, List.getElem?_range h]; rfl
theorem Z_loop {c : List Int} (hc : bytesL c) : ∀ (m : Nat) (k : Nat) (s : Int) (l : List Int), m ≤ 7 → k + 2 * m ≤ 100 → l.length + m ≤ 8 → (∀ x ∈ l, 0 ≤ x ∧ x ≤ 9) →
    ∃ r, sR8Units_l4 (m : Int) c k s l = some (l ++ r) ∧ r.length = m ∧ ∀ x ∈ r, 0 ≤ x ∧ x ≤ 8
  | 0, k, s, l, hm, hk, hl, hx => ⟨[], runL_out (by simp only [sR8Units_l4_t, Tr.sem, decide_eq_false (show ¬ (((0 : Nat) : Int) > 0) by omega), cond_false, List.append_nil]), rfl, fun x hx => by cases hx⟩
  | m + 1, k, s, l, hm, hk, hl, hx => by
    obtain ⟨b, k', s', e1, b0, b1, hk'⟩ := D_pick hc 9 (by omega) (by omega) k (by omega) s
    obtain ⟨r, r1, r2, r3⟩ := Z_loop hc m k' s' (l ++ [b]) (by omega) (by omega) (by simp; omega) (fun x hx' => by
      rcases List.mem_append.1 hx' with h | h
      · exact hx x h
      · rw [List.mem_singleton.1 h]; omega)
    have hf : decide ((l.length + List.length [b]) * 8 ≤ 140737488355328) = true := fits8 (by omega) b
    have hw : IntKind.wrap .i64 (((m + 1 : Nat) : Int) - 1) = (m : Int) := by rw [wrap_id (by omega) (by omega)]; omega
    refine ⟨b :: r, (runL_in (s' := ((m : Int), c, (k' : Int), s', l ++ [b])) ?_).trans (r1.trans (by rw [List.append_assoc]; rfl)), by simp [r2], fun x hx' => ?_⟩
    · simp only [sR8Units_l4_t, Tr.sem, decide_eq_true (show (((m + 1 : Nat) : Int) > 0) by omega), e1, osome, oget, cond_true, hf, hw]
    · rcases List.mem_cons.1 hx' with rfl | h
      · omega
      · exact r3 x h
theorem Z_units {c : List Int} (hc : bytesL c) : ∃ l, sR8Units c = some l ∧ 1 ≤ l.length ∧ l.length ≤ 8 ∧ (∀ x ∈ l, 0 ≤ x ∧ x ≤ 9) ∧ 0 < isum l := by
  obtain ⟨b, k1, s1, e1, b0, b1, hk1⟩ := D_pick hc 9 (by omega) (by omega) 0 (by omega) 0
  obtain ⟨m, k2, s2, e2, m0, m1, hk2⟩ := D_pick hc 8 (by omega) (by omega) k1 (by omega) s1
  have hw : IntKind.wrap .i64 (1 + b) = 1 + b := wrap_id (by omega) (by omega)
  obtain ⟨r, r1, r2, r3⟩ := Z_loop hc m.toNat k2 s2 [1 + b] (by omega) (by omega) (by simp; omega) (fun x hx => by rw [List.mem_singleton.1 hx]; omega)
  rw [Int.toNat_of_nonneg m0] at r1
  refine ⟨[1 + b] ++ r, ?_, by simp, by simp; omega, fun x hx => ?_, ?_⟩
  · have e1' : sl00Src_pick 9 c 0 0 = _ := e1
    unfold sR8Units sR8Units_t
    simp only [D_from, e1', e2, hw, r1, Tr.sem, osome, oget, cond_true]
  · rcases List.mem_append.1 hx with h | h
    · rw [List.mem_singleton.1 h]; omega
    · have := r3 x h; omega
  · have := isum_nonneg fun x hx => (r3 x hx).1
    simp only [List.singleton_append, isum]; omega
theorem Z_at {c : List Int} (hc : bytesL c) (k : Nat) (hk : k ≤ 1048576) (n : Int) (hn : 2 ≤ n) : ∃ v, wr8At c k n = some v ∧ 0 ≤ v ∧ v < n := by
  unfold wr8At wr8At_t
  simp only [decide_eq_false (show ¬ n ≤ 1 by omega), Tr.sem, cond_false]
  by_cases h1 : (k : Int) ≥ (c.length : Int)
  · simp only [decide_eq_true h1, cond_true]
    exact ⟨0, rfl, by omega, by omega⟩
  · have hk' : k < c.length := by omega
    obtain ⟨b0, b1⟩ := byte_at hc hk'
    have hb : IntKind.wrap .i64 (c.getD k 0) = c.getD k 0 := wrap_id (by omega) (by omega)
    have hne : decide (n ≠ (0 : Int)) = true := by simp only [decide_eq_true_eq]; omega
    simp only [decide_eq_false h1, cond_false, ltRange hk', zeroLe, Bool.and_self, cond_true, hne, Int.toNat_natCast, hb]
    exact ⟨_, rfl, Int.tmod_nonneg _ b0, Int.tmod_lt_of_pos _ (by omega)⟩
/-! ### Half way -/
theorem H_l10 (y0 y1 : List (List Int)) (y2 y3 : Int) (day sums : List Int) (hl : sums.length = day.length) (h12 : day.length ≤ 12) (hd : ∀ x ∈ day, 0 ≤ x ∧ x ≤ 1000000000) (hs : ∀ x ∈ sums, 0 ≤ x ∧ x ≤ 1000000000000) :
    iHalfWay_l10 y0 y1 y2 y3 day (day.length : Nat) 0 sums = some (y0, y1, y2, y3, (List.range sums.length).map fun i => sums.getD i 0 + day.getD i 0) := by
  have key := runL_steps (f := fun q : Int × List Int => (iHalfWay_l10_t y0 y1 y2 y3 day (day.length : Nat) q.1 q.2).sem) (r := (y0, y1, y2, y3, (List.range sums.length).map fun i => sums.getD i 0 + day.getD i 0)) day.length 0 (fun k => ((k : Int), wr (fun i => sums.getD i 0 + day.getD i 0) sums k)) (fun j _ hj => by
    have hj : j < day.length := by omega
    have hj2 : j < sums.length := by omega
    obtain ⟨d0, d1⟩ := hd _ (getD_mem (d := 0) hj)
    obtain ⟨s0, s1⟩ := hs _ (getD_mem (d := 0) hj2)
    rw [← wr_set _ sums j hj2]
    have hg : (wr (fun i => sums.getD i 0 + day.getD i 0) sums j).getD j 0 = sums.getD j 0 := by
      unfold wr
      rw [List.getD_eq_getElem?_getD, List.getElem?_append_right (by simp), List.length_map, List.length_range, Nat.sub_self, List.getElem?_drop, Nat.add_zero, ← List.getD_eq_getElem?_getD]
    have hw : IntKind.wrap .i64 (sums.getD j 0 + day.getD j 0) = sums.getD j 0 + day.getD j 0 := wrap_id (by omega) (by omega)
    simp only [iHalfWay_l10_t, Tr.sem, ltRange hj, ltRange (show j < (wr (fun i => sums.getD i 0 + day.getD i 0) sums j).length by rw [wr_len _ _ _ (by omega)]; exact hj2), zeroLe, Bool.and_self, cond_true, Int.toNat_natCast, hg, hw, up1 (show j ≤ 1048576 by omega)]) (by
    rw [Nat.zero_add, ← hl, wr_end]; simp only [iHalfWay_l10_t, Tr.sem, hl, not_lt_self, cond_false])
  rw [wr_zero] at key
  exact key
def tripL (l : List Int) (m : Int) : List Int := (List.range l.length).map fun i => m * l.getD i 0
theorem tripL_len (l : List Int) (m : Int) : (tripL l m).length = l.length := by simp [tripL]
theorem tripL_at (l : List Int) (m : Int) {i : Nat} (h : i < l.length) : (tripL l m).getD i 0 = m * l.getD i 0 := range_getD _ _ _ _ h
theorem tripL_step (l : List Int) (m : Int) : ((List.range (tripL l m).length).map fun i => (tripL l m).getD i 0 + l.getD i 0) = tripL l (m + 1) := by
  unfold tripL
  rw [List.length_map, List.length_range]
  refine List.map_congr_left fun i hi => ?_
  rw [range_getD _ _ _ _ (List.mem_range.1 hi), Int.add_mul, Int.one_mul]
theorem tripL_zero (l : List Int) : List.replicate l.length (0 : Int) = tripL l 0 := by
  unfold tripL
  apply List.ext_getElem (by simp)
  intro i h1 h2
  simp
def halfL (l : List Int) : List Int := l.map fun x => if x = 0 then 0 else 1
theorem H_half (l : List Int) (h1 : 1 ≤ l.length) (h12 : l.length ≤ 12) (hx : ∀ x ∈ l, 0 ≤ x ∧ x ≤ 1000000000) : iHalfWay [l, l, l] = some (.inr (halfL l)) := by
  have hg : ∀ k : Nat, k < 3 → [l, l, l].getD k [] = l := fun k hk => by
    match k, hk with
    | 0, _ => rfl
    | 1, _ => rfl
    | 2, _ => rfl
  have hin : iareWithin l 0 1000000000 = some true := by
    rw [Q_are l 0 1000000000 (by omega)]
    exact congrArg some (List.all_eq_true.2 fun x hx' => win_iff.2 (hx x hx'))
  have hb : ∀ (m : Nat), m ≤ 3 → ∀ x ∈ tripL l m, 0 ≤ x ∧ x ≤ 1000000000000 := fun m hm x hx' => by
    obtain ⟨i, hi, rfl⟩ := List.mem_map.1 hx'
    obtain ⟨a, b⟩ := hx _ (getD_mem (d := 0) (List.mem_range.1 hi))
    refine ⟨Int.mul_nonneg (by omega) a, ?_⟩
    have : (m : Int) * l.getD i 0 ≤ 3 * l.getD i 0 := Int.mul_le_mul_of_nonneg_right (by omega) a
    omega
  have step : ∀ k : Nat, k < 3 → (iHalfWay_l5_t [l, l, l] [l, l, l] 3 (k : Int) (tripL l k)).sem = some (.inl ([l, l, l], [l, l, l], 3, ((k + 1 : Nat) : Int), tripL l ((k + 1 : Nat) : Int))) := fun k hk => by
    have e := H_l10 [l, l, l] [l, l, l] 3 (k : Int) l (tripL l k) (tripL_len _ _) h12 hx (hb k (by omega))
    rw [tripL_step] at e
    simp only [iHalfWay_l5_t, Tr.sem, decide_eq_true (show (k : Int) < 3 by omega), ltRange (show k < [l, l, l].length from hk), zeroLe, Bool.and_self, cond_true, Int.toNat_natCast, hg k hk, tripL_len, bne_self_eq_false, cond_false, hin, osome, oget, Bool.not_true, e, up1 (show k ≤ 1048576 by omega)]
    rfl
  have h5 : iHalfWay_l5 [l, l, l] [l, l, l] 3 0 (List.replicate l.length 0) = some (.inr ([l, l, l], tripL l 3)) := by
    rw [tripL_zero]
    exact (runL_in (step 0 (by omega))).trans ((runL_in (step 1 (by omega))).trans ((runL_in (step 2 (by omega))).trans (runL_out (by
      simp only [iHalfWay_l5_t, Tr.sem]; rfl))))
  -- the days that are half way
  have h21 : ∀ (j : Nat) (out : List Int), j < l.length → out.length ≤ 12 → iHalfWay_l21 [l, l, l] (j : Int) ((tripL l 3).getD j 0) 0 (l.length : Int) (j : Int) [l, l, l] 3 0 out (tripL l 3) = some ([l, l, l], (l.length : Int), (j : Int), out ++ [if l.getD j 0 = 0 then 0 else 1], tripL l 3) := fun j out hj ho => by
    obtain ⟨a, b⟩ := hx _ (getD_mem (d := 0) hj)
    have hf : ∀ q : Int, decide ((out.length + List.length [q]) * 8 ≤ 140737488355328) = true := fun q => fits8 (by omega) q
    rw [tripL_at l 3 hj]
    have w0 : IntKind.wrap .i64 (0 + l.getD j 0) = l.getD j 0 := by rw [wrap_id (by omega) (by omega)]; omega
    have w1 : IntKind.wrap .i64 (2 * l.getD j 0) = 2 * l.getD j 0 := wrap_id (by omega) (by omega)
    have w2 : IntKind.wrap .i64 (l.getD j 0 + l.getD j 0) = 2 * l.getD j 0 := by rw [wrap_id (by omega) (by omega)]; omega
    have w3 : IntKind.wrap .i64 (2 * (2 * l.getD j 0)) = 4 * l.getD j 0 := by rw [wrap_id (by omega) (by omega)]; omega
    by_cases hz : l.getD j 0 = 0
    · rw [if_pos hz]
      refine runL_out ?_
      simp only [iHalfWay_l21_t, Tr.sem, show decide ((0 : Int) < 3) = true from rfl, show (decide ((0 : Int) ≤ 0) && decide ((0 : Int) < (([l, l, l].length : Nat) : Int))) = true from rfl, cond_true, show [l, l, l].getD (Int.toNat 0) [] = l from rfl, zeroLe, ltRange hj, Bool.and_self, Int.toNat_natCast, w0, w1, decide_eq_true (show 2 * l.getD j 0 ≥ 3 * l.getD j 0 by omega), hf]
    · rw [if_neg hz]
      refine (runL_in (s' := (l.getD j 0, 1)) ?_).trans (runL_out ?_)
      · simp only [iHalfWay_l21_t, Tr.sem, show decide ((0 : Int) < 3) = true from rfl, show (decide ((0 : Int) ≤ 0) && decide ((0 : Int) < (([l, l, l].length : Nat) : Int))) = true from rfl, cond_true, show [l, l, l].getD (Int.toNat 0) [] = l from rfl, zeroLe, ltRange hj, Bool.and_self, Int.toNat_natCast, w0, w1, decide_eq_false (show ¬ 2 * l.getD j 0 ≥ 3 * l.getD j 0 by omega), cond_false]
        rfl
      · simp only [iHalfWay_l21_t, Tr.sem, show decide ((1 : Int) < 3) = true from rfl, show (decide ((0 : Int) ≤ 1) && decide ((1 : Int) < (([l, l, l].length : Nat) : Int))) = true from rfl, cond_true, show [l, l, l].getD (Int.toNat 1) [] = l from rfl, zeroLe, ltRange hj, Bool.and_self, Int.toNat_natCast, w2, w3, decide_eq_true (show 4 * l.getD j 0 ≥ 3 * l.getD j 0 by omega), hf]
  have h17 : iHalfWay_l17 [l, l, l] (l.length : Nat) 0 [] (tripL l 3) = some (halfL l) := by
    have key := runL_steps (f := fun s : List (List Int) × Int × Int × List Int × List Int => (iHalfWay_l17_t s.1 s.2.1 s.2.2.1 s.2.2.2.1 s.2.2.2.2).sem) (r := halfL l) l.length 0 (fun k => ([l, l, l], (l.length : Int), (k : Int), halfL (l.take k), tripL l 3)) (fun j _ hj => by
      have hj : j < l.length := by omega
      have e := h21 j (halfL (l.take j)) hj (by simp [halfL]; omega)
      have hln : ([l, l, l].length : Int) = 3 := rfl
      simp only [iHalfWay_l17_t, Tr.sem, ltRange hj, ltRange (show j < (tripL l 3).length by rw [tripL_len]; exact hj), zeroLe, Bool.and_self, cond_true, Int.toNat_natCast, hln, e, osome, oget, up1 (show j ≤ 1048576 by omega)]
      rw [take_succ l j 0 hj]
      unfold halfL
      rw [List.map_append]; rfl) (by
      rw [Nat.zero_add, List.take_length]; simp only [iHalfWay_l17_t, Tr.sem, not_lt_self, cond_false])
    exact key
  have hlen : ((tripL l 3).length : Int) = (l.length : Int) := by rw [tripL_len]
  unfold iHalfWay
  simp only [iHalfWay_t, Q_within, Tr.sem, show win 1 64 (([l, l, l].length : Nat) : Int) = true from rfl, show (decide ((0 : Int) ≤ 0) && decide ((0 : Int) < (([l, l, l].length : Nat) : Int))) = true from rfl, show [l, l, l].getD (Int.toNat 0) [] = l from rfl, Bool.not_true, cond_true, cond_false, win_iff.2 (show (1 : Int) ≤ (l.length : Int) ∧ (l.length : Int) ≤ 12 by omega), Int.toNat_natCast, show (([l, l, l].length : Nat) : Int) = 3 from rfl, h5, osome, oget, isL, unR, hlen, h17]
  simp only [show win 1 64 3 = true from rfl, show decide ((0 : Int) ≤ 0) = true from rfl, show decide ((0 : Int) < 3) = true from rfl, Bool.and_self, Bool.not_true, cond_true, cond_false, decide_true, mk8m (show l.length ≤ 1048576 by omega)]
end Go.Proofs.Ytcjekndobhkmbaa
