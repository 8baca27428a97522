/- Drawn rivers and days. -/
import Derived.Test.YtcjekndobhkmbaaJs
set_option linter.unusedVariables false
set_option linter.unusedSimpArgs false
set_option linter.constructorNameAsVariable false
namespace Go.Proofs.Ytcjekndobhkmbaa
open Go.RowKit
set_option maxRecDepth 100000
theorem D_one {c : List Int} (hc : bytesL c) (n : Int) (hn : 1 ≤ n) (hn2 : n ≤ 1000000) (k : Nat) (hk : k ≤ 2097000) (s : Int) : ∃ (b : Bool) (k' : Nat) (s' : Int), sl00Src_one n c k s = some (b, c, (k' : Int), s') ∧ k' ≤ k + 2 := by
  obtain ⟨b, k', s', e, b0, b1, hk'⟩ := D_pick hc n hn hn2 k hk s
  refine ⟨b == 0, k', s', ?_, hk'⟩
  unfold sl00Src_one sl00Src_one_t
  simp only [e, Tr.sem, osome, oget, cond_true]
theorem two_ne : decide ((2 : Int) ≠ 0) = true := rfl
theorem fit32 {α : Type} {a : Nat} (h : a ≤ 1048576) (x : α) : decide ((a + List.length [x]) * 32 ≤ 140737488355328) = true := by
  simp only [List.length_cons, List.length_nil, decide_eq_true_eq]; omega
theorem J_node {c : List Int} (hc : bytesL c) {n j : Nat} (hj : j < n) (k : Nat) (hk : k ≤ 1000) (s : Int) (y5 : List Int) (y6 : List Dam) (y7 : List Int) (h5 : y5.length = j) (h6 : y6.length = j) (h7 : y7.length = j) (hj5 : j ≤ 5) :
    ∃ (dn : Int) (dm : Dam) (w : Int) (k' : Nat) (s' : Int), (sl06DrawOk_l4_t (n : Nat) (j : Nat) c k s y5 y6 y7).sem = some (.inl (IntKind.wrap .i64 ((j : Int) + 1), c, (k' : Int), s', y5 ++ [dn], y6 ++ [dm], y7 ++ [w])) ∧ (-1 ≤ dn ∧ dn < max j 0) ∧ damB dm = true ∧ (0 ≤ w ∧ w ≤ 8) ∧ k' ≤ k + 20 := by
  have f5 : ∀ x : Int, decide ((y5.length + List.length [x]) * 8 ≤ 140737488355328) = true := fun x => fits8 (by omega) x
  have f6 : ∀ {α : Type} (x : α), decide ((y6.length + List.length [x]) * 32 ≤ 140737488355328) = true := fun x => fit32 (by omega) x
  have f7 : ∀ x : Int, decide ((y7.length + List.length [x]) * 8 ≤ 140737488355328) = true := fun x => fits8 (by omega) x
  by_cases h0 : 0 < j
  · obtain ⟨ba, ka, sa, e0, hka⟩ := D_one hc 6 (by omega) (by omega) k (by omega) s
    cases ba with
    | false =>
      obtain ⟨dn, kd, sd, ed, dn0, dn1, hkd⟩ := D_pick hc j (by omega) (by omega) ka (by omega) sa
      obtain ⟨bb, k1, s1, e1, hk1⟩ := D_one hc 3 (by omega) (by omega) kd (by omega) sd
      obtain ⟨wA, kA, sA, eA, wA0, wA1, hkA⟩ := D_pick hc 8 (by omega) (by omega) k1 (by omega) s1
      obtain ⟨sz, k2, s2, e2, sz0, sz1, hk2⟩ := D_pick hc 30 (by omega) (by omega) k1 (by omega) s1
      have q2 : 0 ≤ sz.tdiv 2 ∧ 2 * sz.tdiv 2 ≤ sz := by
        rw [Int.tdiv_eq_ediv_of_nonneg sz0]; omega
      have u1 : IntKind.wrap .i64 (sz.tdiv 2) = sz.tdiv 2 := wrap_id (by omega) (by omega)
      have u2 : IntKind.wrap .i64 (sz.tdiv 2 + 1) = sz.tdiv 2 + 1 := wrap_id (by omega) (by omega)
      have u3 : IntKind.wrap .i64 (sz + 1) = sz + 1 := wrap_id (by omega) (by omega)
      obtain ⟨de, k3, s3, e3, de0, de1, hk3⟩ := D_pick hc (sz.tdiv 2 + 1) (by omega) (by omega) k2 (by omega) s2
      obtain ⟨le, k4, s4, e4, le0, le1, hk4⟩ := D_pick hc 4 (by omega) (by omega) k3 (by omega) s3
      obtain ⟨nw, k5, s5, e5, nw0, nw1, hk5⟩ := D_pick hc (sz + 1) (by omega) (by omega) k4 (by omega) s4
      obtain ⟨wB, k6, s6, e6, wB0, wB1, hk6⟩ := D_pick hc 8 (by omega) (by omega) k5 (by omega) s5
      cases bb with
      | true =>
        refine ⟨dn, (0, 0, 0, 0), wA, kA, sA, ?_, by omega, rfl, by omega, by omega⟩
        simp only [sl06DrawOk_l4_t, Tr.sem, ltRange hj, decide_eq_true (show (j : Int) > 0 by omega), e0, ed, e1, eA, osome, oget, cond_true, cond_false, Bool.not_true, Bool.not_false, f5, f6, f7, sl06DrawOk_l4_o1, sl06DrawOk_l4_o2, sl06DrawOk_l4_o3, sl06DrawOk_l4_o4, sl06DrawOk_l4_o5, sl06DrawOk_l4_o6, sl06DrawOk_l4_o7, sl06DrawOk_l4_o8, sl06DrawOk_l4_o9, sl06DrawOk_l4_o10, sl06DrawOk_l4_o11, sl06DrawOk_l4_o12, sl06DrawOk_l4_o13, sl06DrawOk_l4_o14, sl06DrawOk_l4_o15, sl06DrawOk_l4_o16, sl06DrawOk_l4_o17, sl06DrawOk_l4_o18, sl06DrawOk_l4_o19, sl06DrawOk_l4_o20, sl06DrawOk_l4_o21, sl06DrawOk_l4_o22, sl06DrawOk_l4_o23]
      | false =>
        refine ⟨dn, (sz, de, le, nw), wB, k6, s6, ?_, by omega, dam_of (by simp only; omega), by omega, by omega⟩
        simp only [sl06DrawOk_l4_t, Tr.sem, ltRange hj, decide_eq_true (show (j : Int) > 0 by omega), e0, ed, e1, e2, u1, u2, u3, e3, e4, e5, e6, two_ne, osome, oget, cond_true, cond_false, Bool.not_true, Bool.not_false, f5, f6, f7, sl06DrawOk_l4_o1, sl06DrawOk_l4_o2, sl06DrawOk_l4_o3, sl06DrawOk_l4_o4, sl06DrawOk_l4_o5, sl06DrawOk_l4_o6, sl06DrawOk_l4_o7, sl06DrawOk_l4_o8, sl06DrawOk_l4_o9, sl06DrawOk_l4_o10, sl06DrawOk_l4_o11, sl06DrawOk_l4_o12, sl06DrawOk_l4_o13, sl06DrawOk_l4_o14, sl06DrawOk_l4_o15, sl06DrawOk_l4_o16, sl06DrawOk_l4_o17, sl06DrawOk_l4_o18, sl06DrawOk_l4_o19, sl06DrawOk_l4_o20, sl06DrawOk_l4_o21, sl06DrawOk_l4_o22, sl06DrawOk_l4_o23]
    | true =>
      obtain ⟨bb, k1, s1, e1, hk1⟩ := D_one hc 3 (by omega) (by omega) ka (by omega) sa
      obtain ⟨wA, kA, sA, eA, wA0, wA1, hkA⟩ := D_pick hc 8 (by omega) (by omega) k1 (by omega) s1
      obtain ⟨sz, k2, s2, e2, sz0, sz1, hk2⟩ := D_pick hc 30 (by omega) (by omega) k1 (by omega) s1
      have q2 : 0 ≤ sz.tdiv 2 ∧ 2 * sz.tdiv 2 ≤ sz := by
        rw [Int.tdiv_eq_ediv_of_nonneg sz0]; omega
      have u1 : IntKind.wrap .i64 (sz.tdiv 2) = sz.tdiv 2 := wrap_id (by omega) (by omega)
      have u2 : IntKind.wrap .i64 (sz.tdiv 2 + 1) = sz.tdiv 2 + 1 := wrap_id (by omega) (by omega)
      have u3 : IntKind.wrap .i64 (sz + 1) = sz + 1 := wrap_id (by omega) (by omega)
      obtain ⟨de, k3, s3, e3, de0, de1, hk3⟩ := D_pick hc (sz.tdiv 2 + 1) (by omega) (by omega) k2 (by omega) s2
      obtain ⟨le, k4, s4, e4, le0, le1, hk4⟩ := D_pick hc 4 (by omega) (by omega) k3 (by omega) s3
      obtain ⟨nw, k5, s5, e5, nw0, nw1, hk5⟩ := D_pick hc (sz + 1) (by omega) (by omega) k4 (by omega) s4
      obtain ⟨wB, k6, s6, e6, wB0, wB1, hk6⟩ := D_pick hc 8 (by omega) (by omega) k5 (by omega) s5
      cases bb with
      | true =>
        refine ⟨-1, (0, 0, 0, 0), wA, kA, sA, ?_, by omega, rfl, by omega, by omega⟩
        simp only [sl06DrawOk_l4_t, Tr.sem, ltRange hj, decide_eq_true (show (j : Int) > 0 by omega), e0, e1, eA, osome, oget, cond_true, cond_false, Bool.not_true, Bool.not_false, f5, f6, f7, sl06DrawOk_l4_o1, sl06DrawOk_l4_o2, sl06DrawOk_l4_o3, sl06DrawOk_l4_o4, sl06DrawOk_l4_o5, sl06DrawOk_l4_o6, sl06DrawOk_l4_o7, sl06DrawOk_l4_o8, sl06DrawOk_l4_o9, sl06DrawOk_l4_o10, sl06DrawOk_l4_o11, sl06DrawOk_l4_o12, sl06DrawOk_l4_o13, sl06DrawOk_l4_o14, sl06DrawOk_l4_o15, sl06DrawOk_l4_o16, sl06DrawOk_l4_o17, sl06DrawOk_l4_o18, sl06DrawOk_l4_o19, sl06DrawOk_l4_o20, sl06DrawOk_l4_o21, sl06DrawOk_l4_o22, sl06DrawOk_l4_o23]
      | false =>
        refine ⟨-1, (sz, de, le, nw), wB, k6, s6, ?_, by omega, dam_of (by simp only; omega), by omega, by omega⟩
        simp only [sl06DrawOk_l4_t, Tr.sem, ltRange hj, decide_eq_true (show (j : Int) > 0 by omega), e0, e1, e2, u1, u2, u3, e3, e4, e5, e6, two_ne, osome, oget, cond_true, cond_false, Bool.not_true, Bool.not_false, f5, f6, f7, sl06DrawOk_l4_o1, sl06DrawOk_l4_o2, sl06DrawOk_l4_o3, sl06DrawOk_l4_o4, sl06DrawOk_l4_o5, sl06DrawOk_l4_o6, sl06DrawOk_l4_o7, sl06DrawOk_l4_o8, sl06DrawOk_l4_o9, sl06DrawOk_l4_o10, sl06DrawOk_l4_o11, sl06DrawOk_l4_o12, sl06DrawOk_l4_o13, sl06DrawOk_l4_o14, sl06DrawOk_l4_o15, sl06DrawOk_l4_o16, sl06DrawOk_l4_o17, sl06DrawOk_l4_o18, sl06DrawOk_l4_o19, sl06DrawOk_l4_o20, sl06DrawOk_l4_o21, sl06DrawOk_l4_o22, sl06DrawOk_l4_o23]
  · have : j = 0 := by omega
    obtain ⟨bb, k1, s1, e1, hk1⟩ := D_one hc 3 (by omega) (by omega) k (by omega) s
    obtain ⟨wA, kA, sA, eA, wA0, wA1, hkA⟩ := D_pick hc 8 (by omega) (by omega) k1 (by omega) s1
    obtain ⟨sz, k2, s2, e2, sz0, sz1, hk2⟩ := D_pick hc 30 (by omega) (by omega) k1 (by omega) s1
    have q2 : 0 ≤ sz.tdiv 2 ∧ 2 * sz.tdiv 2 ≤ sz := by
      rw [Int.tdiv_eq_ediv_of_nonneg sz0]; omega
    have u1 : IntKind.wrap .i64 (sz.tdiv 2) = sz.tdiv 2 := wrap_id (by omega) (by omega)
    have u2 : IntKind.wrap .i64 (sz.tdiv 2 + 1) = sz.tdiv 2 + 1 := wrap_id (by omega) (by omega)
    have u3 : IntKind.wrap .i64 (sz + 1) = sz + 1 := wrap_id (by omega) (by omega)
    obtain ⟨de, k3, s3, e3, de0, de1, hk3⟩ := D_pick hc (sz.tdiv 2 + 1) (by omega) (by omega) k2 (by omega) s2
    obtain ⟨le, k4, s4, e4, le0, le1, hk4⟩ := D_pick hc 4 (by omega) (by omega) k3 (by omega) s3
    obtain ⟨nw, k5, s5, e5, nw0, nw1, hk5⟩ := D_pick hc (sz + 1) (by omega) (by omega) k4 (by omega) s4
    obtain ⟨wB, k6, s6, e6, wB0, wB1, hk6⟩ := D_pick hc 8 (by omega) (by omega) k5 (by omega) s5
    cases bb with
    | true =>
      refine ⟨-1, (0, 0, 0, 0), wA, kA, sA, ?_, by omega, rfl, by omega, by omega⟩
      simp only [sl06DrawOk_l4_t, Tr.sem, ltRange hj, decide_eq_false (show ¬ (j : Int) > 0 by omega), e1, eA, osome, oget, cond_true, cond_false, Bool.not_true, Bool.not_false, f5, f6, f7, sl06DrawOk_l4_o1, sl06DrawOk_l4_o2, sl06DrawOk_l4_o3, sl06DrawOk_l4_o4, sl06DrawOk_l4_o5, sl06DrawOk_l4_o6, sl06DrawOk_l4_o7, sl06DrawOk_l4_o8, sl06DrawOk_l4_o9, sl06DrawOk_l4_o10, sl06DrawOk_l4_o11, sl06DrawOk_l4_o12, sl06DrawOk_l4_o13, sl06DrawOk_l4_o14, sl06DrawOk_l4_o15, sl06DrawOk_l4_o16, sl06DrawOk_l4_o17, sl06DrawOk_l4_o18, sl06DrawOk_l4_o19, sl06DrawOk_l4_o20, sl06DrawOk_l4_o21, sl06DrawOk_l4_o22, sl06DrawOk_l4_o23]
    | false =>
      refine ⟨-1, (sz, de, le, nw), wB, k6, s6, ?_, by omega, dam_of (by simp only; omega), by omega, by omega⟩
      simp only [sl06DrawOk_l4_t, Tr.sem, ltRange hj, decide_eq_false (show ¬ (j : Int) > 0 by omega), e1, e2, u1, u2, u3, e3, e4, e5, e6, two_ne, osome, oget, cond_true, cond_false, Bool.not_true, Bool.not_false, f5, f6, f7, sl06DrawOk_l4_o1, sl06DrawOk_l4_o2, sl06DrawOk_l4_o3, sl06DrawOk_l4_o4, sl06DrawOk_l4_o5, sl06DrawOk_l4_o6, sl06DrawOk_l4_o7, sl06DrawOk_l4_o8, sl06DrawOk_l4_o9, sl06DrawOk_l4_o10, sl06DrawOk_l4_o11, sl06DrawOk_l4_o12, sl06DrawOk_l4_o13, sl06DrawOk_l4_o14, sl06DrawOk_l4_o15, sl06DrawOk_l4_o16, sl06DrawOk_l4_o17, sl06DrawOk_l4_o18, sl06DrawOk_l4_o19, sl06DrawOk_l4_o20, sl06DrawOk_l4_o21, sl06DrawOk_l4_o22, sl06DrawOk_l4_o23]
/-- The drawn river is valid. -/
theorem walk_down {xs : List Int} (h : ∀ j : Nat, j < xs.length → xs.getD j 0 < (j : Int)) : ∀ (m : Nat) (i : Int), i < (m : Int) → i < (xs.length : Int) → walkB xs m i = true
  | 0, i, h1, _ => by unfold walkB; exact decide_eq_true (by omega)
  | m + 1, i, h1, h2 => by
    unfold walkB
    by_cases h0 : i < 0
    · rw [decide_eq_true h0]; rfl
    · rw [decide_eq_false h0, cond_false]
      have := h i.toNat (by omega)
      exact walk_down h m _ (by omega) (by omega)
theorem J_river {c : List Int} (hc : bytesL c) : ∃ (a : List Int) (b : List Dam) (w : List Int), sR8River c = some (a, b, w) ∧ rivB a b w = true ∧ a.length ≤ 5 := by
  obtain ⟨n, k0, s0, e0, n0, n1, hk0⟩ := D_pick hc 5 (by omega) (by omega) 0 (by omega) 0
  obtain ⟨N, hN⟩ : ∃ N : Nat, (N : Int) = 1 + n := ⟨(1 + n).toNat, by omega⟩
  have hw : IntKind.wrap .i64 (1 + n) = (N : Int) := by rw [wrap_id (by omega) (by omega)]; omega
  obtain ⟨r, r1, a, b, w, k, s, r2, l1, l2, l3, p1, p2, p3⟩ := runL_ex0 (f := fun s : Int × List Int × Int × Int × List Int × (List (Int × Int × Int × Int)) × List Int => (sl06DrawOk_l4_t (N : Int) s.1 s.2.1 s.2.2.1 s.2.2.2.1 s.2.2.2.2.1 s.2.2.2.2.2.1 s.2.2.2.2.2.2).sem) N
    (fun j q => ∃ (a : List Int) (b : List Dam) (w : List Int) (k : Nat) (s : Int), q = ((j : Int), c, (k : Int), s, a, b, w) ∧ a.length = j ∧ b.length = j ∧ w.length = j ∧ k ≤ 2 + 20 * j ∧ (∀ i : Nat, i < j → -1 ≤ a.getD i 0 ∧ a.getD i 0 < (i : Int)) ∧ (∀ x ∈ b, damB x = true) ∧ ∀ x ∈ w, 0 ≤ x ∧ x ≤ 8)
    (fun r => ∃ (a : List Int) (b : List Dam) (w : List Int) (k s : Int), r = (c, k, s, a, b, w) ∧ a.length = N ∧ b.length = N ∧ w.length = N ∧ (∀ i : Nat, i < N → -1 ≤ a.getD i 0 ∧ a.getD i 0 < (i : Int)) ∧ (∀ x ∈ b, damB x = true) ∧ ∀ x ∈ w, 0 ≤ x ∧ x ≤ 8)
    (0, c, (k0 : Int), s0, [], [], []) ⟨[], [], [], k0, s0, rfl, rfl, rfl, rfl, by omega, fun i hi => by omega, fun x hx => by simp at hx, fun x hx => by simp at hx⟩
    (fun j q hj ⟨a, b, w, k, s, hq, l1, l2, l3, hk, p1, p2, p3⟩ => by
      subst hq
      obtain ⟨dn, dm, ww, k', s', e, q1, q2, q3, q4⟩ := J_node hc hj k (by omega) s a b w l1 l2 l3 (by omega)
      refine ⟨_, e, a ++ [dn], b ++ [dm], w ++ [ww], k', s', ?_, by simp [l1], by simp [l2], by simp [l3], by omega, fun i hi => ?_, fun x hx => ?_, fun x hx => ?_⟩
      · rw [up1 (by omega)]
      · by_cases h : i = j
        · subst h
          rw [List.getD_eq_getElem?_getD, List.getElem?_append_right (by omega), show i - a.length = 0 by omega]
          simp only [List.getElem?_cons_zero, Option.getD_some]; omega
        · rw [List.getD_eq_getElem?_getD, List.getElem?_append_left (by omega), ← List.getD_eq_getElem?_getD]
          exact p1 i (by omega)
      · rcases List.mem_append.1 hx with h | h
        · exact p2 x h
        · rw [List.mem_singleton.1 h]; exact q2
      · rcases List.mem_append.1 hx with h | h
        · exact p3 x h
        · rw [List.mem_singleton.1 h]; exact q3) (fun q ⟨a, b, w, k, s, hq, l1, l2, l3, hk, p1, p2, p3⟩ => by
      subst hq
      exact ⟨_, by simp only [sl06DrawOk_l4_t, Tr.sem, not_lt_self, cond_false], a, b, w, (k : Int), s, rfl, l1, l2, l3, p1, p2, p3⟩)
  subst r2
  have r1' : sl06DrawOk_l4 (N : Int) 0 c (k0 : Int) s0 [] [] [] = some (c, k, s, a, b, w) := r1
  have e0' : sl00Src_pick 5 c 0 0 = _ := e0
  refine ⟨a, b, w, ?_, ?_, by omega⟩
  · unfold sR8River sR8River_t
    have h : sl06DrawOk c 0 0 = some (c, k, s, a, b, w) := by
      unfold sl06DrawOk sl06DrawOk_t
      simp only [e0', hw, r1', Tr.sem, osome, oget, cond_true]
    simp only [D_from, h, Tr.sem, osome, oget, cond_true]
  · simp only [rivB, Bool.and_eq_true, decide_eq_true_eq]
    refine ⟨⟨⟨⟨?_, by omega⟩, by omega⟩, ⟨?_, ?_⟩, ?_⟩, ?_⟩
    · simp only [win, Bool.and_eq_true, decide_eq_true_eq]; omega
    · rw [← all_range a 0, List.all_eq_true]
      intro i hi
      have := p1 i (by rw [← l1]; exact List.mem_range.1 hi)
      have hi' : i < N := by rw [← l1]; exact List.mem_range.1 hi
      simp only [win, Bool.and_eq_true, decide_eq_true_eq]; omega
    · rw [List.all_eq_true]
      intro x hx
      have := p3 x hx
      simp only [win, Bool.and_eq_true, decide_eq_true_eq]; omega
    · rw [List.all_eq_true]; exact p2
    · unfold walksB
      rw [List.all_eq_true]
      intro i hi
      have hi' := List.mem_range.1 hi
      exact walk_down (fun j hj => (p1 j (by omega)).2) _ _ (by omega) (by omega)
/-- Drawn days. -/
theorem J_days {m : List Int} (hm : bytesL m) (n : Nat) (hn : n ≤ 5) : ∃ xs, sR8Days m (n : Int) = some xs ∧ xs.length ≤ 6 ∧ ∀ x ∈ xs, x.length = n ∧ ∀ y ∈ x, 0 ≤ y ∧ y ≤ 1000000000 := by
  obtain ⟨K, k0, s0, e0, K0, K1, hk0⟩ := D_pick hm 7 (by omega) (by omega) 0 (by omega) 0
  have e0' : sl00Src_pick 7 m 0 0 = _ := e0
  have day : ∀ (k : Nat) (hk : k ≤ 1000) (s : Int) (y1 : Int) (y6 : List (List Int)), ∃ (k' : Nat) (s' : Int) (x : List Int), sR8Days_l8 (n : Int) y1 0 m (k : Int) s y6 [] = some ((n : Int), y1, m, (k' : Int), s', y6, x) ∧ k' ≤ k + 20 ∧ x.length = n ∧ ∀ y ∈ x, 0 ≤ y ∧ y ≤ 1000000000 := fun k hk s y1 y6 => by
    obtain ⟨r, r1, k', s', x, r2, r3⟩ := runL_ex0 (f := fun s : Int × List Int × Int × Int × List Int => (sR8Days_l8_t (n : Int) y1 y6 s.1 s.2.1 s.2.2.1 s.2.2.2.1 s.2.2.2.2).sem) n
      (fun j q => ∃ (k' : Nat) (s' : Int) (x : List Int), q = ((j : Int), m, (k' : Int), s', x) ∧ k' ≤ k + 2 * j ∧ x.length = j ∧ ∀ y ∈ x, 0 ≤ y ∧ y ≤ 1000000000) (fun r => ∃ (k' : Nat) (s' : Int) (x : List Int), r = ((n : Int), y1, m, (k' : Int), s', y6, x) ∧ k' ≤ k + 20 ∧ x.length = n ∧ ∀ y ∈ x, 0 ≤ y ∧ y ≤ 1000000000) (0, m, (k : Int), s, []) ⟨k, s, [], rfl, by omega, rfl, fun y hy => by cases hy⟩ (fun j q hj ⟨k', s', x, hq, p1, p2, p3⟩ => by
        subst hq
        obtain ⟨b, k2, s2, e2, b0, b1, hk2⟩ := D_pick hm 12 (by omega) (by omega) k' (by omega) s'
        simp only [sR8Days_l8_t, Tr.sem, ltRange hj, e2, osome, oget, cond_true, fits8 (show x.length ≤ 1048576 by omega), up1 (show j ≤ 1048576 by omega)]
        refine ⟨_, rfl, k2, s2, _, rfl, by omega, by simp [p2], fun y hy => ?_⟩
        rcases List.mem_append.1 hy with h | h
        · exact p3 y h
        · rw [List.mem_singleton.1 h]; omega) (fun q ⟨k', s', x, hq, p1, p2, p3⟩ => by
        subst hq
        exact ⟨_, by simp only [sR8Days_l8_t, Tr.sem, not_lt_self, cond_false], k', s', x, rfl, by omega, p2, p3⟩)
    subst r2
    exact ⟨k', s', x, r1, r3⟩
  have loop : ∀ (j : Nat) (k : Nat) (s : Int) (xs : List (List Int)), xs.length + j ≤ 6 → k + 20 * j ≤ 900 → (∀ x ∈ xs, x.length = n ∧ ∀ y ∈ x, 0 ≤ y ∧ y ≤ 1000000000) → ∃ r, sR8Days_l4 (n : Int) (j : Int) m (k : Int) s xs = some r ∧ r.length ≤ 6 ∧ ∀ x ∈ r, x.length = n ∧ ∀ y ∈ x, 0 ≤ y ∧ y ≤ 1000000000 := fun j => by
    induction j with
    | zero => intro k s xs h1 h2 h3; exact ⟨xs, runL_out (by simp only [sR8Days_l4_t, Tr.sem, decide_eq_false (show ¬ (((0 : Nat) : Int) > 0) by omega), cond_false]), by omega, h3⟩
    | succ j ih =>
      intro k s xs h1 h2 h3
      obtain ⟨k', s', x, d1, d2, d3, d4⟩ := day k (by omega) s ((j + 1 : Nat) : Int) xs
      obtain ⟨r, r1, r2⟩ := ih k' s' (xs ++ [x]) (by simp; omega) (by omega) (fun z hz => by
        rcases List.mem_append.1 hz with h | h
        · exact h3 z h
        · rw [List.mem_singleton.1 h]; exact ⟨d3, d4⟩)
      have hw : IntKind.wrap .i64 (((j + 1 : Nat) : Int) - 1) = (j : Int) := by rw [wrap_id (by omega) (by omega)]; omega
      have hf : decide ((xs.length + List.length [x]) * 24 ≤ 140737488355328) = true := by simp only [List.length_cons, List.length_nil, decide_eq_true_eq]; omega
      refine ⟨r, (runL_in (s' := ((n : Int), (j : Int), m, (k' : Int), s', xs ++ [x])) ?_).trans r1, r2⟩
      simp only [sR8Days_l4_t, Tr.sem, decide_eq_true (show (((j + 1 : Nat) : Int) > 0) by omega), d1, osome, oget, cond_true, hf, hw]
  obtain ⟨r, r1, r2⟩ := loop K.toNat k0 s0 [] (by simp; omega) (by omega) (fun x hx => by cases hx)
  rw [Int.toNat_of_nonneg K0] at r1
  refine ⟨r, ?_, r2⟩
  unfold sR8Days sR8Days_t
  simp only [D_from, e0', r1, Tr.sem, osome, oget, cond_true]
end Go.Proofs.Ytcjekndobhkmbaa
