/- HalfWay: the program answers as the reference. -/
import Derived.Test.YtjohnpldkanjmaaPa
import Derived.Test.YtjohnpldkanjmaaHa1d
set_option linter.unusedVariables false
set_option linter.unusedSimpArgs false
set_option linter.constructorNameAsVariable false
namespace Go.Proofs.Ytjohnpldkanjmaa
open Go.RowKit
set_option maxRecDepth 100000
theorem q_fold_set {α : Type} : ∀ (xs ys : List α) (k : Nat) (pre : List α), pre.length = k → ys.length = xs.length → foldE (fun k (t : List α) x => (.inl (t.set k x) : List α ⊕ List α)) id k (pre ++ ys) xs = pre ++ xs
  | [], ys, k, pre, hp, hl => by
    have : ys = [] := List.length_eq_zero_iff.1 (by simpa using hl)
    subst this; rfl
  | x :: xs, [], k, pre, hp, hl => by simp at hl
  | x :: xs, y :: ys, k, pre, hp, hl => by
    simp only [foldE]
    have e : (pre ++ y :: ys).set k x = (pre ++ [x]) ++ ys := by
      rw [List.set_append_right _ _ (by omega), show k - pre.length = 0 from by omega, List.set_cons_zero, List.append_assoc]; rfl
    rw [e, q_fold_set xs ys (k + 1) (pre ++ [x]) (by simp [hp]) (by simpa using hl), List.append_assoc]; rfl
theorem run_copy {α : Type} {f : Int × List α → Option ((Int × List α) ⊕ List α)} (xs ys : List α) (hl : ys.length = xs.length) (hb : xs.length ≤ 9223372036854775806)
    (hf : ∀ (k : Nat) (t : List α) (x : α), k < xs.length → t.length = xs.length → xs[k]? = some x → f ((k : Int), t) = some (.inl (IntKind.wrap .i64 ((k : Int) + 1), t.set k x)))
    (he : ∀ t : List α, f ((xs.length : Nat), t) = some (.inr t)) : runL f (0, ys) = some xs := by
  have h := runL_for (f := f) xs (fun k (t : List α) => ((k : Int), t)) (fun k t x => .inl (t.set k x)) id (fun _ t => t.length = xs.length) ys hl (fun k t x hi hk hx => by
    rw [hf k t x hk hi hx, wrap_id (by omega) (by omega)]; rfl) (fun k t x t' hi hk hx e => by cases e; simpa using hi) (fun t _ => he t)
  have e := q_fold_set xs ys 0 [] rfl hl
  simp only [List.nil_append] at e
  rw [e] at h
  exact h
theorem mk8 {n : Nat} (h : n ≤ 1048576) : (decide (((n : Nat) : Int) = ((n : Nat) : Int)) && decide (0 ≤ ((n : Nat) : Int)) && decide (((n : Nat) : Int) * ((8 : Nat) : Int) ≤ 140737488355328)) = true := by
  simp only [decide_true, Bool.true_and, Bool.and_eq_true, decide_eq_true_eq]; omega
theorem Q_to (xs : List Int) (h : xs.length ≤ 1048576) : wtoInt64S xs = some xs := by
  unfold wtoInt64S wtoInt64S_t
  have h1 : wtoInt64S_l3 xs 0 (List.replicate (Int.toNat ((xs.length : Nat) : Int)) 0) = some xs := by
    unfold wtoInt64S_l3
    refine run_copy xs _ (by simp) (by omega) (fun k t x hk ht hx => ?_) (fun t => by simp only [wtoInt64S_l3_t, Tr.sem, not_lt_self, cond_false])
    simp only [wtoInt64S_l3_t, Tr.sem, ltRange hk, zeroLe, Bool.and_self, ltRange (show k < t.length by omega), cond_true, Int.toNat_natCast, getD_at hx]
  refine (brT (mk8 h)).trans ?_
  simp only [Tr.sem, h1, osome, oget, cond_true]
theorem Q_eq (xs : List Int) (h : xs.length ≤ 1048576) : weqInt64S xs xs = some true := by
  unfold weqInt64S weqInt64S_t
  have h1 : weqInt64S_l4 xs xs 0 = some (.inr ()) := by
    unfold weqInt64S_l4
    have := run_all (f := fun s => (weqInt64S_l4_t xs xs s).sem) xs 0 (fun _ => true) (.inl ()) (.inr ()) (by omega) (fun k hk x hx => by
      simp only [weqInt64S_l4_t, Tr.sem, ltRange hk, zeroLe, Bool.and_self, cond_true, bne_self_eq_false, cond_false]) (by simp only [weqInt64S_l4_t, Tr.sem, not_lt_self, cond_false])
    rw [all_true] at this
    exact this
  simp only [Tr.sem, bne_self_eq_false, cond_false, h1, osome, oget, isL, cond_true]
theorem Q_left {n : Nat} {m : Int} (h0 : 0 ≤ m) (hm : m ≤ 1048576) (hn : n ≤ 9223372036854775807) : IntKind.wrap .i64 (m - (n : Int)) = m - n := wrap_id (by omega) (by omega)
theorem Q_sz (xs : List Int) (m : Int) (h0 : 0 ≤ m) (hm : m ≤ 1048576) (hn : xs.length ≤ 9223372036854775807) : wszInt64S xs m = if m - xs.length < 0 then -1 else m - xs.length := by
  unfold wszInt64S wszInt64S_t
  simp only [Tr.val, Q_left h0 hm hn]
  by_cases h : m - (xs.length : Int) < 0 <;> simp [h]
def win (lo hi n : Int) : Bool := decide (lo ≤ n) && decide (n ≤ hi)
theorem Q_within (n lo hi : Int) : iwithin n lo hi = win lo hi n := by
  unfold iwithin iwithin_t win
  cases h : decide (lo ≤ n) <;> simp [Tr.val, h]
theorem Q_in (n lo hi : Int) : sl00In n lo hi = win lo hi n := by
  unfold sl00In sl00In_t win
  cases h : decide (n ≥ lo) <;> simp_all [Tr.val]
theorem Q_are (xs : List Int) (lo hi : Int) (hl : xs.length ≤ 9223372036854775807) : iareWithin xs lo hi = some (xs.all (win lo hi)) := by
  have h0 := run_idx (f := fun s => (lIndexFunc_iareWithin_1_l2_t xs lo hi xs.length s).sem) xs (fun x => !(win lo hi x)) hl (fun k hk x hx => by
    simp only [lIndexFunc_iareWithin_1_l2_t, Tr.sem, ltRange hk, zeroLe, Bool.and_self, Int.toNat_natCast, getD_at hx, cond_true, iareWithin_1, iareWithin_1_t, Tr.val, Q_within]
    cases win lo hi x <;> rfl) (by simp only [lIndexFunc_iareWithin_1_l2_t, Tr.sem, not_lt_self, cond_false])
  have h1 : lIndexFunc_iareWithin_1 xs lo hi = some (idxI (fstIdx (fun x => !(win lo hi x)) 0 xs)) := idx_tree h0
  have h2 : lContainsFunc_iareWithin_1 xs lo hi = some (xs.any fun x => !(win lo hi x)) := has_tree h1
  have h3 : iareWithin xs lo hi = _ := not_tree h2
  rw [h3, not_any]
def unitB (n : Int) : Bool := win 0 1000000000 n
theorem Q_unit (n : Int) : sl06Unit n = unitB n := by
  unfold sl06Unit sl06Unit_t
  simp only [Tr.val, Q_in]; rfl
theorem runL_steps {σ ρ : Type} {f : σ → Option (σ ⊕ ρ)} {r : ρ} : ∀ (n k : Nat) (s : Nat → σ), (∀ j, k ≤ j → j < k + n → f (s j) = some (.inl (s (j + 1)))) → f (s (k + n)) = some (.inr r) → runL f (s k) = some r
  | 0, k, s, h, he => runL_out he
  | n + 1, k, s, h, he => (runL_in (h k (Nat.le_refl _) (by omega))).trans (runL_steps n (k + 1) s (fun j h1 h2 => h j (by omega) (by omega)) (by rw [show k + 1 + n = k + (n + 1) by omega]; exact he))
def wr {α : Type} (g : Nat → α) (xs : List α) (k : Nat) : List α := (List.range k).map g ++ xs.drop k
theorem wr_len {α : Type} (g : Nat → α) (xs : List α) (k : Nat) (h : k ≤ xs.length) : (wr g xs k).length = xs.length := by simp [wr]; omega
theorem wr_zero {α : Type} (g : Nat → α) (xs : List α) : wr g xs 0 = xs := by simp [wr]
theorem wr_end {α : Type} (g : Nat → α) (xs : List α) : wr g xs xs.length = (List.range xs.length).map g := by simp [wr]
theorem wr_set {α : Type} (g : Nat → α) (xs : List α) (k : Nat) (h : k < xs.length) : (wr g xs k).set k (g k) = wr g xs (k + 1) := by
  unfold wr
  rw [List.set_append_right _ _ (by simp)]
  simp only [List.length_map, List.length_range, Nat.sub_self]
  rw [List.drop_eq_getElem_cons h, List.set_cons_zero, List.range_succ, List.map_append, List.append_assoc]; rfl
theorem q_getD_set {α : Type} (xs : List α) (k : Nat) (x d : α) (h : k < xs.length) : (xs.set k x).getD k d = x := by simp [List.getD_eq_getElem?_getD, h]
theorem range_getD {α : Type} (g : Nat → α) (n k : Nat) (d : α) (h : k < n) : ((List.range n).map g).getD k d = g k := by
  rw [List.getD_eq_getElem?_getD, List.getElem?_map, List.getElem?_range h]; rfl
def mI (m : Int) (n : Nat) : List Int := (List.range n).map fun (k : Nat) => m + (k : Int)
theorem mI_len (m : Int) (n : Nat) : (mI m n).length = n := by simp [mI]
theorem Q_markG (m : Int) (xs : List Int) (h : xs.length ≤ 1048576) (h0 : 0 ≤ m) (hm : m ≤ 16777216) : wmarkInt64S m xs = some (m + (xs.length : Int), mI m xs.length) := by
  unfold wmarkInt64S wmarkInt64S_t
  have h1 : wmarkInt64S_l2 m 0 xs = some (m + (xs.length : Int), mI m xs.length) := by
    have := runL_steps (f := fun s : Int × Int × List Int => (wmarkInt64S_l2_t s.1 s.2.1 s.2.2).sem) (r := (m + (xs.length : Int), mI m xs.length)) xs.length 0 (fun k => (m + (k : Int), (k : Int), wr (fun k : Nat => m + (k : Int)) xs k)) (fun j _ hj => by
      have hj : j < xs.length := by omega
      have e := wr_set (fun k : Nat => m + (k : Int)) xs j hj
      simp only [wmarkInt64S_l2_t, Tr.sem, ltRange (show j < (wr (fun k : Nat => m + (k : Int)) xs j).length by rw [wr_len _ _ _ (by omega)]; exact hj), zeroLe, Bool.and_self, cond_true, Int.toNat_natCast]
      rw [wrap_id (by omega) (by omega), wrap_id (by omega) (by omega)]
      rw [e]
      simp only [Int.natCast_add, Int.add_assoc]; rfl) (by
      simp only [Nat.zero_add, wmarkInt64S_l2_t, Tr.sem]
      rw [wr_len _ _ _ (Nat.le_refl _)]
      simp only [not_lt_self, cond_false, wr_end]; rfl)
    simp only [wr_zero, Int.natCast_zero, Int.add_zero] at this
    exact this
  simp only [Tr.sem, h1, osome, oget, cond_true]
theorem Q_heldG (m : Int) (n : Nat) (h : n ≤ 1048576) (h0 : 0 ≤ m) (hm : m ≤ 16777216) : wheldInt64S (mI m n) m = some (m + (n : Int)) := by
  unfold wheldInt64S wheldInt64S_t
  have h1 : wheldInt64S_l2 (mI m n) m 0 = some (.inr (m + (n : Int))) := by
    have := runL_steps (f := fun s : Int × Int => (wheldInt64S_l2_t (mI m n) s.1 s.2).sem) (r := .inr (m + (n : Int))) n 0 (fun k => (m + (k : Int), (k : Int))) (fun j _ hj => by
      have hj : j < n := by omega
      have e : (mI m n).getD j 0 = m + (j : Int) := range_getD _ n j 0 hj
      simp only [wheldInt64S_l2_t, Tr.sem, ltRange (show j < (mI m n).length by rw [mI_len]; exact hj), zeroLe, Bool.and_self, cond_true, Int.toNat_natCast, e, bne_self_eq_false, cond_false]
      rw [wrap_id (by omega) (by omega), wrap_id (by omega) (by omega)]
      simp only [Int.natCast_add, Int.add_assoc]; rfl) (by
      simp only [Nat.zero_add, wheldInt64S_l2_t, Tr.sem]
      rw [mI_len, not_lt_self]; rfl)
    simp only [Int.natCast_zero, Int.add_zero] at this
    exact this
  simp only [Tr.sem, h1, osome, oget, cond_true, isL, unR, cond_false]
theorem Q_nil (m : Int) : wmarkInt64S_nil m = some m := by
  unfold wmarkInt64S_nil wmarkInt64S_nil_t wmarkInt64S_nil_l2
  have h : runL (fun s : Unit => (wmarkInt64S_nil_l2_t m 0).sem) () = some m := runL_out (by simp [wmarkInt64S_nil_l2_t, Tr.sem])
  simp only [h, Tr.sem, osome, oget, cond_true]
/-! ### Lists of lists -/
abbrev LL := List (List Int)
def totL : LL → Nat
  | [] => 0
  | x :: l => x.length + totL l
theorem totL_mem : ∀ {l : LL} {x : List Int}, x ∈ l → x.length ≤ totL l
  | y :: l, x, h => by
    rcases List.mem_cons.1 h with rfl | h
    · simp [totL]
    · have := totL_mem h; simp only [totL]; omega
theorem getD_mem {l : LL} {k : Nat} (h : k < l.length) : l.getD k [] ∈ l := by
  rw [List.getD_eq_getElem?_getD, List.getElem?_eq_getElem h]; exact List.getElem_mem h
noncomputable def szE : Nat → Int → LL → Int ⊕ Int
  | _, t, [] => .inr t
  | k, t, x :: l => if wszInt64S x t < 0 then .inl (-1) else szE (k + 1) (wszInt64S x t) l
theorem szE_ok : ∀ (l : LL) (k : Nat) (t : Int), 0 ≤ t → t ≤ 1048576 → (∀ x ∈ l, x.length ≤ 9223372036854775807) → (szE k t l = .inl (-1)) ∨ (∃ r, szE k t l = .inr r ∧ 0 ≤ r ∧ (totL l : Int) ≤ t)
  | [], k, t, h0, h1, hx => .inr ⟨t, rfl, h0, by simp [totL]; exact h0⟩
  | x :: l, k, t, h0, h1, hx => by
    have e := Q_sz x t h0 h1 (hx x List.mem_cons_self)
    simp only [szE]
    by_cases h : t - (x.length : Int) < 0
    · rw [e, if_pos h]; simp
    · rw [e, if_neg h, if_neg h]
      rcases szE_ok l (k + 1) (t - x.length) (by omega) (by omega) (fun y hy => hx y (List.mem_cons_of_mem _ hy)) with g | ⟨r, g1, g2, g3⟩
      · exact .inl g
      · exact .inr ⟨r, g1, g2, by simp only [totL]; omega⟩
theorem foldE_sz : ∀ (l : LL) (k : Nat) (t : Int), foldE (fun _ (t : Int) (x : List Int) => if wszInt64S x t < 0 then .inr (.inl (-1)) else .inl (wszInt64S x t)) (fun t => (.inr t : Int ⊕ Int)) k t l = szE k t l
  | [], k, t => rfl
  | x :: l, k, t => by
    simp only [foldE, szE]
    by_cases h : wszInt64S x t < 0
    · simp only [if_pos h]
    · simp only [if_neg h]; exact foldE_sz l (k + 1) _
theorem Q_szSS (l : LL) (hl : l.length ≤ 9223372036854775807) (hx : ∀ x ∈ l, x.length ≤ 9223372036854775807) : ∃ v, wszInt64SS l 1048576 = some v ∧ (decide (v < 0) = false → l.length + totL l ≤ 1048576) := by
  unfold wszInt64SS wszInt64SS_t
  rw [Q_left (by omega) (by omega) hl]
  by_cases h : (1048576 : Int) - (l.length : Int) < 0
  · exact ⟨-1, by simp only [decide_eq_true h, Tr.sem, cond_true], fun h => by simp at h⟩
  · have hr : wszInt64SS_l5 l (1048576 - (l.length : Int)) 0 = some (szE 0 (1048576 - (l.length : Int)) l) := by
      unfold wszInt64SS_l5
      have := runL_for (f := fun s : Int × Int => (wszInt64SS_l5_t l s.1 s.2).sem) l (fun k (t : Int) => (t, (k : Int))) (fun _ (t : Int) (x : List Int) => if wszInt64S x t < 0 then .inr (.inl (-1)) else .inl (wszInt64S x t)) (fun t => (.inr t : Int ⊕ Int)) (fun _ _ => True) (1048576 - (l.length : Int)) trivial (fun k t x _ hk hx => by
        simp only [wszInt64SS_l5_t, Tr.sem, ltRange hk, zeroLe, Bool.and_self, cond_true, Int.toNat_natCast, getD_at hx]
        rw [wrap_id (n := (k : Int) + 1) (by omega) (by omega)]
        by_cases h : wszInt64S x t < 0
        · simp only [decide_eq_true h, if_pos h, cond_true]
        · simp only [decide_eq_false h, if_neg h, cond_false]; rfl) (fun _ _ _ _ _ _ _ _ => trivial) (fun t _ => by simp only [wszInt64SS_l5_t, Tr.sem, not_lt_self, cond_false])
      rw [foldE_sz] at this
      exact this
    simp only [decide_eq_false h, Tr.sem, cond_false, hr, osome, oget, cond_true]
    rcases szE_ok l 0 (1048576 - (l.length : Int)) (by omega) (by omega) hx with g | ⟨r, g1, g2, g3⟩
    · rw [g]; exact ⟨-1, rfl, fun h => by simp at h⟩
    · rw [g1]; exact ⟨r, rfl, fun _ => by omega⟩
/-- Small lists of lists. -/
def smallLL (l : LL) : Prop := l.length ≤ 1048576 ∧ totL l ≤ 1048576
theorem small_at {l : LL} (h : smallLL l) {x : List Int} (hx : x ∈ l) : x.length ≤ 1048576 := Nat.le_trans (totL_mem hx) h.2
theorem mk8t {n : Nat} (h : n ≤ 1048576) : (decide True && decide (0 ≤ ((n : Nat) : Int)) && decide (((n : Nat) : Int) * ((8 : Nat) : Int) ≤ 140737488355328)) = true := by
  simp only [decide_true, Bool.true_and, Bool.and_eq_true, decide_eq_true_eq]; omega
theorem mk24 {n : Nat} (h : n ≤ 1048576) : (decide (((n : Nat) : Int) = ((n : Nat) : Int)) && decide (0 ≤ ((n : Nat) : Int)) && decide (((n : Nat) : Int) * ((24 : Nat) : Int) ≤ 140737488355328)) = true := by
  simp only [decide_true, Bool.true_and, Bool.and_eq_true, decide_eq_true_eq]; omega
theorem Q_toSS (l : LL) (h : smallLL l) : wtoInt64SS l = some l := by
  unfold wtoInt64SS wtoInt64SS_t
  have h1 : wtoInt64SS_l3 l 0 (List.replicate (Int.toNat ((l.length : Nat) : Int)) []) = some l := by
    unfold wtoInt64SS_l3
    refine run_copy l _ (by simp) (by have := h.1; omega) (fun k t x hk ht hx => ?_) (fun t => by simp only [wtoInt64SS_l3_t, Tr.sem, not_lt_self, cond_false])
    simp only [wtoInt64SS_l3_t, Tr.sem, ltRange hk, zeroLe, Bool.and_self, ltRange (show k < t.length by omega), cond_true, Int.toNat_natCast, getD_at hx, Q_to x (small_at h (List.mem_of_getElem? hx)), osome, oget]
  refine (brT (mk24 h.1)).trans ?_
  simp only [Tr.sem, h1, osome, oget, cond_true]
theorem Q_eqSS (l : LL) (h : smallLL l) : weqInt64SS l l = some true := by
  unfold weqInt64SS weqInt64SS_t
  have h1 : weqInt64SS_l4 l l 0 = some (.inr ()) := by
    unfold weqInt64SS_l4
    have := run_all (f := fun s => (weqInt64SS_l4_t l l s).sem) l [] (fun _ => true) (.inl ()) (.inr ()) (by have := h.1; omega) (fun k hk x hx => by
      simp only [weqInt64SS_l4_t, Tr.sem, ltRange hk, zeroLe, Bool.and_self, cond_true, Int.toNat_natCast, getD_at hx, Q_eq x (small_at h (List.mem_of_getElem? hx)), osome, oget, Bool.not_true, cond_false]) (by simp only [weqInt64SS_l4_t, Tr.sem, not_lt_self, cond_false])
    rw [all_true] at this
    exact this
  simp only [Tr.sem, bne_self_eq_false, cond_false, h1, osome, oget, isL, cond_true]
theorem totL_take : ∀ (l : LL) (k : Nat), k < l.length → totL (l.take (k + 1)) = totL (l.take k) + (l.getD k []).length
  | x :: l, 0, h => by simp [totL]
  | x :: l, k + 1, h => by
    have := totL_take l k (by simpa using h)
    simp only [List.take_succ_cons, totL, List.getD_cons_succ]; omega
theorem totL_le : ∀ (l : LL) (k : Nat), totL (l.take k) ≤ totL l
  | [], k => by simp
  | x :: l, 0 => by simp [totL]
  | x :: l, k + 1 => by
    have := totL_le l k
    simp only [List.take_succ_cons, totL]; omega
theorem Q_markSS (l : LL) (h : smallLL l) : ∃ ys, wmarkInt64SS 1 l = some (1 + (totL l : Int), ys) := by
  unfold wmarkInt64SS wmarkInt64SS_t
  have h1 : ∃ r, wmarkInt64SS_l2 1 0 l = some r ∧ r.1 = 1 + (totL l : Int) := by
    unfold wmarkInt64SS_l2
    refine runL_ex0 (f := fun s : Int × Int × LL => (wmarkInt64SS_l2_t s.1 s.2.1 s.2.2).sem) l.length (fun k s => s.2.1 = (k : Int) ∧ s.1 = 1 + (totL (l.take k) : Int) ∧ s.2.2.length = l.length ∧ s.2.2.drop k = l.drop k) (fun r => r.1 = 1 + (totL l : Int)) (1, 0, l) ⟨rfl, by simp [totL], rfl, rfl⟩ (fun k s hk ⟨e1, e2, e3, e4⟩ => ?_) (fun s ⟨e1, e2, e3, e4⟩ => ?_)
    · obtain ⟨m, i, t⟩ := s
      simp only at e1 e2 e3 e4
      subst e1
      have hkt : k < t.length := by omega
      have hg : t.getD k [] = l.getD k [] := by
        have := congrArg (fun z : LL => z[0]?) e4
        simp only [List.getElem?_drop, Nat.add_zero] at this
        simp only [List.getD_eq_getElem?_getD, this]
      have htk := totL_take l k hk
      have hle := totL_le l (k + 1)
      have hb := h.2
      have hm : wmarkInt64S m (l.getD k []) = some (m + ((l.getD k []).length : Int), mI m (l.getD k []).length) := Q_markG m _ (small_at h (getD_mem hk)) (by omega) (by omega)
      simp only [wmarkInt64SS_l2_t, Tr.sem, ltRange hkt, zeroLe, Bool.and_self, cond_true, Int.toNat_natCast, hg, hm, osome, oget, Q_nil]
      rw [wrap_id (n := (k : Int) + 1) (by have := h.1; omega) (by have := h.1; omega)]
      have hd : ∀ z : List Int, (t.set k z).drop (k + 1) = l.drop (k + 1) := fun z => by
        rw [List.drop_set_of_lt (by omega)]
        have := congrArg (List.drop 1) e4
        simpa [List.drop_drop, Nat.add_comm] using this
      cases he : (l.getD k []).isEmpty with
      | true =>
        have h0 : (l.getD k []).length = 0 := by simpa using he
        have hbe : (m + ((l.getD k []).length : Int) == m) = true := by rw [h0]; simp
        simp only [cond_true, hbe]
        exact ⟨_, rfl, rfl, by rw [htk]; omega, by simp [e3], hd _⟩
      | false =>
        simp only [cond_false]
        exact ⟨_, rfl, rfl, by rw [htk]; omega, by simp [e3], hd _⟩
    · obtain ⟨m, i, t⟩ := s
      simp only at e1 e2 e3 e4
      subst e1
      have : decide (((l.length : Nat) : Int) < ((t.length : Nat) : Int)) = false := by rw [e3]; simp
      simp only [wmarkInt64SS_l2_t, Tr.sem, this, cond_false]
      exact ⟨_, rfl, by rw [e2, List.take_length]⟩
  obtain ⟨⟨m, ys⟩, e1, e2⟩ := h1
  simp only at e2
  subst e2
  exact ⟨ys, by simp only [Tr.sem, e1, osome, oget, cond_true]⟩
/-! ### Half of what comes -/
def colL (i : Nat) (l : LL) : List Int := l.map (·.getD i 0)
def sumL : List Int → Int
  | [] => 0
  | x :: l => x + sumL l
/-- The first day by which half has come. -/
def halfL (all : Int) : Nat → Int → List Int → Option Nat
  | _, _, [] => none
  | k, s, x :: l => if 2 * (s + x) ≥ all then some k else halfL all (k + 1) (s + x) l
def rowB (c : Nat) (x : List Int) : Bool := decide (x.length = c) && x.all unitB
theorem Q_inflows (x : List Int) (c : Nat) (hl : x.length ≤ 9223372036854775807) : sl06Inflows x c = some (rowB c x) := by
  unfold sl06Inflows sl06Inflows_t rowB
  by_cases hc : x.length = c
  · subst hc
    have h1 : sl06Inflows_l2 x (x.length : Nat) 0 = some (bif x.all unitB then .inr (x, (x.length : Nat)) else .inl ()) := by
      unfold sl06Inflows_l2
      refine run_all (f := fun s => (sl06Inflows_l2_t x (x.length : Nat) s).sem) x 0 unitB (.inl ()) (.inr (x, (x.length : Nat))) hl (fun k hk y hy => by
        simp only [sl06Inflows_l2_t, Tr.sem, ltRange hk, zeroLe, Bool.and_self, cond_true, beq_self_eq_true, Int.toNat_natCast, getD_at hy, Q_unit]
        cases unitB y <;> rfl) (by simp only [sl06Inflows_l2_t, Tr.sem, not_lt_self, cond_false])
    simp only [h1, Tr.sem, osome, oget, cond_true]
    cases x.all unitB <;> simp [isL, unR]
  · have hne : (((x.length : Nat) : Int) == ((c : Nat) : Int)) = false := by simp; omega
    have h1 : sl06Inflows_l2 x c 0 = some (.inr (x, (c : Nat))) := by
      unfold sl06Inflows_l2
      refine runL_out ?_
      simp only [sl06Inflows_l2_t, Tr.sem, hne, cond_false]
      cases decide ((0 : Int) < ((x.length : Nat) : Int)) <;> rfl
    simp only [h1, Tr.sem, osome, oget, cond_true, isL, unR, cond_false, hne]
    simp [hc]
theorem Q_days (l : LL) (c : Nat) (hl : l.length ≤ 64) (hx : ∀ x ∈ l, x.length ≤ 9223372036854775807) : sl06Days l c = some (l.all (rowB c)) := by
  unfold sl06Days sl06Days_t
  have h1 : sl06Days_l2 l c 0 = some (bif l.all (rowB c) then .inr l else .inl ()) := by
    unfold sl06Days_l2
    refine run_all (f := fun s => (sl06Days_l2_t l c s).sem) l [] (rowB c) (.inl ()) (.inr l) (by omega) (fun k hk y hy => by
      simp only [sl06Days_l2_t, Tr.sem, ltRange hk, zeroLe, Bool.and_self, cond_true, decide_eq_true (show ((l.length : Nat) : Int) ≤ 64 by omega), Int.toNat_natCast, getD_at hy, Q_inflows y c (hx y (List.mem_of_getElem? hy)), osome, oget]
      cases rowB c y <;> rfl) (by simp only [sl06Days_l2_t, Tr.sem, not_lt_self, cond_false])
  simp only [h1, Tr.sem, osome, oget, cond_true]
  cases l.all (rowB c) with
  | true =>
    simp only [cond_true, isL, unR, cond_false]
    exact congrArg some (decide_eq_true (by omega))
  | false => simp [isL]
/-- All rows are as long, and of small numbers. -/
def goodLL (c : Nat) (l : LL) : Prop := l.length ≤ 64 ∧ ∀ x ∈ l, x.length = c ∧ ∀ y ∈ x, 0 ≤ y ∧ y ≤ 1000000000
theorem goodLL_of {c : Nat} {l : LL} (hl : l.length ≤ 64) (h : l.all (rowB c) = true) : goodLL c l := ⟨hl, fun x hx => by
  have := List.all_eq_true.1 h x hx
  simp only [rowB, Bool.and_eq_true, decide_eq_true_eq] at this
  refine ⟨this.1, fun y hy => ?_⟩
  have := List.all_eq_true.1 this.2 y hy
  simp only [unitB, win, Bool.and_eq_true, decide_eq_true_eq] at this
  exact this⟩
theorem good_at {c : Nat} {l : LL} (h : goodLL c l) {x : List Int} (hx : x ∈ l) {i : Nat} (hi : i < c) : i < x.length ∧ 0 ≤ x.getD i 0 ∧ x.getD i 0 ≤ 1000000000 := by
  obtain ⟨h1, h2⟩ := h.2 x hx
  refine ⟨by omega, ?_⟩
  rw [List.getD_eq_getElem?_getD, List.getElem?_eq_getElem (by omega)]
  exact h2 _ (List.getElem_mem _)
theorem sum_le {l : List Int} (h : ∀ y ∈ l, 0 ≤ y ∧ y ≤ 1000000000) : 0 ≤ sumL l ∧ sumL l ≤ 1000000000 * l.length := by
  induction l with
  | nil => simp [sumL]
  | cons x l ih =>
    have h1 := ih fun y hy => h y (List.mem_cons_of_mem _ hy)
    have h2 := h x List.mem_cons_self
    simp only [sumL, List.length_cons]; omega
theorem col_in {c : Nat} {l : LL} (h : goodLL c l) {i : Nat} (hi : i < c) : ∀ y ∈ colL i l, 0 ≤ y ∧ y ≤ 1000000000 := fun y hy => by
  obtain ⟨x, hx, rfl⟩ := List.mem_map.1 hy
  exact (good_at h hx hi).2
theorem col_take (i k : Nat) (l : LL) : colL i (l.take k) = (colL i l).take k := by simp [colL, List.map_take]
theorem sum_take {l : List Int} {k : Nat} {x : Int} (h : l[k]? = some x) : sumL (l.take (k + 1)) = sumL (l.take k) + x := by
  induction l generalizing k with
  | nil => simp at h
  | cons y l ih =>
    cases k with
    | zero => simp at h; subst h; simp [sumL]
    | succ k =>
      have := ih (k := k) (by simpa using h)
      simp only [List.take_succ_cons, sumL, this]; omega
theorem take_in {P : Int → Prop} {l : List Int} (k : Nat) (h : ∀ y ∈ l, P y) : ∀ y ∈ l.take k, P y := fun y hy => h y (List.mem_of_mem_take hy)
theorem halfL_some (all : Int) : ∀ (l : List Int) (k : Nat) (s : Int), l ≠ [] → (∀ y ∈ l, 0 ≤ y) → 0 ≤ s → s + sumL l = all → ∃ j, halfL all k s l = some j ∧ k ≤ j ∧ j < k + l.length
  | [], k, s, hn, _, _, _ => absurd rfl hn
  | [x], k, s, _, hy, h0, h => by
    have := hy x List.mem_cons_self
    simp only [sumL] at h
    simp only [halfL]
    rw [if_pos (by omega)]
    exact ⟨k, rfl, Nat.le_refl _, by simp⟩
  | x :: y :: l, k, s, _, hy, h0, h => by
    have hx := hy x List.mem_cons_self
    simp only [halfL]
    by_cases hc : 2 * (s + x) ≥ all
    · rw [if_pos hc]; exact ⟨k, rfl, Nat.le_refl _, by simp⟩
    · rw [if_neg hc]
      obtain ⟨j, h1, h2, h3⟩ := halfL_some all (y :: l) (k + 1) (s + x) (by simp) (fun z hz => hy z (List.mem_cons_of_mem _ hz)) (by omega) (by simp only [sumL] at h ⊢; omega)
      refine ⟨j, ?_, by omega, by simp at h3 ⊢; omega⟩
      simpa only [halfL] using h1
/-- What a loop over the days of a column comes to. -/
theorem spec_all {c : Nat} {l : LL} (h : goodLL c l) {i : Nat} (hi : i < c) (out : List Int) (n : Int) : sHalfWay_l12 l n i 0 0 out = some (l, n, (i : Int), sumL (colL i l), out) := by
  have hc := col_in h hi
  have hl := h.1
  unfold sHalfWay_l12
  have := runL_steps (f := fun s : Int × Int => (sHalfWay_l12_t l n i out s.1 s.2).sem) (r := (l, n, (i : Int), sumL (colL i l), out)) l.length 0 (fun k => (sumL ((colL i l).take k), (k : Int))) (fun k _ hk => by
    have hk : k < l.length := by omega
    have hrow := getD_mem hk
    obtain ⟨g1, g2, g3⟩ := good_at h hrow hi
    have hck : (colL i l)[k]? = some ((l.getD k []).getD i 0) := by
      rw [colL, List.getElem?_map, List.getElem?_eq_getElem hk, List.getD_eq_getElem?_getD (l := l), List.getElem?_eq_getElem hk]; rfl
    have hs := sum_le (take_in k hc)
    have hlen : ((colL i l).take k).length ≤ 64 := by simp [colL]; omega
    simp only [sHalfWay_l12_t, Tr.sem, ltRange hk, zeroLe, Bool.and_self, cond_true, Int.toNat_natCast, ltRange g1]
    rw [wrap_id (n := sumL _ + _) (by omega) (by omega), wrap_id (n := (k : Int) + 1) (by omega) (by omega), ← sum_take hck]
    rfl) (by
    simp only [Nat.zero_add, sHalfWay_l12_t, Tr.sem, not_lt_self, cond_false]
    rw [List.take_of_length_le (by simp [colL])])
  simpa [sumL] using this
def dayI (o : Option Nat) : Int := match o with
  | some k => (k : Int)
  | none => -1
theorem spec_half {c : Nat} {l : LL} (h : goodLL c l) {i : Nat} (hi : i < c) (out : List Int) (n all : Int) : ∃ d, halfL all 0 0 (colL i l) = d ∧ sHalfWay_l18 l n i all 0 (-1) 0 out = some (l, n, (i : Int), dayI d, out) := by
  have hc := col_in h hi
  have hl := h.1
  refine ⟨_, rfl, ?_⟩
  unfold sHalfWay_l18
  let D : Nat → Int := fun k => dayI (halfL all 0 0 ((colL i l).take k))
  have key : ∀ (m : List Int) (k : Nat) (s : Int) (x : Int), halfL all k s (m ++ [x]) = match halfL all k s m with | some j => some j | none => if 2 * (s + sumL m + x) ≥ all then some (k + m.length) else none := by
    intro m
    induction m with
    | nil => intro k s x; simp [halfL, sumL]
    | cons y m ih =>
      intro k s x
      simp only [List.cons_append, halfL]
      by_cases hq : 2 * (s + y) ≥ all
      · simp [hq]
      · simp only [if_neg hq, ih, sumL, List.length_cons]
        cases halfL all (k + 1) (s + y) m with
        | some j => rfl
        | none =>
          have e1 : s + y + sumL m + x = s + (y + sumL m) + x := by omega
          have e2 : k + 1 + m.length = k + (m.length + 1) := by omega
          simp only
          rw [e1, e2]
          by_cases hz : 2 * (s + (y + sumL m) + x) ≥ all <;> simp [hz]
  have := runL_steps (f := fun s : Int × Int × Int => (sHalfWay_l18_t l n i all out s.1 s.2.1 s.2.2).sem) (r := (l, n, (i : Int), dayI (halfL all 0 0 (colL i l)), out)) l.length 0 (fun k => (sumL ((colL i l).take k), D k, (k : Int))) (fun k _ hk => by
    have hk : k < l.length := by omega
    have hrow := getD_mem hk
    obtain ⟨g1, g2, g3⟩ := good_at h hrow hi
    have hck : (colL i l)[k]? = some ((l.getD k []).getD i 0) := by
      rw [colL, List.getElem?_map, List.getElem?_eq_getElem hk, List.getD_eq_getElem?_getD (l := l), List.getElem?_eq_getElem hk]; rfl
    have hs := sum_le (take_in k hc)
    have hlen : ((colL i l).take k).length = k := by simp [colL]; omega
    have hst := sum_take hck
    simp only [sHalfWay_l18_t, Tr.sem, ltRange hk, zeroLe, Bool.and_self, cond_true, Int.toNat_natCast, ltRange g1]
    have htk : (colL i l).take (k + 1) = (colL i l).take k ++ [(l.getD k []).getD i 0] := by
      rw [List.take_add_one, hck]; rfl
    have w1 : IntKind.wrap .i64 (sumL ((colL i l).take k) + (l.getD k []).getD i 0) = sumL ((colL i l).take k) + (l.getD k []).getD i 0 := wrap_id (by omega) (by omega)
    have w2 : IntKind.wrap .i64 (2 * (sumL ((colL i l).take k) + (l.getD k []).getD i 0)) = 2 * (sumL ((colL i l).take k) + (l.getD k []).getD i 0) := wrap_id (by omega) (by omega)
    have w3 : IntKind.wrap .i64 ((k : Int) + 1) = ((k + 1 : Nat) : Int) := wrap_id (by omega) (by omega)
    simp only [w1, w2, w3, hst]
    have hD : D (k + 1) = if D k < 0 then (if 2 * (sumL ((colL i l).take k) + (l.getD k []).getD i 0) ≥ all then (k : Int) else D k) else D k := by
      have hDk : D k = dayI (halfL all 0 0 ((colL i l).take k)) := rfl
      have hDk1 : D (k + 1) = dayI (halfL all 0 0 ((colL i l).take (k + 1))) := rfl
      rw [hDk1, htk, key, hDk]
      cases halfL all 0 0 ((colL i l).take k) with
      | some j =>
        have hj : ¬ ((j : Int) < 0) := by omega
        simp [dayI, hj]
      | none =>
        simp only [dayI, hlen, Int.zero_add, Nat.zero_add]
        have hm : ((-1 : Int) < 0) = True := eq_true (by omega)
        by_cases hq : 2 * (sumL ((colL i l).take k) + (l.getD k []).getD i 0) ≥ all
        · simp only [hq, hm, if_true]
        · simp only [hq, hm, if_true, if_false]
    by_cases h1 : D k < 0
    · by_cases h2 : 2 * (sumL ((colL i l).take k) + (l.getD k []).getD i 0) ≥ all
      · simp only [decide_eq_true h1, decide_eq_true h2, cond_true]; rw [hD, if_pos h1, if_pos h2]
      · simp only [decide_eq_true h1, decide_eq_false h2, cond_true, cond_false]; rw [hD, if_pos h1, if_neg h2]
    · simp only [decide_eq_false h1, cond_false]; rw [hD, if_neg h1]) (by
    simp only [Nat.zero_add, sHalfWay_l18_t, Tr.sem, not_lt_self, cond_false]
    show some (Sum.inr (l, n, (i : Int), dayI (halfL all 0 0 ((colL i l).take l.length)), out)) = _
    rw [List.take_of_length_le (by simp [colL])])
  simpa [sumL, D, halfL, dayI] using this
/-- The days, column by column. -/
def halvesL (l : LL) (n : Nat) : List Int := (List.range n).map fun i => dayI (halfL (sumL (colL i l)) 0 0 (colL i l))
theorem halves_succ (l : LL) (n : Nat) : halvesL l (n + 1) = halvesL l n ++ [dayI (halfL (sumL (colL n l)) 0 0 (colL n l))] := by simp [halvesL, List.range_succ]
theorem fit8 {n : Nat} (h : n ≤ 1048576) : decide ((n + 1) * 8 ≤ 140737488355328) = true := by simp; omega
theorem spec_run {c : Nat} {l : LL} (h : goodLL c l) (hc : c ≤ 12) : sHalfWay_l8 l c 0 [] = some (halvesL l c) := by
  unfold sHalfWay_l8
  exact runL_steps (f := fun s : LL × Int × Int × List Int => (sHalfWay_l8_t s.1 s.2.1 s.2.2.1 s.2.2.2).sem) (r := halvesL l c) c 0 (fun k => (l, (c : Int), (k : Int), halvesL l k)) (fun k _ hk => by
    have hk : k < c := by omega
    obtain ⟨d, hd, h18⟩ := spec_half h hk (halvesL l k) c (sumL (colL k l))
    have h12 := spec_all h hk (halvesL l k) c
    have hlen : (halvesL l k).length = k := by simp [halvesL]
    simp only [sHalfWay_l8_t, Tr.sem, ltRange hk, cond_true, h12, osome, oget, h18, List.length_singleton, hlen, fit8 (show k ≤ 1048576 by omega)]
    rw [wrap_id (n := (k : Int) + 1) (by omega) (by omega), halves_succ, hd]
    rfl) (by simp only [Nat.zero_add, sHalfWay_l8_t, Tr.sem, not_lt_self, cond_false])
/-! ### The program -/
def sumsL (l : LL) (c : Nat) : List Int := (List.range c).map fun i => sumL (colL i l)
theorem impl_row {c : Nat} {l : LL} (h : goodLL c l) (hc12 : c ≤ 12) {k : Nat} (hk : k < l.length) (a b : LL) (p q : Int) : iHalfWay_l10 a b p q (l.getD k []) (((l.getD k []).length : Nat) : Int) 0 (sumsL (l.take k) c) = some (a, b, p, q, sumsL (l.take (k + 1)) c) := by
  have hrow := getD_mem hk
  have hl := h.1
  obtain ⟨hlen, hel⟩ := h.2 _ hrow
  unfold iHalfWay_l10
  have hnew : sumsL (l.take (k + 1)) c = (List.range c).map fun i => sumL (colL i (l.take k)) + (l.getD k []).getD i 0 := by
    refine List.map_congr_left fun i _ => ?_
    rw [col_take, col_take]
    refine sum_take ?_
    rw [colL, List.getElem?_map, List.getElem?_eq_getElem hk, List.getD_eq_getElem?_getD (l := l), List.getElem?_eq_getElem hk]; rfl
  have hsl : (sumsL (l.take k) c).length = c := by simp [sumsL]
  generalize hg : (fun i : Nat => sumL (colL i (l.take k)) + (l.getD k []).getD i 0) = g at hnew
  have := runL_steps (f := fun s : Int × List Int => (iHalfWay_l10_t a b p q (l.getD k []) (((l.getD k []).length : Nat) : Int) s.1 s.2).sem) (r := (a, b, p, q, sumsL (l.take (k + 1)) c)) c 0 (fun i => ((i : Int), wr g (sumsL (l.take k) c) i)) (fun i _ hi => by
    have hi : i < c := by omega
    obtain ⟨g1, g2, g3⟩ := good_at h hrow hi
    have hL : i < (wr g (sumsL (l.take k) c) i).length := by rw [wr_len _ _ _ (by omega), hsl]; exact hi
    have hat : (wr g (sumsL (l.take k) c) i).getD i 0 = sumL (colL i (l.take k)) := by
      rw [List.getD_eq_getElem?_getD, wr, List.getElem?_append_right (by simp)]
      simp only [List.length_map, List.length_range, Nat.sub_self, List.getElem?_drop, Nat.add_zero]
      rw [sumsL, List.getElem?_map, List.getElem?_range hi]; rfl
    have hs := sum_le (take_in k (col_in h hi))
    have hkl : ((colL i l).take k).length ≤ 64 := by simp [colL]; omega
    have e := wr_set g (sumsL (l.take k) c) i (by omega)
    have w1 : IntKind.wrap .i64 (sumL (colL i (l.take k)) + (l.getD k []).getD i 0) = g i := by
      rw [← hg]
      simp only [col_take]
      exact wrap_id (by omega) (by omega)
    have w3 : IntKind.wrap .i64 ((i : Int) + 1) = ((i + 1 : Nat) : Int) := wrap_id (by omega) (by omega)
    simp only [iHalfWay_l10_t, Tr.sem, hlen, ltRange hi, zeroLe, Bool.and_self, cond_true, Int.toNat_natCast, ltRange hL, ltRange (show i < (l.getD k []).length by omega), hat, w1, w3, e]) (by
    simp only [Nat.zero_add, iHalfWay_l10_t, Tr.sem, hlen, not_lt_self, cond_false]
    have := wr_end g (sumsL (l.take k) c)
    rw [hsl] at this
    rw [this, hnew])
  simpa [wr_zero] using this
theorem impl_sums (l : LL) (c : Nat) (hc12 : c ≤ 12) (hl : l.length ≤ 64) (hx : ∀ x ∈ l, x.length ≤ 9223372036854775807) : iHalfWay_l5 l l (l.length : Nat) 0 (List.replicate c 0) = some (bif l.all (rowB c) then .inr (l, sumsL l c) else .inl ()) := by
  have h0 : List.replicate c 0 = sumsL (l.take 0) c := by
    simp only [List.take_zero, sumsL]
    apply List.ext_getElem?
    intro i
    rw [List.getElem?_map, List.getElem?_replicate]
    by_cases hi : i < c
    · rw [List.getElem?_range hi]; simp [hi, colL, sumL]
    · rw [List.getElem?_eq_none (by simp; omega)]; simp [hi]
  have len : ∀ k, (sumsL (l.take k) c).length = c := fun k => by simp [sumsL]
  unfold iHalfWay_l5
  -- round by round
  have key : ∀ (j k : Nat), k + j = l.length → (l.take k).all (rowB c) = true → runL (fun s : LL × LL × Int × Int × List Int => (iHalfWay_l5_t s.1 s.2.1 s.2.2.1 s.2.2.2.1 s.2.2.2.2).sem) (l, l, ((l.length : Nat) : Int), (k : Int), sumsL (l.take k) c) = some (bif l.all (rowB c) then .inr (l, sumsL l c) else .inl ()) := by
    intro j
    induction j with
    | zero =>
      intro k hk hall
      have : k = l.length := by omega
      subst this
      rw [List.take_length] at hall ⊢
      refine runL_out ?_
      simp only [iHalfWay_l5_t, Tr.sem, not_lt_self, cond_false, hall, cond_true]
    | succ j ih =>
      intro k hk hall
      have hkl : k < l.length := by omega
      have hrow := getD_mem hkl
      have hget : l[k]? = some (l.getD k []) := by rw [List.getD_eq_getElem?_getD, List.getElem?_eq_getElem hkl]; rfl
      have htk : (l.take (k + 1)).all (rowB c) = rowB c (l.getD k []) := by
        rw [List.take_add_one, hget]; simp only [Option.toList, List.all_append, hall, Bool.true_and, List.all_cons, List.all_nil, Bool.and_true]
      have hno : rowB c (l.getD k []) = false → l.all (rowB c) = false := fun e => by
        rw [List.all_eq_false]; exact ⟨_, hrow, by rw [e]; simp⟩
      have hA := Q_are (l.getD k []) 0 1000000000 (hx _ hrow)
      by_cases hc : (l.getD k []).length = c
      · cases hu : (l.getD k []).all (win 0 1000000000) with
        | false =>
          have hr : rowB c (l.getD k []) = false := by
            simp only [rowB, Bool.and_eq_false_iff]; right
            exact hu
          refine runL_out ?_
          have e1 : ((((l.getD k []).length : Nat) : Int) != (((sumsL (l.take k) c).length : Nat) : Int)) = false := by rw [len, hc]; simp
          simp only [iHalfWay_l5_t, Tr.sem, ltRange hkl, zeroLe, Bool.and_self, cond_true, Int.toNat_natCast, e1, cond_false, hA, hu, osome, oget, Bool.not_false, hno hr]
        | true =>
          have hr : rowB c (l.getD k []) = true := by
            simp only [rowB, Bool.and_eq_true, decide_eq_true_eq]
            exact ⟨hc, hu⟩
          have hg : goodLL c (l.take (k + 1)) := goodLL_of (by simp; omega) (by rw [htk]; exact hr)
          have hg1 : (l.take (k + 1)).getD k [] = l.getD k [] := by
            simp only [List.getD_eq_getElem?_getD, List.getElem?_take, if_pos (show k < k + 1 by omega)]
          have h10 := impl_row hg hc12 (k := k) (by simp; omega) l l ((l.length : Nat) : Int) (k : Int)
          rw [hg1, List.take_take, List.take_take, Nat.min_eq_left (by omega), Nat.min_self] at h10
          have e1 : ((((l.getD k []).length : Nat) : Int) != (((sumsL (l.take k) c).length : Nat) : Int)) = false := by rw [len, hc]; simp
          refine (runL_in (s' := (l, l, ((l.length : Nat) : Int), ((k + 1 : Nat) : Int), sumsL (l.take (k + 1)) c)) ?_).trans (ih (k + 1) (by omega) (by rw [htk]; exact hr))
          simp only [iHalfWay_l5_t, Tr.sem, ltRange hkl, zeroLe, Bool.and_self, cond_true, Int.toNat_natCast, e1, cond_false, hA, hu, osome, oget, Bool.not_true, h10]
          rw [wrap_id (n := (k : Int) + 1) (by omega) (by omega)]
          rfl
      · have hr : rowB c (l.getD k []) = false := by simp only [rowB, Bool.and_eq_false_iff, decide_eq_false_iff_not]; exact .inl hc
        refine runL_out ?_
        have e1 : ((((l.getD k []).length : Nat) : Int) != (((sumsL (l.take k) c).length : Nat) : Int)) = true := by rw [len, bne_iff_ne]; omega
        simp only [iHalfWay_l5_t, Tr.sem, ltRange hkl, zeroLe, Bool.and_self, cond_true, Int.toNat_natCast, e1, hno hr, cond_false]
  have := key l.length 0 (by omega) (by simp)
  rw [← h0] at this
  exact this
theorem impl_half {c : Nat} {l : LL} (h : goodLL c l) {i : Nat} (hi : i < c) (all p q : Int) (out sums : List Int) (ho : out.length ≤ 12) : iHalfWay_l21 l i all 0 p q l (l.length : Nat) 0 out sums = some (l, p, q, (match halfL all 0 0 (colL i l) with | some d => out ++ [(d : Int)] | none => out), sums) := by
  have hc := col_in h hi
  have hl := h.1
  unfold iHalfWay_l21
  have key : ∀ (j k : Nat), k + j = l.length → runL (fun s : Int × Int => (iHalfWay_l21_t l i all p q l (l.length : Nat) out sums s.1 s.2).sem) (sumL ((colL i l).take k), (k : Int)) = some (l, p, q, (match halfL all k (sumL ((colL i l).take k)) ((colL i l).drop k) with | some d => out ++ [(d : Int)] | none => out), sums) := by
    intro j
    induction j with
    | zero =>
      intro k hk
      have : k = l.length := by omega
      subst this
      rw [List.drop_of_length_le (l := colL i l) (by simp [colL])]
      refine runL_out ?_
      simp only [iHalfWay_l21_t, Tr.sem, not_lt_self, cond_false, halfL]
    | succ j ih =>
      intro k hk
      have hkl : k < l.length := by omega
      have hrow := getD_mem hkl
      obtain ⟨g1, g2, g3⟩ := good_at h hrow hi
      have hck : (colL i l)[k]? = some ((l.getD k []).getD i 0) := by
        rw [colL, List.getElem?_map, List.getElem?_eq_getElem hkl, List.getD_eq_getElem?_getD (l := l), List.getElem?_eq_getElem hkl]; rfl
      have hs := sum_le (take_in k hc)
      have hlen : ((colL i l).take k).length ≤ 64 := by simp [colL]; omega
      have hst := sum_take hck
      have hdr : (colL i l).drop k = (l.getD k []).getD i 0 :: (colL i l).drop (k + 1) := by
        have hkc : k < (colL i l).length := by simp [colL]; exact hkl
        rw [List.drop_eq_getElem_cons hkc]
        congr 1
        have := List.getElem?_eq_getElem hkc
        rw [hck] at this
        exact (Option.some.inj this).symm
      have w1 : IntKind.wrap .i64 (sumL ((colL i l).take k) + (l.getD k []).getD i 0) = sumL ((colL i l).take k) + (l.getD k []).getD i 0 := wrap_id (by omega) (by omega)
      have w2 : IntKind.wrap .i64 (2 * (sumL ((colL i l).take k) + (l.getD k []).getD i 0)) = 2 * (sumL ((colL i l).take k) + (l.getD k []).getD i 0) := wrap_id (by omega) (by omega)
      have w3 : IntKind.wrap .i64 ((k : Int) + 1) = ((k + 1 : Nat) : Int) := wrap_id (by omega) (by omega)
      rw [hdr]
      simp only [halfL]
      by_cases hq : 2 * (sumL ((colL i l).take k) + (l.getD k []).getD i 0) ≥ all
      · rw [if_pos hq]
        refine runL_out ?_
        simp only [iHalfWay_l21_t, Tr.sem, ltRange hkl, zeroLe, Bool.and_self, cond_true, Int.toNat_natCast, ltRange g1, List.length_singleton, fit8 (show out.length ≤ 1048576 by omega)]
        simp only [w1, w2, decide_eq_true hq, cond_true]
      · rw [if_neg hq]
        refine (runL_in (s' := (sumL ((colL i l).take (k + 1)), ((k + 1 : Nat) : Int))) ?_).trans ?_
        · simp only [iHalfWay_l21_t, Tr.sem, ltRange hkl, zeroLe, Bool.and_self, cond_true, Int.toNat_natCast, ltRange g1]
          simp only [w1, w2, w3, hst, decide_eq_false hq, cond_false]
        · rw [ih (k + 1) (by omega), hst]
  have := key l.length 0 (by omega)
  simpa [sumL] using this
theorem impl_run {c : Nat} {l : LL} (h : goodLL c l) (hc : c ≤ 12) (hl : l ≠ []) : iHalfWay_l17 l (c : Nat) 0 [] (sumsL l c) = some (halvesL l c) := by
  have hsl : (sumsL l c).length = c := by simp [sumsL]
  unfold iHalfWay_l17
  exact runL_steps (f := fun s : LL × Int × Int × List Int × List Int => (iHalfWay_l17_t s.1 s.2.1 s.2.2.1 s.2.2.2.1 s.2.2.2.2).sem) (r := halvesL l c) c 0 (fun k => (l, (c : Int), (k : Int), halvesL l k, sumsL l c)) (fun k _ hk => by
    have hk : k < c := by omega
    have hat : (sumsL l c).getD k 0 = sumL (colL k l) := range_getD _ c k 0 hk
    have hlen : (halvesL l k).length = k := by simp [halvesL]
    have h21 := impl_half h hk (sumL (colL k l)) c k (halvesL l k) (sumsL l c) (by omega)
    obtain ⟨d, hd, _⟩ := halfL_some (sumL (colL k l)) (colL k l) 0 0 (by simp [colL]; exact hl) (fun y hy => (col_in h hk y hy).1) (by omega) (by omega)
    rw [hd] at h21
    simp only [iHalfWay_l17_t, Tr.sem, ltRange hk, cond_true, zeroLe, Bool.and_self, Int.toNat_natCast, hsl, hat, h21, osome, oget]
    rw [wrap_id (n := (k : Int) + 1) (by omega) (by omega), halves_succ, hd]
    rfl) (by simp only [Nat.zero_add, iHalfWay_l17_t, Tr.sem, not_lt_self, cond_false])
/-! ### The same -/
def halfO (l : LL) : Unit ⊕ List Int := bif win 1 64 l.length && win 1 12 (l.getD 0 []).length && l.all (rowB (l.getD 0 []).length) then .inr (halvesL l (l.getD 0 []).length) else .inl ()
theorem Q_sHalf (l : LL) (hx : ∀ x ∈ l, x.length ≤ 9223372036854775807) : sHalfWay l = some (halfO l) := by
  unfold sHalfWay sHalfWay_t halfO
  by_cases h1 : (l.length : Int) < 1
  · have : win 1 64 (l.length : Int) = false := by simp only [win, Bool.and_eq_false_iff, decide_eq_false_iff_not]; omega
    simp [Tr.sem, h1, this]
  by_cases h2 : (l.length : Int) > 64
  · have : win 1 64 (l.length : Int) = false := by simp only [win, Bool.and_eq_false_iff, decide_eq_false_iff_not]; omega
    simp [Tr.sem, h1, h2, this]
  have hw : win 1 64 (l.length : Int) = true := by simp only [win, Bool.and_eq_true, decide_eq_true_eq]; omega
  have hr0 : (decide (0 ≤ (0 : Int)) && decide ((0 : Int) < ((l.length : Nat) : Int))) = true := by simp; omega
  have e0 : Int.toNat 0 = 0 := rfl
  simp only [Tr.sem, decide_eq_false h1, decide_eq_false h2, cond_false, hr0, cond_true, hw, Bool.true_and, e0]
  generalize hrow : l.getD 0 [] = row
  by_cases h3 : (row.length : Int) < 1
  · have : win 1 12 (row.length : Int) = false := by simp only [win, Bool.and_eq_false_iff, decide_eq_false_iff_not]; omega
    simp [h3, this]
  by_cases h4 : (row.length : Int) > 12
  · have : win 1 12 (row.length : Int) = false := by simp only [win, Bool.and_eq_false_iff, decide_eq_false_iff_not]; omega
    simp [h3, h4, this]
  have hw2 : win 1 12 (row.length : Int) = true := by simp only [win, Bool.and_eq_true, decide_eq_true_eq]; omega
  simp only [decide_eq_false h3, decide_eq_false h4, cond_false, Q_days l row.length (by omega) hx, osome, oget, cond_true, hw2, Bool.true_and]
  cases hA : l.all (rowB row.length) with
  | false => simp
  | true => simp [spec_run (goodLL_of (by omega) hA) (by omega)]
theorem Q_iHalf (l : LL) (hx : ∀ x ∈ l, x.length ≤ 9223372036854775807) : iHalfWay l = some (halfO l) := by
  unfold iHalfWay iHalfWay_t halfO
  simp only [Q_within, Tr.sem]
  cases hw : win 1 64 (l.length : Int) with
  | false => simp
  | true =>
  have hn : 1 ≤ l.length ∧ l.length ≤ 64 := by simp only [win, Bool.and_eq_true, decide_eq_true_eq] at hw; omega
  have hr0 : (decide (0 ≤ (0 : Int)) && decide ((0 : Int) < ((l.length : Nat) : Int))) = true := by simp; omega
  have e0 : Int.toNat 0 = 0 := rfl
  simp only [Bool.not_true, cond_false, hr0, cond_true, Bool.true_and, e0]
  generalize hrow : l.getD 0 [] = row
  cases hw2 : win 1 12 (row.length : Int) with
  | false => simp
  | true =>
  have hn2 : 1 ≤ row.length ∧ row.length ≤ 12 := by simp only [win, Bool.and_eq_true, decide_eq_true_eq] at hw2; omega
  simp only [Bool.not_true, cond_false, mk8 (show row.length ≤ 1048576 by omega), cond_true, Int.toNat_natCast, impl_sums l row.length hn2.2 hn.2 hx, osome, oget, Bool.true_and, mk8t (show row.length ≤ 1048576 by omega)]
  cases hA : l.all (rowB row.length) with
  | false => simp [isL]
  | true =>
    have hlen : (sumsL l row.length).length = row.length := by simp [sumsL]
    have hne : l ≠ [] := fun e => by rw [e] at hn; simp at hn
    simp only [cond_true, isL, unR, cond_false, hlen, impl_run (goodLL_of hn.2 hA) hn2.2 hne]
theorem halfO_len {l : LL} {q : List Int} (h : halfO l = .inr q) : q.length ≤ 12 := by
  unfold halfO at h
  cases hb : (win 1 64 (l.length : Int) && win 1 12 ((l.getD 0 []).length : Int) && l.all (rowB (l.getD 0 []).length)) with
  | false => rw [hb] at h; cases h
  | true =>
    rw [hb] at h
    simp only [cond_true, Sum.inr.injEq] at h
    subst h
    simp only [Bool.and_eq_true, win, decide_eq_true_eq] at hb
    have := hb.1.2.2
    simp only [halvesL, List.length_map, List.length_range]; omega
theorem pureFnExactHalfWay (l : LL) (hl : List.length l ≤ 9223372036854775807) (hx : ∀ x : List Int, List.Mem x l → x.length ≤ 9223372036854775807) : wFnExactHalfWay l = some true := by
  have hx' : ∀ x ∈ l, x.length ≤ 9223372036854775807 := fun x h => hx x h
  obtain ⟨v, hv, hs⟩ := Q_szSS l hl hx'
  unfold wFnExactHalfWay wFnExactHalfWay_t wFnExactHalfWay_o59
  simp only [hv, Tr.sem, osome, oget, cond_true]
  cases hd : decide (v < 0) with
  | true => rfl
  | false =>
  have hsm : smallLL l := by have := hs hd; exact ⟨by omega, by omega⟩
  have hto := Q_toSS l hsm
  obtain ⟨ys, hmk⟩ := Q_markSS l hsm
  have hS := Q_sHalf l hx'
  have hI := Q_iHalf l hx'
  have hE := Q_eqSS l hsm
  have hneg : decide ((1 + (totL l : Int)) < 0) = false := by simp; omega
  have e00 : weqInt64S [] [] = some true := Q_eq [] (by simp)
  have h00 : wheldInt64S [] 1 = some 1 := Q_heldG 1 0 (by omega) (by omega) (by omega)
  simp only [cond_false, hto, wFnExactHalfWay_o58, wFnExactHalfWay_o57, Tr.sem, osome, oget, cond_true, hS]
  cases ho : halfO l with
  | inl u =>
    rw [ho] at hI
    simp only [wFnExactHalfWay_o1, wFnExactHalfWay_o2, wFnExactHalfWay_o3, wFnExactHalfWay_o4, wFnExactHalfWay_o5, wFnExactHalfWay_o6, wFnExactHalfWay_o7, wFnExactHalfWay_o8, wFnExactHalfWay_o9, wFnExactHalfWay_o10, wFnExactHalfWay_o11, wFnExactHalfWay_o12, wFnExactHalfWay_o13, wFnExactHalfWay_o14, wFnExactHalfWay_o15, wFnExactHalfWay_o16, wFnExactHalfWay_o17, wFnExactHalfWay_o18, wFnExactHalfWay_o19, wFnExactHalfWay_o20, wFnExactHalfWay_o21, wFnExactHalfWay_o22, wFnExactHalfWay_o23, wFnExactHalfWay_o24, wFnExactHalfWay_o25, wFnExactHalfWay_o26, wFnExactHalfWay_o27, wFnExactHalfWay_o28, wFnExactHalfWay_o29, wFnExactHalfWay_o30, wFnExactHalfWay_o31, wFnExactHalfWay_o32, wFnExactHalfWay_o33, wFnExactHalfWay_o34, wFnExactHalfWay_o35, wFnExactHalfWay_o36, wFnExactHalfWay_o37, wFnExactHalfWay_o38, wFnExactHalfWay_o39, wFnExactHalfWay_o40, wFnExactHalfWay_o41, wFnExactHalfWay_o42, wFnExactHalfWay_o43, wFnExactHalfWay_o44, wFnExactHalfWay_o45, wFnExactHalfWay_o46, wFnExactHalfWay_o47, wFnExactHalfWay_o48, wFnExactHalfWay_o49, wFnExactHalfWay_o50, wFnExactHalfWay_o51, wFnExactHalfWay_o52, wFnExactHalfWay_o53, wFnExactHalfWay_o54, wFnExactHalfWay_o55, wFnExactHalfWay_o56, wFnExactHalfWay_o57, wFnExactHalfWay_o58, Tr.sem, osome, oget, isL, unR, unL, cond_true, cond_false, hI, hto, hE, hmk, hneg, e00, h00, Q_nil, bne_self_eq_false, Bool.not_true, Bool.not_false, beq_self_eq_true]
    rfl
  | inr q =>
    rw [ho] at hI
    have hq := halfO_len ho
    have eqq := Q_eq q (by omega)
    have hm := Q_markG 1 q (by omega) (by omega) (by omega)
    have hh := Q_heldG 1 q.length (by omega) (by omega) (by omega)
    have hn2 : decide ((1 + (q.length : Int)) < 0) = false := by simp; omega
    simp only [wFnExactHalfWay_o1, wFnExactHalfWay_o2, wFnExactHalfWay_o3, wFnExactHalfWay_o4, wFnExactHalfWay_o5, wFnExactHalfWay_o6, wFnExactHalfWay_o7, wFnExactHalfWay_o8, wFnExactHalfWay_o9, wFnExactHalfWay_o10, wFnExactHalfWay_o11, wFnExactHalfWay_o12, wFnExactHalfWay_o13, wFnExactHalfWay_o14, wFnExactHalfWay_o15, wFnExactHalfWay_o16, wFnExactHalfWay_o17, wFnExactHalfWay_o18, wFnExactHalfWay_o19, wFnExactHalfWay_o20, wFnExactHalfWay_o21, wFnExactHalfWay_o22, wFnExactHalfWay_o23, wFnExactHalfWay_o24, wFnExactHalfWay_o25, wFnExactHalfWay_o26, wFnExactHalfWay_o27, wFnExactHalfWay_o28, wFnExactHalfWay_o29, wFnExactHalfWay_o30, wFnExactHalfWay_o31, wFnExactHalfWay_o32, wFnExactHalfWay_o33, wFnExactHalfWay_o34, wFnExactHalfWay_o35, wFnExactHalfWay_o36, wFnExactHalfWay_o37, wFnExactHalfWay_o38, wFnExactHalfWay_o39, wFnExactHalfWay_o40, wFnExactHalfWay_o41, wFnExactHalfWay_o42, wFnExactHalfWay_o43, wFnExactHalfWay_o44, wFnExactHalfWay_o45, wFnExactHalfWay_o46, wFnExactHalfWay_o47, wFnExactHalfWay_o48, wFnExactHalfWay_o49, wFnExactHalfWay_o50, wFnExactHalfWay_o51, wFnExactHalfWay_o52, wFnExactHalfWay_o53, wFnExactHalfWay_o54, wFnExactHalfWay_o55, wFnExactHalfWay_o56, wFnExactHalfWay_o57, wFnExactHalfWay_o58, Tr.sem, osome, oget, isL, unR, unL, cond_true, cond_false, hI, hto, hE, hmk, hneg, eqq, hm, hh, hn2, bne_self_eq_false, Bool.not_true, Bool.not_false, beq_self_eq_true]
end Go.Proofs.Ytjohnpldkanjmaa
