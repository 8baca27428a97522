/- Rivers in a line: the program's and the reference's are the same. -/
import Derived.Test.YtjohnpldkanjmaaPa
import Derived.Test.YtjohnpldkanjmaaGl1d
set_option linter.unusedVariables false
set_option linter.unusedSimpArgs false
set_option linter.constructorNameAsVariable false
namespace Go.Proofs.Ytjohnpldkanjmaa
open Go.RowKit
set_option maxRecDepth 100000
abbrev Dam := Int × Int × Int × Int
theorem mk8 {n : Nat} (h : n ≤ 1048576) : (decide (((n : Nat) : Int) = ((n : Nat) : Int)) && decide (0 ≤ ((n : Nat) : Int)) && decide (((n : Nat) : Int) * ((8 : Nat) : Int) ≤ 140737488355328)) = true := by
  simp only [decide_true, Bool.true_and, Bool.and_eq_true, decide_eq_true_eq]; omega
theorem mk32 {n : Nat} (h : n ≤ 1048576) : (decide (((n : Nat) : Int) = ((n : Nat) : Int)) && decide (0 ≤ ((n : Nat) : Int)) && decide (((n : Nat) : Int) * ((32 : Nat) : Int) ≤ 140737488355328)) = true := by
  simp only [decide_true, Bool.true_and, Bool.and_eq_true, decide_eq_true_eq]; omega
theorem Q_eq (xs : List Int) (h : xs.length ≤ 1048576) : weqInt64S xs xs = some true := by
  unfold weqInt64S weqInt64S_t
  have h1 : weqInt64S_l4 xs xs 0 = some (.inr ()) := by
    unfold weqInt64S_l4
    have := run_all (f := fun s => (weqInt64S_l4_t xs xs s).sem) xs 0 (fun _ => true) (.inl ()) (.inr ()) (by omega) (fun k hk x hx => by
      simp only [weqInt64S_l4_t, Tr.sem, ltRange hk, zeroLe, Bool.and_self, cond_true, bne_self_eq_false, cond_false]) (by simp only [weqInt64S_l4_t, Tr.sem, not_lt_self, cond_false])
    rw [all_true] at this
    exact this
  simp only [Tr.sem, bne_self_eq_false, cond_false, h1, osome, oget, isL, cond_true]
theorem Q_eqDam (a b c d : Int) : weqDam a b c d a b c d = true := by
  unfold weqDam weqDam_t
  simp [Tr.val]
theorem Q_eqD (xs : List Dam) (h : xs.length ≤ 1048576) : weqDamS xs xs = some true := by
  unfold weqDamS weqDamS_t
  have h1 : weqDamS_l4 xs xs 0 = some (.inr ()) := by
    unfold weqDamS_l4
    have := run_all (f := fun s => (weqDamS_l4_t xs xs s).sem) xs (0, 0, 0, 0) (fun _ => true) (.inl ()) (.inr ()) (by omega) (fun k hk x hx => by
      simp only [weqDamS_l4_t, Tr.sem, ltRange hk, zeroLe, Bool.and_self, cond_true, Q_eqDam, Bool.not_true, cond_false]) (by simp only [weqDamS_l4_t, Tr.sem, not_lt_self, cond_false])
    rw [all_true] at this
    exact this
  simp only [Tr.sem, bne_self_eq_false, cond_false, h1, osome, oget, isL, cond_true]
theorem Q_eqR (a : List Int) (b : List Dam) (c : List Int) (ha : a.length ≤ 1048576) (hb : b.length ≤ 1048576) (hc : c.length ≤ 1048576) : weqRiver a b c a b c = some true := by
  unfold weqRiver weqRiver_t
  simp only [Q_eq a ha, Q_eqD b hb, Q_eq c hc, Tr.sem, osome, oget, cond_true, Bool.not_true, cond_false]
/-! ### Sizes -/
def win (lo hi n : Int) : Bool := decide (lo ≤ n) && decide (n ≤ hi)
theorem Q_within (n lo hi : Int) : iwithin n lo hi = win lo hi n := by
  unfold iwithin iwithin_t win
  cases h : decide (lo ≤ n) <;> simp [Tr.val, h]
theorem Q_in (n lo hi : Int) : sl00In n lo hi = win lo hi n := by
  unfold sl00In sl00In_t win
  cases h : decide (n ≥ lo) <;> simp_all [Tr.val]
/-! ### Marks -/
theorem runL_steps {σ ρ : Type} {f : σ → Option (σ ⊕ ρ)} {r : ρ} : ∀ (n k : Nat) (s : Nat → σ), (∀ j, k ≤ j → j < k + n → f (s j) = some (.inl (s (j + 1)))) → f (s (k + n)) = some (.inr r) → runL f (s k) = some r
  | 0, k, s, h, he => runL_out he
  | n + 1, k, s, h, he => (runL_in (h k (Nat.le_refl _) (by omega))).trans (runL_steps n (k + 1) s (fun j h1 h2 => h j (by omega) (by omega)) (by rw [show k + 1 + n = k + (n + 1) by omega]; exact he))
def wr {α : Type} (g : Nat → α) (xs : List α) (k : Nat) : List α := (List.range k).map g ++ xs.drop k
theorem wr_len {α : Type} (g : Nat → α) (xs : List α) (k : Nat) (h : k ≤ xs.length) : (wr g xs k).length = xs.length := by simp [wr]; omega
theorem wr_zero {α : Type} (g : Nat → α) (xs : List α) : wr g xs 0 = xs := by simp [wr]
theorem wr_end {α : Type} (g : Nat → α) (xs : List α) : wr g xs xs.length = (List.range xs.length).map g := by simp [wr]
theorem wr_set {α : Type} (g : Nat → α) (xs : List α) (k : Nat) (h : k < xs.length) : (wr g xs k).set k (g k) = wr g xs (k + 1) := by
  unfold wr
  rw [List.set_append_right _ _ (by simp)]
  simp only [List.length_map, List.length_range, Nat.sub_self]
  rw [List.drop_eq_getElem_cons h, List.set_cons_zero, List.range_succ, List.map_append, List.append_assoc]; rfl
theorem q_getD_set {α : Type} (xs : List α) (k : Nat) (x d : α) (h : k < xs.length) : (xs.set k x).getD k d = x := by simp [List.getD_eq_getElem?_getD, h]
theorem range_getD {α : Type} (g : Nat → α) (n k : Nat) (d : α) (h : k < n) : ((List.range n).map g).getD k d = g k := by
  rw [List.getD_eq_getElem?_getD, List.getElem?_map, List.getElem?_range h]; rfl
def mI (m : Int) (n : Nat) : List Int := (List.range n).map fun (k : Nat) => m + (k : Int)
def dI (m : Int) (k : Nat) : Dam := (m + 4 * (k : Int), m + 4 * (k : Int) + 1, m + 4 * (k : Int) + 1 + 1, m + 4 * (k : Int) + 1 + 1 + 1)
def mD (m : Int) (n : Nat) : List Dam := (List.range n).map (dI m)
theorem mI_len (m : Int) (n : Nat) : (mI m n).length = n := by simp [mI]
theorem mD_len (m : Int) (n : Nat) : (mD m n).length = n := by simp [mD]
theorem Q_markG (m : Int) (xs : List Int) (h : xs.length ≤ 1048576) (h0 : 0 ≤ m) (hm : m ≤ 16777216) : wmarkInt64S m xs = some (m + (xs.length : Int), mI m xs.length) := by
  unfold wmarkInt64S wmarkInt64S_t
  have h1 : wmarkInt64S_l2 m 0 xs = some (m + (xs.length : Int), mI m xs.length) := by
    have := runL_steps (f := fun s : Int × Int × List Int => (wmarkInt64S_l2_t s.1 s.2.1 s.2.2).sem) (r := (m + (xs.length : Int), mI m xs.length)) xs.length 0 (fun k => (m + (k : Int), (k : Int), wr (fun k : Nat => m + (k : Int)) xs k)) (fun j _ hj => by
      have hj : j < xs.length := by omega
      have e := wr_set (fun k : Nat => m + (k : Int)) xs j hj
      simp only [wmarkInt64S_l2_t, Tr.sem, ltRange (show j < (wr (fun k : Nat => m + (k : Int)) xs j).length by rw [wr_len _ _ _ (by omega)]; exact hj), zeroLe, Bool.and_self, cond_true, Int.toNat_natCast]
      rw [wrap_id (by omega) (by omega), wrap_id (by omega) (by omega)]
      rw [e]
      simp only [Int.natCast_add, Int.add_assoc]; rfl) (by
      simp only [Nat.zero_add, wmarkInt64S_l2_t, Tr.sem]
      rw [wr_len _ _ _ (Nat.le_refl _)]
      simp only [not_lt_self, cond_false, wr_end]; rfl)
    simp only [wr_zero, Int.natCast_zero, Int.add_zero] at this
    exact this
  simp only [Tr.sem, h1, osome, oget, cond_true]
theorem Q_heldG (m : Int) (n : Nat) (h : n ≤ 1048576) (h0 : 0 ≤ m) (hm : m ≤ 16777216) : wheldInt64S (mI m n) m = some (m + (n : Int)) := by
  unfold wheldInt64S wheldInt64S_t
  have h1 : wheldInt64S_l2 (mI m n) m 0 = some (.inr (m + (n : Int))) := by
    have := runL_steps (f := fun s : Int × Int => (wheldInt64S_l2_t (mI m n) s.1 s.2).sem) (r := .inr (m + (n : Int))) n 0 (fun k => (m + (k : Int), (k : Int))) (fun j _ hj => by
      have hj : j < n := by omega
      have e : (mI m n).getD j 0 = m + (j : Int) := range_getD _ n j 0 hj
      simp only [wheldInt64S_l2_t, Tr.sem, ltRange (show j < (mI m n).length by rw [mI_len]; exact hj), zeroLe, Bool.and_self, cond_true, Int.toNat_natCast, e, bne_self_eq_false, cond_false]
      rw [wrap_id (by omega) (by omega), wrap_id (by omega) (by omega)]
      simp only [Int.natCast_add, Int.add_assoc]; rfl) (by
      simp only [Nat.zero_add, wheldInt64S_l2_t, Tr.sem]
      rw [mI_len, not_lt_self]; rfl)
    simp only [Int.natCast_zero, Int.add_zero] at this
    exact this
  simp only [Tr.sem, h1, osome, oget, cond_true, isL, unR, cond_false]
theorem Q_markDG (m : Int) (xs : List Dam) (h : xs.length ≤ 1048576) (h0 : 0 ≤ m) (hm : m ≤ 16777216) : wmarkDamS m xs = some (m + 4 * (xs.length : Int), mD m xs.length) := by
  unfold wmarkDamS wmarkDamS_t
  have h1 : wmarkDamS_l2 m 0 xs = some (m + 4 * (xs.length : Int), mD m xs.length) := by
    have := runL_steps (f := fun s : Int × Int × List Dam => (wmarkDamS_l2_t s.1 s.2.1 s.2.2).sem) (r := (m + 4 * (xs.length : Int), mD m xs.length)) xs.length 0 (fun k => (m + 4 * (k : Int), (k : Int), wr (dI m) xs k)) (fun j _ hj => by
      have hj : j < xs.length := by omega
      have hL : j < (wr (dI m) xs j).length := by rw [wr_len _ _ _ (by omega)]; exact hj
      have e := wr_set (dI m) xs j hj
      simp only [wmarkDamS_l2_t, Tr.sem, List.length_set, List.set_set, ltRange hL, zeroLe, Bool.and_self, cond_true, Int.toNat_natCast, q_getD_set _ _ _ _ hL]
      rw [wrap_id (n := m + 4 * (j : Int) + 1) (by omega) (by omega), wrap_id (n := m + 4 * (j : Int) + 1 + 1) (by omega) (by omega), wrap_id (n := m + 4 * (j : Int) + 1 + 1 + 1) (by omega) (by omega), wrap_id (by omega) (by omega), wrap_id (by omega) (by omega)]
      rw [show ((m + 4 * (j : Int), m + 4 * (j : Int) + 1, m + 4 * (j : Int) + 1 + 1, m + 4 * (j : Int) + 1 + 1 + 1) : Dam) = dI m j from rfl, e]
      rw [show m + 4 * (j : Int) + 1 + 1 + 1 + 1 = m + 4 * ((j + 1 : Nat) : Int) by omega]
      rfl) (by
      simp only [Nat.zero_add, wmarkDamS_l2_t, Tr.sem]
      rw [wr_len _ _ _ (Nat.le_refl _)]
      simp only [not_lt_self, cond_false, wr_end]; rfl)
    simp only [wr_zero, Int.natCast_zero, Int.mul_zero, Int.add_zero] at this
    exact this
  simp only [Tr.sem, h1, osome, oget, cond_true]
theorem Q_heldDG (m : Int) (n : Nat) (h : n ≤ 1048576) (h0 : 0 ≤ m) (hm : m ≤ 16777216) : wheldDamS (mD m n) m = some (m + 4 * (n : Int)) := by
  unfold wheldDamS wheldDamS_t
  have h1 : wheldDamS_l2 (mD m n) m 0 = some (.inr (m + 4 * (n : Int))) := by
    have := runL_steps (f := fun s : Int × Int => (wheldDamS_l2_t (mD m n) s.1 s.2).sem) (r := .inr (m + 4 * (n : Int))) n 0 (fun k => (m + 4 * (k : Int), (k : Int))) (fun j _ hj => by
      have hj : j < n := by omega
      have e : (mD m n).getD j (0, 0, 0, 0) = (m + 4 * (j : Int), m + 4 * (j : Int) + 1, m + 4 * (j : Int) + 1 + 1, m + 4 * (j : Int) + 1 + 1 + 1) := range_getD _ n j _ hj
      simp only [wheldDamS_l2_t, Tr.sem, ltRange (show j < (mD m n).length by rw [mD_len]; exact hj), zeroLe, Bool.and_self, cond_true, Int.toNat_natCast, e, bne_self_eq_false, cond_false]
      rw [wrap_id (n := m + 4 * (j : Int) + 1) (by omega) (by omega), wrap_id (n := m + 4 * (j : Int) + 1 + 1) (by omega) (by omega), wrap_id (n := m + 4 * (j : Int) + 1 + 1 + 1) (by omega) (by omega), wrap_id (by omega) (by omega), wrap_id (by omega) (by omega)]
      simp only [bne_self_eq_false, cond_false]
      rw [show m + 4 * (j : Int) + 1 + 1 + 1 + 1 = m + 4 * ((j + 1 : Nat) : Int) by omega]
      rfl) (by
      simp only [Nat.zero_add, wheldDamS_l2_t, Tr.sem]
      rw [mD_len, not_lt_self]; rfl)
    simp only [Int.natCast_zero, Int.mul_zero, Int.add_zero] at this
    exact this
  simp only [Tr.sem, h1, osome, oget, cond_true, isL, unR, cond_false]
theorem Q_markRG (a : List Int) (b : List Dam) (c : List Int) (ha : a.length ≤ 1048576) (hb : b.length ≤ 1048576) (hc : c.length ≤ 1048576) : wmarkRiver_n1 1 a b c = some (1 + (a.length : Int) + 4 * (b.length : Int) + (c.length : Int), mI 1 a.length, mD (1 + (a.length : Int)) b.length, mI (1 + (a.length : Int) + 4 * (b.length : Int)) c.length) := by
  unfold wmarkRiver_n1 wmarkRiver_n1_t
  simp only [Q_markG 1 a ha (by omega) (by omega), Q_markDG (1 + (a.length : Int)) b hb (by omega) (by omega), Q_markG (1 + (a.length : Int) + 4 * (b.length : Int)) c hc (by omega) (by omega), Tr.sem, osome, oget, cond_true]
theorem Q_heldR (a b c : Nat) (ha : a ≤ 1048576) (hb : b ≤ 1048576) (hc : c ≤ 1048576) : wheldRiver (mI 1 a) (mD (1 + (a : Int)) b) (mI (1 + (a : Int) + 4 * (b : Int)) c) 1 = some (1 + (a : Int) + 4 * (b : Int) + (c : Int)) := by
  unfold wheldRiver wheldRiver_t
  simp only [Q_heldG 1 a ha (by omega) (by omega), Q_heldDG (1 + (a : Int)) b hb (by omega) (by omega), Q_heldG (1 + (a : Int) + 4 * (b : Int)) c hc (by omega) (by omega), Tr.sem, osome, oget, cond_true, decide_eq_false (show ¬ (1 + (a : Int) < 0) by omega), decide_eq_false (show ¬ (1 + (a : Int) + 4 * (b : Int) < 0) by omega), decide_eq_false (show ¬ (1 + (a : Int) + 4 * (b : Int) + (c : Int) < 0) by omega), cond_false]
theorem Q_heldR0 : wheldRiver [] [] [] 1 = some 1 := Q_heldR 0 0 0 (by omega) (by omega) (by omega)
theorem Q_nilI (n : Int) : wmarkInt64S_nil n = some n := by
  unfold wmarkInt64S_nil wmarkInt64S_nil_t
  have h : wmarkInt64S_nil_l2 n 0 = some n := runL_out rfl
  simp only [h, Tr.sem, osome, oget, cond_true]
theorem Q_nilD (n : Int) : wmarkDamS_nil n = some n := by
  unfold wmarkDamS_nil wmarkDamS_nil_t
  have h : wmarkDamS_nil_l2 n 0 = some n := runL_out rfl
  simp only [h, Tr.sem, osome, oget, cond_true]
theorem Q_nilR : wmarkRiver 1 = some 1 := by
  unfold wmarkRiver wmarkRiver_t
  simp only [Q_nilI, Q_nilD, Tr.sem, osome, oget, cond_true]
theorem Q_eqR0 : weqRiver [] [] [] [] [] [] = some true := Q_eqR [] [] [] (by simp) (by simp) (by simp)
/-! ### Rivers in a line -/
def upL (n : Nat) : List Int := (List.range n).map fun k : Nat => (k : Int) + 1
theorem upL_succ (n : Nat) : upL (n + 1) = upL n ++ [(n : Int) + 1] := by
  unfold upL; rw [List.range_succ, List.map_append]; rfl
theorem upL_len (n : Nat) : (upL n).length = n := by simp [upL]
theorem upL_set (n : Nat) : (upL (n + 1)).set n (-1) = upL n ++ [-1] := by
  rw [upL_succ, List.set_append_right _ _ (by rw [upL_len]; exact Nat.le_refl _), upL_len, Nat.sub_self]; rfl
def lineS (n : Nat) (D : List Dam) (W : List Int) : Nat → (Int × Int × Int × List Dam × List Int) ⊕ (Int × Int × Int × List Int × List Dam × List Int)
  | 0 => .inl ((n : Int), (n : Int), 0, D, W)
  | j + 1 => .inr ((n : Int), (n : Int), ((j + 1 : Nat) : Int), upL (j + 1), D, W)
theorem P_lineI (n : Nat) (D : List Dam) (W : List Int) (h : n + 1 ≤ 12) : iLineRiver_l5 (.inl (((n + 1 : Nat) : Int), ((n + 1 : Nat) : Int), 0, D, W)) = some (.inr (((n + 1 : Nat) : Int), upL (n + 1), D, W)) := by
  refine runL_steps (f := iLineRiver_l5_s) (n + 1) 0 (lineS (n + 1) D W) (fun j _ hj => ?_) ?_
  · have hj : j < n + 1 := by omega
    cases j with
    | zero =>
      show (iLineRiver_l5_t0 ((n + 1 : Nat) : Int) ((n + 1 : Nat) : Int) 0 D W).sem = _
      simp only [iLineRiver_l5_t0, Tr.sem, decide_eq_true (show (0 : Int) < ((n + 1 : Nat) : Int) by omega), cond_true, List.isEmpty_cons, cond_false, List.length_cons, List.length_nil]
      rfl
    | succ j =>
      show (iLineRiver_l5_t1 ((n + 1 : Nat) : Int) ((n + 1 : Nat) : Int) ((j + 1 : Nat) : Int) (upL (j + 1)) D W).sem = _
      have hf : decide (((upL (j + 1)).length + List.length [IntKind.wrap .i64 (((j + 1 : Nat) : Int) + 1)]) * 8 ≤ 140737488355328) = true := by
        rw [upL_len]; simp only [List.length_cons, List.length_nil, decide_eq_true_eq]; omega
      simp only [iLineRiver_l5_t1, Tr.sem, ltRange hj, cond_true, hf]
      rw [wrap_id (by omega) (by omega)]
      show _ = some (Sum.inl (lineS (n + 1) D W (j + 1 + 1)))
      simp only [lineS]
      rw [upL_succ (j + 1)]; rfl
  · rw [Nat.zero_add]
    show (iLineRiver_l5_t1 ((n + 1 : Nat) : Int) ((n + 1 : Nat) : Int) ((n + 1 : Nat) : Int) (upL (n + 1)) D W).sem = _
    simp only [iLineRiver_l5_t1, Tr.sem, not_lt_self, cond_false]
theorem P_lineS (n : Nat) (D : List Dam) (W : List Int) (h : n + 1 ≤ 12) : sl06Line_l3 ((n + 1 : Nat) : Int) 1 [] D W = some (upL n, D, W) := by
  refine runL_steps (f := fun s : Int × List Int => (sl06Line_l3_t ((n + 1 : Nat) : Int) D W s.1 s.2).sem) n 0 (fun j => ((j : Int) + 1, upL j)) (fun j _ hj => ?_) ?_
  · have hj : j < n := by omega
    have hf : decide (((upL j).length + List.length [(j : Int) + 1]) * 8 ≤ 140737488355328) = true := by
      rw [upL_len]; simp only [List.length_cons, List.length_nil, decide_eq_true_eq]; omega
    simp only [sl06Line_l3_t, Tr.sem, decide_eq_true (show (j : Int) + 1 < ((n + 1 : Nat) : Int) by omega), cond_true, hf]
    rw [wrap_id (by omega) (by omega), upL_succ]; rfl
  · simp only [Nat.zero_add, sl06Line_l3_t, Tr.sem, decide_eq_false (show ¬ ((n : Int) + 1 < ((n + 1 : Nat) : Int)) by omega), cond_false]
theorem P_line (n : Int) : (sLineRiver n = some (.inl ()) ∧ iLineRiver n = some (.inl ())) ∨ ∃ x y z, sLineRiver n = some (.inr (x, y, z)) ∧ iLineRiver n = some (.inr (x, y, z)) ∧ x.length ≤ 1048576 ∧ y.length ≤ 1048576 ∧ z.length ≤ 1048576 := by
  unfold sLineRiver sLineRiver_t iLineRiver iLineRiver_t
  simp only [Q_in, Q_within, Tr.sem]
  cases hw : win 1 12 n with
  | false => exact .inl ⟨rfl, rfl⟩
  | true =>
    right
    simp only [win, Bool.and_eq_true, decide_eq_true_eq] at hw
    obtain ⟨m, rfl⟩ : ∃ m : Nat, n = ((m + 1 : Nat) : Int) := ⟨(n - 1).toNat, by omega⟩
    have hs : sl06Line ((m + 1 : Nat) : Int) = some (upL m ++ [-1], List.replicate (m + 1) (0, 0, 0, 0), List.replicate (m + 1) 0) := by
      unfold sl06Line sl06Line_t
      refine (brT (mk32 (by omega))).trans ((brT (mk8 (by omega))).trans ?_)
      have hf : decide (((upL m).length + List.length [(-1 : Int)]) * 8 ≤ 140737488355328) = true := by
        rw [upL_len]; simp only [List.length_cons, List.length_nil, decide_eq_true_eq]; omega
      simp only [Int.toNat_natCast, P_lineS m _ _ (by omega), Tr.sem, osome, oget, cond_true, hf]
    have h32 : decide (((m + 1 : Nat) : Int) * ((32 : Nat) : Int) ≤ 140737488355328) = true := by simp only [decide_eq_true_eq]; omega
    have h8 : decide (((m + 1 : Nat) : Int) * ((8 : Nat) : Int) ≤ 140737488355328) = true := by simp only [decide_eq_true_eq]; omega
    have hw2 : IntKind.wrap .i64 (((m + 1 : Nat) : Int) - 1) = (m : Int) := by rw [wrap_id (by omega) (by omega)]; omega
    have hl : decide ((m : Int) < ((upL (m + 1)).length : Int)) = true := by rw [upL_len]; simp; omega
    simp only [hs, h32, h8, decide_true, Bool.true_and, Int.toNat_natCast, P_lineI m _ _ (show m + 1 ≤ 12 by omega), osome, oget, isL, unR, cond_true, cond_false, Bool.not_true, hw2, zeroLe, hl, Bool.and_self, upL_set]
    refine ⟨upL m ++ [-1], List.replicate (m + 1) (0, 0, 0, 0), List.replicate (m + 1) 0, rfl, rfl, ?_, ?_, ?_⟩
    · rw [List.length_append, upL_len, List.length_cons, List.length_nil]; omega
    · rw [List.length_replicate]; omega
    · rw [List.length_replicate]; omega
theorem pureFnExactLineRiver (n : Int) : wFnExactLineRiver n = some true := by
  unfold wFnExactLineRiver wFnExactLineRiver_t
  rcases P_line n with ⟨s1, s2⟩ | ⟨x, y, z, s1, s2, g1, g2, g3⟩
  · simp only [s1, s2, Tr.sem, osome, oget, cond_true, Bool.not_true, cond_false, Q_eqR0, Q_nilR, Q_heldR0, beq_self_eq_true, bne_self_eq_false, isL, show decide ((1 : Int) < 0) = false from rfl]
  · have hd : decide (1 + (x.length : Int) + 4 * (y.length : Int) + (z.length : Int) < 0) = false := by simp only [decide_eq_false_iff_not]; omega
    simp only [s1, s2, Tr.sem, osome, oget, cond_true, Bool.not_true, cond_false, beq_self_eq_true, bne_self_eq_false, isL, unR, Q_eqR x y z g1 g2 g3, Q_markRG x y z g1 g2 g3, Q_heldR x.length y.length z.length g1 g2 g3, hd]
end Go.Proofs.Ytjohnpldkanjmaa
