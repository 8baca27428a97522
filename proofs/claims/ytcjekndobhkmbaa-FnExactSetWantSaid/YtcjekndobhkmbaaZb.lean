/- Rivers changed: the program's and the reference's are the same. -/
import Derived.Test.YtcjekndobhkmbaaZa
set_option linter.unusedVariables false
set_option linter.unusedSimpArgs false
set_option linter.constructorNameAsVariable false
namespace Go.Proofs.Ytcjekndobhkmbaa
open Go.RowKit
set_option maxRecDepth 100000
theorem riv_parts {a : List Int} {b : List Dam} {c : List Int} (h : rivB a b c = true) : goodD a ∧ 1 ≤ a.length ∧ a.length ≤ 12 ∧ walksB a = true ∧ b.length = a.length ∧ c.length = a.length ∧ c.all (win 0 1000000000) = true ∧ b.all damB = true := by
  simp only [rivB, Bool.and_eq_true, decide_eq_true_eq] at h
  obtain ⟨⟨⟨⟨h1, h2⟩, h3⟩, ⟨h4, h5⟩, h6⟩, h7⟩ := h
  simp only [win, Bool.and_eq_true, decide_eq_true_eq] at h1
  exact ⟨goodD_of h4, by omega, by omega, h7, h2, h3, h5, h6⟩
/-! ### Depths -/
theorem P_has (a : List Int) (b : List Dam) (c : List Int) (i : Int) (ha : a.length ≤ 1048576) : sl06Has a b c i = some (rivB a b c && win 0 ((a.length : Int) - 1) i) := by
  unfold sl06Has sl06Has_t
  simp only [Q_is, Q_in, Tr.sem, osome, oget, cond_true]
  rw [wrap_id (by omega) (by omega)]
  cases rivB a b c <;> rfl
theorem P_node (a : List Int) (b : List Dam) (c : List Int) (i : Int) (ha : a.length ≤ 1048576) (hb : b.length ≤ 9223372036854775807) (hc : c.length ≤ 9223372036854775807) : iRiver_isNode a b c i = some (rivB a b c && win 0 ((a.length : Int) - 1) i) := by
  unfold iRiver_isNode iRiver_isNode_t
  simp only [Q_valid a b c hb hc, Q_within, Tr.sem, osome, oget, cond_true]
  rw [wrap_id (by omega) (by omega)]
  cases rivB a b c <;> rfl
theorem Q_sizes (a : List Int) (b : List Dam) (c : List Int) (ha : a.length ≤ 9223372036854775807) (hb : b.length ≤ 9223372036854775807) (hc : c.length ≤ 9223372036854775807) (h : decide (wszRiver a b c 1048576 < 0) = false) : a.length ≤ 1048576 ∧ b.length ≤ 1048576 ∧ c.length ≤ 1048576 := by
  have := (Q_szR a b c 1048576 (by omega) (by omega) ha hb hc h).2
  omega
/-! ### Marks -/
theorem runL_steps {σ ρ : Type} {f : σ → Option (σ ⊕ ρ)} {r : ρ} : ∀ (n k : Nat) (s : Nat → σ), (∀ j, k ≤ j → j < k + n → f (s j) = some (.inl (s (j + 1)))) → f (s (k + n)) = some (.inr r) → runL f (s k) = some r
  | 0, k, s, h, he => runL_out he
  | n + 1, k, s, h, he => (runL_in (h k (Nat.le_refl _) (by omega))).trans (runL_steps n (k + 1) s (fun j h1 h2 => h j (by omega) (by omega)) (by rw [show k + 1 + n = k + (n + 1) by omega]; exact he))
def wr {α : Type} (g : Nat → α) (xs : List α) (k : Nat) : List α := (List.range k).map g ++ xs.drop k
theorem wr_len {α : Type} (g : Nat → α) (xs : List α) (k : Nat) (h : k ≤ xs.length) : (wr g xs k).length = xs.length := by simp [wr]; omega
theorem wr_zero {α : Type} (g : Nat → α) (xs : List α) : wr g xs 0 = xs := by simp [wr]
theorem wr_end {α : Type} (g : Nat → α) (xs : List α) : wr g xs xs.length = (List.range xs.length).map g := by simp [wr]
theorem wr_set {α : Type} (g : Nat → α) (xs : List α) (k : Nat) (h : k < xs.length) : (wr g xs k).set k (g k) = wr g xs (k + 1) := by
  unfold wr
  rw [List.set_append_right _ _ (by simp)]
  simp only [List.length_map, List.length_range, Nat.sub_self]
  rw [List.drop_eq_getElem_cons h, List.set_cons_zero, List.range_succ, List.map_append, List.append_assoc]; rfl
theorem q_getD_set {α : Type} (xs : List α) (k : Nat) (x d : α) (h : k < xs.length) : (xs.set k x).getD k d = x := by simp [List.getD_eq_getElem?_getD, h]
theorem range_getD {α : Type} (g : Nat → α) (n k : Nat) (d : α) (h : k < n) : ((List.range n).map g).getD k d = g k := by
  rw [List.getD_eq_getElem?_getD, List.getElem?_map, List.getElem?_range h]; rfl
def mI (m : Int) (n : Nat) : List Int := (List.range n).map fun (k : Nat) => m + (k : Int)
def dI (m : Int) (k : Nat) : Dam := (m + 4 * (k : Int), m + 4 * (k : Int) + 1, m + 4 * (k : Int) + 1 + 1, m + 4 * (k : Int) + 1 + 1 + 1)
def mD (m : Int) (n : Nat) : List Dam := (List.range n).map (dI m)
theorem mI_len (m : Int) (n : Nat) : (mI m n).length = n := by simp [mI]
theorem mD_len (m : Int) (n : Nat) : (mD m n).length = n := by simp [mD]
theorem Q_markG (m : Int) (xs : List Int) (h : xs.length ≤ 1048576) (h0 : 0 ≤ m) (hm : m ≤ 16777216) : wmarkInt64S m xs = some (m + (xs.length : Int), mI m xs.length) := by
  unfold wmarkInt64S wmarkInt64S_t
  have h1 : wmarkInt64S_l2 m 0 xs = some (m + (xs.length : Int), mI m xs.length) := by
    have := runL_steps (f := fun s : Int × Int × List Int => (wmarkInt64S_l2_t s.1 s.2.1 s.2.2).sem) (r := (m + (xs.length : Int), mI m xs.length)) xs.length 0 (fun k => (m + (k : Int), (k : Int), wr (fun k : Nat => m + (k : Int)) xs k)) (fun j _ hj => by
      have hj : j < xs.length := by omega
      have e := wr_set (fun k : Nat => m + (k : Int)) xs j hj
      simp only [wmarkInt64S_l2_t, Tr.sem, ltRange (show j < (wr (fun k : Nat => m + (k : Int)) xs j).length by rw [wr_len _ _ _ (by omega)]; exact hj), zeroLe, Bool.and_self, cond_true, Int.toNat_natCast]
      rw [wrap_id (by omega) (by omega), wrap_id (by omega) (by omega)]
      rw [e]
      simp only [Int.natCast_add, Int.add_assoc]; rfl) (by
      simp only [Nat.zero_add, wmarkInt64S_l2_t, Tr.sem]
      rw [wr_len _ _ _ (Nat.le_refl _)]
      simp only [not_lt_self, cond_false, wr_end]; rfl)
    simp only [wr_zero, Int.natCast_zero, Int.add_zero] at this
    exact this
  simp only [Tr.sem, h1, osome, oget, cond_true]
theorem Q_heldG (m : Int) (n : Nat) (h : n ≤ 1048576) (h0 : 0 ≤ m) (hm : m ≤ 16777216) : wheldInt64S (mI m n) m = some (m + (n : Int)) := by
  unfold wheldInt64S wheldInt64S_t
  have h1 : wheldInt64S_l2 (mI m n) m 0 = some (.inr (m + (n : Int))) := by
    have := runL_steps (f := fun s : Int × Int => (wheldInt64S_l2_t (mI m n) s.1 s.2).sem) (r := .inr (m + (n : Int))) n 0 (fun k => (m + (k : Int), (k : Int))) (fun j _ hj => by
      have hj : j < n := by omega
      have e : (mI m n).getD j 0 = m + (j : Int) := range_getD _ n j 0 hj
      simp only [wheldInt64S_l2_t, Tr.sem, ltRange (show j < (mI m n).length by rw [mI_len]; exact hj), zeroLe, Bool.and_self, cond_true, Int.toNat_natCast, e, bne_self_eq_false, cond_false]
      rw [wrap_id (by omega) (by omega), wrap_id (by omega) (by omega)]
      simp only [Int.natCast_add, Int.add_assoc]; rfl) (by
      simp only [Nat.zero_add, wheldInt64S_l2_t, Tr.sem]
      rw [mI_len, not_lt_self]; rfl)
    simp only [Int.natCast_zero, Int.add_zero] at this
    exact this
  simp only [Tr.sem, h1, osome, oget, cond_true, isL, unR, cond_false]
theorem Q_markDG (m : Int) (xs : List Dam) (h : xs.length ≤ 1048576) (h0 : 0 ≤ m) (hm : m ≤ 16777216) : wmarkDamS m xs = some (m + 4 * (xs.length : Int), mD m xs.length) := by
  unfold wmarkDamS wmarkDamS_t
  have h1 : wmarkDamS_l2 m 0 xs = some (m + 4 * (xs.length : Int), mD m xs.length) := by
    have := runL_steps (f := fun s : Int × Int × List Dam => (wmarkDamS_l2_t s.1 s.2.1 s.2.2).sem) (r := (m + 4 * (xs.length : Int), mD m xs.length)) xs.length 0 (fun k => (m + 4 * (k : Int), (k : Int), wr (dI m) xs k)) (fun j _ hj => by
      have hj : j < xs.length := by omega
      have hL : j < (wr (dI m) xs j).length := by rw [wr_len _ _ _ (by omega)]; exact hj
      have e := wr_set (dI m) xs j hj
      simp only [wmarkDamS_l2_t, Tr.sem, List.length_set, List.set_set, ltRange hL, zeroLe, Bool.and_self, cond_true, Int.toNat_natCast, q_getD_set _ _ _ _ hL]
      rw [wrap_id (n := m + 4 * (j : Int) + 1) (by omega) (by omega), wrap_id (n := m + 4 * (j : Int) + 1 + 1) (by omega) (by omega), wrap_id (n := m + 4 * (j : Int) + 1 + 1 + 1) (by omega) (by omega), wrap_id (by omega) (by omega), wrap_id (by omega) (by omega)]
      rw [show ((m + 4 * (j : Int), m + 4 * (j : Int) + 1, m + 4 * (j : Int) + 1 + 1, m + 4 * (j : Int) + 1 + 1 + 1) : Dam) = dI m j from rfl, e]
      rw [show m + 4 * (j : Int) + 1 + 1 + 1 + 1 = m + 4 * ((j + 1 : Nat) : Int) by omega]
      rfl) (by
      simp only [Nat.zero_add, wmarkDamS_l2_t, Tr.sem]
      rw [wr_len _ _ _ (Nat.le_refl _)]
      simp only [not_lt_self, cond_false, wr_end]; rfl)
    simp only [wr_zero, Int.natCast_zero, Int.mul_zero, Int.add_zero] at this
    exact this
  simp only [Tr.sem, h1, osome, oget, cond_true]
theorem Q_heldDG (m : Int) (n : Nat) (h : n ≤ 1048576) (h0 : 0 ≤ m) (hm : m ≤ 16777216) : wheldDamS (mD m n) m = some (m + 4 * (n : Int)) := by
  unfold wheldDamS wheldDamS_t
  have h1 : wheldDamS_l2 (mD m n) m 0 = some (.inr (m + 4 * (n : Int))) := by
    have := runL_steps (f := fun s : Int × Int => (wheldDamS_l2_t (mD m n) s.1 s.2).sem) (r := .inr (m + 4 * (n : Int))) n 0 (fun k => (m + 4 * (k : Int), (k : Int))) (fun j _ hj => by
      have hj : j < n := by omega
      have e : (mD m n).getD j (0, 0, 0, 0) = (m + 4 * (j : Int), m + 4 * (j : Int) + 1, m + 4 * (j : Int) + 1 + 1, m + 4 * (j : Int) + 1 + 1 + 1) := range_getD _ n j _ hj
      simp only [wheldDamS_l2_t, Tr.sem, ltRange (show j < (mD m n).length by rw [mD_len]; exact hj), zeroLe, Bool.and_self, cond_true, Int.toNat_natCast, e, bne_self_eq_false, cond_false]
      rw [wrap_id (n := m + 4 * (j : Int) + 1) (by omega) (by omega), wrap_id (n := m + 4 * (j : Int) + 1 + 1) (by omega) (by omega), wrap_id (n := m + 4 * (j : Int) + 1 + 1 + 1) (by omega) (by omega), wrap_id (by omega) (by omega), wrap_id (by omega) (by omega)]
      simp only [bne_self_eq_false, cond_false]
      rw [show m + 4 * (j : Int) + 1 + 1 + 1 + 1 = m + 4 * ((j + 1 : Nat) : Int) by omega]
      rfl) (by
      simp only [Nat.zero_add, wheldDamS_l2_t, Tr.sem]
      rw [mD_len, not_lt_self]; rfl)
    simp only [Int.natCast_zero, Int.mul_zero, Int.add_zero] at this
    exact this
  simp only [Tr.sem, h1, osome, oget, cond_true, isL, unR, cond_false]
theorem Q_markRG (a : List Int) (b : List Dam) (c : List Int) (ha : a.length ≤ 1048576) (hb : b.length ≤ 1048576) (hc : c.length ≤ 1048576) : wmarkRiver 1 a b c = some (1 + (a.length : Int) + 4 * (b.length : Int) + (c.length : Int), mI 1 a.length, mD (1 + (a.length : Int)) b.length, mI (1 + (a.length : Int) + 4 * (b.length : Int)) c.length) := by
  unfold wmarkRiver wmarkRiver_t
  simp only [Q_markG 1 a ha (by omega) (by omega), Q_markDG (1 + (a.length : Int)) b hb (by omega) (by omega), Q_markG (1 + (a.length : Int) + 4 * (b.length : Int)) c hc (by omega) (by omega), Tr.sem, osome, oget, cond_true]
theorem Q_heldR (a b c : Nat) (ha : a ≤ 1048576) (hb : b ≤ 1048576) (hc : c ≤ 1048576) : wheldRiver (mI 1 a) (mD (1 + (a : Int)) b) (mI (1 + (a : Int) + 4 * (b : Int)) c) 1 = some (1 + (a : Int) + 4 * (b : Int) + (c : Int)) := by
  unfold wheldRiver wheldRiver_t
  simp only [Q_heldG 1 a ha (by omega) (by omega), Q_heldDG (1 + (a : Int)) b hb (by omega) (by omega), Q_heldG (1 + (a : Int) + 4 * (b : Int)) c hc (by omega) (by omega), Tr.sem, osome, oget, cond_true, decide_eq_false (show ¬ (1 + (a : Int) < 0) by omega), decide_eq_false (show ¬ (1 + (a : Int) + 4 * (b : Int) < 0) by omega), decide_eq_false (show ¬ (1 + (a : Int) + 4 * (b : Int) + (c : Int) < 0) by omega), cond_false]
theorem Q_heldR0 : wheldRiver [] [] [] 1 = some 1 := Q_heldR 0 0 0 (by omega) (by omega) (by omega)
theorem Q_nilI (n : Int) : wmarkInt64S_nil n = some n := by
  unfold wmarkInt64S_nil wmarkInt64S_nil_t
  have h : wmarkInt64S_nil_l2 n 0 = some n := runL_out rfl
  simp only [h, Tr.sem, osome, oget, cond_true]
theorem Q_nilD (n : Int) : wmarkDamS_nil n = some n := by
  unfold wmarkDamS_nil wmarkDamS_nil_t
  have h : wmarkDamS_nil_l2 n 0 = some n := runL_out rfl
  simp only [h, Tr.sem, osome, oget, cond_true]
theorem Q_nilR : wmarkRiver_n1 1 = some 1 := by
  unfold wmarkRiver_n1 wmarkRiver_n1_t
  simp only [Q_nilI, Q_nilD, Tr.sem, osome, oget, cond_true]
theorem Q_eqR0 : weqRiver [] [] [] [] [] [] = some true := Q_eqR [] [] [] (by simp) (by simp) (by simp)
/-! ### Copies of rivers -/
theorem P_own (a : List Int) (b : List Dam) (c : List Int) (ha : a.length ≤ 1048576) (hb : b.length ≤ 1048576) (hc : c.length ≤ 1048576) : sl06Own a b c = some (a, b, c) ∧ iRiver_cloned a b c = some (a, b, c) := by
  unfold sl06Own sl06Own_t iRiver_cloned iRiver_cloned_t
  have e1 : decide ((0 + List.length a) * 8 ≤ 140737488355328) = true := by simp only [decide_eq_true_eq]; omega
  have e2 : decide ((0 + List.length b) * 32 ≤ 140737488355328) = true := by simp only [decide_eq_true_eq]; omega
  have e3 : decide ((0 + List.length c) * 8 ≤ 140737488355328) = true := by simp only [decide_eq_true_eq]; omega
  exact ⟨(brT e1).trans ((brT e2).trans ((brT e3).trans rfl)), (brT e1).trans ((brT e2).trans ((brT e3).trans rfl))⟩
theorem P_told (a : List Int) (b : List Dam) (c : List Int) (hb : b.length ≤ 9223372036854775807) (hc : c.length ≤ 9223372036854775807) : itoldRiver a b c = some (bif rivB a b c then .inr (a, b, c) else .inl (a, b, c)) ∧ sl06Give a b c = some (bif rivB a b c then (a, b, c, true) else ([], [], [], false)) := by
  unfold itoldRiver itoldRiver_t sl06Give sl06Give_t
  simp only [Q_valid a b c hb hc, Q_is, Tr.sem, osome, oget, cond_true]
  cases rivB a b c <;> exact ⟨rfl, rfl⟩
theorem P_setDam (a : List Int) (b : List Dam) (c : List Int) (i d1 d2 d3 d4 : Int) (ha : a.length ≤ 1048576) (hb : b.length ≤ 1048576) (hc : c.length ≤ 1048576) : (sSetDam a b c i d1 d2 d3 d4 = some ([], [], [], false) ∧ iSetDam a b c i d1 d2 d3 d4 = some (.inl ())) ∨ ∃ x y z, sSetDam a b c i d1 d2 d3 d4 = some (x, y, z, true) ∧ iSetDam a b c i d1 d2 d3 d4 = some (.inr (x, y, z)) ∧ x.length ≤ 1048576 ∧ y.length ≤ 1048576 ∧ z.length ≤ 1048576 := by
  obtain ⟨o1, o2⟩ := P_own a b c ha hb hc
  unfold sSetDam sSetDam_t iSetDam iSetDam_t
  simp only [P_has a b c i ha, P_node a b c i ha (by omega) (by omega), Tr.sem, osome, oget, cond_true, o1, o2]
  cases hv : rivB a b c with
  | false => exact .inl ⟨rfl, rfl⟩
  | true =>
  cases hw : win 0 ((a.length : Int) - 1) i with
  | false => exact .inl ⟨rfl, rfl⟩
  | true =>
    obtain ⟨p1, p2, p3, p4, p5, p6, p7, p8⟩ := riv_parts hv
    have hr : (decide (0 ≤ i) && decide (i < (b.length : Int))) = true := by
      simp only [win, Bool.and_eq_true, decide_eq_true_eq] at hw ⊢; omega
    obtain ⟨t1, t2⟩ := P_told a (b.set i.toNat (d1, d2, d3, d4)) c (by rw [List.length_set]; omega) (by omega)
    simp only [hr, t1, t2, osome, oget, cond_true, Bool.and_self, Bool.not_true, cond_false]
    cases rivB a (b.set i.toNat (d1, d2, d3, d4)) c with
    | false => exact .inl ⟨rfl, rfl⟩
    | true => exact .inr ⟨a, b.set i.toNat (d1, d2, d3, d4), c, rfl, rfl, ha, by rw [List.length_set]; exact hb, hc⟩
theorem P_cut (a : List Int) (b : List Dam) (c : List Int) (n d : Int) (ha : a.length ≤ 1048576) (hb : b.length ≤ 1048576) (hc : c.length ≤ 1048576) : ∃ r : Unit ⊕ (List Int × List Dam × List Int), sCutWants a b c n d = some r ∧ iCutWants a b c n d = some r ∧ ∀ u, r = .inr u → u.1.length ≤ 1048576 ∧ u.2.1.length ≤ 1048576 ∧ u.2.2.length ≤ 1048576 := by
  obtain ⟨o1, o2⟩ := P_own a b c ha hb hc
  unfold sCutWants sCutWants_t iCutWants iCutWants_t
  simp only [Q_is, Q_valid a b c (by omega) (by omega), Q_in, Q_within, Tr.sem, osome, oget, cond_true, o1, o2]
  cases hv : rivB a b c with
  | false => exact ⟨.inl (), rfl, rfl, (fun u h => by cases h)⟩
  | true =>
  cases hw : win 1 1000000000 d with
  | false => exact ⟨.inl (), rfl, rfl, (fun u h => by cases h)⟩
  | true =>
  cases hw2 : win 0 d n with
  | false => exact ⟨.inl (), rfl, rfl, (fun u h => by cases h)⟩
  | true =>
    have hd : d ≠ 0 := by simp only [win, Bool.and_eq_true, decide_eq_true_eq] at hw; omega
    obtain ⟨r, hr, hq⟩ := runL_ex0 (f := fun s : Int × List Int => (iCutWants_l5_t n d c.length a b s.1 s.2).sem) c.length (fun j s => s.1 = (j : Int) ∧ s.2.length = c.length) (fun r => r.1.length ≤ 1048576 ∧ r.2.1.length ≤ 1048576 ∧ r.2.2.length ≤ 1048576) (0, c) ⟨rfl, rfl⟩ (fun j s hj ⟨e1, e2⟩ => by
      obtain ⟨k, l⟩ := s
      simp only at e1 e2
      subst e1
      simp only [iCutWants_l5_t, Tr.sem, ltRange hj, zeroLe, Bool.and_self, ltRange (show j < l.length by omega), cond_true, decide_eq_true hd]
      refine ⟨_, rfl, ?_, ?_⟩
      · simp only; rw [wrap_id (by omega) (by omega)]; omega
      · simp only [List.length_set]; exact e2) (fun s ⟨e1, e2⟩ => by
      obtain ⟨k, l⟩ := s
      simp only at e1 e2
      subst e1
      refine ⟨(a, b, l), ?_, ha, hb, by simp only; omega⟩
      simp only [iCutWants_l5_t, Tr.sem, not_lt_self, cond_false])
    have hs : sCutWants_l5 n d 0 a b c = iCutWants_l5 n d c.length 0 a b c := by
      refine runL_same (fun s : Int × List Int => s.2.length = c.length) (fun s hs => ?_) (fun s s' hs h => ?_) (0, c) rfl
      · simp only [sCutWants_l5_t, iCutWants_l5_t, hs]
      · simp only [iCutWants_l5_t, Tr.sem] at h
        revert h
        cases decide (s.1 < (c.length : Int)) with
        | false => intro h; cases h
        | true =>
          cases decide (0 ≤ s.1) && decide (s.1 < (s.2.length : Int)) with
          | false => intro h; cases h
          | true =>
            simp only [cond_true, decide_eq_true hd]
            intro h; cases h; simp only [List.length_set]; exact hs
    have hr' : iCutWants_l5 n d c.length 0 a b c = some r := hr
    rw [hr'] at hs
    simp only [hs, hr', osome, oget, cond_true, Bool.not_true, cond_false]
    exact ⟨.inr r, rfl, rfl, (fun u h => by cases h; exact hq)⟩
/-! ### Laws -/
theorem pureFnExactCutWants (a : List Int) (b : List Dam) (c : List Int) (n d : Int) (ha : a.length ≤ 9223372036854775807) (hb : b.length ≤ 9223372036854775807) (hc : c.length ≤ 9223372036854775807) : wFnExactCutWants a b c n d = some true := by
  unfold wFnExactCutWants wFnExactCutWants_t
  cases hz : decide (wszRiver a b c 1048576 < 0) with
  | true => rfl
  | false =>
    obtain ⟨h1, h2, h3⟩ := Q_sizes a b c ha hb hc hz
    obtain ⟨r, s1, s2, hq⟩ := P_cut a b c n d h1 h2 h3
    refine (brF rfl).trans ?_
    have hd0 : decide (1 + (a.length : Int) + 4 * (b.length : Int) + (c.length : Int) < 0) = false := by simp only [decide_eq_false_iff_not]; omega
    simp only [Q_toR a b c h1 h2 h3, Q_eqR a b c h1 h2 h3, Q_markRG a b c h1 h2 h3, hd0, s1, s2, Tr.sem, osome, oget, cond_true, Bool.not_true, cond_false, Q_eqR0, Q_nilR, Q_heldR0, beq_self_eq_true, bne_self_eq_false]
    cases r with
    | inl u => simp [isL]
    | inr u =>
      obtain ⟨x, y, z⟩ := u
      obtain ⟨g1, g2, g3⟩ := hq _ rfl
      simp only at g1 g2 g3
      have hd : decide (1 + (x.length : Int) + 4 * (y.length : Int) + (z.length : Int) < 0) = false := by simp only [decide_eq_false_iff_not]; omega
      simp only [isL, unR, cond_false, Q_eqR x y z g1 g2 g3, Q_markRG x y z g1 g2 g3, Q_heldR x.length y.length z.length g1 g2 g3, hd, Bool.not_true, cond_true, bne_self_eq_false]
theorem pureFnExactSetDam (a : List Int) (b : List Dam) (c : List Int) (i d1 d2 d3 d4 : Int) (ha : a.length ≤ 9223372036854775807) (hb : b.length ≤ 9223372036854775807) (hc : c.length ≤ 9223372036854775807) : wFnExactSetDam a b c i d1 d2 d3 d4 = some true := by
  unfold wFnExactSetDam wFnExactSetDam_t
  cases hz : decide (wszRiver a b c 1048576 < 0) with
  | true => rfl
  | false =>
    obtain ⟨h1, h2, h3⟩ := Q_sizes a b c ha hb hc hz
    refine (brF rfl).trans ?_
    have hd0 : decide (1 + (a.length : Int) + 4 * (b.length : Int) + (c.length : Int) < 0) = false := by simp only [decide_eq_false_iff_not]; omega
    rcases P_setDam a b c i d1 d2 d3 d4 h1 h2 h3 with ⟨s1, s2⟩ | ⟨x, y, z, s1, s2, g1, g2, g3⟩
    · simp only [Q_toR a b c h1 h2 h3, Q_eqR a b c h1 h2 h3, Q_markRG a b c h1 h2 h3, Q_toDam, hd0, s1, s2, Tr.sem, osome, oget, cond_true, Bool.not_true, cond_false, Q_eqR0, Q_nilR, Q_heldR0, beq_self_eq_true, bne_self_eq_false, isL, show decide ((1 : Int) < 0) = false from rfl]
    · have hd : decide (1 + (x.length : Int) + 4 * (y.length : Int) + (z.length : Int) < 0) = false := by simp only [decide_eq_false_iff_not]; omega
      simp only [Q_toR a b c h1 h2 h3, Q_eqR a b c h1 h2 h3, Q_markRG a b c h1 h2 h3, Q_toDam, hd0, s1, s2, Tr.sem, osome, oget, cond_true, Bool.not_true, cond_false, beq_self_eq_true, bne_self_eq_false, isL, unR, Q_eqR x y z g1 g2 g3, Q_markRG x y z g1 g2 g3, Q_heldR x.length y.length z.length g1 g2 g3, hd]
end Go.Proofs.Ytcjekndobhkmbaa
