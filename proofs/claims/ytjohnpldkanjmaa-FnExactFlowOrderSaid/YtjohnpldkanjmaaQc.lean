/- Rivers: ways down; depths, what lies upwards, meetings. -/
import Derived.Test.YtjohnpldkanjmaaQb
set_option linter.unusedVariables false
set_option linter.unusedSimpArgs false
set_option linter.constructorNameAsVariable false
namespace Go.Proofs.Ytjohnpldkanjmaa
open Go.RowKit
set_option maxRecDepth 100000
/-- The nodes on a way down. -/
def pathL (xs : List Int) : Nat → Int → List Int
  | 0, _ => []
  | n + 1, a => bif decide (a < 0) then [] else a :: pathL xs n (xs.getD a.toNat 0)
theorem pathL_len (xs : List Int) : ∀ (n : Nat) (a : Int), (pathL xs n a).length ≤ n
  | 0, _ => by simp [pathL]
  | n + 1, a => by
    simp only [pathL]
    cases decide (a < 0) with
    | true => simp
    | false => simpa using pathL_len xs n _
theorem pathL_neg (xs : List Int) (n : Nat) {a : Int} (h : a < 0) : pathL xs n a = [] := by
  cases n with
  | zero => rfl
  | succ n => simp [pathL, h]
theorem pathL_pos (xs : List Int) (n : Nat) {a : Int} (h : 0 ≤ a) : pathL xs (n + 1) a = a :: pathL xs n (xs.getD a.toNat 0) := by
  have : ¬ a < 0 := by omega
  simp [pathL, this]
theorem walk_pos {xs : List Int} {n : Nat} {a : Int} (h : 0 ≤ a) (hw : walkB xs n a = true) : ∃ m, n = m + 1 ∧ walkB xs m (xs.getD a.toNat 0) = true := by
  have h' : ¬ a < 0 := by omega
  cases n with
  | zero => simp [walkB, h'] at hw
  | succ m => exact ⟨m, rfl, by simpa [walkB, h'] using hw⟩
theorem walks_at {xs : List Int} (h : walksB xs = true) {i : Int} (h0 : 0 ≤ i) (h1 : i < xs.length) : walkB xs (xs.length + 1) i = true := by
  have := List.all_eq_true.1 h i.toNat (List.mem_range.2 (by omega))
  rwa [Int.toNat_of_nonneg h0] at this
theorem P_path {xs : List Int} (hg : goodD xs) (hn : xs.length ≤ 12) (hw : walksB xs = true) {i : Int} (h0 : 0 ≤ i) (h1 : i < xs.length) : ipath xs i = some (pathL xs (xs.length + 1) i) := by
  have key : ∀ (j : Nat) (a : Int) (out : List Int), 0 ≤ a → a < xs.length → walkB xs (j + 1) a = true → out.length + j ≤ 100 → runL (fun s : Int × List Int => (ipath_l2_t xs s.1 s.2).sem) (a, out) = some (out ++ pathL xs j (xs.getD a.toNat 0)) := by
    intro j
    induction j with
    | zero =>
      intro a out h0 h1 hw hl
      obtain ⟨m, hm, hw'⟩ := walk_pos h0 hw
      obtain rfl : m = 0 := by omega
      have hb : xs.getD a.toNat 0 < 0 := by simpa [walkB] using hw'
      have hb' : ¬ xs.getD a.toNat 0 ≥ 0 := by omega
      rw [runL_eq]
      simp only [ipath_l2_t, Tr.sem, decide_eq_true h0, decide_eq_true h1, Bool.and_self, cond_true, decide_eq_false hb', cond_false, pathL, List.append_nil]
    | succ j ih =>
      intro a out h0 h1 hw hl
      obtain ⟨m, hm, hw'⟩ := walk_pos h0 hw
      obtain rfl : m = j + 1 := by omega
      by_cases hb : xs.getD a.toNat 0 ≥ 0
      · obtain ⟨g1, g2⟩ := goodD_at hg (show a.toNat < xs.length by omega)
        refine (runL_in (s' := (xs.getD a.toNat 0, out ++ [xs.getD a.toNat 0])) (by
          simp only [ipath_l2_t, Tr.sem, decide_eq_true h0, decide_eq_true h1, Bool.and_self, cond_true]
          rw [decide_eq_true hb, decide_eq_true (show (out.length + [xs.getD a.toNat 0].length) * 8 ≤ 140737488355328 by simp; omega)]; rfl)).trans ?_
        rw [ih _ _ hb g2 hw' (by simp; omega), pathL_pos xs j hb, List.append_assoc]; rfl
      · refine (runL_out (r := out) (by
          simp only [ipath_l2_t, Tr.sem, decide_eq_true h0, decide_eq_true h1, Bool.and_self, cond_true]
          rw [decide_eq_false hb]; rfl)).trans ?_
        rw [pathL_neg xs _ (by omega), List.append_nil]
  unfold ipath ipath_t
  have h2 : ipath_l2 xs i [i] = some ([i] ++ pathL xs xs.length (xs.getD i.toNat 0)) := key xs.length i [i] h0 h1 (walks_at hw h0 h1) (by simp; omega)
  rw [pathL_pos xs _ h0]
  simp only [h2, Tr.sem, osome, oget, cond_true]; rfl
def hasB (xs : List Int) (y : Int) : Bool := xs.any fun x => y == x
theorem Q_contains (xs : List Int) (y : Int) (hl : xs.length ≤ 9223372036854775807) : lContains xs y = some (hasB xs y) := by
  have h0 := run_idx (f := fun s => (lIndex_l2_t xs y xs.length s).sem) xs (fun x => y == x) hl (fun k hk x hx => by
    simp only [lIndex_l2_t, Tr.sem, ltRange hk, zeroLe, Bool.and_self, Int.toNat_natCast, getD_at hx, cond_true]
    cases (y == x) <;> rfl) (by simp only [lIndex_l2_t, Tr.sem, not_lt_self, cond_false])
  have h1 : lIndex xs y = some (idxI (fstIdx (fun x => y == x) 0 xs)) := idx_tree h0
  exact has_tree h1
theorem Q_comes {xs : List Int} (hg : goodD xs) (hw : walksB xs = true) (b : List Dam) (c : List Int) {i : Int} (h0 : 0 ≤ i) (h1 : i < xs.length) (y : Int) : sl06Comes xs b c i y = some (hasB (pathL xs (xs.length + 1) i) y) := by
  have key : ∀ (j : Nat) (a : Int), -1 ≤ a → a < xs.length → walkB xs j a = true → runL (fun s : Int => (sl06Comes_l2_t xs b c y s).sem) a = some (bif hasB (pathL xs j a) y then .inl () else .inr ()) := by
    intro j
    induction j with
    | zero =>
      intro a h0 h1 hw
      have : a < 0 := by simpa [walkB] using hw
      rw [runL_eq]
      simp only [sl06Comes_l2_t, Tr.sem, decide_eq_false (show ¬ a ≥ 0 by omega), cond_false, pathL, hasB, List.any_nil]
    | succ j ih =>
      intro a h0 h1 hw
      rw [runL_eq]
      by_cases ha : a ≥ 0
      · obtain ⟨m, hm, hw'⟩ := walk_pos ha hw
        obtain rfl : m = j := by omega
        obtain ⟨g1, g2⟩ := goodD_at hg (show a.toNat < xs.length by omega)
        rw [pathL_pos xs m ha]
        simp only [sl06Comes_l2_t, Tr.sem, decide_eq_true ha, decide_eq_true h1, Bool.and_self, cond_true, hasB, List.any_cons]
        rw [show (y == a) = (a == y) from Bool.beq_comm ..]
        cases (a == y) with
        | true => rfl
        | false => simp only [cond_false, Bool.false_or]; exact ih _ g1 g2 hw'
      · rw [pathL_neg xs _ (by omega)]
        simp only [sl06Comes_l2_t, Tr.sem, decide_eq_false ha, cond_false, hasB, List.any_nil]
  have h2 : sl06Comes_l2 xs b c y i = _ := key (xs.length + 1) i (by omega) h1 (walks_at hw h0 h1)
  unfold sl06Comes sl06Comes_t
  simp only [h2, Tr.sem, osome, oget, cond_true]
  cases hasB (pathL xs (xs.length + 1) i) y <;> rfl
theorem riv_parts {a : List Int} {b : List Dam} {c : List Int} (h : rivB a b c = true) : goodD a ∧ 1 ≤ a.length ∧ a.length ≤ 12 ∧ walksB a = true ∧ b.length = a.length ∧ c.length = a.length ∧ c.all (win 0 1000000000) = true ∧ b.all damB = true := by
  simp only [rivB, Bool.and_eq_true, decide_eq_true_eq] at h
  obtain ⟨⟨⟨⟨h1, h2⟩, h3⟩, ⟨h4, h5⟩, h6⟩, h7⟩ := h
  simp only [win, Bool.and_eq_true, decide_eq_true_eq] at h1
  exact ⟨goodD_of h4, by omega, by omega, h7, h2, h3, h5, h6⟩
/-! ### Depths -/
theorem P_depths (a : List Int) (b : List Dam) (c : List Int) (hb : b.length ≤ 9223372036854775807) (hc : c.length ≤ 9223372036854775807) : ∃ r, sDepthsIn a b c = some r ∧ iDepthsIn a b c = some r ∧ ∀ l, r = .inr l → l.length ≤ 1048576 := by
  unfold sDepthsIn sDepthsIn_t iDepthsIn iDepthsIn_t
  simp only [Q_valid a b c hb hc, Q_is, Tr.sem, osome, oget, cond_true]
  cases hv : rivB a b c with
  | false => exact ⟨.inl (), rfl, rfl, fun l h => by cases h⟩
  | true =>
    obtain ⟨hg, hn1, hn, hw, _⟩ := riv_parts hv
    have hi := runL_for (f := fun s : Int × List Int => (iDepthsIn_l5_t (a.length : Nat) a b c s.1 s.2).sem) a (fun k (t : List Int) => ((k : Int), t)) (fun k t x => .inl (t ++ [((pathL a (a.length + 1) k).length : Int) - 1])) id (fun k t => t.length = k) [] rfl (fun k t x ht hk hx => by
      have hp := pathL_len a (a.length + 1) k
      simp only [iDepthsIn_l5_t, Tr.sem, ltRange hk, cond_true, P_path hg hn hw (show (0 : Int) ≤ k by omega) (by omega), osome, oget]
      rw [wrap_id (n := ((pathL a (a.length + 1) k).length : Int) - 1) (by omega) (by omega), decide_eq_true (show (t.length + [((pathL a (a.length + 1) k).length : Int) - 1].length) * 8 ≤ 140737488355328 by simp; omega), wrap_id (by omega) (by omega)]
      rfl) (fun k t x t' ht hk hx e => by cases e; simp [ht]) (fun t _ => by simp only [iDepthsIn_l5_t, Tr.sem, not_lt_self, cond_false]; rfl)
    have h9 : ∀ (k : Nat) (t : List Int), k < a.length → sDepthsIn_l9 k 0 (a.getD k 0) a b c t = some ((k : Int), ((pathL a (a.length + 1) k).length : Int) - 1, a, b, c, t) := by
      intro k t hk
      obtain ⟨g1, g2⟩ := goodD_at hg hk
      obtain ⟨m, hm, hw'⟩ := walk_pos (show (0 : Int) ≤ k by omega) (walks_at hw (show (0 : Int) ≤ k by omega) (by omega))
      obtain rfl : m = a.length := by omega
      rw [Int.toNat_natCast] at hw'
      have key : ∀ (j : Nat) (x : Int) (n : Int), -1 ≤ x → x < a.length → walkB a j x = true → 0 ≤ n → n + j ≤ 100 → runL (fun s : Int × Int => (sDepthsIn_l9_t k a b c t s.1 s.2).sem) (n, x) = some ((k : Int), n + (pathL a j x).length, a, b, c, t) := by
        intro j
        induction j with
        | zero =>
          intro x n h0 h1 hw hn0 hn1
          have : x < 0 := by simpa [walkB] using hw
          rw [runL_eq]
          simp only [sDepthsIn_l9_t, Tr.sem, decide_eq_false (show ¬ x ≥ 0 by omega), cond_false, pathL, List.length_nil]
          simp
        | succ j ih =>
          intro x n h0 h1 hw hn0 hn1
          by_cases hx : x ≥ 0
          · obtain ⟨m, hm, hw'⟩ := walk_pos hx hw
            obtain rfl : m = j := by omega
            obtain ⟨g1, g2⟩ := goodD_at hg (show x.toNat < a.length by omega)
            rw [pathL_pos a m hx]
            refine (runL_in (s' := (n + 1, a.getD x.toNat 0)) (by
              simp only [sDepthsIn_l9_t, Tr.sem, decide_eq_true hx, decide_eq_true h1, Bool.and_self, cond_true]
              rw [wrap_id (by omega) (by omega)])).trans ?_
            rw [ih _ (n + 1) g1 g2 hw' (by omega) (by omega), List.length_cons]
            simp only [Int.natCast_add]
            rw [show n + 1 + ((pathL a m (a.getD x.toNat 0)).length : Int) = n + (((pathL a m (a.getD x.toNat 0)).length : Int) + ((1 : Nat) : Int)) from by omega]
          · rw [pathL_neg a _ (by omega), runL_eq]
            simp only [sDepthsIn_l9_t, Tr.sem, decide_eq_false hx, cond_false, List.length_nil]
            simp
      have := key a.length (a.getD k 0) 0 g1 g2 hw' (by omega) (by omega)
      rw [pathL_pos a a.length (show (0 : Int) ≤ k by omega), Int.toNat_natCast, List.length_cons]
      rw [show ((((pathL a a.length (a.getD k 0)).length + 1 : Nat) : Int) - 1) = 0 + ((pathL a a.length (a.getD k 0)).length : Int) from by omega]
      exact this
    have hs := runL_for (f := fun s : Int × List Int × List Dam × List Int × List Int => (sDepthsIn_l5_t s.1 s.2.1 s.2.2.1 s.2.2.2.1 s.2.2.2.2).sem) a (fun k (t : List Int) => ((k : Int), a, b, c, t)) (fun k t x => .inl (t ++ [((pathL a (a.length + 1) k).length : Int) - 1])) id (fun k t => t.length = k) [] rfl (fun k t x ht hk hx => by
      simp only [sDepthsIn_l5_t, Tr.sem, ltRange hk, zeroLe, Bool.and_self, cond_true, Int.toNat_natCast, h9 k t hk, osome, oget]
      rw [decide_eq_true (show (t.length + [((pathL a (a.length + 1) k).length : Int) - 1].length) * 8 ≤ 140737488355328 by simp; omega), wrap_id (by omega) (by omega)]
      rfl) (fun k t x t' ht hk hx e => by cases e; simp [ht]) (fun t _ => by simp only [sDepthsIn_l5_t, Tr.sem, not_lt_self, cond_false]; rfl)
    have hi' : iDepthsIn_l5 (a.length : Nat) 0 a b c [] = _ := hi
    have hs' : sDepthsIn_l5 0 a b c [] = _ := hs
    have hlen : ∀ (ys : List Int) (k : Nat) (t : List Int), (foldE (fun k (t : List Int) (x : Int) => (.inl (t ++ [((pathL a (a.length + 1) k).length : Int) - 1]) : List Int ⊕ List Int)) id k t ys).length = t.length + ys.length := by
      intro ys
      induction ys with
      | nil => intro k t; rfl
      | cons y ys ih => intro k t; simp only [foldE]; rw [ih]; simp; omega
    simp only [hi', hs', Bool.not_true, cond_false, cond_true, Tr.sem]
    refine ⟨_, rfl, rfl, fun l h => ?_⟩
    cases h
    rw [hlen]; simp; omega
/-! ### Upwards -/
theorem P_has (a : List Int) (b : List Dam) (c : List Int) (i : Int) (ha : a.length ≤ 1048576) : sl06Has a b c i = some (rivB a b c && win 0 ((a.length : Int) - 1) i) := by
  unfold sl06Has sl06Has_t
  simp only [Q_is, Q_in, Tr.sem, osome, oget, cond_true]
  rw [wrap_id (by omega) (by omega)]
  cases rivB a b c <;> rfl
theorem P_node (a : List Int) (b : List Dam) (c : List Int) (i : Int) (ha : a.length ≤ 1048576) (hb : b.length ≤ 9223372036854775807) (hc : c.length ≤ 9223372036854775807) : iRiver_isNode a b c i = some (rivB a b c && win 0 ((a.length : Int) - 1) i) := by
  unfold iRiver_isNode iRiver_isNode_t
  simp only [Q_valid a b c hb hc, Q_within, Tr.sem, osome, oget, cond_true]
  rw [wrap_id (by omega) (by omega)]
  cases rivB a b c <;> rfl
theorem P_up (a : List Int) (b : List Dam) (c : List Int) (i : Int) (ha : a.length ≤ 1048576) (hb : b.length ≤ 9223372036854775807) (hc : c.length ≤ 9223372036854775807) : ∃ r, sUpFrom a b c i = some r ∧ iUpFrom a b c i = some r ∧ ∀ l, r = .inr l → l.length ≤ 1048576 := by
  unfold sUpFrom sUpFrom_t iUpFrom iUpFrom_t
  simp only [P_has a b c i ha, P_node a b c i ha hb hc, Tr.sem, osome, oget, cond_true]
  cases hv : (rivB a b c && win 0 ((a.length : Int) - 1) i) with
  | false => exact ⟨.inl (), rfl, rfl, fun l h => by cases h⟩
  | true =>
    simp only [Bool.and_eq_true] at hv
    obtain ⟨hg, hn1, hn, hw, _⟩ := riv_parts hv.1
    have hi := runL_for (f := fun s : Int × List Int => (iUpFrom_l5_t i (a.length : Nat) a b c s.1 s.2).sem) a (fun k (t : List Int) => ((k : Int), t)) (fun k t x => .inl (bif hasB (pathL a (a.length + 1) k) i then t ++ [(k : Int)] else t)) id (fun k t => t.length ≤ k) [] (by simp) (fun k t x ht hk hx => by
      have hp := pathL_len a (a.length + 1) k
      simp only [iUpFrom_l5_t, Tr.sem, ltRange hk, cond_true, P_path hg hn hw (show (0 : Int) ≤ k by omega) (by omega), Q_contains _ i (show (pathL a (a.length + 1) k).length ≤ 9223372036854775807 by omega), osome, oget]
      rw [decide_eq_true (show (t.length + [(k : Int)].length) * 8 ≤ 140737488355328 by simp; omega), wrap_id (by omega) (by omega)]
      cases hasB (pathL a (a.length + 1) k) i <;> rfl) (fun k t x t' ht hk hx e => by cases e; cases hasB (pathL a (a.length + 1) k) i <;> simp <;> omega) (fun t _ => by simp only [iUpFrom_l5_t, Tr.sem, not_lt_self, cond_false]; rfl)
    have hs := runL_for (f := fun s : Int × List Int => (sUpFrom_l5_t i a b c s.1 s.2).sem) a (fun k (t : List Int) => ((k : Int), t)) (fun k t x => .inl (bif hasB (pathL a (a.length + 1) k) i then t ++ [(k : Int)] else t)) id (fun k t => t.length ≤ k) [] (by simp) (fun k t x ht hk hx => by
      simp only [sUpFrom_l5_t, Tr.sem, ltRange hk, cond_true, Q_comes hg hw b c (show (0 : Int) ≤ k by omega) (by omega) i, osome, oget]
      rw [decide_eq_true (show (t.length + [(k : Int)].length) * 8 ≤ 140737488355328 by simp; omega), wrap_id (by omega) (by omega)]
      cases hasB (pathL a (a.length + 1) k) i <;> rfl) (fun k t x t' ht hk hx e => by cases e; cases hasB (pathL a (a.length + 1) k) i <;> simp <;> omega) (fun t _ => by simp only [sUpFrom_l5_t, Tr.sem, not_lt_self, cond_false]; rfl)
    have hi' : iUpFrom_l5 i (a.length : Nat) 0 a b c [] = _ := hi
    have hs' : sUpFrom_l5 i 0 a b c [] = _ := hs
    have hlen : ∀ (ys : List Int) (k : Nat) (t : List Int), (foldE (fun k (t : List Int) (x : Int) => (.inl (bif hasB (pathL a (a.length + 1) k) i then t ++ [(k : Int)] else t) : List Int ⊕ List Int)) id k t ys).length ≤ t.length + ys.length := by
      intro ys
      induction ys with
      | nil => intro k t; exact Nat.le_refl _
      | cons y ys ih =>
        intro k t
        simp only [foldE]
        refine Nat.le_trans (ih _ _) ?_
        cases hasB (pathL a (a.length + 1) k) i <;> simp <;> omega
    simp only [hi', hs', Bool.not_true, cond_false, cond_true, Tr.sem]
    refine ⟨_, rfl, rfl, fun l h => ?_⟩
    cases h
    have := hlen a 0 []
    simp at this
    omega
/-! ### Meetings -/
theorem P_meet (a : List Int) (b : List Dam) (c : List Int) (i k : Int) (ha : a.length ≤ 1048576) (hb : b.length ≤ 9223372036854775807) (hc : c.length ≤ 9223372036854775807) : ∃ r, sMeetingOf a b c i k = some r ∧ iMeetingOf a b c i k = some r := by
  unfold sMeetingOf sMeetingOf_t iMeetingOf iMeetingOf_t
  simp only [P_has a b c _ ha, P_node a b c _ ha hb hc, Tr.sem, osome, oget, cond_true]
  cases hv : (rivB a b c && win 0 ((a.length : Int) - 1) i) with
  | false => exact ⟨_, rfl, rfl⟩
  | true =>
  cases hv2 : (rivB a b c && win 0 ((a.length : Int) - 1) k) with
  | false => exact ⟨_, rfl, rfl⟩
  | true =>
    simp only [Bool.and_eq_true] at hv hv2
    obtain ⟨hg, hn1, hn, hw, _⟩ := riv_parts hv.1
    have hi0 : 0 ≤ i ∧ i < a.length := by have := hv.2; simp only [win, Bool.and_eq_true, decide_eq_true_eq] at this; omega
    have hk0 : 0 ≤ k ∧ k < a.length := by have := hv2.2; simp only [win, Bool.and_eq_true, decide_eq_true_eq] at this; omega
    have pk := pathL_len a (a.length + 1) k
    have pi := pathL_len a (a.length + 1) i
    simp only [P_path hg hn hw hi0.1 hi0.2, P_path hg hn hw hk0.1 hk0.2, osome, oget, cond_true, Bool.not_true, cond_false]
    -- the first on i's way that is on k's
    have key : ∀ (j : Nat) (x : Int), -1 ≤ x → x < a.length → walkB a j x = true → runL (fun s : Int => (sMeetingOf_l4_t k a b c s).sem) x = some (match (pathL a j x).find? (hasB (pathL a (a.length + 1) k)) with | some y => .inl y | none => .inr ()) := by
      intro j
      induction j with
      | zero =>
        intro x h0 h1 hw
        have : x < 0 := by simpa [walkB] using hw
        rw [runL_eq]
        simp only [sMeetingOf_l4_t, Tr.sem, decide_eq_false (show ¬ x ≥ 0 by omega), cond_false, pathL, List.find?_nil]
      | succ j ih =>
        intro x h0 h1 hw'
        rw [runL_eq]
        by_cases hx : x ≥ 0
        · obtain ⟨m, hm, hw''⟩ := walk_pos hx hw'
          obtain rfl : m = j := by omega
          obtain ⟨g1, g2⟩ := goodD_at hg (show x.toNat < a.length by omega)
          rw [pathL_pos a m hx]
          simp only [sMeetingOf_l4_t, Tr.sem, decide_eq_true hx, decide_eq_true h1, Bool.and_self, cond_true, Q_comes hg hw b c hk0.1 hk0.2 x, osome, oget]
          cases hh : hasB (pathL a (a.length + 1) k) x with
          | true => simp [List.find?_cons, hh]
          | false => simp only [cond_false, List.find?_cons, hh]; exact ih _ g1 g2 hw''
        · rw [pathL_neg a (j + 1) (a := x) (by omega)]
          simp only [sMeetingOf_l4_t, Tr.sem, decide_eq_false hx, cond_false, List.find?_nil]
    have hs : sMeetingOf_l4 k i a b c = _ := key (a.length + 1) i (by omega) hi0.2 (walks_at hw hi0.1 hi0.2)
    have hi : iMeetingOf_l5 ((pathL a (a.length + 1) i).length : Nat) 0 (pathL a (a.length + 1) k) (pathL a (a.length + 1) i) = some (match (pathL a (a.length + 1) i).find? (hasB (pathL a (a.length + 1) k)) with | some y => .inl y | none => .inr ()) := by
      have h := runL_for (f := fun s : Int => (iMeetingOf_l5_t ((pathL a (a.length + 1) i).length : Nat) (pathL a (a.length + 1) k) (pathL a (a.length + 1) i) s).sem) (pathL a (a.length + 1) i) (fun k (_ : Unit) => (k : Int)) (fun _ _ x => bif hasB (pathL a (a.length + 1) k) x then (.inr (.inl x) : Unit ⊕ (Int ⊕ Unit)) else .inl ()) (fun _ => .inr ()) (fun _ _ => True) () trivial (fun q t x _ hq hx => by
        simp only [iMeetingOf_l5_t, Tr.sem, ltRange hq, zeroLe, Bool.and_self, cond_true, Int.toNat_natCast, getD_at hx, Q_contains _ x (show (pathL a (a.length + 1) k).length ≤ 9223372036854775807 by omega), osome, oget]
        rw [wrap_id (by omega) (by omega)]
        cases hasB (pathL a (a.length + 1) k) x <;> rfl) (fun _ _ _ _ _ _ _ _ => trivial) (fun _ _ => by simp only [iMeetingOf_l5_t, Tr.sem, not_lt_self, cond_false])
      refine Eq.trans h (congrArg some ?_)
      have : ∀ (ys : List Int) (q : Nat), foldE (fun _ (_ : Unit) x => bif hasB (pathL a (a.length + 1) k) x then (.inr (.inl x) : Unit ⊕ (Int ⊕ Unit)) else .inl ()) (fun _ => .inr ()) q () ys = match ys.find? (hasB (pathL a (a.length + 1) k)) with | some y => .inl y | none => .inr () := by
        intro ys
        induction ys with
        | nil => intro q; rfl
        | cons y ys ih =>
          intro q
          simp only [foldE, List.find?_cons]
          cases hasB (pathL a (a.length + 1) k) y with
          | true => rfl
          | false => exact ih _
      exact this _ _
    simp only [hs, hi, osome, oget, cond_true]
    cases (pathL a (a.length + 1) i).find? (hasB (pathL a (a.length + 1) k)) <;> exact ⟨_, rfl, rfl⟩
theorem pureFnExactMeetingOf (a : List Int) (b : List Dam) (c : List Int) (i k : Int) (ha : a.length ≤ 9223372036854775807) (hb : b.length ≤ 9223372036854775807) (hc : c.length ≤ 9223372036854775807) : wFnExactMeetingOf a b c i k = some true := by
  unfold wFnExactMeetingOf wFnExactMeetingOf_t
  cases hz : decide (wszRiver a b c 1048576 < 0) with
  | true => rfl
  | false =>
    obtain ⟨h1, h2, h3⟩ := Q_sizes a b c ha hb hc hz
    obtain ⟨r, s1, s2⟩ := P_meet a b c i k h1 hb hc
    refine (brF rfl).trans ?_
    simp only [Q_toR a b c h1 h2 h3, Q_eqR a b c h1 h2 h3, s1, s2, Tr.sem, osome, oget, cond_true, beq_self_eq_true, bne_self_eq_false, Bool.not_true, cond_false]
theorem pureFnExactDepthsIn (a : List Int) (b : List Dam) (c : List Int) (ha : a.length ≤ 9223372036854775807) (hb : b.length ≤ 9223372036854775807) (hc : c.length ≤ 9223372036854775807) : wFnExactDepthsIn a b c = some true := by
  unfold wFnExactDepthsIn wFnExactDepthsIn_t
  cases hz : decide (wszRiver a b c 1048576 < 0) with
  | true => rfl
  | false =>
    obtain ⟨h1, h2, h3⟩ := Q_sizes a b c ha hb hc hz
    obtain ⟨r, s1, s2, hq⟩ := P_depths a b c hb hc
    obtain ⟨m, hm, hm0⟩ := Q_markR a b c h1 h2 h3
    refine (brF rfl).trans ?_
    simp only [Q_toR a b c h1 h2 h3, Q_eqR a b c h1 h2 h3, s1, s2, hm, hm0, Tr.sem, osome, oget, cond_true, Bool.not_true, cond_false, Q_eqnil, Q_nil, Q_heldnil, beq_self_eq_true, bne_self_eq_false]
    cases r with
    | inl u => simp [isL]
    | inr l =>
      have hl := hq l rfl
      have hd : decide (1 + (l.length : Int) < 0) = false := by simp only [decide_eq_false_iff_not]; omega
      simp only [isL, unR, cond_false, Q_eq l hl, Q_mark l hl, Q_held l.length hl, hd, Bool.not_true, cond_true, bne_self_eq_false]
theorem pureFnExactUpFrom (a : List Int) (b : List Dam) (c : List Int) (i : Int) (ha : a.length ≤ 9223372036854775807) (hb : b.length ≤ 9223372036854775807) (hc : c.length ≤ 9223372036854775807) : wFnExactUpFrom a b c i = some true := by
  unfold wFnExactUpFrom wFnExactUpFrom_t
  cases hz : decide (wszRiver a b c 1048576 < 0) with
  | true => rfl
  | false =>
    obtain ⟨h1, h2, h3⟩ := Q_sizes a b c ha hb hc hz
    obtain ⟨r, s1, s2, hq⟩ := P_up a b c i h1 hb hc
    obtain ⟨m, hm, hm0⟩ := Q_markR a b c h1 h2 h3
    refine (brF rfl).trans ?_
    simp only [Q_toR a b c h1 h2 h3, Q_eqR a b c h1 h2 h3, s1, s2, hm, hm0, Tr.sem, osome, oget, cond_true, Bool.not_true, cond_false, Q_eqnil, Q_nil, Q_heldnil, beq_self_eq_true, bne_self_eq_false]
    cases r with
    | inl u => simp [isL]
    | inr l =>
      have hl := hq l rfl
      have hd : decide (1 + (l.length : Int) < 0) = false := by simp only [decide_eq_false_iff_not]; omega
      simp only [isL, unR, cond_false, Q_eq l hl, Q_mark l hl, Q_held l.length hl, hd, Bool.not_true, cond_true, bne_self_eq_false]
end Go.Proofs.Ytjohnpldkanjmaa
