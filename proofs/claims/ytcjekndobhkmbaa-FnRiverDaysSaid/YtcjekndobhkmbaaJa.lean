/- Rivers of days: what is valid, which are the same. -/
import Derived.Test.YtcjekndobhkmbaaSp
import Derived.Test.YtcjekndobhkmbaaGv1d
set_option linter.unusedVariables false
set_option linter.unusedSimpArgs false
set_option linter.constructorNameAsVariable false
namespace Go.Proofs.Ytcjekndobhkmbaa
open Go.RowKit
set_option maxRecDepth 100000
abbrev Dam := Int × Int × Int × Int
theorem q_fold_set {α : Type} : ∀ (xs ys : List α) (k : Nat) (pre : List α), pre.length = k → ys.length = xs.length → foldE (fun k (t : List α) x => (.inl (t.set k x) : List α ⊕ List α)) id k (pre ++ ys) xs = pre ++ xs
  | [], ys, k, pre, hp, hl => by
    have : ys = [] := List.length_eq_zero_iff.1 (by simpa using hl)
    subst this; rfl
  | x :: xs, [], k, pre, hp, hl => by simp at hl
  | x :: xs, y :: ys, k, pre, hp, hl => by
    simp only [foldE]
    have e : (pre ++ y :: ys).set k x = (pre ++ [x]) ++ ys := by
      rw [List.set_append_right _ _ (by omega), show k - pre.length = 0 from by omega, List.set_cons_zero, List.append_assoc]; rfl
    rw [e, q_fold_set xs ys (k + 1) (pre ++ [x]) (by simp [hp]) (by simpa using hl), List.append_assoc]; rfl
theorem run_copy {α : Type} {f : Int × List α → Option ((Int × List α) ⊕ List α)} (xs ys : List α) (hl : ys.length = xs.length) (hb : xs.length ≤ 9223372036854775806)
    (hf : ∀ (k : Nat) (t : List α) (x : α), k < xs.length → t.length = xs.length → xs[k]? = some x → f ((k : Int), t) = some (.inl (IntKind.wrap .i64 ((k : Int) + 1), t.set k x)))
    (he : ∀ t : List α, f ((xs.length : Nat), t) = some (.inr t)) : runL f (0, ys) = some xs := by
  have h := runL_for (f := f) xs (fun k (t : List α) => ((k : Int), t)) (fun k t x => .inl (t.set k x)) id (fun _ t => t.length = xs.length) ys hl (fun k t x hi hk hx => by
    rw [hf k t x hk hi hx, wrap_id (by omega) (by omega)]; rfl) (fun k t x t' hi hk hx e => by cases e; simpa using hi) (fun t _ => he t)
  have e := q_fold_set xs ys 0 [] rfl hl
  simp only [List.nil_append] at e
  rw [e] at h
  exact h
theorem mk8 {n : Nat} (h : n ≤ 1048576) : (decide (((n : Nat) : Int) = ((n : Nat) : Int)) && decide (0 ≤ ((n : Nat) : Int)) && decide (((n : Nat) : Int) * ((8 : Nat) : Int) ≤ 140737488355328)) = true := by
  simp only [decide_true, Bool.true_and, Bool.and_eq_true, decide_eq_true_eq]; omega
theorem mk32 {n : Nat} (h : n ≤ 1048576) : (decide (((n : Nat) : Int) = ((n : Nat) : Int)) && decide (0 ≤ ((n : Nat) : Int)) && decide (((n : Nat) : Int) * ((32 : Nat) : Int) ≤ 140737488355328)) = true := by
  simp only [decide_true, Bool.true_and, Bool.and_eq_true, decide_eq_true_eq]; omega
def win (lo hi n : Int) : Bool := decide (lo ≤ n) && decide (n ≤ hi)
theorem Q_within (n lo hi : Int) : iwithin n lo hi = win lo hi n := by
  unfold iwithin iwithin_t win
  cases h : decide (lo ≤ n) <;> simp [Tr.val, h]
theorem Q_are (xs : List Int) (lo hi : Int) (hl : xs.length ≤ 9223372036854775807) : iareWithin xs lo hi = some (xs.all (win lo hi)) := by
  have h0 := run_idx (f := fun s => (lIndexFunc_iareWithin_1_l2_t xs lo hi xs.length s).sem) xs (fun x => !(win lo hi x)) hl (fun k hk x hx => by
    simp only [lIndexFunc_iareWithin_1_l2_t, Tr.sem, ltRange hk, zeroLe, Bool.and_self, Int.toNat_natCast, getD_at hx, cond_true, iareWithin_1, iareWithin_1_t, Tr.val, Q_within]
    cases win lo hi x <;> rfl) (by simp only [lIndexFunc_iareWithin_1_l2_t, Tr.sem, not_lt_self, cond_false])
  have h1 : lIndexFunc_iareWithin_1 xs lo hi = some (idxI (fstIdx (fun x => !(win lo hi x)) 0 xs)) := idx_tree h0
  have h2 : lContainsFunc_iareWithin_1 xs lo hi = some (xs.any fun x => !(win lo hi x)) := has_tree h1
  have h3 : iareWithin xs lo hi = _ := not_tree h2
  rw [h3, not_any]
def unitB (n : Int) : Bool := win 0 1000000000 n
def damB (d : Dam) : Bool := unitB d.1 && win 0 d.1 d.2.1 && unitB d.2.2.1 && win 0 d.1 d.2.2.2
theorem Q_idam (a b c d : Int) : iisDam a b c d = some (damB (a, b, c, d)) := by
  unfold iisDam iisDam_t damB unitB
  simp only [Q_are [a, c] _ _ (by simp), Q_are [b, d] _ _ (by simp), Tr.sem, osome, oget, cond_true, List.all_cons, List.all_nil, Bool.and_true]
  cases win 0 1000000000 a <;> cases win 0 a b <;> cases win 0 1000000000 c <;> cases win 0 a d <;> rfl
theorem Q_dams (xs : List Dam) (hl : xs.length ≤ 9223372036854775807) : lContainsFunc_iValidRiver_1 xs = some (!xs.all damB) := by
  have h0 := run_idx (f := fun s => (lIndexFunc_iValidRiver_1_l2_t xs xs.length s).sem) xs (fun x => !(damB x)) hl (fun k hk x hx => by
    simp only [lIndexFunc_iValidRiver_1_l2_t, Tr.sem, ltRange hk, zeroLe, Bool.and_self, Int.toNat_natCast, getD_at hx, cond_true, iValidRiver_1, iValidRiver_1_t, Q_idam, osome, oget]
    cases damB x <;> rfl) (by simp only [lIndexFunc_iValidRiver_1_l2_t, Tr.sem, not_lt_self, cond_false])
  have h1 : lIndexFunc_iValidRiver_1 xs = some (idxI (fstIdx (fun x => !(damB x)) 0 xs)) := idx_tree h0
  have h2 : lContainsFunc_iValidRiver_1 xs = some (xs.any fun x => !(damB x)) := has_tree h1
  rw [h2, ← not_any, Bool.not_not]
def walkB (xs : List Int) : Nat → Int → Bool
  | 0, a => decide (a < 0)
  | n + 1, a => bif decide (a < 0) then true else walkB xs n (xs.getD a.toNat 0)
def goodD (xs : List Int) : Prop := ∀ (k : Nat) (x : Int), xs[k]? = some x → -1 ≤ x ∧ x < xs.length
theorem goodD_at {xs : List Int} (h : goodD xs) {k : Nat} (hk : k < xs.length) : -1 ≤ xs.getD k 0 ∧ xs.getD k 0 < xs.length := by
  have := h k xs[k] (List.getElem?_eq_getElem hk)
  simpa [List.getD, List.getElem?_eq_getElem hk] using this
theorem inR {a : Int} {n : Nat} (h0 : 0 ≤ a) (h1 : a < n) : (decide (0 ≤ a) && decide (a < (n : Int))) = true := by simp; omega
theorem run_walk {ρ : Type} {f : Int × Int → Option ((Int × Int) ⊕ (Unit ⊕ ρ))} {xs : List Int} (hg : goodD xs) (hn : xs.length ≤ 12) (e : ρ)
    (hf : ∀ (a s : Int), 0 ≤ s → s ≤ 14 → -1 ≤ a → a < xs.length → f (a, s) = some (bif decide (a ≥ 0) then (bif decide (s > xs.length) then .inr (.inl ()) else .inl (xs.getD a.toNat 0, IntKind.wrap .i64 (s + 1))) else .inr (.inr e))) :
    ∀ (j : Nat) (a : Int), j ≤ xs.length + 1 → -1 ≤ a → a < xs.length → runL f (a, ((xs.length + 1 - j : Nat) : Int)) = some (bif walkB xs j a then .inr e else .inl ())
  | 0, a, hj, h1, h2 => by
    rw [runL_eq, hf a _ (by omega) (by omega) h1 h2]
    simp only [walkB, Nat.sub_zero]
    by_cases h : a ≥ 0
    · have h' : ¬ a < 0 := by omega
      simp only [h, h', decide_true, decide_false, cond_true, cond_false, show ((xs.length + 1 : Nat) : Int) > (xs.length : Int) from by omega]
    · have h' : a < 0 := by omega
      simp only [h, h', decide_true, decide_false, cond_true, cond_false]
  | j + 1, a, hj, h1, h2 => by
    rw [runL_eq, hf a _ (by omega) (by omega) h1 h2]
    simp only [walkB]
    by_cases h : a ≥ 0
    · have h' : ¬ a < 0 := by omega
      have hs : ¬ (((xs.length + 1 - (j + 1) : Nat) : Int) > (xs.length : Int)) := by omega
      simp only [h, h', hs, decide_true, decide_false, cond_true, cond_false]
      obtain ⟨g1, g2⟩ := goodD_at hg (show a.toNat < xs.length by omega)
      rw [wrap_id (by omega) (by omega), show ((xs.length + 1 - (j + 1) : Nat) : Int) + 1 = ((xs.length + 1 - j : Nat) : Int) from by omega]
      exact run_walk hg hn e hf j _ (by omega) g1 g2
    · have h' : a < 0 := by omega
      simp only [h, h', decide_true, decide_false, cond_true, cond_false]
theorem run_upto {ρ σ : Type} {f : σ → Option (σ ⊕ ρ)} (mk : Int → σ) (n : Nat) (hn : n ≤ 9223372036854775806) (p : Nat → Bool) (r e : ρ)
    (hf : ∀ k : Nat, k < n → f (mk k) = some (bif p k then .inl (mk (IntKind.wrap .i64 ((k : Int) + 1))) else .inr r)) (he : f (mk n) = some (.inr e)) : runL f (mk 0) = some (bif (List.range n).all p then e else r) := by
  have h := runL_for (f := f) (List.range n) (fun k (_ : Unit) => mk (k : Int)) (fun _ _ x => bif p x then .inl () else .inr r) (fun _ => e) (fun _ _ => True) () trivial (fun k t x _ hk hx => by
    have hk' : k < n := by simpa using hk
    have : x = k := by rw [List.getElem?_range hk'] at hx; cases hx; rfl
    subst this
    rw [hf x hk', wrap_id (by omega) (by omega)]
    cases p x <;> rfl) (fun _ _ _ _ _ _ _ _ => trivial) (fun _ _ => by simpa using he)
  rw [foldE_all] at h
  exact h
theorem all_range {α : Type} (xs : List α) (d : α) (p : α → Bool) : (List.range xs.length).all (fun i => p (xs.getD i d)) = xs.all p := by
  induction xs with
  | nil => rfl
  | cons x xs ih =>
    rw [List.length_cons, List.range_succ_eq_map, List.all_cons, List.all_map, List.all_cons, ← ih]
    rfl
theorem all_and {α : Type} (xs : List α) (p q : α → Bool) : xs.all (fun i => p i && q i) = (xs.all p && xs.all q) := by
  induction xs with
  | nil => rfl
  | cons x xs ih => simp only [List.all_cons, ih]; cases p x <;> cases q x <;> cases xs.all p <;> cases xs.all q <;> rfl
def walksB (xs : List Int) : Bool := (List.range xs.length).all fun i => walkB xs (xs.length + 1) i
def rivB (a : List Int) (b : List Dam) (c : List Int) : Bool := win 1 12 a.length && decide (b.length = a.length) && decide (c.length = a.length) && (a.all (win (-1) ((a.length : Int) - 1)) && c.all (win 0 1000000000) && b.all damB) && walksB a
theorem goodD_of {a : List Int} (h : a.all (win (-1) ((a.length : Int) - 1)) = true) : goodD a := fun k x hx => by
  have := List.all_eq_true.1 h x (List.mem_of_getElem? hx)
  simp only [win, Bool.and_eq_true, decide_eq_true_eq] at this
  omega
theorem Q_valid (a : List Int) (b : List Dam) (c : List Int) (hb : b.length ≤ 9223372036854775807) (hc : c.length ≤ 9223372036854775807) : iValidRiver a b c = some (rivB a b c) := by
  unfold iValidRiver iValidRiver_t rivB
  simp only [Q_within, Tr.sem]
  cases hw : win 1 12 (a.length : Int) with
  | false => simp [Tr.sem]
  | true =>
  have hn : 1 ≤ a.length ∧ a.length ≤ 12 := by simp only [win, Bool.and_eq_true, decide_eq_true_eq] at hw; omega
  by_cases h1 : b.length = a.length
  case neg =>
    have : (((b.length : Nat) : Int) != ((a.length : Nat) : Int)) = true := by simp; omega
    simp [this, h1, Tr.sem]
  by_cases h2 : c.length = a.length
  case neg =>
    have : (((c.length : Nat) : Int) != ((a.length : Nat) : Int)) = true := by simp; omega
    simp [this, h1, h2, Tr.sem]
  have e1 : (((b.length : Nat) : Int) != ((a.length : Nat) : Int)) = false := by simp; omega
  have e2 : (((c.length : Nat) : Int) != ((a.length : Nat) : Int)) = false := by simp; omega
  rw [wrap_id (by omega) (by omega)]
  simp only [e1, e2, h1, h2, Q_are a _ _ (by omega), Q_are c _ _ hc, Q_dams b hb, osome, oget, cond_true, cond_false, Bool.not_true, Bool.not_false, decide_true, Bool.true_and, bne_self_eq_false]
  cases hA : a.all (win (-1) ((a.length : Int) - 1)) with
  | false => simp
  | true =>
  cases hC : c.all (win 0 1000000000) with
  | false => simp
  | true =>
  cases hB : b.all damB with
  | false => simp
  | true =>
  simp only [Bool.not_true, Bool.not_false, cond_true, cond_false, Bool.true_and, Bool.false_and]
  have hg := goodD_of hA
  have hl9 : ∀ (k : Nat), k < a.length → iValidRiver_l9 (a.length : Nat) k 0 (a.length : Nat) k a b c = some (bif walkB a (a.length + 1) k then .inr ((a.length : Nat), (a.length : Nat), k, a, b, c) else .inl ()) := fun k hk => by
    have := run_walk (f := fun s => (iValidRiver_l9_t (a.length : Nat) (a.length : Nat) k a b c s.1 s.2).sem) hg hn.2 (((a.length : Nat) : Int), ((a.length : Nat) : Int), (k : Int), a, b, c) (fun x s hs0 hs1 hx0 hx1 => by
      simp only [iValidRiver_l9_t, Tr.sem]
      by_cases h : x ≥ 0
      · simp only [h, decide_true, cond_true]
        by_cases h' : s > (a.length : Int)
        · simp only [h', decide_true, cond_true]
        · simp only [h', decide_false, cond_false, decide_eq_true hx1, Bool.and_self, cond_true]
      · simp only [h, decide_false, cond_false]) (a.length + 1) k (Nat.le_refl _) (by omega) (by omega)
    rw [Nat.sub_self] at this
    exact this
  have hl5 : iValidRiver_l5 (a.length : Nat) (a.length : Nat) 0 a b c = some (bif walksB a then .inr () else .inl ()) := by
    refine run_upto (f := fun s => (iValidRiver_l5_t s.1 s.2.1 s.2.2.1 s.2.2.2.1 s.2.2.2.2.1 s.2.2.2.2.2).sem) (fun k => (((a.length : Nat) : Int), ((a.length : Nat) : Int), k, a, b, c)) a.length (by omega) (fun i => walkB a (a.length + 1) i) (.inl ()) (.inr ()) (fun k hk => ?_) (by simp only [iValidRiver_l5_t, Tr.sem, not_lt_self, cond_false])
    simp only [iValidRiver_l5_t, Tr.sem, ltRange hk, hl9 k hk, osome, oget, cond_true]
    cases walkB a (a.length + 1) k <;> rfl
  simp only [hl5, osome, oget, cond_true]
  cases walksB a <;> rfl
def hasB (xs : List Int) (y : Int) : Bool := xs.any fun x => y == x
theorem Q_contains (xs : List Int) (y : Int) (hl : xs.length ≤ 9223372036854775807) : lContains xs y = some (hasB xs y) := by
  have h0 := run_idx (f := fun s => (lIndex_l2_t xs y xs.length s).sem) xs (fun x => y == x) hl (fun k hk x hx => by
    simp only [lIndex_l2_t, Tr.sem, ltRange hk, zeroLe, Bool.and_self, Int.toNat_natCast, getD_at hx, cond_true]
    cases (y == x) <;> rfl) (by simp only [lIndex_l2_t, Tr.sem, not_lt_self, cond_false])
  have h1 : lIndex xs y = some (idxI (fstIdx (fun x => y == x) 0 xs)) := idx_tree h0
  exact has_tree h1
theorem walk_pos {xs : List Int} {n : Nat} {a : Int} (h : 0 ≤ a) (hw : walkB xs n a = true) : ∃ m, n = m + 1 ∧ walkB xs m (xs.getD a.toNat 0) = true := by
  have h' : ¬ a < 0 := by omega
  cases n with
  | zero => simp [walkB, h'] at hw
  | succ m => exact ⟨m, rfl, by simpa [walkB, h'] using hw⟩
theorem walks_at {xs : List Int} (h : walksB xs = true) {i : Int} (h0 : 0 ≤ i) (h1 : i < xs.length) : walkB xs (xs.length + 1) i = true := by
  have := List.all_eq_true.1 h i.toNat (List.mem_range.2 (by omega))
  rwa [Int.toNat_of_nonneg h0] at this
theorem riv_parts {a : List Int} {b : List Dam} {c : List Int} (h : rivB a b c = true) : goodD a ∧ 1 ≤ a.length ∧ a.length ≤ 12 ∧ walksB a = true ∧ b.length = a.length ∧ c.length = a.length ∧ c.all (win 0 1000000000) = true ∧ b.all damB = true := by
  simp only [rivB, Bool.and_eq_true, decide_eq_true_eq] at h
  obtain ⟨⟨⟨⟨h1, h2⟩, h3⟩, ⟨h4, h5⟩, h6⟩, h7⟩ := h
  simp only [win, Bool.and_eq_true, decide_eq_true_eq] at h1
  exact ⟨goodD_of h4, by omega, by omega, h7, h2, h3, h5, h6⟩
def eqI (x y : List Int) : Bool := decide (x.length = y.length) && (List.range x.length).all fun k => x.getD k 0 == y.getD k 0
def dmB (u v : Dam) : Bool := u.1 == v.1 && u.2.1 == v.2.1 && u.2.2.1 == v.2.2.1 && u.2.2.2 == v.2.2.2
def eqD (x y : List Dam) : Bool := decide (x.length = y.length) && (List.range x.length).all fun k => dmB (x.getD k (0, 0, 0, 0)) (y.getD k (0, 0, 0, 0))
theorem len_ne {m n : Nat} : (((m : Nat) : Int) != ((n : Nat) : Int)) = !decide (m = n) := by
  by_cases h : m = n
  · subst h; simp
  · have : ((m : Nat) : Int) ≠ ((n : Nat) : Int) := by omega
    simp [h, this]
theorem P_iList (x y : List Int) (h : x.length ≤ 1048576) : lEqual x y = some (eqI x y) := by
  unfold lEqual lEqual_t eqI
  rw [len_ne]
  by_cases hl : x.length = y.length
  · have h1 : lEqual_l4 x y (x.length : Int) 0 = some (bif (List.range x.length).all (fun k => x.getD k 0 == y.getD k 0) then .inr () else .inl ()) := by
      unfold lEqual_l4
      exact run_upto (ρ := Unit ⊕ Unit) (f := fun s : Int => (lEqual_l4_t x y (x.length : Int) s).sem) (fun k => k) x.length (by omega) _ (.inl ()) (.inr ()) (fun k hk => by
        simp only [lEqual_l4_t, Tr.sem, ltRange hk, zeroLe, Bool.and_self, ltRange (show k < y.length by omega), cond_true, Int.toNat_natCast, bne]
        cases (x.getD k 0 == y.getD k 0) <;> rfl) (by simp only [lEqual_l4_t, Tr.sem, not_lt_self, cond_false])
    simp only [hl, decide_true, Bool.not_true, Bool.true_and, Tr.sem, cond_false]
    rw [hl] at h1
    simp only [h1, osome, oget, cond_true]
    cases (List.range y.length).all (fun k => x.getD k 0 == y.getD k 0) <;> rfl
  · simp only [hl, decide_false, Bool.not_false, Tr.sem, cond_true, Bool.false_and]
theorem P_iDams (x y : List Dam) (h : x.length ≤ 1048576) : lEqual_n1 x y = some (eqD x y) := by
  unfold lEqual_n1 lEqual_n1_t eqD
  rw [len_ne]
  by_cases hl : x.length = y.length
  · have h1 : lEqual_n1_l4 x y (x.length : Int) 0 = some (bif (List.range x.length).all (fun k => dmB (x.getD k (0, 0, 0, 0)) (y.getD k (0, 0, 0, 0))) then .inr () else .inl ()) := by
      unfold lEqual_n1_l4
      exact run_upto (ρ := Unit ⊕ Unit) (f := fun s : Int => (lEqual_n1_l4_t x y (x.length : Int) s).sem) (fun k => k) x.length (by omega) _ (.inl ()) (.inr ()) (fun k hk => by
        simp only [lEqual_n1_l4_t, Tr.sem, ltRange hk, zeroLe, Bool.and_self, ltRange (show k < y.length by omega), cond_true, Int.toNat_natCast, dmB]
        generalize x.getD k (0, 0, 0, 0) = u
        generalize y.getD k (0, 0, 0, 0) = v
        cases (u.1 == v.1) <;> cases (u.2.1 == v.2.1) <;> cases (u.2.2.1 == v.2.2.1) <;> cases (u.2.2.2 == v.2.2.2) <;> rfl) (by simp only [lEqual_n1_l4_t, Tr.sem, not_lt_self, cond_false])
    simp only [hl, decide_true, Bool.not_true, Bool.true_and, Tr.sem, cond_false]
    rw [hl] at h1
    simp only [h1, osome, oget, cond_true]
    cases (List.range y.length).all (fun k => dmB (x.getD k (0, 0, 0, 0)) (y.getD k (0, 0, 0, 0))) <;> rfl
  · simp only [hl, decide_false, Bool.not_false, Tr.sem, cond_true, Bool.false_and]
theorem P_iSame (a : List Int) (b : List Dam) (c : List Int) (a' : List Int) (b' : List Dam) (c' : List Int) (ha : a.length ≤ 1048576) (hb : b.length ≤ 1048576) (hc : c.length ≤ 1048576) : iSameRiver a b c a' b' c' = some (eqI a a' && (eqD b b' && eqI c c')) := by
  unfold iSameRiver iSameRiver_t
  simp only [P_iList a a' ha, P_iDams b b' hb, P_iList c c' hc, Tr.sem, osome, oget, cond_true]
  cases eqI a a' <;> cases eqD b b' <;> rfl
theorem runL_steps {σ ρ : Type} {f : σ → Option (σ ⊕ ρ)} {r : ρ} : ∀ (n k : Nat) (s : Nat → σ), (∀ j, k ≤ j → j < k + n → f (s j) = some (.inl (s (j + 1)))) → f (s (k + n)) = some (.inr r) → runL f (s k) = some r
  | 0, k, s, h, he => runL_out he
  | n + 1, k, s, h, he => (runL_in (h k (Nat.le_refl _) (by omega))).trans (runL_steps n (k + 1) s (fun j h1 h2 => h j (by omega) (by omega)) (by rw [show k + 1 + n = k + (n + 1) by omega]; exact he))
theorem first_or (p : Nat → Bool) : ∀ n : Nat, (∃ i, i < n ∧ p i = true ∧ ∀ k, k < i → p k = false) ∨ ∀ k, k < n → p k = false
  | 0 => .inr (fun k hk => by omega)
  | n + 1 => by
    rcases first_or p n with ⟨i, h1, h2, h3⟩ | h
    · exact .inl ⟨i, by omega, h2, h3⟩
    · cases hp : p n with
      | true => exact .inl ⟨n, by omega, hp, h⟩
      | false => exact .inr (fun k hk => by
          by_cases e : k = n
          · subst e; exact hp
          · exact h k (by omega))
def cnt (p : Nat → Bool) : Nat → Nat
  | 0 => 0
  | n + 1 => cnt p n + (p n).toNat
theorem cnt_zero (p : Nat → Bool) : ∀ n, cnt p n = 0 ↔ ∀ j, j < n → p j = false
  | 0 => ⟨fun _ j h => by omega, fun _ => rfl⟩
  | n + 1 => by
    have ih := cnt_zero p n
    constructor
    · intro h j hj
      simp only [cnt] at h
      by_cases e : j = n
      · subst e
        cases hp : p j with
        | false => rfl
        | true => rw [hp, Bool.toNat_true] at h; omega
      · exact ih.1 (by omega) j (by omega)
    · intro h
      simp only [cnt]
      rw [ih.2 (fun j hj => h j (by omega)), h n (by omega)]; rfl
theorem cnt_congr {p q : Nat → Bool} : ∀ n, (∀ j, j < n → p j = q j) → cnt p n = cnt q n
  | 0, _ => rfl
  | n + 1, h => by
    simp only [cnt]
    rw [cnt_congr n (fun j hj => h j (by omega)), h n (by omega)]
theorem cnt_drop {p q : Nat → Bool} {i : Nat} (hp : p i = true) : ∀ n, i < n → (∀ j, j < n → q j = (p j && decide (j ≠ i))) → cnt q n + 1 = cnt p n
  | 0, h, _ => by omega
  | n + 1, h, hq => by
    simp only [cnt]
    by_cases e : i = n
    · subst e
      rw [hq i (by omega), hp]
      have : cnt q i = cnt p i := cnt_congr i (fun j hj => by rw [hq j (by omega), decide_eq_true (by omega), Bool.and_true])
      rw [this]; simp
    · have ih := cnt_drop hp n (by omega) (fun j hj => hq j (by omega))
      rw [hq n (by omega), decide_eq_true (show n ≠ i by omega), Bool.and_true]; omega
theorem cnt_le (p : Nat → Bool) : ∀ n, cnt p n ≤ n
  | 0 => Nat.le_refl _
  | n + 1 => by
    have := cnt_le p n
    simp only [cnt]
    cases p n <;> simp <;> omega
def opn (o : List Int) (k : Nat) : Bool := !hasB o (k : Int)
def fed (a o : List Int) (k j : Nat) : Bool := (a.getD j 0 == (k : Int)) && opn o j
def redy (a o : List Int) (k : Nat) : Bool := opn o k && decide (cnt (fed a o k) a.length = 0)
theorem opn_app (o : List Int) (i k : Nat) : opn (o ++ [(i : Int)]) k = (opn o k && decide (k ≠ i)) := by
  unfold opn hasB
  rw [List.any_append]
  simp only [List.any_cons, List.any_nil, Bool.or_false, Bool.not_or]
  congr 1
  by_cases e : k = i
  · subst e; simp
  · rw [decide_eq_true e]
    have : ((k : Int) == (i : Int)) = false := by
      rw [beq_eq_false_iff_ne]; omega
    rw [this]; rfl
theorem some_ready (a o : List Int) (hg : goodD a) (hw : walksB a = true) (ho : ∃ k, k < a.length ∧ opn o k = true) : ∃ i, i < a.length ∧ redy a o i = true := by
  rcases first_or (redy a o) a.length with ⟨i, h1, h2, _⟩ | h
  · exact ⟨i, h1, h2⟩
  · exfalso
    have key : ∀ m, ∃ k, k < a.length ∧ opn o k = true ∧ walkB a m (k : Int) = false := by
      intro m
      induction m with
      | zero =>
        obtain ⟨k, h1, h2⟩ := ho
        exact ⟨k, h1, h2, by simp [walkB]⟩
      | succ m ih =>
        obtain ⟨k, h1, h2, h3⟩ := ih
        have hk := h k h1
        unfold redy at hk
        rw [h2, Bool.true_and] at hk
        have hc := of_decide_eq_false hk
        have hj : ∃ j, j < a.length ∧ fed a o k j = true := by
          rcases first_or (fed a o k) a.length with ⟨j, j1, j2, _⟩ | hn
          · exact ⟨j, j1, j2⟩
          · exact absurd ((cnt_zero _ _).2 hn) hc
        obtain ⟨j, j1, j2⟩ := hj
        unfold fed at j2
        rw [Bool.and_eq_true, beq_iff_eq] at j2
        refine ⟨j, j1, j2.2, ?_⟩
        have hn : decide (((j : Nat) : Int) < 0) = false := by simp only [decide_eq_false_iff_not]; omega
        simp only [walkB, hn, cond_false, Int.toNat_natCast, j2.1]
        exact h3
    obtain ⟨k, h1, h2, h3⟩ := key (a.length + 1)
    have := walks_at hw (i := (k : Int)) (by omega) (by omega)
    rw [h3] at this; cases this
def closedO (a o : List Int) : Prop := ∀ t j, t < a.length → j < a.length → opn o t = false → a.getD j 0 = (t : Int) → opn o j = false
theorem P_i9 (a : List Int) (b : List Dam) (c o : List Int) (k : Nat) (y2 y3 y4 y5 : Int) (hn : a.length ≤ 12) (ho : o.length ≤ 12) : iRiver_flowOrder_l9 (k : Int) (opn o k) y2 y3 y4 y5 a (a.length : Int) 0 a b c o = some ((k : Int), redy a o k, y2, y3, y4, y5, a, b, c, o) := by
  have := runL_steps (f := fun s : Bool × Int => (iRiver_flowOrder_l9_t (k : Int) y2 y3 y4 y5 a (a.length : Int) a b c o s.1 s.2).sem) (r := ((k : Int), redy a o k, y2, y3, y4, y5, a, b, c, o)) a.length 0 (fun j => (opn o k && decide (cnt (fed a o k) j = 0), (j : Int))) (fun j _ hj => by
    have hj : j < a.length := by omega
    simp only [iRiver_flowOrder_l9_t, Tr.sem, ltRange hj, zeroLe, Bool.and_self, cond_true, Int.toNat_natCast]
    rw [wrap_id (by omega) (by omega)]
    have hc := Q_contains o (j : Int) (by omega)
    cases h1 : opn o k && decide (cnt (fed a o k) j = 0) with
    | false =>
      have : (opn o k && decide (cnt (fed a o k) (j + 1) = 0)) = false := by
        cases h2 : opn o k with
        | false => rfl
        | true =>
          rw [h2, Bool.true_and] at h1
          rw [Bool.true_and]
          have := of_decide_eq_false h1
          refine decide_eq_false ?_
          simp only [cnt]; omega
      rw [this]; rfl
    | true =>
      rw [Bool.and_eq_true] at h1
      have hz := of_decide_eq_true h1.2
      have e : (opn o k && decide (cnt (fed a o k) (j + 1) = 0)) = !fed a o k j := by
        have hc1 : cnt (fed a o k) (j + 1) = (fed a o k j).toNat := by simp only [cnt]; omega
        rw [h1.1, Bool.true_and, hc1]
        cases fed a o k j <;> rfl
      rw [e]
      simp only [cond_true, hc, osome, oget]
      unfold fed opn
      by_cases e2 : a.getD j 0 = (k : Int)
      · rw [e2]; simp only [bne_self_eq_false, cond_false, beq_self_eq_true, Bool.true_and, Bool.not_not]; rfl
      · have h3 : (a.getD j 0 != (k : Int)) = true := by rw [bne_iff_ne]; exact e2
        have h4 : (a.getD j 0 == (k : Int)) = false := by rw [beq_eq_false_iff_ne]; exact e2
        rw [h3, h4]; rfl) (by
    simp only [Nat.zero_add, iRiver_flowOrder_l9_t, Tr.sem, not_lt_self, cond_false]; rfl)
  simp only [cnt, decide_true, Bool.and_true] at this
  exact this
theorem P_i5 (a : List Int) (b : List Dam) (c o : List Int) (y0 y1 : Int) (i : Nat) (hn : a.length ≤ 12) (ho : o.length ≤ 12) (hi : i < a.length) (hr : redy a o i = true) (hf : ∀ k, k < i → redy a o k = false) :
    iRiver_flowOrder_l5 y0 y1 (a.length : Int) 0 a b c o = some (y0, y1, a, b, c, o ++ [(i : Int)]) := by
  have hfit : decide ((o.length + List.length [(i : Int)]) * 8 ≤ 140737488355328) = true := by simp only [List.length_cons, List.length_nil, decide_eq_true_eq]; omega
  refine runL_steps (f := fun s : Int × Int × Int × Int × List Int × (List (Int × Int × Int × Int)) × List Int × List Int => (iRiver_flowOrder_l5_t s.1 s.2.1 s.2.2.1 s.2.2.2.1 s.2.2.2.2.1 s.2.2.2.2.2.1 s.2.2.2.2.2.2.1 s.2.2.2.2.2.2.2).sem) i 0 (fun k => (y0, y1, (a.length : Int), (k : Int), a, b, c, o)) (fun k _ hk => ?_) ?_
  · have hk : k < i := by omega
    have h9 := P_i9 a b c o k y0 y1 (a.length : Int) (k : Int) hn ho
    unfold opn at h9
    simp only [iRiver_flowOrder_l5_t, Tr.sem, ltRange (show k < a.length by omega), Q_contains o (k : Int) (by omega), h9, osome, oget, cond_true, hf k hk, cond_false]
    rw [wrap_id (by omega) (by omega)]; rfl
  · have h9 := P_i9 a b c o i y0 y1 (a.length : Int) (i : Int) hn ho
    unfold opn at h9
    simp only [Nat.zero_add, iRiver_flowOrder_l5_t, Tr.sem, ltRange hi, Q_contains o (i : Int) (by omega), h9, osome, oget, cond_true, hr, hfit]
/-- Nodes one after another, each behind all that lead to it. -/
inductive OrdS (a : List Int) : List Int → Prop
  | nil : OrdS a []
  | snoc (o : List Int) (i : Nat) : OrdS a o → i < a.length → redy a o i = true → OrdS a (o ++ [(i : Int)])
theorem closed_snoc {a o : List Int} {i : Nat} (hr : redy a o i = true) (hc : closedO a o) : closedO a (o ++ [(i : Int)]) := by
  unfold redy at hr
  rw [Bool.and_eq_true, decide_eq_true_eq] at hr
  have hz := (cnt_zero _ _).1 hr.2
  intro t j ht hj h1 h2
  rw [opn_app] at h1 ⊢
  by_cases e : t = i
  · subst e
    have := hz j hj
    unfold fed at this
    rw [h2] at this
    simp only [beq_self_eq_true, Bool.true_and] at this
    rw [this]; rfl
  · rw [decide_eq_true e, Bool.and_true] at h1
    rw [hc t j ht hj h1 h2]; rfl
theorem OrdS.closed {a o : List Int} (h : OrdS a o) : closedO a o := by
  induction h with
  | nil => intro t j _ _ h _; simp [opn, hasB] at h
  | snoc o i _ hi hr ih => exact closed_snoc hr ih
theorem J_rounds (a : List Int) (b : List Dam) (c : List Int) (hg : goodD a) (hw : walksB a = true) (hn : a.length ≤ 12) : ∀ (m : Nat) (o : List Int), o.length + m = a.length → cnt (opn o) a.length = m → OrdS a o →
    ∃ r, runL (fun s : Int × Int × List Int × (List (Int × Int × Int × Int)) × List Int × List Int => (iRiver_flowOrder_l3_t s.1 s.2.1 s.2.2.1 s.2.2.2.1 s.2.2.2.2.1 s.2.2.2.2.2).sem) ((a.length : Int), (o.length : Int), a, b, c, o) = some r ∧ r.length = a.length ∧ OrdS a r ∧ ∀ k, k < a.length → opn r k = false
  | 0, o, hl, hm, hc => by
    have he : o.length = a.length := by omega
    refine ⟨o, runL_out ?_, he, hc, (cnt_zero _ _).1 hm⟩
    simp only [iRiver_flowOrder_l3_t, Tr.sem, he, not_lt_self, cond_false]
  | m + 1, o, hl, hm, hc => by
    have hop : ∃ k, k < a.length ∧ opn o k = true := by
      rcases first_or (opn o) a.length with ⟨k, k1, k2, _⟩ | h
      · exact ⟨k, k1, k2⟩
      · rw [(cnt_zero _ _).2 h] at hm; omega
    obtain ⟨i0, j1, j2⟩ := some_ready a o hg hw hop
    have hfst : ∃ i, i < a.length ∧ redy a o i = true ∧ ∀ k, k < i → redy a o k = false := by
      rcases first_or (redy a o) a.length with h | h
      · exact h
      · rw [h i0 j1] at j2; cases j2
    obtain ⟨i, hi, hr, hf⟩ := hfst
    have hoi : opn o i = true := by unfold redy at hr; rw [Bool.and_eq_true] at hr; exact hr.1
    have hm' : cnt (opn (o ++ [(i : Int)])) a.length = m := by
      have := cnt_drop (q := opn (o ++ [(i : Int)])) hoi a.length hi (fun j hj => opn_app o i j)
      omega
    have hl' : (o ++ [(i : Int)]).length = o.length + 1 := by simp
    obtain ⟨r, r1, r2, r3⟩ := J_rounds a b c hg hw hn m (o ++ [(i : Int)]) (by omega) hm' (.snoc o i hc hi hr)
    refine ⟨r, (runL_in (s' := ((a.length : Int), ((o ++ [(i : Int)]).length : Int), a, b, c, o ++ [(i : Int)])) ?_).trans r1, r2, r3⟩
    have h5 := P_i5 a b c o (a.length : Int) (o.length : Int) i hn (by omega) hi hr hf
    simp only [iRiver_flowOrder_l3_t, Tr.sem, ltRange (show o.length < a.length by omega), h5, osome, oget, cond_true]
    rw [wrap_id (by omega) (by omega), hl']; rfl
/-- **THE ORDER** of a valid river. -/
theorem J_order (a : List Int) (b : List Dam) (c : List Int) (hv : rivB a b c = true) : ∃ r, iRiver_flowOrder a b c = some r ∧ r.length = a.length ∧ OrdS a r ∧ ∀ k, k < a.length → opn r k = false := by
  obtain ⟨hg, h1, hn, hw, hb, hc⟩ := riv_parts hv
  have h0 : ∀ k, opn [] k = true := fun k => rfl
  have hm : cnt (opn []) a.length = a.length := by
    have : ∀ n, cnt (opn []) n = n := fun n => by
      induction n with
      | zero => rfl
      | succ n ih => simp only [cnt, ih, h0 n]; rfl
    exact this _
  obtain ⟨r, r1, r2, r3, r4⟩ := J_rounds a b c hg hw hn a.length [] (by simp) hm .nil
  refine ⟨r, ?_, r2, r3, r4⟩
  have r1' : iRiver_flowOrder_l3 (a.length : Int) 0 a b c [] = some r := r1
  unfold iRiver_flowOrder iRiver_flowOrder_t
  simp only [r1', Tr.sem, osome, oget, cond_true]
end Go.Proofs.Ytcjekndobhkmbaa
