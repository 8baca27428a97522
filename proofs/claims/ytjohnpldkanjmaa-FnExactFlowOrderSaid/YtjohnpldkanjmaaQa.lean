/- Rivers: what laws copy, compare and mark; which rivers are valid. -/
import Derived.Test.YtjohnpldkanjmaaPa
import Derived.Test.YtjohnpldkanjmaaGb1d
set_option linter.unusedVariables false
set_option linter.unusedSimpArgs false
set_option linter.constructorNameAsVariable false
namespace Go.Proofs.Ytjohnpldkanjmaa
open Go.RowKit
set_option maxRecDepth 100000
abbrev Dam := Int × Int × Int × Int
/-! ### Copies -/
theorem q_fold_set {α : Type} : ∀ (xs ys : List α) (k : Nat) (pre : List α), pre.length = k → ys.length = xs.length → foldE (fun k (t : List α) x => (.inl (t.set k x) : List α ⊕ List α)) id k (pre ++ ys) xs = pre ++ xs
  | [], ys, k, pre, hp, hl => by
    have : ys = [] := List.length_eq_zero_iff.1 (by simpa using hl)
    subst this; rfl
  | x :: xs, [], k, pre, hp, hl => by simp at hl
  | x :: xs, y :: ys, k, pre, hp, hl => by
    simp only [foldE]
    have e : (pre ++ y :: ys).set k x = (pre ++ [x]) ++ ys := by
      rw [List.set_append_right _ _ (by omega), show k - pre.length = 0 from by omega, List.set_cons_zero, List.append_assoc]; rfl
    rw [e, q_fold_set xs ys (k + 1) (pre ++ [x]) (by simp [hp]) (by simpa using hl), List.append_assoc]; rfl
theorem run_copy {α : Type} {f : Int × List α → Option ((Int × List α) ⊕ List α)} (xs ys : List α) (hl : ys.length = xs.length) (hb : xs.length ≤ 9223372036854775806)
    (hf : ∀ (k : Nat) (t : List α) (x : α), k < xs.length → t.length = xs.length → xs[k]? = some x → f ((k : Int), t) = some (.inl (IntKind.wrap .i64 ((k : Int) + 1), t.set k x)))
    (he : ∀ t : List α, f ((xs.length : Nat), t) = some (.inr t)) : runL f (0, ys) = some xs := by
  have h := runL_for (f := f) xs (fun k (t : List α) => ((k : Int), t)) (fun k t x => .inl (t.set k x)) id (fun _ t => t.length = xs.length) ys hl (fun k t x hi hk hx => by
    rw [hf k t x hk hi hx, wrap_id (by omega) (by omega)]; rfl) (fun k t x t' hi hk hx e => by cases e; simpa using hi) (fun t _ => he t)
  have e := q_fold_set xs ys 0 [] rfl hl
  simp only [List.nil_append] at e
  rw [e] at h
  exact h
theorem mk8 {n : Nat} (h : n ≤ 1048576) : (decide (((n : Nat) : Int) = ((n : Nat) : Int)) && decide (0 ≤ ((n : Nat) : Int)) && decide (((n : Nat) : Int) * ((8 : Nat) : Int) ≤ 140737488355328)) = true := by
  simp only [decide_true, Bool.true_and, Bool.and_eq_true, decide_eq_true_eq]; omega
theorem mk32 {n : Nat} (h : n ≤ 1048576) : (decide (((n : Nat) : Int) = ((n : Nat) : Int)) && decide (0 ≤ ((n : Nat) : Int)) && decide (((n : Nat) : Int) * ((32 : Nat) : Int) ≤ 140737488355328)) = true := by
  simp only [decide_true, Bool.true_and, Bool.and_eq_true, decide_eq_true_eq]; omega
theorem Q_to (xs : List Int) (h : xs.length ≤ 1048576) : wtoInt64S xs = some xs := by
  unfold wtoInt64S wtoInt64S_t
  have h1 : wtoInt64S_l3 xs 0 (List.replicate (Int.toNat ((xs.length : Nat) : Int)) 0) = some xs := by
    unfold wtoInt64S_l3
    refine run_copy xs _ (by simp) (by omega) (fun k t x hk ht hx => ?_) (fun t => by simp only [wtoInt64S_l3_t, Tr.sem, not_lt_self, cond_false])
    simp only [wtoInt64S_l3_t, Tr.sem, ltRange hk, zeroLe, Bool.and_self, ltRange (show k < t.length by omega), cond_true, Int.toNat_natCast, getD_at hx]
  refine (brT (mk8 h)).trans ?_
  simp only [Tr.sem, h1, osome, oget, cond_true]
theorem Q_toDam (a b c d : Int) : wtoDam a b c d = (a, b, c, d) := rfl
theorem Q_toD (xs : List Dam) (h : xs.length ≤ 1048576) : wtoDamS xs = some xs := by
  unfold wtoDamS wtoDamS_t
  have h1 : wtoDamS_l3 xs 0 (List.replicate (Int.toNat ((xs.length : Nat) : Int)) (0, 0, 0, 0)) = some xs := by
    unfold wtoDamS_l3
    refine run_copy xs _ (by simp) (by omega) (fun k t x hk ht hx => ?_) (fun t => by simp only [wtoDamS_l3_t, Tr.sem, not_lt_self, cond_false])
    simp only [wtoDamS_l3_t, Tr.sem, ltRange hk, zeroLe, Bool.and_self, ltRange (show k < t.length by omega), cond_true, Int.toNat_natCast, getD_at hx, Q_toDam]
  refine (brT (mk32 h)).trans ?_
  simp only [Tr.sem, h1, osome, oget, cond_true]
theorem Q_toR (a : List Int) (b : List Dam) (c : List Int) (ha : a.length ≤ 1048576) (hb : b.length ≤ 1048576) (hc : c.length ≤ 1048576) : wtoRiver a b c = some (a, b, c) := by
  unfold wtoRiver wtoRiver_t
  simp only [Q_to a ha, Q_toD b hb, Q_to c hc, Tr.sem, osome, oget, cond_true]
/-! ### The same lists -/
theorem Q_eq (xs : List Int) (h : xs.length ≤ 1048576) : weqInt64S xs xs = some true := by
  unfold weqInt64S weqInt64S_t
  have h1 : weqInt64S_l4 xs xs 0 = some (.inr ()) := by
    unfold weqInt64S_l4
    have := run_all (f := fun s => (weqInt64S_l4_t xs xs s).sem) xs 0 (fun _ => true) (.inl ()) (.inr ()) (by omega) (fun k hk x hx => by
      simp only [weqInt64S_l4_t, Tr.sem, ltRange hk, zeroLe, Bool.and_self, cond_true, bne_self_eq_false, cond_false]) (by simp only [weqInt64S_l4_t, Tr.sem, not_lt_self, cond_false])
    rw [all_true] at this
    exact this
  simp only [Tr.sem, bne_self_eq_false, cond_false, h1, osome, oget, isL, cond_true]
theorem Q_eqDam (a b c d : Int) : weqDam a b c d a b c d = true := by
  unfold weqDam weqDam_t
  simp [Tr.val]
theorem Q_eqD (xs : List Dam) (h : xs.length ≤ 1048576) : weqDamS xs xs = some true := by
  unfold weqDamS weqDamS_t
  have h1 : weqDamS_l4 xs xs 0 = some (.inr ()) := by
    unfold weqDamS_l4
    have := run_all (f := fun s => (weqDamS_l4_t xs xs s).sem) xs (0, 0, 0, 0) (fun _ => true) (.inl ()) (.inr ()) (by omega) (fun k hk x hx => by
      simp only [weqDamS_l4_t, Tr.sem, ltRange hk, zeroLe, Bool.and_self, cond_true, Q_eqDam, Bool.not_true, cond_false]) (by simp only [weqDamS_l4_t, Tr.sem, not_lt_self, cond_false])
    rw [all_true] at this
    exact this
  simp only [Tr.sem, bne_self_eq_false, cond_false, h1, osome, oget, isL, cond_true]
theorem Q_eqR (a : List Int) (b : List Dam) (c : List Int) (ha : a.length ≤ 1048576) (hb : b.length ≤ 1048576) (hc : c.length ≤ 1048576) : weqRiver a b c a b c = some true := by
  unfold weqRiver weqRiver_t
  simp only [Q_eq a ha, Q_eqD b hb, Q_eq c hc, Tr.sem, osome, oget, cond_true, Bool.not_true, cond_false]
/-! ### Sizes -/
theorem Q_left {n : Nat} {m : Int} (h0 : 0 ≤ m) (hm : m ≤ 1048576) (hn : n ≤ 9223372036854775807) : IntKind.wrap .i64 (m - (n : Int)) = m - n := wrap_id (by omega) (by omega)
theorem Q_sz (xs : List Int) (m : Int) (h0 : 0 ≤ m) (hm : m ≤ 1048576) (hn : xs.length ≤ 9223372036854775807) : wszInt64S xs m = if m - xs.length < 0 then -1 else m - xs.length := by
  unfold wszInt64S wszInt64S_t
  simp only [Tr.val, Q_left h0 hm hn]
  by_cases h : m - (xs.length : Int) < 0 <;> simp [h]
theorem Q_szD (xs : List Dam) (m : Int) (h0 : 0 ≤ m) (hm : m ≤ 1048576) (hn : xs.length ≤ 9223372036854775807) : wszDamS xs m = if m - xs.length < 0 then -1 else m - xs.length := by
  unfold wszDamS wszDamS_t
  simp only [Tr.val, Q_left h0 hm hn]
  by_cases h : m - (xs.length : Int) < 0 <;> simp [h]
theorem Q_szR (a : List Int) (b : List Dam) (c : List Int) (m : Int) (h0 : 0 ≤ m) (hm : m ≤ 1048576) (ha : a.length ≤ 9223372036854775807) (hb : b.length ≤ 9223372036854775807) (hc : c.length ≤ 9223372036854775807) (h : decide (wszRiver a b c m < 0) = false) :
    wszRiver a b c m = m - a.length - b.length - c.length ∧ (a.length : Int) + b.length + c.length ≤ m := by
  unfold wszRiver wszRiver_t at *
  simp only [Tr.val] at *
  rw [Q_sz a m h0 hm ha] at *
  by_cases h1 : m - (a.length : Int) < 0
  · simp [h1] at h
  rw [if_neg h1] at *
  rw [Q_szD b _ (by omega) (by omega) hb] at *
  by_cases h2 : m - (a.length : Int) - b.length < 0
  · simp [h1, h2] at h
  rw [if_neg h2] at *
  rw [Q_sz c _ (by omega) (by omega) hc] at *
  by_cases h3 : m - (a.length : Int) - b.length - c.length < 0
  · simp [h1, h2, h3] at h
  rw [if_neg h3] at *
  simp only [h1, h2, h3, decide_false, cond_false]
  exact ⟨trivial, by omega⟩
/-! ### Tests of lists -/
def win (lo hi n : Int) : Bool := decide (lo ≤ n) && decide (n ≤ hi)
theorem Q_within (n lo hi : Int) : iwithin n lo hi = win lo hi n := by
  unfold iwithin iwithin_t win
  cases h : decide (lo ≤ n) <;> simp [Tr.val, h]
theorem Q_in (n lo hi : Int) : sl00In n lo hi = win lo hi n := by
  unfold sl00In sl00In_t win
  cases h : decide (n ≥ lo) <;> simp_all [Tr.val]
theorem Q_are (xs : List Int) (lo hi : Int) (hl : xs.length ≤ 9223372036854775807) : iareWithin xs lo hi = some (xs.all (win lo hi)) := by
  have h0 := run_idx (f := fun s => (lIndexFunc_iareWithin_1_l2_t xs lo hi xs.length s).sem) xs (fun x => !(win lo hi x)) hl (fun k hk x hx => by
    simp only [lIndexFunc_iareWithin_1_l2_t, Tr.sem, ltRange hk, zeroLe, Bool.and_self, Int.toNat_natCast, getD_at hx, cond_true, iareWithin_1, iareWithin_1_t, Tr.val, Q_within]
    cases win lo hi x <;> rfl) (by simp only [lIndexFunc_iareWithin_1_l2_t, Tr.sem, not_lt_self, cond_false])
  have h1 : lIndexFunc_iareWithin_1 xs lo hi = some (idxI (fstIdx (fun x => !(win lo hi x)) 0 xs)) := idx_tree h0
  have h2 : lContainsFunc_iareWithin_1 xs lo hi = some (xs.any fun x => !(win lo hi x)) := has_tree h1
  have h3 : iareWithin xs lo hi = _ := not_tree h2
  rw [h3, not_any]
def unitB (n : Int) : Bool := win 0 1000000000 n
def damB (d : Dam) : Bool := unitB d.1 && win 0 d.1 d.2.1 && unitB d.2.2.1 && win 0 d.1 d.2.2.2
theorem Q_unit (n : Int) : sl06Unit n = unitB n := by
  unfold sl06Unit sl06Unit_t
  simp only [Tr.val, Q_in]; rfl
theorem Q_dam (a b c d : Int) : sl06Dam a b c d = damB (a, b, c, d) := by
  unfold sl06Dam sl06Dam_t damB
  simp only [Tr.val, Q_in, Q_unit]
  cases unitB a <;> cases win 0 a b <;> cases unitB c <;> cases win 0 a d <;> rfl
theorem Q_idam (a b c d : Int) : iisDam a b c d = some (damB (a, b, c, d)) := by
  unfold iisDam iisDam_t damB unitB
  simp only [Q_are [a, c] _ _ (by simp), Q_are [b, d] _ _ (by simp), Tr.sem, osome, oget, cond_true, List.all_cons, List.all_nil, Bool.and_true]
  cases win 0 1000000000 a <;> cases win 0 a b <;> cases win 0 1000000000 c <;> cases win 0 a d <;> rfl
theorem Q_dams (xs : List Dam) (hl : xs.length ≤ 9223372036854775807) : lContainsFunc_iValidRiver_1 xs = some (!xs.all damB) := by
  have h0 := run_idx (f := fun s => (lIndexFunc_iValidRiver_1_l2_t xs xs.length s).sem) xs (fun x => !(damB x)) hl (fun k hk x hx => by
    simp only [lIndexFunc_iValidRiver_1_l2_t, Tr.sem, ltRange hk, zeroLe, Bool.and_self, Int.toNat_natCast, getD_at hx, cond_true, iValidRiver_1, iValidRiver_1_t, Q_idam, osome, oget]
    cases damB x <;> rfl) (by simp only [lIndexFunc_iValidRiver_1_l2_t, Tr.sem, not_lt_self, cond_false])
  have h1 : lIndexFunc_iValidRiver_1 xs = some (idxI (fstIdx (fun x => !(damB x)) 0 xs)) := idx_tree h0
  have h2 : lContainsFunc_iValidRiver_1 xs = some (xs.any fun x => !(damB x)) := has_tree h1
  rw [h2, ← not_any, Bool.not_not]
/-! ### Walks -/
def walkB (xs : List Int) : Nat → Int → Bool
  | 0, a => decide (a < 0)
  | n + 1, a => bif decide (a < 0) then true else walkB xs n (xs.getD a.toNat 0)
def goodD (xs : List Int) : Prop := ∀ (k : Nat) (x : Int), xs[k]? = some x → -1 ≤ x ∧ x < xs.length
theorem goodD_at {xs : List Int} (h : goodD xs) {k : Nat} (hk : k < xs.length) : -1 ≤ xs.getD k 0 ∧ xs.getD k 0 < xs.length := by
  have := h k xs[k] (List.getElem?_eq_getElem hk)
  simpa [List.getD, List.getElem?_eq_getElem hk] using this
theorem inR {a : Int} {n : Nat} (h0 : 0 ≤ a) (h1 : a < n) : (decide (0 ≤ a) && decide (a < (n : Int))) = true := by simp; omega
theorem run_walk {ρ : Type} {f : Int × Int → Option ((Int × Int) ⊕ (Unit ⊕ ρ))} {xs : List Int} (hg : goodD xs) (hn : xs.length ≤ 12) (e : ρ)
    (hf : ∀ (a s : Int), 0 ≤ s → s ≤ 14 → -1 ≤ a → a < xs.length → f (a, s) = some (bif decide (a ≥ 0) then (bif decide (s > xs.length) then .inr (.inl ()) else .inl (xs.getD a.toNat 0, IntKind.wrap .i64 (s + 1))) else .inr (.inr e))) :
    ∀ (j : Nat) (a : Int), j ≤ xs.length + 1 → -1 ≤ a → a < xs.length → runL f (a, ((xs.length + 1 - j : Nat) : Int)) = some (bif walkB xs j a then .inr e else .inl ())
  | 0, a, hj, h1, h2 => by
    rw [runL_eq, hf a _ (by omega) (by omega) h1 h2]
    simp only [walkB, Nat.sub_zero]
    by_cases h : a ≥ 0
    · have h' : ¬ a < 0 := by omega
      simp only [h, h', decide_true, decide_false, cond_true, cond_false, show ((xs.length + 1 : Nat) : Int) > (xs.length : Int) from by omega]
    · have h' : a < 0 := by omega
      simp only [h, h', decide_true, decide_false, cond_true, cond_false]
  | j + 1, a, hj, h1, h2 => by
    rw [runL_eq, hf a _ (by omega) (by omega) h1 h2]
    simp only [walkB]
    by_cases h : a ≥ 0
    · have h' : ¬ a < 0 := by omega
      have hs : ¬ (((xs.length + 1 - (j + 1) : Nat) : Int) > (xs.length : Int)) := by omega
      simp only [h, h', hs, decide_true, decide_false, cond_true, cond_false]
      obtain ⟨g1, g2⟩ := goodD_at hg (show a.toNat < xs.length by omega)
      rw [wrap_id (by omega) (by omega), show ((xs.length + 1 - (j + 1) : Nat) : Int) + 1 = ((xs.length + 1 - j : Nat) : Int) from by omega]
      exact run_walk hg hn e hf j _ (by omega) g1 g2
    · have h' : a < 0 := by omega
      simp only [h, h', decide_true, decide_false, cond_true, cond_false]
/-- A test of every number below n. -/
theorem run_upto {ρ σ : Type} {f : σ → Option (σ ⊕ ρ)} (mk : Int → σ) (n : Nat) (hn : n ≤ 9223372036854775806) (p : Nat → Bool) (r e : ρ)
    (hf : ∀ k : Nat, k < n → f (mk k) = some (bif p k then .inl (mk (IntKind.wrap .i64 ((k : Int) + 1))) else .inr r)) (he : f (mk n) = some (.inr e)) : runL f (mk 0) = some (bif (List.range n).all p then e else r) := by
  have h := runL_for (f := f) (List.range n) (fun k (_ : Unit) => mk (k : Int)) (fun _ _ x => bif p x then .inl () else .inr r) (fun _ => e) (fun _ _ => True) () trivial (fun k t x _ hk hx => by
    have hk' : k < n := by simpa using hk
    have : x = k := by rw [List.getElem?_range hk'] at hx; cases hx; rfl
    subst this
    rw [hf x hk', wrap_id (by omega) (by omega)]
    cases p x <;> rfl) (fun _ _ _ _ _ _ _ _ => trivial) (fun _ _ => by simpa using he)
  rw [foldE_all] at h
  exact h
theorem all_range {α : Type} (xs : List α) (d : α) (p : α → Bool) : (List.range xs.length).all (fun i => p (xs.getD i d)) = xs.all p := by
  induction xs with
  | nil => rfl
  | cons x xs ih =>
    rw [List.length_cons, List.range_succ_eq_map, List.all_cons, List.all_map, List.all_cons, ← ih]
    rfl
theorem all_and {α : Type} (xs : List α) (p q : α → Bool) : xs.all (fun i => p i && q i) = (xs.all p && xs.all q) := by
  induction xs with
  | nil => rfl
  | cons x xs ih => simp only [List.all_cons, ih]; cases p x <;> cases q x <;> cases xs.all p <;> cases xs.all q <;> rfl
/-! ### Valid rivers -/
def walksB (xs : List Int) : Bool := (List.range xs.length).all fun i => walkB xs (xs.length + 1) i
def rivB (a : List Int) (b : List Dam) (c : List Int) : Bool := win 1 12 a.length && decide (b.length = a.length) && decide (c.length = a.length) && (a.all (win (-1) ((a.length : Int) - 1)) && c.all (win 0 1000000000) && b.all damB) && walksB a
theorem goodD_of {a : List Int} (h : a.all (win (-1) ((a.length : Int) - 1)) = true) : goodD a := fun k x hx => by
  have := List.all_eq_true.1 h x (List.mem_of_getElem? hx)
  simp only [win, Bool.and_eq_true, decide_eq_true_eq] at this
  omega
theorem Q_valid (a : List Int) (b : List Dam) (c : List Int) (hb : b.length ≤ 9223372036854775807) (hc : c.length ≤ 9223372036854775807) : iValidRiver a b c = some (rivB a b c) := by
  unfold iValidRiver iValidRiver_t rivB
  simp only [Q_within, Tr.sem]
  cases hw : win 1 12 (a.length : Int) with
  | false => simp [Tr.sem]
  | true =>
  have hn : 1 ≤ a.length ∧ a.length ≤ 12 := by simp only [win, Bool.and_eq_true, decide_eq_true_eq] at hw; omega
  by_cases h1 : b.length = a.length
  case neg =>
    have : (((b.length : Nat) : Int) != ((a.length : Nat) : Int)) = true := by simp; omega
    simp [this, h1, Tr.sem]
  by_cases h2 : c.length = a.length
  case neg =>
    have : (((c.length : Nat) : Int) != ((a.length : Nat) : Int)) = true := by simp; omega
    simp [this, h1, h2, Tr.sem]
  have e1 : (((b.length : Nat) : Int) != ((a.length : Nat) : Int)) = false := by simp; omega
  have e2 : (((c.length : Nat) : Int) != ((a.length : Nat) : Int)) = false := by simp; omega
  rw [wrap_id (by omega) (by omega)]
  simp only [e1, e2, h1, h2, Q_are a _ _ (by omega), Q_are c _ _ hc, Q_dams b hb, osome, oget, cond_true, cond_false, Bool.not_true, Bool.not_false, decide_true, Bool.true_and, bne_self_eq_false]
  cases hA : a.all (win (-1) ((a.length : Int) - 1)) with
  | false => simp
  | true =>
  cases hC : c.all (win 0 1000000000) with
  | false => simp
  | true =>
  cases hB : b.all damB with
  | false => simp
  | true =>
  simp only [Bool.not_true, Bool.not_false, cond_true, cond_false, Bool.true_and, Bool.false_and]
  have hg := goodD_of hA
  have hl9 : ∀ (k : Nat), k < a.length → iValidRiver_l9 (a.length : Nat) k 0 (a.length : Nat) k a b c = some (bif walkB a (a.length + 1) k then .inr ((a.length : Nat), (a.length : Nat), k, a, b, c) else .inl ()) := fun k hk => by
    have := run_walk (f := fun s => (iValidRiver_l9_t (a.length : Nat) (a.length : Nat) k a b c s.1 s.2).sem) hg hn.2 (((a.length : Nat) : Int), ((a.length : Nat) : Int), (k : Int), a, b, c) (fun x s hs0 hs1 hx0 hx1 => by
      simp only [iValidRiver_l9_t, Tr.sem]
      by_cases h : x ≥ 0
      · simp only [h, decide_true, cond_true]
        by_cases h' : s > (a.length : Int)
        · simp only [h', decide_true, cond_true]
        · simp only [h', decide_false, cond_false, decide_eq_true hx1, Bool.and_self, cond_true]
      · simp only [h, decide_false, cond_false]) (a.length + 1) k (Nat.le_refl _) (by omega) (by omega)
    rw [Nat.sub_self] at this
    exact this
  have hl5 : iValidRiver_l5 (a.length : Nat) (a.length : Nat) 0 a b c = some (bif walksB a then .inr () else .inl ()) := by
    refine run_upto (f := fun s => (iValidRiver_l5_t s.1 s.2.1 s.2.2.1 s.2.2.2.1 s.2.2.2.2.1 s.2.2.2.2.2).sem) (fun k => (((a.length : Nat) : Int), ((a.length : Nat) : Int), k, a, b, c)) a.length (by omega) (fun i => walkB a (a.length + 1) i) (.inl ()) (.inr ()) (fun k hk => ?_) (by simp only [iValidRiver_l5_t, Tr.sem, not_lt_self, cond_false])
    simp only [iValidRiver_l5_t, Tr.sem, ltRange hk, hl9 k hk, osome, oget, cond_true]
    cases walkB a (a.length + 1) k <;> rfl
  simp only [hl5, osome, oget, cond_true]
  cases walksB a <;> rfl
theorem Q_is (a : List Int) (b : List Dam) (c : List Int) : sl06Is a b c = some (rivB a b c) := by
  unfold sl06Is sl06Is_t rivB
  by_cases h0 : (a.length : Int) < 1
  · have : win 1 12 (a.length : Int) = false := by simp only [win, Bool.and_eq_false_iff, decide_eq_false_iff_not]; omega
    simp [Tr.sem, h0, this]
  by_cases h9 : (a.length : Int) > 12
  · have : win 1 12 (a.length : Int) = false := by simp only [win, Bool.and_eq_false_iff, decide_eq_false_iff_not]; omega
    simp [Tr.sem, h0, h9, this]
  have hw : win 1 12 (a.length : Int) = true := by simp only [win, Bool.and_eq_true, decide_eq_true_eq]; omega
  have hn : 1 ≤ a.length ∧ a.length ≤ 12 := by omega
  by_cases h1 : b.length = a.length
  case neg =>
    have : (((b.length : Nat) : Int) != ((a.length : Nat) : Int)) = true := by simp; omega
    simp [this, h0, h9, h1, Tr.sem]
  by_cases h2 : c.length = a.length
  case neg =>
    have : (((c.length : Nat) : Int) != ((a.length : Nat) : Int)) = true := by simp; omega
    simp [this, h0, h9, h1, h2, Tr.sem]
  have e1 : (((b.length : Nat) : Int) != ((a.length : Nat) : Int)) = false := by simp; omega
  have e2 : (((c.length : Nat) : Int) != ((a.length : Nat) : Int)) = false := by simp; omega
  have hl5 : sl06Is_l5 a b c (a.length : Nat) 0 = some (bif (a.all (win (-1) ((a.length : Int) - 1)) && c.all (win 0 1000000000) && b.all damB) then .inr (a, b, c, (a.length : Nat)) else .inl ()) := by
    have := run_upto (f := fun s => (sl06Is_l5_t a b c (a.length : Nat) s).sem) (fun k => k) a.length (by omega) (fun i => win (-1) ((a.length : Int) - 1) (a.getD i 0) && win 0 1000000000 (c.getD i 0) && damB (b.getD i (0, 0, 0, 0))) (.inl ()) (.inr (a, b, c, ((a.length : Nat) : Int))) (fun k hk => by
      simp only [sl06Is_l5_t, Tr.sem, ltRange hk, zeroLe, Bool.and_self, ltRange (show k < b.length by omega), ltRange (show k < c.length by omega), Int.toNat_natCast, cond_true, Q_in, Q_dam, Q_unit]
      rw [wrap_id (n := (a.length : Int) - 1) (by omega) (by omega)]
      cases win (-1) ((a.length : Int) - 1) (a.getD k 0) <;> cases damB (b.getD k (0, 0, 0, 0)) <;> simp only [unitB] <;> cases win 0 1000000000 (c.getD k 0) <;> rfl) (by simp only [sl06Is_l5_t, Tr.sem, not_lt_self, cond_false])
    rw [all_and, all_and, all_range, show (List.range a.length).all (fun i => win 0 1000000000 (c.getD i 0)) = c.all (win 0 1000000000) from by rw [← h2]; exact all_range c 0 (win 0 1000000000), show (List.range a.length).all (fun i => damB (b.getD i (0, 0, 0, 0))) = b.all damB from by rw [← h1]; exact all_range b (0, 0, 0, 0) damB] at this
    exact this
  simp only [Tr.sem, h0, h9, e1, e2, h1, h2, hw, hl5, osome, oget, decide_true, decide_false, cond_true, cond_false, Bool.true_and, bne_self_eq_false]
  cases hA : (a.all (win (-1) ((a.length : Int) - 1)) && c.all (win 0 1000000000) && b.all damB) with
  | false => simp [isL]
  | true =>
  simp only [cond_true, cond_false, isL, unR, Bool.true_and]
  simp only [Bool.and_eq_true] at hA
  have hg := goodD_of hA.1.1
  have hl14 : ∀ (k : Nat), k < a.length → sl06Is_l14 a b c (a.length : Nat) k k 0 = some (bif walkB a (a.length + 1) k then .inr (a, b, c, (a.length : Nat), k) else .inl ()) := fun k hk => by
    have := run_walk (f := fun s => (sl06Is_l14_t a b c (a.length : Nat) k s.1 s.2).sem) hg hn.2 (a, b, c, ((a.length : Nat) : Int), (k : Int)) (fun x s hs0 hs1 hx0 hx1 => by
      simp only [sl06Is_l14_t, Tr.sem]
      by_cases h : x ≥ 0
      · simp only [h, decide_true, cond_true]
        by_cases h' : s > (a.length : Int)
        · simp only [h', decide_true, cond_true]
        · simp only [h', decide_false, cond_false, decide_eq_true hx1, Bool.and_self, cond_true]
      · simp only [h, decide_false, cond_false]) (a.length + 1) k (Nat.le_refl _) (by omega) (by omega)
    rw [Nat.sub_self] at this
    exact this
  have hl10 : sl06Is_l10 a b c (a.length : Nat) 0 = some (bif walksB a then .inr () else .inl ()) := by
    refine run_upto (f := fun s => (sl06Is_l10_t s.1 s.2.1 s.2.2.1 s.2.2.2.1 s.2.2.2.2).sem) (fun k => (a, b, c, ((a.length : Nat) : Int), k)) a.length (by omega) (fun i => walkB a (a.length + 1) i) (.inl ()) (.inr ()) (fun k hk => ?_) (by simp only [sl06Is_l10_t, Tr.sem, not_lt_self, cond_false])
    simp only [sl06Is_l10_t, Tr.sem, ltRange hk, hl14 k hk, osome, oget, cond_true]
    cases walkB a (a.length + 1) k <;> rfl
  simp only [hl10, osome, oget, cond_true]
  cases walksB a <;> rfl
end Go.Proofs.Ytjohnpldkanjmaa
