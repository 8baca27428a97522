/- Rivers: marks; what is stored in one; which of its nodes lead out. -/
import Derived.Test.YtjohnpldkanjmaaQa
import Derived.Test.YtjohnpldkanjmaaGb2d
set_option linter.unusedVariables false
set_option linter.unusedSimpArgs false
set_option linter.constructorNameAsVariable false
namespace Go.Proofs.Ytjohnpldkanjmaa
open Go.RowKit
set_option maxRecDepth 100000
/-! ### Marks -/
def seqI : Int → Nat → List Int
  | _, 0 => []
  | k, n + 1 => k :: seqI (k + 1) n
theorem seqI_len : ∀ (n : Nat) (k : Int), (seqI k n).length = n
  | 0, _ => rfl
  | n + 1, k => by simp [seqI, seqI_len n]
theorem seqI_get : ∀ (n : Nat) (k : Int) (j : Nat), j < n → (seqI k n)[j]? = some (k + j)
  | 0, _, j, h => by omega
  | n + 1, k, 0, h => by simp [seqI]
  | n + 1, k, j + 1, h => by
    simp only [seqI, List.getElem?_cons_succ]
    rw [seqI_get n (k + 1) j (by omega)]
    congr 1; omega
theorem q_fold_mark (m : Int) : ∀ (xs ys : List Int) (k : Nat) (pre : List Int), pre.length = k → ys.length = xs.length → foldE (fun k (t : List Int) (x : Int) => (.inl (t.set k (m + k)) : List Int ⊕ List Int)) id k (pre ++ ys) xs = pre ++ seqI (m + k) xs.length
  | [], ys, k, pre, hp, hl => by
    have : ys = [] := List.length_eq_zero_iff.1 (by simpa using hl)
    subst this; rfl
  | x :: xs, [], k, pre, hp, hl => by simp at hl
  | x :: xs, y :: ys, k, pre, hp, hl => by
    simp only [foldE]
    have e : (pre ++ y :: ys).set k (m + k) = (pre ++ [m + (k : Int)]) ++ ys := by
      rw [List.set_append_right _ _ (by omega), show k - pre.length = 0 from by omega, List.set_cons_zero, List.append_assoc]; rfl
    rw [e, q_fold_mark m xs ys (k + 1) (pre ++ [m + (k : Int)]) (by simp [hp]) (by simpa using hl), List.append_assoc, show m + ((k + 1 : Nat) : Int) = m + k + 1 from by omega]; rfl
theorem Q_mark (xs : List Int) (h : xs.length ≤ 1048576) : wmarkInt64S 1 xs = some (1 + (xs.length : Int), seqI 1 xs.length) := by
  unfold wmarkInt64S wmarkInt64S_t
  have h1 : wmarkInt64S_l2 1 0 xs = some (1 + (xs.length : Int), seqI 1 xs.length) := by
    unfold wmarkInt64S_l2
    have := runL_for (f := fun s : Int × Int × List Int => (wmarkInt64S_l2_t s.1 s.2.1 s.2.2).sem) xs (fun k (t : List Int) => (1 + (k : Int), (k : Int), t)) (fun k t x => .inl (t.set k (1 + (k : Int)))) (fun t => (1 + (xs.length : Int), t)) (fun _ t => t.length = xs.length) xs rfl (fun k t x hi hk hx => by
      simp only [wmarkInt64S_l2_t, Tr.sem, ltRange (show k < t.length by omega), zeroLe, Bool.and_self, cond_true, Int.toNat_natCast]
      rw [wrap_id (by omega) (by omega), wrap_id (by omega) (by omega)]
      simp only [Int.natCast_add, Int.add_assoc]; rfl) (fun k t x t' hi hk hx e => by cases e; simpa using hi) (fun t hi => by
      simp only [wmarkInt64S_l2_t, Tr.sem]
      rw [hi, not_lt_self]; rfl)
    have e := q_fold_mark 1 xs xs 0 [] rfl rfl
    have key : ∀ (ys : List Int) (k : Nat) (t : List Int), foldE (fun k (t : List Int) (x : Int) => (.inl (t.set k (1 + (k : Int))) : List Int ⊕ (Int × List Int))) (fun t => (1 + (xs.length : Int), t)) k t ys = (1 + (xs.length : Int), foldE (fun k (t : List Int) (x : Int) => (.inl (t.set k (1 + k)) : List Int ⊕ List Int)) id k t ys) := by
      intro ys
      induction ys with
      | nil => intro k t; rfl
      | cons y ys ih => intro k t; simp only [foldE]; exact ih _ _
    rw [key] at this
    simp only [List.nil_append] at e
    rw [e] at this
    exact this
  simp only [Tr.sem, h1, osome, oget, cond_true]
theorem Q_held (n : Nat) (h : n ≤ 1048576) : wheldInt64S (seqI 1 n) 1 = some (1 + (n : Int)) := by
  unfold wheldInt64S wheldInt64S_t
  have h1 : wheldInt64S_l2 (seqI 1 n) 1 0 = some (.inr (1 + (n : Int))) := by
    unfold wheldInt64S_l2
    have := runL_for (f := fun s : Int × Int => (wheldInt64S_l2_t (seqI 1 n) s.1 s.2).sem) (seqI 1 n) (fun k (_ : Unit) => (1 + (k : Int), (k : Int))) (fun k t x => (.inl () : Unit ⊕ (Int ⊕ Int))) (fun t => .inr (1 + (n : Int))) (fun _ _ => True) () trivial (fun k t x _ hk hx => by
      have hk' : k < n := by rw [seqI_len] at hk; exact hk
      have hx' := seqI_get n 1 k hk'
      rw [hx] at hx'
      cases hx'
      simp only [wheldInt64S_l2_t, Tr.sem, ltRange hk, zeroLe, Bool.and_self, cond_true, Int.toNat_natCast, getD_at hx, bne_self_eq_false, cond_false]
      rw [wrap_id (by omega) (by omega), wrap_id (by omega) (by omega)]
      simp only [Int.natCast_add, Int.add_assoc]; rfl) (fun _ _ _ _ _ _ _ _ => trivial) (fun _ _ => by
      simp only [wheldInt64S_l2_t, Tr.sem, not_lt_self, cond_false, seqI_len])
    have key : ∀ (ys : List Int) (k : Nat), foldE (fun k (t : Unit) (x : Int) => (.inl () : Unit ⊕ (Int ⊕ Int))) (fun t => .inr (1 + (n : Int))) k () ys = .inr (1 + (n : Int)) := by
      intro ys
      induction ys with
      | nil => intro k; rfl
      | cons y ys ih => intro k; simp only [foldE]; exact ih _
    rw [key] at this
    exact this
  simp only [Tr.sem, h1, osome, oget, cond_true, isL, unR, cond_false]
theorem Q_nil : wmarkInt64S_nil 1 = some 1 := by
  unfold wmarkInt64S_nil wmarkInt64S_nil_t wmarkInt64S_nil_l2
  rw [runL_eq]
  rfl
theorem Q_heldnil : wheldInt64S [] 1 = some 1 := Q_held 0 (by omega)
theorem Q_eqnil : weqInt64S [] [] = some true := Q_eq [] (by simp)
/-- The marks of a river's dams: there are some. -/
theorem Q_markD (k : Int) (xs : List Dam) (h : xs.length ≤ 1048576) (h0 : 0 ≤ k) (h1 : k ≤ 4194304) : ∃ r, wmarkDamS k xs = some r ∧ 0 ≤ r.1 ∧ r.1 ≤ k + 4 * xs.length := by
  unfold wmarkDamS wmarkDamS_t wmarkDamS_l2
  obtain ⟨r, hr, hq⟩ := runL_ex0 (f := fun s : Int × Int × List Dam => (wmarkDamS_l2_t s.1 s.2.1 s.2.2).sem) xs.length (fun j s => s.2.1 = (j : Int) ∧ s.2.2.length = xs.length ∧ s.1 = k + 4 * j) (fun r => 0 ≤ r.1 ∧ r.1 ≤ k + 4 * xs.length) (k, 0, xs) ⟨rfl, rfl, by simp⟩ (fun j s hj ⟨e1, e2, e3⟩ => by
    obtain ⟨a, b, ys⟩ := s
    simp only at e1 e2 e3
    subst e1
    simp only [wmarkDamS_l2_t, Tr.sem, List.length_set, ltRange (show j < ys.length by omega), zeroLe, Bool.and_self, cond_true, Int.toNat_natCast]
    refine ⟨_, rfl, ?_, ?_, ?_⟩
    · simp only; rw [wrap_id (by omega) (by omega)]; omega
    · simp only [List.length_set]; exact e2
    · simp only
      rw [wrap_id (n := a + 1) (by omega) (by omega), wrap_id (n := a + 1 + 1) (by omega) (by omega), wrap_id (n := a + 1 + 1 + 1) (by omega) (by omega), wrap_id (by omega) (by omega)]; omega) (fun s ⟨e1, e2, e3⟩ => by
    obtain ⟨a, b, ys⟩ := s
    simp only at e1 e2 e3
    subst e1
    refine ⟨(a, ys), ?_, by simp only; omega, by simp only; omega⟩
    simp only [wmarkDamS_l2_t, Tr.sem]
    rw [e2, not_lt_self]; rfl)
  rw [hr]
  exact ⟨_, rfl, hq.1, hq.2⟩
theorem Q_markI (k : Int) (xs : List Int) (h : xs.length ≤ 1048576) (h0 : 0 ≤ k) (h1 : k ≤ 16777216) : ∃ r, wmarkInt64S k xs = some r ∧ 0 ≤ r.1 ∧ r.1 ≤ k + xs.length := by
  unfold wmarkInt64S wmarkInt64S_t wmarkInt64S_l2
  obtain ⟨r, hr, hq⟩ := runL_ex0 (f := fun s : Int × Int × List Int => (wmarkInt64S_l2_t s.1 s.2.1 s.2.2).sem) xs.length (fun j s => s.2.1 = (j : Int) ∧ s.2.2.length = xs.length ∧ s.1 = k + j) (fun r => 0 ≤ r.1 ∧ r.1 ≤ k + xs.length) (k, 0, xs) ⟨rfl, rfl, by simp⟩ (fun j s hj ⟨e1, e2, e3⟩ => by
    obtain ⟨a, b, ys⟩ := s
    simp only at e1 e2 e3
    subst e1
    simp only [wmarkInt64S_l2_t, Tr.sem, ltRange (show j < ys.length by omega), zeroLe, Bool.and_self, cond_true, Int.toNat_natCast]
    refine ⟨_, rfl, ?_, ?_, ?_⟩
    · simp only; rw [wrap_id (by omega) (by omega)]; omega
    · simp only [List.length_set]; exact e2
    · simp only; rw [wrap_id (by omega) (by omega)]; omega) (fun s ⟨e1, e2, e3⟩ => by
    obtain ⟨a, b, ys⟩ := s
    simp only at e1 e2 e3
    subst e1
    refine ⟨(a, ys), ?_, by simp only; omega, by simp only; omega⟩
    simp only [wmarkInt64S_l2_t, Tr.sem]
    rw [e2, not_lt_self]; rfl)
  rw [hr]
  exact ⟨_, rfl, hq.1, hq.2⟩
theorem Q_markR (a : List Int) (b : List Dam) (c : List Int) (ha : a.length ≤ 1048576) (hb : b.length ≤ 1048576) (hc : c.length ≤ 1048576) : ∃ r, wmarkRiver 1 a b c = some r ∧ decide (r.1 < 0) = false := by
  obtain ⟨r1, e1, p1, q1⟩ := Q_markI 1 a ha (by omega) (by omega)
  obtain ⟨r2, e2, p2, q2⟩ := Q_markD r1.1 b hb p1 (by omega)
  obtain ⟨r3, e3, p3, q3⟩ := Q_markI r2.1 c hc p2 (by omega)
  unfold wmarkRiver wmarkRiver_t
  simp only [Tr.sem, e1, e2, e3, osome, oget, cond_true]
  exact ⟨_, rfl, by simp only [decide_eq_false_iff_not]; omega⟩
/-- Sizes of a river that is not too great. -/
theorem Q_sizes (a : List Int) (b : List Dam) (c : List Int) (ha : a.length ≤ 9223372036854775807) (hb : b.length ≤ 9223372036854775807) (hc : c.length ≤ 9223372036854775807) (h : decide (wszRiver a b c 1048576 < 0) = false) : a.length ≤ 1048576 ∧ b.length ≤ 1048576 ∧ c.length ≤ 1048576 := by
  have := (Q_szR a b c 1048576 (by omega) (by omega) ha hb hc h).2
  omega
/-! ### Laws -/
theorem pureFnExactValidRiver (a : List Int) (b : List Dam) (c : List Int) (ha : a.length ≤ 9223372036854775807) (hb : b.length ≤ 9223372036854775807) (hc : c.length ≤ 9223372036854775807) : wFnExactValidRiver a b c = some true := by
  unfold wFnExactValidRiver wFnExactValidRiver_t
  cases hz : decide (wszRiver a b c 1048576 < 0) with
  | true => rfl
  | false =>
    obtain ⟨h1, h2, h3⟩ := Q_sizes a b c ha hb hc hz
    refine (brF rfl).trans ?_
    simp only [Q_toR a b c h1 h2 h3, Q_eqR a b c h1 h2 h3, sValidRiver, sValidRiver_t, Q_valid a b c hb hc, Q_is, Tr.sem, osome, oget, cond_true, beq_self_eq_true, Bool.not_true, cond_false]
theorem P_stored (b : List Dam) (hb : b.length ≤ 1048576) (a c a' c' : List Int) : ∃ n, sl06Stored a b c = some n ∧ iRiver_stored a' b c' = some n := by
  have e : sl06Stored_l3 a b c 0 0 = iRiver_stored_l3 0 b (b.length : Nat) 0 := rfl
  obtain ⟨n, hn, _⟩ := runL_ex0 (f := fun s : Int × Int => (iRiver_stored_l3_t b (b.length : Nat) s.1 s.2).sem) b.length (fun j s => s.2 = (j : Int)) (fun _ => True) (0, 0) rfl (fun j s hj e1 => by
    obtain ⟨x, y⟩ := s
    simp only at e1
    subst e1
    simp only [iRiver_stored_l3_t, Tr.sem, ltRange hj, zeroLe, Bool.and_self, cond_true]
    exact ⟨_, rfl, by simp only; rw [wrap_id (by omega) (by omega)]; omega⟩) (fun s e1 => by
    obtain ⟨x, y⟩ := s
    simp only at e1
    subst e1
    exact ⟨x, by simp only [iRiver_stored_l3_t, Tr.sem, not_lt_self, cond_false], trivial⟩)
  have hn' : iRiver_stored_l3 0 b (b.length : Nat) 0 = some n := hn
  refine ⟨n, ?_, ?_⟩
  · unfold sl06Stored sl06Stored_t
    simp only [e, hn', Tr.sem, osome, oget, cond_true]
  · unfold iRiver_stored iRiver_stored_t
    simp only [hn', Tr.sem, osome, oget, cond_true]
theorem pureFnExactStoredIn (a : List Int) (b : List Dam) (c : List Int) (ha : a.length ≤ 9223372036854775807) (hb : b.length ≤ 9223372036854775807) (hc : c.length ≤ 9223372036854775807) : wFnExactStoredIn a b c = some true := by
  unfold wFnExactStoredIn wFnExactStoredIn_t
  cases hz : decide (wszRiver a b c 1048576 < 0) with
  | true => rfl
  | false =>
    obtain ⟨h1, h2, h3⟩ := Q_sizes a b c ha hb hc hz
    obtain ⟨n, s1, s2⟩ := P_stored b h2 a c a c
    refine (brF rfl).trans ?_
    simp only [Q_toR a b c h1 h2 h3, Q_eqR a b c h1 h2 h3, sStoredIn, sStoredIn_t, iStoredIn, iStoredIn_t, s1, s2, Q_valid a b c hb hc, Q_is, Tr.sem, osome, oget, cond_true]
    cases rivB a b c <;> simp [Tr.sem]
theorem P_outlets (a : List Int) (b : List Dam) (c : List Int) (ha : a.length ≤ 1048576) (hb : b.length ≤ 9223372036854775807) (hc : c.length ≤ 9223372036854775807) : ∃ r, sOutletsOf a b c = some r ∧ iOutletsOf a b c = some r ∧ ∀ l, r = .inr l → l.length ≤ 1048576 := by
  have e : sOutletsOf_l5 0 a b c [] = iOutletsOf_l5 a (a.length : Nat) 0 [] := rfl
  obtain ⟨l, hl, hq⟩ := runL_ex0 (f := fun s : Int × List Int => (iOutletsOf_l5_t a (a.length : Nat) s.1 s.2).sem) a.length (fun j s => s.1 = (j : Int) ∧ s.2.length ≤ j) (fun l => l.length ≤ 1048576) (0, []) ⟨rfl, by simp⟩ (fun j s hj ⟨e1, e2⟩ => by
    obtain ⟨x, y⟩ := s
    simp only at e1 e2
    subst e1
    simp only [iOutletsOf_l5_t, Tr.sem, ltRange hj, zeroLe, Bool.and_self, cond_true]
    cases decide (a.getD (Int.toNat (j : Int)) 0 < 0) with
    | false => exact ⟨_, rfl, by simp only; rw [wrap_id (by omega) (by omega)]; omega, by simp only; omega⟩
    | true =>
      simp only [cond_true]
      rw [decide_eq_true (show (y.length + [(j : Int)].length) * 8 ≤ 140737488355328 by simp; omega)]
      exact ⟨_, rfl, by simp only; rw [wrap_id (by omega) (by omega)]; omega, by simp only [List.length_append, List.length_cons, List.length_nil]; omega⟩) (fun s ⟨e1, e2⟩ => by
    obtain ⟨x, y⟩ := s
    simp only at e1 e2
    subst e1
    exact ⟨y, by simp only [iOutletsOf_l5_t, Tr.sem, not_lt_self, cond_false], by omega⟩)
  have hl' : iOutletsOf_l5 a (a.length : Nat) 0 [] = some l := hl
  unfold sOutletsOf sOutletsOf_t iOutletsOf iOutletsOf_t
  simp only [e, hl', Q_valid a b c hb hc, Q_is, Tr.sem, osome, oget, cond_true]
  cases rivB a b c with
  | false => exact ⟨.inl (), rfl, rfl, fun l h => by cases h⟩
  | true => exact ⟨.inr l, rfl, rfl, fun l' h => by cases h; exact hq⟩
theorem pureFnExactOutletsOf (a : List Int) (b : List Dam) (c : List Int) (ha : a.length ≤ 9223372036854775807) (hb : b.length ≤ 9223372036854775807) (hc : c.length ≤ 9223372036854775807) : wFnExactOutletsOf a b c = some true := by
  unfold wFnExactOutletsOf wFnExactOutletsOf_t
  cases hz : decide (wszRiver a b c 1048576 < 0) with
  | true => rfl
  | false =>
    obtain ⟨h1, h2, h3⟩ := Q_sizes a b c ha hb hc hz
    obtain ⟨r, s1, s2, hq⟩ := P_outlets a b c h1 hb hc
    obtain ⟨m, hm, hm0⟩ := Q_markR a b c h1 h2 h3
    refine (brF rfl).trans ?_
    simp only [Q_toR a b c h1 h2 h3, Q_eqR a b c h1 h2 h3, s1, s2, hm, hm0, Tr.sem, osome, oget, cond_true, Bool.not_true, cond_false, Q_eqnil, Q_nil, Q_heldnil, beq_self_eq_true, bne_self_eq_false]
    cases r with
    | inl u => simp [isL]
    | inr l =>
      have hl := hq l rfl
      have hd : decide (1 + (l.length : Int) < 0) = false := by simp only [decide_eq_false_iff_not]; omega
      simp only [isL, unR, cond_false, Q_eq l hl, Q_mark l hl, Q_held l.length hl, hd, Bool.not_true, cond_true, bne_self_eq_false]
end Go.Proofs.Ytjohnpldkanjmaa
