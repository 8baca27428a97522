/- Rivers that are the same: the program's answer and the reference's agree. -/
import Derived.Test.YtjohnpldkanjmaaPa
import Derived.Test.YtjohnpldkanjmaaGs1d
set_option linter.unusedVariables false
set_option linter.unusedSimpArgs false
set_option linter.constructorNameAsVariable false
namespace Go.Proofs.Ytjohnpldkanjmaa
open Go.RowKit
set_option maxRecDepth 100000
abbrev Dam := Int × Int × Int × Int
/-! ### Copies -/
theorem q_fold_set {α : Type} : ∀ (xs ys : List α) (k : Nat) (pre : List α), pre.length = k → ys.length = xs.length → foldE (fun k (t : List α) x => (.inl (t.set k x) : List α ⊕ List α)) id k (pre ++ ys) xs = pre ++ xs
  | [], ys, k, pre, hp, hl => by
    have : ys = [] := List.length_eq_zero_iff.1 (by simpa using hl)
    subst this; rfl
  | x :: xs, [], k, pre, hp, hl => by simp at hl
  | x :: xs, y :: ys, k, pre, hp, hl => by
    simp only [foldE]
    have e : (pre ++ y :: ys).set k x = (pre ++ [x]) ++ ys := by
      rw [List.set_append_right _ _ (by omega), show k - pre.length = 0 from by omega, List.set_cons_zero, List.append_assoc]; rfl
    rw [e, q_fold_set xs ys (k + 1) (pre ++ [x]) (by simp [hp]) (by simpa using hl), List.append_assoc]; rfl
theorem run_copy {α : Type} {f : Int × List α → Option ((Int × List α) ⊕ List α)} (xs ys : List α) (hl : ys.length = xs.length) (hb : xs.length ≤ 9223372036854775806)
    (hf : ∀ (k : Nat) (t : List α) (x : α), k < xs.length → t.length = xs.length → xs[k]? = some x → f ((k : Int), t) = some (.inl (IntKind.wrap .i64 ((k : Int) + 1), t.set k x)))
    (he : ∀ t : List α, f ((xs.length : Nat), t) = some (.inr t)) : runL f (0, ys) = some xs := by
  have h := runL_for (f := f) xs (fun k (t : List α) => ((k : Int), t)) (fun k t x => .inl (t.set k x)) id (fun _ t => t.length = xs.length) ys hl (fun k t x hi hk hx => by
    rw [hf k t x hk hi hx, wrap_id (by omega) (by omega)]; rfl) (fun k t x t' hi hk hx e => by cases e; simpa using hi) (fun t _ => he t)
  have e := q_fold_set xs ys 0 [] rfl hl
  simp only [List.nil_append] at e
  rw [e] at h
  exact h
theorem mk8 {n : Nat} (h : n ≤ 1048576) : (decide (((n : Nat) : Int) = ((n : Nat) : Int)) && decide (0 ≤ ((n : Nat) : Int)) && decide (((n : Nat) : Int) * ((8 : Nat) : Int) ≤ 140737488355328)) = true := by
  simp only [decide_true, Bool.true_and, Bool.and_eq_true, decide_eq_true_eq]; omega
theorem mk32 {n : Nat} (h : n ≤ 1048576) : (decide (((n : Nat) : Int) = ((n : Nat) : Int)) && decide (0 ≤ ((n : Nat) : Int)) && decide (((n : Nat) : Int) * ((32 : Nat) : Int) ≤ 140737488355328)) = true := by
  simp only [decide_true, Bool.true_and, Bool.and_eq_true, decide_eq_true_eq]; omega
theorem Q_to (xs : List Int) (h : xs.length ≤ 1048576) : wtoInt64S xs = some xs := by
  unfold wtoInt64S wtoInt64S_t
  have h1 : wtoInt64S_l3 xs 0 (List.replicate (Int.toNat ((xs.length : Nat) : Int)) 0) = some xs := by
    unfold wtoInt64S_l3
    refine run_copy xs _ (by simp) (by omega) (fun k t x hk ht hx => ?_) (fun t => by simp only [wtoInt64S_l3_t, Tr.sem, not_lt_self, cond_false])
    simp only [wtoInt64S_l3_t, Tr.sem, ltRange hk, zeroLe, Bool.and_self, ltRange (show k < t.length by omega), cond_true, Int.toNat_natCast, getD_at hx]
  refine (brT (mk8 h)).trans ?_
  simp only [Tr.sem, h1, osome, oget, cond_true]
theorem Q_toDam (a b c d : Int) : wtoDam a b c d = (a, b, c, d) := rfl
theorem Q_toD (xs : List Dam) (h : xs.length ≤ 1048576) : wtoDamS xs = some xs := by
  unfold wtoDamS wtoDamS_t
  have h1 : wtoDamS_l3 xs 0 (List.replicate (Int.toNat ((xs.length : Nat) : Int)) (0, 0, 0, 0)) = some xs := by
    unfold wtoDamS_l3
    refine run_copy xs _ (by simp) (by omega) (fun k t x hk ht hx => ?_) (fun t => by simp only [wtoDamS_l3_t, Tr.sem, not_lt_self, cond_false])
    simp only [wtoDamS_l3_t, Tr.sem, ltRange hk, zeroLe, Bool.and_self, ltRange (show k < t.length by omega), cond_true, Int.toNat_natCast, getD_at hx, Q_toDam]
  refine (brT (mk32 h)).trans ?_
  simp only [Tr.sem, h1, osome, oget, cond_true]
theorem Q_toR (a : List Int) (b : List Dam) (c : List Int) (ha : a.length ≤ 1048576) (hb : b.length ≤ 1048576) (hc : c.length ≤ 1048576) : wtoRiver a b c = some (a, b, c) := by
  unfold wtoRiver wtoRiver_t
  simp only [Q_to a ha, Q_toD b hb, Q_to c hc, Tr.sem, osome, oget, cond_true]
/-! ### The same lists -/
theorem Q_eq (xs : List Int) (h : xs.length ≤ 1048576) : weqInt64S xs xs = some true := by
  unfold weqInt64S weqInt64S_t
  have h1 : weqInt64S_l4 xs xs 0 = some (.inr ()) := by
    unfold weqInt64S_l4
    have := run_all (f := fun s => (weqInt64S_l4_t xs xs s).sem) xs 0 (fun _ => true) (.inl ()) (.inr ()) (by omega) (fun k hk x hx => by
      simp only [weqInt64S_l4_t, Tr.sem, ltRange hk, zeroLe, Bool.and_self, cond_true, bne_self_eq_false, cond_false]) (by simp only [weqInt64S_l4_t, Tr.sem, not_lt_self, cond_false])
    rw [all_true] at this
    exact this
  simp only [Tr.sem, bne_self_eq_false, cond_false, h1, osome, oget, isL, cond_true]
theorem Q_eqDam (a b c d : Int) : weqDam a b c d a b c d = true := by
  unfold weqDam weqDam_t
  simp [Tr.val]
theorem Q_eqD (xs : List Dam) (h : xs.length ≤ 1048576) : weqDamS xs xs = some true := by
  unfold weqDamS weqDamS_t
  have h1 : weqDamS_l4 xs xs 0 = some (.inr ()) := by
    unfold weqDamS_l4
    have := run_all (f := fun s => (weqDamS_l4_t xs xs s).sem) xs (0, 0, 0, 0) (fun _ => true) (.inl ()) (.inr ()) (by omega) (fun k hk x hx => by
      simp only [weqDamS_l4_t, Tr.sem, ltRange hk, zeroLe, Bool.and_self, cond_true, Q_eqDam, Bool.not_true, cond_false]) (by simp only [weqDamS_l4_t, Tr.sem, not_lt_self, cond_false])
    rw [all_true] at this
    exact this
  simp only [Tr.sem, bne_self_eq_false, cond_false, h1, osome, oget, isL, cond_true]
theorem Q_eqR (a : List Int) (b : List Dam) (c : List Int) (ha : a.length ≤ 1048576) (hb : b.length ≤ 1048576) (hc : c.length ≤ 1048576) : weqRiver a b c a b c = some true := by
  unfold weqRiver weqRiver_t
  simp only [Q_eq a ha, Q_eqD b hb, Q_eq c hc, Tr.sem, osome, oget, cond_true, Bool.not_true, cond_false]
/-! ### Sizes -/
theorem Q_left {n : Nat} {m : Int} (h0 : 0 ≤ m) (hm : m ≤ 1048576) (hn : n ≤ 9223372036854775807) : IntKind.wrap .i64 (m - (n : Int)) = m - n := wrap_id (by omega) (by omega)
theorem Q_sz (xs : List Int) (m : Int) (h0 : 0 ≤ m) (hm : m ≤ 1048576) (hn : xs.length ≤ 9223372036854775807) : wszInt64S xs m = if m - xs.length < 0 then -1 else m - xs.length := by
  unfold wszInt64S wszInt64S_t
  simp only [Tr.val, Q_left h0 hm hn]
  by_cases h : m - (xs.length : Int) < 0 <;> simp [h]
theorem Q_szD (xs : List Dam) (m : Int) (h0 : 0 ≤ m) (hm : m ≤ 1048576) (hn : xs.length ≤ 9223372036854775807) : wszDamS xs m = if m - xs.length < 0 then -1 else m - xs.length := by
  unfold wszDamS wszDamS_t
  simp only [Tr.val, Q_left h0 hm hn]
  by_cases h : m - (xs.length : Int) < 0 <;> simp [h]
theorem Q_szR (a : List Int) (b : List Dam) (c : List Int) (m : Int) (h0 : 0 ≤ m) (hm : m ≤ 1048576) (ha : a.length ≤ 9223372036854775807) (hb : b.length ≤ 9223372036854775807) (hc : c.length ≤ 9223372036854775807) (h : decide (wszRiver a b c m < 0) = false) :
    wszRiver a b c m = m - a.length - b.length - c.length ∧ (a.length : Int) + b.length + c.length ≤ m := by
  unfold wszRiver wszRiver_t at *
  simp only [Tr.val] at *
  rw [Q_sz a m h0 hm ha] at *
  by_cases h1 : m - (a.length : Int) < 0
  · simp [h1] at h
  rw [if_neg h1] at *
  rw [Q_szD b _ (by omega) (by omega) hb] at *
  by_cases h2 : m - (a.length : Int) - b.length < 0
  · simp [h1, h2] at h
  rw [if_neg h2] at *
  rw [Q_sz c _ (by omega) (by omega) hc] at *
  by_cases h3 : m - (a.length : Int) - b.length - c.length < 0
  · simp [h1, h2, h3] at h
  rw [if_neg h3] at *
  simp only [h1, h2, h3, decide_false, cond_false]
  exact ⟨trivial, by omega⟩
theorem run_upto {ρ σ : Type} {f : σ → Option (σ ⊕ ρ)} (mk : Int → σ) (n : Nat) (hn : n ≤ 9223372036854775806) (p : Nat → Bool) (r e : ρ)
    (hf : ∀ k : Nat, k < n → f (mk k) = some (bif p k then .inl (mk (IntKind.wrap .i64 ((k : Int) + 1))) else .inr r)) (he : f (mk n) = some (.inr e)) : runL f (mk 0) = some (bif (List.range n).all p then e else r) := by
  have h := runL_for (f := f) (List.range n) (fun k (_ : Unit) => mk (k : Int)) (fun _ _ x => bif p x then .inl () else .inr r) (fun _ => e) (fun _ _ => True) () trivial (fun k t x _ hk hx => by
    have hk' : k < n := by simpa using hk
    have : x = k := by rw [List.getElem?_range hk'] at hx; cases hx; rfl
    subst this
    rw [hf x hk', wrap_id (by omega) (by omega)]
    cases p x <;> rfl) (fun _ _ _ _ _ _ _ _ => trivial) (fun _ _ => by simpa using he)
  rw [foldE_all] at h
  exact h
/-! ### The same rivers -/
def eqI (x y : List Int) : Bool := decide (x.length = y.length) && (List.range x.length).all fun k => x.getD k 0 == y.getD k 0
def dmB (u v : Dam) : Bool := u.1 == v.1 && u.2.1 == v.2.1 && u.2.2.1 == v.2.2.1 && u.2.2.2 == v.2.2.2
def eqD (x y : List Dam) : Bool := decide (x.length = y.length) && (List.range x.length).all fun k => dmB (x.getD k (0, 0, 0, 0)) (y.getD k (0, 0, 0, 0))
theorem len_ne {m n : Nat} : (((m : Nat) : Int) != ((n : Nat) : Int)) = !decide (m = n) := by
  by_cases h : m = n
  · subst h; simp
  · have : ((m : Nat) : Int) ≠ ((n : Nat) : Int) := by omega
    simp [h, this]
theorem P_sList (x y : List Int) (h : x.length ≤ 1048576) : sl06SameList x y = some (eqI x y) := by
  unfold sl06SameList sl06SameList_t eqI
  rw [len_ne]
  by_cases hl : x.length = y.length
  · have h1 : sl06SameList_l4 x y 0 = some (bif (List.range x.length).all (fun k => x.getD k 0 == y.getD k 0) then .inr () else .inl ()) := by
      unfold sl06SameList_l4
      exact run_upto (ρ := Unit ⊕ Unit) (f := fun s : Int => (sl06SameList_l4_t x y s).sem) (fun k => k) x.length (by omega) _ (.inl ()) (.inr ()) (fun k hk => by
        simp only [sl06SameList_l4_t, Tr.sem, ltRange hk, zeroLe, Bool.and_self, ltRange (show k < y.length by omega), cond_true, Int.toNat_natCast, bne]
        cases (x.getD k 0 == y.getD k 0) <;> rfl) (by simp only [sl06SameList_l4_t, Tr.sem, not_lt_self, cond_false])
    simp only [hl, decide_true, Bool.not_true, Bool.true_and, Tr.sem, cond_false]
    rw [hl] at h1
    simp only [h1, osome, oget, cond_true]
    cases (List.range y.length).all (fun k => x.getD k 0 == y.getD k 0) <;> rfl
  · simp only [hl, decide_false, Bool.not_false, Tr.sem, cond_true, Bool.false_and]
theorem P_iList (x y : List Int) (h : x.length ≤ 1048576) : lEqual x y = some (eqI x y) := by
  unfold lEqual lEqual_t eqI
  rw [len_ne]
  by_cases hl : x.length = y.length
  · have h1 : lEqual_l4 x y (x.length : Int) 0 = some (bif (List.range x.length).all (fun k => x.getD k 0 == y.getD k 0) then .inr () else .inl ()) := by
      unfold lEqual_l4
      exact run_upto (ρ := Unit ⊕ Unit) (f := fun s : Int => (lEqual_l4_t x y (x.length : Int) s).sem) (fun k => k) x.length (by omega) _ (.inl ()) (.inr ()) (fun k hk => by
        simp only [lEqual_l4_t, Tr.sem, ltRange hk, zeroLe, Bool.and_self, ltRange (show k < y.length by omega), cond_true, Int.toNat_natCast, bne]
        cases (x.getD k 0 == y.getD k 0) <;> rfl) (by simp only [lEqual_l4_t, Tr.sem, not_lt_self, cond_false])
    simp only [hl, decide_true, Bool.not_true, Bool.true_and, Tr.sem, cond_false]
    rw [hl] at h1
    simp only [h1, osome, oget, cond_true]
    cases (List.range y.length).all (fun k => x.getD k 0 == y.getD k 0) <;> rfl
  · simp only [hl, decide_false, Bool.not_false, Tr.sem, cond_true, Bool.false_and]
theorem P_iDams (x y : List Dam) (h : x.length ≤ 1048576) : lEqual_n1 x y = some (eqD x y) := by
  unfold lEqual_n1 lEqual_n1_t eqD
  rw [len_ne]
  by_cases hl : x.length = y.length
  · have h1 : lEqual_n1_l4 x y (x.length : Int) 0 = some (bif (List.range x.length).all (fun k => dmB (x.getD k (0, 0, 0, 0)) (y.getD k (0, 0, 0, 0))) then .inr () else .inl ()) := by
      unfold lEqual_n1_l4
      exact run_upto (ρ := Unit ⊕ Unit) (f := fun s : Int => (lEqual_n1_l4_t x y (x.length : Int) s).sem) (fun k => k) x.length (by omega) _ (.inl ()) (.inr ()) (fun k hk => by
        simp only [lEqual_n1_l4_t, Tr.sem, ltRange hk, zeroLe, Bool.and_self, ltRange (show k < y.length by omega), cond_true, Int.toNat_natCast, dmB]
        generalize x.getD k (0, 0, 0, 0) = u
        generalize y.getD k (0, 0, 0, 0) = v
        cases (u.1 == v.1) <;> cases (u.2.1 == v.2.1) <;> cases (u.2.2.1 == v.2.2.1) <;> cases (u.2.2.2 == v.2.2.2) <;> rfl) (by simp only [lEqual_n1_l4_t, Tr.sem, not_lt_self, cond_false])
    simp only [hl, decide_true, Bool.not_true, Bool.true_and, Tr.sem, cond_false]
    rw [hl] at h1
    simp only [h1, osome, oget, cond_true]
    cases (List.range y.length).all (fun k => dmB (x.getD k (0, 0, 0, 0)) (y.getD k (0, 0, 0, 0))) <;> rfl
  · simp only [hl, decide_false, Bool.not_false, Tr.sem, cond_true, Bool.false_and]
theorem P_sSame (a : List Int) (b : List Dam) (c : List Int) (a' : List Int) (b' : List Dam) (c' : List Int) (ha : a.length ≤ 1048576) (hb : b.length ≤ 1048576) (hc : c.length ≤ 1048576) : sSameRiver a b c a' b' c' = some (eqI a a' && (eqD b b' && eqI c c')) := by
  unfold sSameRiver sSameRiver_t
  have h0 : sl06Same a b c a' b' c' = some (eqI a a' && (eqI c c' && eqD b b')) := by
    unfold sl06Same sl06Same_t
    simp only [P_sList a a' ha, P_sList c c' hc, Tr.sem, osome, oget, cond_true]
    cases eqI a a' with
    | false => rfl
    | true =>
    cases eqI c c' with
    | false => rfl
    | true =>
    simp only [Bool.not_true, cond_false, Bool.true_and]
    unfold eqD
    rw [len_ne]
    by_cases hl : b.length = b'.length
    · have h1 : sl06Same_l4 a b c a' b' c' 0 = some (bif (List.range b.length).all (fun k => dmB (b.getD k (0, 0, 0, 0)) (b'.getD k (0, 0, 0, 0))) then .inr () else .inl ()) := by
        unfold sl06Same_l4
        exact run_upto (ρ := Unit ⊕ Unit) (f := fun s : Int => (sl06Same_l4_t a b c a' b' c' s).sem) (fun k => k) b.length (by omega) _ (.inl ()) (.inr ()) (fun k hk => by
          simp only [sl06Same_l4_t, Tr.sem, ltRange hk, zeroLe, Bool.and_self, ltRange (show k < b'.length by omega), cond_true, Int.toNat_natCast, dmB]
          generalize b.getD k (0, 0, 0, 0) = u
          generalize b'.getD k (0, 0, 0, 0) = v
          cases (u.1 == v.1) <;> cases (u.2.1 == v.2.1) <;> cases (u.2.2.1 == v.2.2.1) <;> cases (u.2.2.2 == v.2.2.2) <;> rfl) (by simp only [sl06Same_l4_t, Tr.sem, not_lt_self, cond_false])
      simp only [hl, decide_true, Bool.not_true, Bool.true_and, cond_false]
      rw [hl] at h1
      simp only [h1, osome, oget, cond_true]
      cases (List.range b'.length).all (fun k => dmB (b.getD k (0, 0, 0, 0)) (b'.getD k (0, 0, 0, 0))) <;> rfl
    · simp only [hl, decide_false, Bool.not_false, cond_true, Bool.false_and]
  simp only [h0, Tr.sem, osome, oget, cond_true]
  cases eqI a a' <;> cases eqI c c' <;> cases eqD b b' <;> rfl
theorem P_iSame (a : List Int) (b : List Dam) (c : List Int) (a' : List Int) (b' : List Dam) (c' : List Int) (ha : a.length ≤ 1048576) (hb : b.length ≤ 1048576) (hc : c.length ≤ 1048576) : iSameRiver a b c a' b' c' = some (eqI a a' && (eqD b b' && eqI c c')) := by
  unfold iSameRiver iSameRiver_t
  simp only [P_iList a a' ha, P_iDams b b' hb, P_iList c c' hc, Tr.sem, osome, oget, cond_true]
  cases eqI a a' <;> cases eqD b b' <;> rfl
theorem pureFnExactSameRiver (a : List Int) (b : List Dam) (c : List Int) (a' : List Int) (b' : List Dam) (c' : List Int) (ha : a.length ≤ 9223372036854775807) (hb : b.length ≤ 9223372036854775807) (hc : c.length ≤ 9223372036854775807)
    (ha' : a'.length ≤ 9223372036854775807) (hb' : b'.length ≤ 9223372036854775807) (hc' : c'.length ≤ 9223372036854775807) : wFnExactSameRiver a b c a' b' c' = some true := by
  unfold wFnExactSameRiver wFnExactSameRiver_t
  cases hz : decide (wszRiver a b c 1048576 < 0) with
  | true => rfl
  | false =>
    obtain ⟨e1, l1⟩ := Q_szR a b c 1048576 (by omega) (by omega) ha hb hc hz
    refine (brF rfl).trans ?_
    cases hy : decide (wszRiver a' b' c' (wszRiver a b c 1048576) < 0) with
    | true => rfl
    | false =>
      rw [e1] at hy
      obtain ⟨e2, l2⟩ := Q_szR a' b' c' _ (by omega) (by omega) ha' hb' hc' hy
      refine (brF rfl).trans ?_
      simp only [Q_toR a b c (by omega) (by omega) (by omega), Q_toR a' b' c' (by omega) (by omega) (by omega), P_sSame a b c a' b' c' (by omega) (by omega) (by omega), P_iSame a b c a' b' c' (by omega) (by omega) (by omega),
        Q_eqR a b c (by omega) (by omega) (by omega), Q_eqR a' b' c' (by omega) (by omega) (by omega), Tr.sem, osome, oget, cond_true, Bool.not_true, cond_false, beq_self_eq_true]
end Go.Proofs.Ytjohnpldkanjmaa
