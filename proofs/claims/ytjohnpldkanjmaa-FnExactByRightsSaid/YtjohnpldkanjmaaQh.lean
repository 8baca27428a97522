/- Rights: the program's and the reference's are the same. -/
import Derived.Test.YtjohnpldkanjmaaSs
set_option linter.unusedVariables false
set_option linter.unusedSimpArgs false
set_option linter.constructorNameAsVariable false
namespace Go.Proofs.Ytjohnpldkanjmaa
open Go.RowKit
set_option maxRecDepth 100000
theorem q_fold_set {α : Type} : ∀ (xs ys : List α) (k : Nat) (pre : List α), pre.length = k → ys.length = xs.length → foldE (fun k (t : List α) x => (.inl (t.set k x) : List α ⊕ List α)) id k (pre ++ ys) xs = pre ++ xs
  | [], ys, k, pre, hp, hl => by
    have : ys = [] := List.length_eq_zero_iff.1 (by simpa using hl)
    subst this; rfl
  | x :: xs, [], k, pre, hp, hl => by simp at hl
  | x :: xs, y :: ys, k, pre, hp, hl => by
    simp only [foldE]
    have e : (pre ++ y :: ys).set k x = (pre ++ [x]) ++ ys := by
      rw [List.set_append_right _ _ (by omega), show k - pre.length = 0 from by omega, List.set_cons_zero, List.append_assoc]; rfl
    rw [e, q_fold_set xs ys (k + 1) (pre ++ [x]) (by simp [hp]) (by simpa using hl), List.append_assoc]; rfl
theorem run_copy {α : Type} {f : Int × List α → Option ((Int × List α) ⊕ List α)} (xs ys : List α) (hl : ys.length = xs.length) (hb : xs.length ≤ 9223372036854775806)
    (hf : ∀ (k : Nat) (t : List α) (x : α), k < xs.length → t.length = xs.length → xs[k]? = some x → f ((k : Int), t) = some (.inl (IntKind.wrap .i64 ((k : Int) + 1), t.set k x)))
    (he : ∀ t : List α, f ((xs.length : Nat), t) = some (.inr t)) : runL f (0, ys) = some xs := by
  have h := runL_for (f := f) xs (fun k (t : List α) => ((k : Int), t)) (fun k t x => .inl (t.set k x)) id (fun _ t => t.length = xs.length) ys hl (fun k t x hi hk hx => by
    rw [hf k t x hk hi hx, wrap_id (by omega) (by omega)]; rfl) (fun k t x t' hi hk hx e => by cases e; simpa using hi) (fun t _ => he t)
  have e := q_fold_set xs ys 0 [] rfl hl
  simp only [List.nil_append] at e
  rw [e] at h
  exact h
theorem mk8 {n : Nat} (h : n ≤ 1048576) : (decide (((n : Nat) : Int) = ((n : Nat) : Int)) && decide (0 ≤ ((n : Nat) : Int)) && decide (((n : Nat) : Int) * ((8 : Nat) : Int) ≤ 140737488355328)) = true := by
  simp only [decide_true, Bool.true_and, Bool.and_eq_true, decide_eq_true_eq]; omega
theorem Q_to (xs : List Int) (h : xs.length ≤ 1048576) : wtoInt64S xs = some xs := by
  unfold wtoInt64S wtoInt64S_t
  have h1 : wtoInt64S_l3 xs 0 (List.replicate (Int.toNat ((xs.length : Nat) : Int)) 0) = some xs := by
    unfold wtoInt64S_l3
    refine run_copy xs _ (by simp) (by omega) (fun k t x hk ht hx => ?_) (fun t => by simp only [wtoInt64S_l3_t, Tr.sem, not_lt_self, cond_false])
    simp only [wtoInt64S_l3_t, Tr.sem, ltRange hk, zeroLe, Bool.and_self, ltRange (show k < t.length by omega), cond_true, Int.toNat_natCast, getD_at hx]
  refine (brT (mk8 h)).trans ?_
  simp only [Tr.sem, h1, osome, oget, cond_true]
theorem Q_eq (xs : List Int) (h : xs.length ≤ 1048576) : weqInt64S xs xs = some true := by
  unfold weqInt64S weqInt64S_t
  have h1 : weqInt64S_l4 xs xs 0 = some (.inr ()) := by
    unfold weqInt64S_l4
    have := run_all (f := fun s => (weqInt64S_l4_t xs xs s).sem) xs 0 (fun _ => true) (.inl ()) (.inr ()) (by omega) (fun k hk x hx => by
      simp only [weqInt64S_l4_t, Tr.sem, ltRange hk, zeroLe, Bool.and_self, cond_true, bne_self_eq_false, cond_false]) (by simp only [weqInt64S_l4_t, Tr.sem, not_lt_self, cond_false])
    rw [all_true] at this
    exact this
  simp only [Tr.sem, bne_self_eq_false, cond_false, h1, osome, oget, isL, cond_true]
theorem Q_in (n lo hi : Int) : sl00In n lo hi = win lo hi n := by
  unfold sl00In sl00In_t win
  cases h : decide (n ≥ lo) <;> simp_all [Tr.val]
theorem Q_unit (n : Int) : sl06Unit n = unitB n := by
  unfold sl06Unit sl06Unit_t
  simp only [Tr.val, Q_in]; rfl
def seqI : Int → Nat → List Int
  | _, 0 => []
  | k, n + 1 => k :: seqI (k + 1) n
theorem seqI_len : ∀ (n : Nat) (k : Int), (seqI k n).length = n
  | 0, _ => rfl
  | n + 1, k => by simp [seqI, seqI_len n]
theorem seqI_get : ∀ (n : Nat) (k : Int) (j : Nat), j < n → (seqI k n)[j]? = some (k + j)
  | 0, _, j, h => by omega
  | n + 1, k, 0, h => by simp [seqI]
  | n + 1, k, j + 1, h => by
    simp only [seqI, List.getElem?_cons_succ]
    rw [seqI_get n (k + 1) j (by omega)]
    congr 1; omega
theorem q_fold_mark (m : Int) : ∀ (xs ys : List Int) (k : Nat) (pre : List Int), pre.length = k → ys.length = xs.length → foldE (fun k (t : List Int) (x : Int) => (.inl (t.set k (m + k)) : List Int ⊕ List Int)) id k (pre ++ ys) xs = pre ++ seqI (m + k) xs.length
  | [], ys, k, pre, hp, hl => by
    have : ys = [] := List.length_eq_zero_iff.1 (by simpa using hl)
    subst this; rfl
  | x :: xs, [], k, pre, hp, hl => by simp at hl
  | x :: xs, y :: ys, k, pre, hp, hl => by
    simp only [foldE]
    have e : (pre ++ y :: ys).set k (m + k) = (pre ++ [m + (k : Int)]) ++ ys := by
      rw [List.set_append_right _ _ (by omega), show k - pre.length = 0 from by omega, List.set_cons_zero, List.append_assoc]; rfl
    rw [e, q_fold_mark m xs ys (k + 1) (pre ++ [m + (k : Int)]) (by simp [hp]) (by simpa using hl), List.append_assoc, show m + ((k + 1 : Nat) : Int) = m + k + 1 from by omega]; rfl
theorem Q_mark (xs : List Int) (h : xs.length ≤ 1048576) : wmarkInt64S 1 xs = some (1 + (xs.length : Int), seqI 1 xs.length) := by
  unfold wmarkInt64S wmarkInt64S_t
  have h1 : wmarkInt64S_l2 1 0 xs = some (1 + (xs.length : Int), seqI 1 xs.length) := by
    unfold wmarkInt64S_l2
    have := runL_for (f := fun s : Int × Int × List Int => (wmarkInt64S_l2_t s.1 s.2.1 s.2.2).sem) xs (fun k (t : List Int) => (1 + (k : Int), (k : Int), t)) (fun k t x => .inl (t.set k (1 + (k : Int)))) (fun t => (1 + (xs.length : Int), t)) (fun _ t => t.length = xs.length) xs rfl (fun k t x hi hk hx => by
      simp only [wmarkInt64S_l2_t, Tr.sem, ltRange (show k < t.length by omega), zeroLe, Bool.and_self, cond_true, Int.toNat_natCast]
      rw [wrap_id (by omega) (by omega), wrap_id (by omega) (by omega)]
      simp only [Int.natCast_add, Int.add_assoc]; rfl) (fun k t x t' hi hk hx e => by cases e; simpa using hi) (fun t hi => by
      simp only [wmarkInt64S_l2_t, Tr.sem]
      rw [hi, not_lt_self]; rfl)
    have e := q_fold_mark 1 xs xs 0 [] rfl rfl
    have key : ∀ (ys : List Int) (k : Nat) (t : List Int), foldE (fun k (t : List Int) (x : Int) => (.inl (t.set k (1 + (k : Int))) : List Int ⊕ (Int × List Int))) (fun t => (1 + (xs.length : Int), t)) k t ys = (1 + (xs.length : Int), foldE (fun k (t : List Int) (x : Int) => (.inl (t.set k (1 + k)) : List Int ⊕ List Int)) id k t ys) := by
      intro ys
      induction ys with
      | nil => intro k t; rfl
      | cons y ys ih => intro k t; simp only [foldE]; exact ih _ _
    rw [key] at this
    simp only [List.nil_append] at e
    rw [e] at this
    exact this
  simp only [Tr.sem, h1, osome, oget, cond_true]
theorem Q_held (n : Nat) (h : n ≤ 1048576) : wheldInt64S (seqI 1 n) 1 = some (1 + (n : Int)) := by
  unfold wheldInt64S wheldInt64S_t
  have h1 : wheldInt64S_l2 (seqI 1 n) 1 0 = some (.inr (1 + (n : Int))) := by
    unfold wheldInt64S_l2
    have := runL_for (f := fun s : Int × Int => (wheldInt64S_l2_t (seqI 1 n) s.1 s.2).sem) (seqI 1 n) (fun k (_ : Unit) => (1 + (k : Int), (k : Int))) (fun k t x => (.inl () : Unit ⊕ (Int ⊕ Int))) (fun t => .inr (1 + (n : Int))) (fun _ _ => True) () trivial (fun k t x _ hk hx => by
      have hk' : k < n := by rw [seqI_len] at hk; exact hk
      have hx' := seqI_get n 1 k hk'
      rw [hx] at hx'
      cases hx'
      simp only [wheldInt64S_l2_t, Tr.sem, ltRange hk, zeroLe, Bool.and_self, cond_true, Int.toNat_natCast, getD_at hx, bne_self_eq_false, cond_false]
      rw [wrap_id (by omega) (by omega), wrap_id (by omega) (by omega)]
      simp only [Int.natCast_add, Int.add_assoc]; rfl) (fun _ _ _ _ _ _ _ _ => trivial) (fun _ _ => by
      simp only [wheldInt64S_l2_t, Tr.sem, not_lt_self, cond_false, seqI_len])
    have key : ∀ (ys : List Int) (k : Nat), foldE (fun k (t : Unit) (x : Int) => (.inl () : Unit ⊕ (Int ⊕ Int))) (fun t => .inr (1 + (n : Int))) k () ys = .inr (1 + (n : Int)) := by
      intro ys
      induction ys with
      | nil => intro k; rfl
      | cons y ys ih => intro k; simp only [foldE]; exact ih _
    rw [key] at this
    exact this
  simp only [Tr.sem, h1, osome, oget, cond_true, isL, unR, cond_false]
theorem Q_nil : wmarkInt64S_nil 1 = some 1 := by
  unfold wmarkInt64S_nil wmarkInt64S_nil_t wmarkInt64S_nil_l2
  rw [runL_eq]
  rfl
theorem Q_heldnil : wheldInt64S [] 1 = some 1 := Q_held 0 (by omega)
theorem Q_eqnil : weqInt64S [] [] = some true := Q_eq [] (by simp)
theorem P_inflows (xs : List Int) (hl : xs.length ≤ 9223372036854775806) : sl06Inflows xs xs.length = some (xs.all unitB) := by
  unfold sl06Inflows sl06Inflows_t
  have h1 : sl06Inflows_l2 xs (xs.length : Nat) 0 = some (bif xs.all unitB then .inr (xs, ((xs.length : Nat) : Int)) else .inl ()) := by
    unfold sl06Inflows_l2
    refine run_all (f := fun s => (sl06Inflows_l2_t xs (xs.length : Nat) s).sem) xs 0 unitB (.inl ()) (.inr (xs, ((xs.length : Nat) : Int))) (by omega) (fun k hk x hx => ?_) (by simp only [sl06Inflows_l2_t, Tr.sem, not_lt_self, cond_false])
    simp only [sl06Inflows_l2_t, Tr.sem, ltRange hk, zeroLe, Bool.and_self, cond_true, Int.toNat_natCast, getD_at hx, beq_self_eq_true, Q_unit]
    cases unitB x <;> rfl
  simp only [h1, Tr.sem, osome, oget, cond_true]
  cases xs.all unitB <;> simp [isL, unR]
theorem P_list (xs : List Int) (hl : xs.length ≤ 1048576) : sl06List xs = some (win 1 64 xs.length && xs.all unitB) := by
  unfold sl06List sl06List_t win
  simp only [P_inflows xs (by omega), Tr.sem, osome, oget, cond_true]
  by_cases h1 : (xs.length : Int) ≥ 1
  · by_cases h2 : (xs.length : Int) ≤ 64
    · have h1' : (1 : Int) ≤ xs.length := h1
      simp [h1', h2]
    · simp [h2]
  · have h1' : ¬ (1 : Int) ≤ xs.length := h1
    simp [h1']
theorem Q_markI (k : Int) (xs : List Int) (h : xs.length ≤ 1048576) (h0 : 0 ≤ k) (h1 : k ≤ 16777216) : ∃ ys, wmarkInt64S k xs = some (k + (xs.length : Int), ys) := by
  obtain ⟨r, hr, hq⟩ := runL_ex0 (f := fun s : Int × Int × List Int => (wmarkInt64S_l2_t s.1 s.2.1 s.2.2).sem) xs.length (fun j s => s.1 = k + (j : Int) ∧ s.2.1 = (j : Int) ∧ s.2.2.length = xs.length) (fun r => r.1 = k + (xs.length : Int)) (k, 0, xs) ⟨by simp, rfl, rfl⟩ (fun j s hj ⟨e1, e2, e3⟩ => by
    obtain ⟨a, b, l⟩ := s
    simp only at e1 e2 e3
    subst e1; subst e2
    simp only [wmarkInt64S_l2_t, Tr.sem, ltRange (show j < l.length by omega), zeroLe, Bool.and_self, cond_true, Int.toNat_natCast]
    refine ⟨_, rfl, ?_, ?_, ?_⟩
    · simp only; rw [wrap_id (by omega) (by omega)]; omega
    · simp only; rw [wrap_id (by omega) (by omega)]; omega
    · simp only [List.length_set]; exact e3) (fun s ⟨e1, e2, e3⟩ => by
    obtain ⟨a, b, l⟩ := s
    simp only at e1 e2 e3
    subst e1; subst e2
    refine ⟨(k + (xs.length : Int), l), ?_, rfl⟩
    simp only [wmarkInt64S_l2_t, Tr.sem, e3, not_lt_self, cond_false])
  obtain ⟨a, ys⟩ := r
  have ha : a = k + (xs.length : Int) := hq
  subst ha
  have h1 : wmarkInt64S_l2 k 0 xs = some (k + (xs.length : Int), ys) := hr
  refine ⟨ys, ?_⟩
  unfold wmarkInt64S wmarkInt64S_t
  simp only [h1, Tr.sem, osome, oget, cond_true]
/-! ### The reference's sums and splits -/
theorem S_sum (l : List Int) (h : ∀ x ∈ l, 0 ≤ x) (hs : isum l ≤ 4611686018427387904) (hl : l.length ≤ 1048576) : sl06Sum l = some (isum l) := by
  have key := runL_steps (f := fun q : Int × Int => (sl06Sum_l3_t l q.1 q.2).sem) (r := isum l) l.length 0 (fun k => (isum (l.take k), (k : Int))) (fun j _ hj => by
    have hj : j < l.length := by omega
    have e := take_succ l j 0 hj
    have hb := isum_take h (j + 1)
    rw [e, isum_append] at hb
    simp only [isum] at hb
    simp only [sl06Sum_l3_t, Tr.sem, ltRange hj, zeroLe, Bool.and_self, cond_true, Int.toNat_natCast, up1 (show j ≤ 1048576 by omega), e, isum_append, isum, Int.add_zero]
    rw [wrap_id (by omega) (by omega)]) (by
    rw [Nat.zero_add, List.take_length]; simp only [sl06Sum_l3_t, Tr.sem, not_lt_self, cond_false])
  have k0 : sl06Sum_l3 l 0 0 = some (isum l) := by
    simp only [List.take_zero, isum] at key
    exact key
  unfold sl06Sum sl06Sum_t
  simp only [k0, Tr.sem, osome, oget, cond_true]
theorem S_best (a : Int) (u v : List Int) (h1 : 1 ≤ v.length) : sl06Split_l16 a 0 1 u v = isplit_l13 a 0 (v.length : Nat) 0 u v := by
  unfold isplit_l13 sl06Split_l16
  refine Eq.symm ((runL_in (s' := (0, 1)) (by
    have hz : decide ((0 : Int) < (v.length : Int)) = true := by simp; omega
    simp only [isplit_l13_t, Tr.sem, hz, show decide ((0 : Int) ≤ 0) = true from rfl, Bool.and_self, cond_true, show decide (v.getD (Int.toNat 0) 0 > v.getD (Int.toNat 0) 0) = false from by simp, cond_false]; rfl)).trans ?_)
  exact runL_same (fun _ => True) (fun t _ => rfl) (fun _ _ _ _ => trivial) _ trivial
theorem S_rest (a : Int) (x y : List Int) (hl : x.length = y.length) (h1 : 1 ≤ y.length) (h64 : y.length ≤ 64) : sl06Split_l12 a x y = isplit_l9 a x y := by
  unfold sl06Split_l12 isplit_l9
  refine runL_same (fun s => s.2.1.length = s.2.2.length ∧ 1 ≤ s.2.2.length ∧ s.2.2.length ≤ 64) (fun s ⟨e1, e2, e3⟩ => ?_) (fun s s' ⟨e1, e2, e3⟩ h => ?_) _ ⟨hl, h1, h64⟩
  · obtain ⟨a, u, v⟩ := s
    simp only at e1 e2 e3
    simp only [sl06Split_l12_t, isplit_l9_t, S_best a u v e2]
  · obtain ⟨a, u, v⟩ := s
    simp only at e1 e2 e3
    obtain ⟨b, hb1, hb2, hb3⟩ := T_best a u v e2 e3
    simp only [isplit_l9_t, Tr.sem, hb1, osome, oget, cond_true, zeroLe, ltRange hb2, ltRange (show b < u.length by omega), Bool.and_self, Int.toNat_natCast] at h
    cases hg : decide (a > 0) with
    | false => rw [hg] at h; cases h
    | true =>
      rw [hg] at h
      simp only [cond_true, Option.some.injEq, Sum.inl.injEq] at h
      subst h
      exact ⟨by simpa using e1, by simpa using e2, by simpa using e3⟩
theorem S_split (n : Int) (l : List Int) (hn : 0 ≤ n) (hn2 : n ≤ 1000000000) (h : unitsL l) (hs : 0 < isum l) : sl06Split n l = isplit n l := by
  have h0 : ∀ x ∈ l, 0 ≤ x := fun x hx => (h.2 x hx).1
  have hsum := units_sum h
  have e1 := S_sum l h0 (by omega) (by have := h.1; omega)
  have e2 := T_list l h0 (by omega) (by have := h.1; omega)
  have e3 := T_shares n l hn hn2 h hs
  have e4 : sl06Split_l6 n l (isum l) n 0 [] [] = isplit_l4 n (isum l) n l (l.length : Nat) 0 [] [] := by
    unfold isplit_l4 sl06Split_l6
    refine runL_same (fun _ => True) (fun t _ => ?_) (fun _ _ _ _ => trivial) _ trivial
    simp only [isplit_l4_t, sl06Split_l6_t, Tr.sem, decide_eq_true (show isum l ≠ (0 : Int) by omega), cond_true]
    cases decide (t.2.1 < (l.length : Int)) <;> cases decide (0 ≤ t.2.1) <;> simp
  have h1 : 1 ≤ l.length := by
    cases l with
    | nil => simp [isum] at hs
    | cons _ _ => simp
  have e5 := S_rest (n - isum (l.map (qS n (isum l)))) (l.map (qS n (isum l))) (l.map (pS n (isum l))) (by simp) (by simpa using h1) (by simpa using h.1)
  unfold sl06Split sl06Split_t isplit isplit_t
  simp only [e1, e2, e4, e3, e5, Tr.sem, osome, oget, cond_true]
/-! ### The reference's rights -/
theorem S_l14 (am : Int) (wants ranks : List Int) (k : Int) (out : List Int) (hl : ranks.length = wants.length) (h64 : wants.length ≤ 64) :
    sByRights_l14 am wants ranks k 0 out [] = some (am, wants, ranks, k, out, ownL wants ranks k ranks.length) := by
  have key := runL_steps (f := fun q : Int × List Int => (sByRights_l14_t am wants ranks k out q.1 q.2).sem) (r := (am, wants, ranks, k, out, ownL wants ranks k ranks.length)) ranks.length 0 (fun j => ((j : Int), ownL wants ranks k j)) (fun j _ hj => by
    have hj : j < ranks.length := by omega
    have c1 := cntL_le ranks k j
    have f1 : decide (((ownL wants ranks k j).length + List.length [wants.getD j 0]) * 8 ≤ 140737488355328) = true := fits8 (by rw [selL_len]; omega) _
    simp only [sByRights_l14_t, Tr.sem, ltRange hj, ltRange (show j < wants.length by omega), zeroLe, Bool.and_self, cond_true, Int.toNat_natCast, up1 (show j ≤ 1048576 by omega), f1]
    by_cases hr : ranks.getD j 0 = k
    · rw [show (ranks.getD j 0 == k) = true from by simpa using hr]
      simp only [ownL, selL_step, if_pos hr, cond_true]
    · rw [show (ranks.getD j 0 == k) = false from by simpa using hr]
      simp only [ownL, selL_step, if_neg hr, cond_false, List.append_nil]) (by
    rw [Nat.zero_add, hl]; simp only [sByRights_l14_t, Tr.sem, not_lt_self, cond_false])
  exact key
theorem S_l25 (am : Int) (wants ranks : List Int) (k : Int) (out own : List Int) (hl : ranks.length = wants.length) (h64 : wants.length ≤ 64) (ho : out.length = wants.length) (hw : own.length = cntL ranks k ranks.length) :
    sByRights_l25 am wants ranks k 0 0 out own = some (am, wants, ranks, k, putR out own ranks k ranks.length, own) := by
  have key := runL_steps (f := fun q : Int × Int × List Int => (sByRights_l25_t am wants ranks k own q.1 q.2.1 q.2.2).sem) (r := (am, wants, ranks, k, putR out own ranks k ranks.length, own)) ranks.length 0 (fun j => ((cntL ranks k j : Int), (j : Int), putR out own ranks k j)) (fun j _ hj => by
    have hj : j < ranks.length := by omega
    have c1 := cntL_le ranks k j
    have hp := putR_len out own ranks k j
    simp only [sByRights_l25_t, Tr.sem, ltRange hj, ltRange (show j < wants.length by omega), zeroLe, Bool.and_self, cond_true, Int.toNat_natCast, up1 (show j ≤ 1048576 by omega)]
    by_cases hr : ranks.getD j 0 = k
    · have hc := cntL_lt ranks k hr ranks.length hj
      rw [show (ranks.getD j 0 == k) = true from by simpa using hr]
      simp only [ltRange (show cntL ranks k j < own.length by omega), ltRange (show j < (putR out own ranks k j).length by omega), up1 (show cntL ranks k j ≤ 1048576 by omega), putR, cntL, if_pos hr, Bool.and_self, cond_true]
    · rw [show (ranks.getD j 0 == k) = false from by simpa using hr]
      simp only [putR, cntL, if_neg hr, cond_false, Nat.add_zero]) (by
    rw [Nat.zero_add]
    simp only [sByRights_l25_t, Tr.sem, decide_eq_false (show ¬ ((ranks.length : Int) < (wants.length : Int)) by omega), cond_false])
  exact key
theorem put_same (out own ranks : List Int) (k : Int) (h0 : ∀ i, own.getD i 0 = 0) (hz : ∀ i, ranks.getD i 0 = k → out.getD i 0 = 0) : ∀ m, m ≤ out.length → putR out own ranks k m = out
  | 0, _ => rfl
  | m + 1, h => by
    have ih := put_same out own ranks k h0 hz m (by omega)
    simp only [putR, ih]
    by_cases hm : ranks.getD m 0 = k
    · rw [if_pos hm, h0]
      apply List.ext_getElem?
      intro i
      rw [List.getElem?_set]
      by_cases e : m = i
      · subst e
        have hz' := hz m hm
        rw [List.getD_eq_getElem?_getD, List.getElem?_eq_getElem (show m < out.length by omega)] at hz'
        simp only [Option.getD_some] at hz'
        rw [if_pos rfl, if_pos (show m < out.length by omega), List.getElem?_eq_getElem (show m < out.length by omega), hz']
      · rw [if_neg e]
    · rw [if_neg hm]
theorem zeros_of {l : List Int} (h : ∀ x ∈ l, 0 ≤ x) (hs : isum l = 0) (i : Nat) : l.getD i 0 = 0 := by
  by_cases hi : i < l.length
  · have h1 := isum_mem h _ (getD_mem (d := 0) hi)
    have h2 := h _ (getD_mem (d := 0) hi)
    omega
  · rw [List.getD_eq_getElem?_getD, List.getElem?_eq_none (by omega)]; rfl
theorem S_rounds (wants ranks : List Int) (hw : unitsL wants) (hl : ranks.length = wants.length) : ∀ (j : Nat) (am : Int) (k : Nat) (out : List Int), k + j = 65 → 0 ≤ am → am ≤ 1000000000 → out.length = ranks.length → (∀ i, (k : Int) ≤ ranks.getD i 0 → out.getD i 0 = 0) →
    sByRights_l10 am wants ranks (k : Int) out = some (rightsL wants ranks j am k out)
  | 0, am, k, out, hk, h0, h1, ho, hz => runL_out (by simp only [sByRights_l10_t, Tr.sem, decide_eq_false (show ¬ ((k : Int) ≤ 64) by omega), cond_false]; rfl)
  | j + 1, am, k, out, hk, h0, h1, ho, hz => by
    have hu := own_units hw ranks (k : Int) hl
    have h64 := hw.1
    obtain ⟨o1, o2, o3, o4, o5, o6, o7⟩ := own2_spec h0 h1 hu
    have hs := units_sum hu
    have t14 := S_l14 am wants ranks k out hl h64
    have tt1 := S_sum _ (fun x hx => (hu.2 x hx).1) (by omega) (by have := hu.1; omega)
    have tt2 := S_sum _ o2 (by omega) (by have := hu.1; omega)
    have hol : (ownL wants ranks k ranks.length).length = cntL ranks k ranks.length := selL_len _ _ _ _
    have t25 := S_l25 am wants ranks k out (own2 am (ownL wants ranks k ranks.length)) hl h64 (by omega) (by omega)
    have ih := S_rounds wants ranks hw hl j (am - isum (own2 am (ownL wants ranks k ranks.length))) (k + 1) (putR out (own2 am (ownL wants ranks k ranks.length)) ranks k ranks.length) (by omega) (by omega) (by omega) (by rw [putR_len]; exact ho) (fun i hi => by
      rw [putR_get _ _ _ _ _ _ (by omega), if_neg (fun hc => by have := hc.2; omega)]
      exact hz i (by omega))
    have hw1 : IntKind.wrap .i64 (am - isum (own2 am (ownL wants ranks k ranks.length))) = am - isum (own2 am (ownL wants ranks k ranks.length)) := wrap_id (by omega) (by omega)
    refine (runL_in (s' := (am - isum (own2 am (ownL wants ranks k ranks.length)), wants, ranks, ((k + 1 : Nat) : Int), putR out (own2 am (ownL wants ranks k ranks.length)) ranks k ranks.length)) ?_).trans ih
    by_cases hzz : isum (ownL wants ranks k ranks.length) = 0
    · have e := o6 (by omega)
      rw [e, hzz, put_same out _ ranks k (zeros_of (fun x hx => (hu.2 x hx).1) hzz) (fun i hi => hz i (by omega)) _ (by omega), Int.sub_zero]
      simp only [sByRights_l10_t, Tr.sem, decide_eq_true (show ((k : Int) ≤ 64) by omega), t14, tt1, hzz, beq_self_eq_true, up1 (show k ≤ 1048576 by omega), osome, oget, cond_true]
    · have hne : (isum (ownL wants ranks k ranks.length) == 0) = false := by simpa using hzz
      by_cases hgt : isum (ownL wants ranks k ranks.length) > am
      · obtain ⟨q1, q2⟩ := o5 hgt
        have q1' := (S_split am _ h0 h1 hu (by omega)).trans q1
        simp only [sByRights_l10_t, Tr.sem, decide_eq_true (show ((k : Int) ≤ 64) by omega), t14, tt1, hne, decide_eq_true hgt, q1', t25, tt2, hw1, up1 (show k ≤ 1048576 by omega), osome, oget, cond_true, cond_false]
      · have e := o6 hgt
        rw [e] at t25 hw1 ⊢
        simp only [sByRights_l10_t, Tr.sem, decide_eq_true (show ((k : Int) ≤ 64) by omega), t14, tt1, hne, decide_eq_false hgt, t25, hw1, up1 (show k ≤ 1048576 by omega), osome, oget, cond_true, cond_false]
theorem S_byRights (am : Int) (wants ranks : List Int) (hr : ranks.length ≤ 1048576) (hwl : wants.length ≤ 1048576) : sByRights am wants ranks = some (bif rightB am wants ranks then .inr (rightsL wants ranks 65 am 0 (List.replicate wants.length 0)) else .inl ()) := by
  unfold sByRights sByRights_t
  simp only [Q_unit, P_list wants hwl, len_ne, Tr.sem, osome, oget, cond_true]
  cases ha : unitB am with
  | false => simp only [rightB, ha, Bool.false_and, Bool.not_false, cond_true, cond_false]
  | true =>
  cases h1 : win 1 64 (wants.length : Int) && wants.all unitB with
  | false => simp only [rightB, ha, h1, Bool.true_and, Bool.false_and, Bool.not_false, Bool.not_true, cond_true, cond_false]
  | true =>
    by_cases h2 : ranks.length = wants.length
    · have hn : wants.length ≤ 64 := by simp only [Bool.and_eq_true, win_iff] at h1; omega
      have h3 : sByRights_l4 am wants ranks 0 = some (bif ranks.all (win 0 64) then .inr (am, wants, ranks) else .inl ()) := by
        unfold sByRights_l4
        exact run_all (f := fun s => (sByRights_l4_t am wants ranks s).sem) ranks 0 (win 0 64) (.inl ()) (.inr (am, wants, ranks)) (by omega) (fun k hk x hx => by
          simp only [sByRights_l4_t, Tr.sem, ltRange hk, zeroLe, Bool.and_self, Int.toNat_natCast, getD_at hx, cond_true, Q_in]
          cases win 0 64 x <;> rfl) (by simp only [sByRights_l4_t, Tr.sem, not_lt_self, cond_false])
      simp only [h2, h3, decide_true, Bool.not_true, cond_true, cond_false]
      cases h4 : ranks.all (win 0 64) with
      | false => simp only [rightB, ha, h1, h2, h4, Bool.not_false, decide_true, Bool.and_false, Bool.true_and, isL, cond_true, cond_false]
      | true =>
        have hB : rightB am wants ranks = true := by simp only [rightB, ha, h1, h2, h4, decide_true, Bool.and_self, Bool.true_and]
        obtain ⟨p1, p2, p3, p4, p5⟩ := right_parts hB
        have hrr := S_rounds wants ranks p2 p4 65 am 0 (List.replicate wants.length 0) (by omega) p1.1 p1.2 (by simp [p4]) (fun i _ => by
          rw [List.getD_eq_getElem?_getD, List.getElem?_replicate]; split <;> rfl)
        have hr' : sByRights_l10 am wants ranks 0 (List.replicate wants.length 0) = _ := hrr
        simp only [isL, unR, hr', hB, mk8n (show wants.length ≤ 1048576 by omega), mk8m (show wants.length ≤ 1048576 by omega), Bool.not_true, cond_true, cond_false, Int.natCast_zero, Int.toNat_natCast]
        exact dif_true (mk8m (show wants.length ≤ 1048576 by omega))
    · simp only [rightB, ha, h1, h2, decide_false, Bool.not_false, Bool.not_true, Bool.and_false, Bool.false_and, cond_true, cond_false]
theorem rights_len (wants ranks : List Int) : ∀ (j : Nat) (am k : Int) (out : List Int), (rightsL wants ranks j am k out).length = out.length
  | 0, am, k, out => rfl
  | j + 1, am, k, out => by rw [rightsL, rights_len wants ranks j _ _ _, putR_len]
theorem pureFnExactByRights (am : Int) (wants ranks : List Int) (hW : wants.length ≤ 9223372036854775807) (hR : ranks.length ≤ 9223372036854775807) : wFnExactByRights am wants ranks = some true := by
  unfold wFnExactByRights wFnExactByRights_t
  cases hz : decide (((wants.length : Nat) : Int) > 1048576) with
  | true => rfl
  | false =>
    have hw : wants.length ≤ 1048576 := by have := of_decide_eq_false hz; omega
    refine (brF rfl).trans ?_
    cases hy : decide (((ranks.length : Nat) : Int) > 1048576) with
    | true => rfl
    | false =>
      have hr : ranks.length ≤ 1048576 := by have := of_decide_eq_false hy; omega
      refine (brF rfl).trans ?_
      obtain ⟨ys, hm⟩ := Q_markI (1 + (wants.length : Int)) ranks hr (by omega) (by omega)
      have hd0 : decide (1 + (wants.length : Int) + (ranks.length : Int) < 0) = false := by simp only [decide_eq_false_iff_not]; omega
      have s1 := S_byRights am wants ranks hr hw
      have s2 := T_byRights am wants ranks
      cases hb : rightB am wants ranks with
      | false =>
        rw [hb] at s1 s2
        simp only [cond_false] at s1 s2
        simp only [Q_to wants hw, Q_to ranks hr, Q_eq wants hw, Q_eq ranks hr, Q_mark wants hw, hm, hd0, s1, s2, Tr.sem, osome, oget, isL, cond_true, Bool.not_true, cond_false, Q_eqnil, Q_nil, Q_heldnil, beq_self_eq_true, bne_self_eq_false, show decide ((1 : Int) < 0) = false from rfl]
      | true =>
        rw [hb] at s1 s2
        simp only [cond_true] at s1 s2
        have hl : (rightsL wants ranks 65 am 0 (List.replicate wants.length 0)).length ≤ 1048576 := by rw [rights_len, List.length_replicate]; exact hw
        generalize rightsL wants ranks 65 am 0 (List.replicate wants.length 0) = l at *
        have hd : decide (1 + (l.length : Int) < 0) = false := by simp only [decide_eq_false_iff_not]; omega
        simp only [Q_to wants hw, Q_to ranks hr, Q_eq wants hw, Q_eq ranks hr, Q_mark wants hw, hm, hd0, s1, s2, Tr.sem, osome, oget, isL, unR, cond_true, Bool.not_true, cond_false, Q_eq l hl, Q_mark l hl, Q_held l.length hl, hd, beq_self_eq_true, bne_self_eq_false]
end Go.Proofs.Ytjohnpldkanjmaa
