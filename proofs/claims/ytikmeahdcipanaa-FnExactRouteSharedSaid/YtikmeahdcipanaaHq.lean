/- Chains of reaches, for many lists. -/
import Derived.Test.YtikmeahdcipanaaPa
import Derived.Test.YtikmeahdcipanaaHb1d
set_option linter.unusedVariables false
set_option linter.unusedSimpArgs false
set_option linter.constructorNameAsVariable false
namespace Go.Proofs.Ytikmeahdcipanaa
open Go.RowKit
set_option maxRecDepth 100000
theorem P_areFinite (xs : List Nat) (hl : xs.length ≤ 9223372036854775807) : iareFinite xs = some (xs.all (isFin .f32)) := by
  have h0 := run_idx (f := fun s => (lIndexFunc_iareFinite_1_l2_t xs xs.length s).sem) xs (fun x => !(isFin .f32 x)) hl (fun k hk x hx => by
    simp only [lIndexFunc_iareFinite_1_l2_t, Tr.sem, ltRange hk, inRange hk, Int.toNat_natCast, getD_at hx, cond_true, iareFinite_1, iareFinite_1_t, Tr.val]
    cases isFin .f32 x <;> rfl) (by simp only [lIndexFunc_iareFinite_1_l2_t, Tr.sem, not_lt_self, cond_false])
  have h1 : lIndexFunc_iareFinite_1 xs = some (idxI (fstIdx (fun x => !(isFin .f32 x)) 0 xs)) := idx_tree h0
  have h2 : lContainsFunc_iareFinite_1 xs = some (xs.any fun x => !(isFin .f32 x)) := has_tree h1
  have h3 : iareFinite xs = _ := not_tree h2
  rw [h3, not_any]
/-! ### What laws copy, compare and mark -/
theorem q_fold_set {α : Type} : ∀ (xs ys : List α) (k : Nat) (pre : List α), pre.length = k → ys.length = xs.length → foldE (fun k (t : List α) x => (.inl (t.set k x) : List α ⊕ List α)) id k (pre ++ ys) xs = pre ++ xs
  | [], ys, k, pre, hp, hl => by
    have : ys = [] := List.length_eq_zero_iff.1 (by simpa using hl)
    subst this; rfl
  | x :: xs, [], k, pre, hp, hl => by simp at hl
  | x :: xs, y :: ys, k, pre, hp, hl => by
    simp only [foldE]
    have e : (pre ++ y :: ys).set k x = (pre ++ [x]) ++ ys := by
      rw [List.set_append_right _ _ (by omega), show k - pre.length = 0 from by omega, List.set_cons_zero, List.append_assoc]; rfl
    rw [e, q_fold_set xs ys (k + 1) (pre ++ [x]) (by simp [hp]) (by simpa using hl), List.append_assoc]; rfl
theorem run_copy {α : Type} {f : Int × List α → Option ((Int × List α) ⊕ List α)} (xs ys : List α) (hl : ys.length = xs.length) (hb : xs.length ≤ 9223372036854775806)
    (hf : ∀ (k : Nat) (t : List α) (x : α), k < xs.length → t.length = xs.length → xs[k]? = some x → f ((k : Int), t) = some (.inl (IntKind.wrap .i64 ((k : Int) + 1), t.set k x)))
    (he : ∀ t : List α, f ((xs.length : Nat), t) = some (.inr t)) : runL f (0, ys) = some xs := by
  have h := runL_for (f := f) xs (fun k (t : List α) => ((k : Int), t)) (fun k t x => .inl (t.set k x)) id (fun _ t => t.length = xs.length) ys hl (fun k t x hi hk hx => by
    rw [hf k t x hk hi hx, wrap_id (by omega) (by omega)]; rfl) (fun k t x t' hi hk hx e => by cases e; simpa using hi) (fun t _ => he t)
  have e := q_fold_set xs ys 0 [] rfl hl
  simp only [List.nil_append] at e
  rw [e] at h
  exact h
theorem mk4 {n : Nat} (h : n ≤ 1048576) : (decide (((n : Nat) : Int) = ((n : Nat) : Int)) && decide (0 ≤ ((n : Nat) : Int)) && decide (((n : Nat) : Int) * ((4 : Nat) : Int) ≤ 140737488355328)) = true := by
  simp only [decide_true, Bool.true_and, Bool.and_eq_true, decide_eq_true_eq]; omega
theorem R_to (xs : List Nat) (h : xs.length ≤ 1048576) : wtoFloat32S xs = some xs := by
  unfold wtoFloat32S wtoFloat32S_t
  have h1 : wtoFloat32S_l3 xs 0 (List.replicate (Int.toNat ((xs.length : Nat) : Int)) 0) = some xs := by
    unfold wtoFloat32S_l3
    refine run_copy xs _ (by simp) (by omega) (fun k t x hk ht hx => ?_) (fun t => by simp only [wtoFloat32S_l3_t, Tr.sem, not_lt_self, cond_false])
    simp only [wtoFloat32S_l3_t, Tr.sem, ltRange hk, zeroLe, Bool.and_self, ltRange (show k < t.length by omega), cond_true, Int.toNat_natCast, getD_at hx]
  refine (brT (mk4 h)).trans ?_
  simp only [Tr.sem, h1, osome, oget, cond_true]
theorem R_eq (xs : List Nat) (h : xs.length ≤ 1048576) : weqFloat32S xs xs = some true := by
  unfold weqFloat32S weqFloat32S_t
  have h1 : weqFloat32S_l4 xs xs 0 = some () := by
    unfold weqFloat32S_l4
    have := run_all (f := fun s => (weqFloat32S_l4_t xs xs s).sem) xs 0 (fun _ => true) () () (by omega) (fun k hk x hx => by
      simp only [weqFloat32S_l4_t, Tr.sem, ltRange hk, zeroLe, Bool.and_self, cond_true, natEq_self]) (by simp only [weqFloat32S_l4_t, Tr.sem, not_lt_self, cond_false])
    rw [all_true] at this
    exact this
  simp only [Tr.sem, bne_self_eq_false, cond_false, h1, osome, cond_true]
/-- The words of numbers one after another. -/
def seqF : Int → Nat → List Nat
  | _, 0 => []
  | k, n + 1 => FloatKind.nearest .f32 k :: seqF (k + 1) n
theorem seqF_len : ∀ (n : Nat) (k : Int), (seqF k n).length = n
  | 0, _ => rfl
  | n + 1, k => by simp [seqF, seqF_len n]
theorem seqF_get : ∀ (n : Nat) (k : Int) (j : Nat), j < n → (seqF k n)[j]? = some (FloatKind.nearest .f32 (k + j))
  | 0, _, j, h => by omega
  | n + 1, k, 0, h => by simp [seqF]
  | n + 1, k, j + 1, h => by
    simp only [seqF, List.getElem?_cons_succ]
    rw [seqF_get n (k + 1) j (by omega)]
    congr 2; omega
theorem fold_markF (m : Int) : ∀ (xs ys : List Nat) (k : Nat) (pre : List Nat), pre.length = k → ys.length = xs.length → foldE (fun k (t : List Nat) (x : Nat) => (.inl (t.set k (FloatKind.nearest .f32 (m + k))) : List Nat ⊕ List Nat)) id k (pre ++ ys) xs = pre ++ seqF (m + k) xs.length
  | [], ys, k, pre, hp, hl => by
    have : ys = [] := List.length_eq_zero_iff.1 (by simpa using hl)
    subst this; rfl
  | x :: xs, [], k, pre, hp, hl => by simp at hl
  | x :: xs, y :: ys, k, pre, hp, hl => by
    simp only [foldE]
    have e : (pre ++ y :: ys).set k (FloatKind.nearest .f32 (m + k)) = (pre ++ [FloatKind.nearest .f32 (m + (k : Int))]) ++ ys := by
      rw [List.set_append_right _ _ (by omega), show k - pre.length = 0 from by omega, List.set_cons_zero, List.append_assoc]; rfl
    rw [e, fold_markF m xs ys (k + 1) (pre ++ [FloatKind.nearest .f32 (m + (k : Int))]) (by simp [hp]) (by simpa using hl), List.append_assoc, show m + ((k + 1 : Nat) : Int) = m + k + 1 from by omega]; rfl
theorem R_markG (m : Int) (xs : List Nat) (h : xs.length ≤ 1048576) (h0 : 0 ≤ m) (hm : m ≤ 16777216) : wmarkFloat32S m xs = some (m + (xs.length : Int), seqF m xs.length) := by
  unfold wmarkFloat32S wmarkFloat32S_t
  have h1 : wmarkFloat32S_l2 m 0 xs = some (m + (xs.length : Int), seqF m xs.length) := by
    unfold wmarkFloat32S_l2
    have := runL_for (f := fun s : Int × Int × List Nat => (wmarkFloat32S_l2_t s.1 s.2.1 s.2.2).sem) xs (fun k (t : List Nat) => (m + (k : Int), (k : Int), t)) (fun k t x => .inl (t.set k (FloatKind.nearest .f32 (m + (k : Int))))) (fun t => (m + (xs.length : Int), t)) (fun _ t => t.length = xs.length) xs rfl (fun k t x hi hk hx => by
      simp only [wmarkFloat32S_l2_t, Tr.sem, ltRange (show k < t.length by omega), zeroLe, Bool.and_self, cond_true, Int.toNat_natCast]
      rw [wrap_id (by omega) (by omega), wrap_id (by omega) (by omega)]
      simp only [Int.natCast_add, Int.add_assoc]; rfl) (fun k t x t' hi hk hx e => by cases e; simpa using hi) (fun t hi => by
      simp only [wmarkFloat32S_l2_t, Tr.sem]
      rw [hi, not_lt_self]; rfl)
    have e := fold_markF m xs xs 0 [] rfl rfl
    have key : ∀ (ys : List Nat) (k : Nat) (t : List Nat), foldE (fun k (t : List Nat) (x : Nat) => (.inl (t.set k (FloatKind.nearest .f32 (m + (k : Int)))) : List Nat ⊕ (Int × List Nat))) (fun t => (m + (xs.length : Int), t)) k t ys = (m + (xs.length : Int), foldE (fun k (t : List Nat) (x : Nat) => (.inl (t.set k (FloatKind.nearest .f32 (m + k))) : List Nat ⊕ List Nat)) id k t ys) := by
      intro ys
      induction ys with
      | nil => intro k t; rfl
      | cons y ys ih => intro k t; simp only [foldE]; exact ih _ _
    rw [key] at this
    simp only [List.nil_append] at e
    rw [e] at this
    simp only [Int.natCast_zero, Int.add_zero] at this
    exact this
  simp only [Tr.sem, h1, osome, oget, cond_true]
theorem R_mark (xs : List Nat) (h : xs.length ≤ 1048576) : wmarkFloat32S 1 xs = some (1 + (xs.length : Int), seqF 1 xs.length) := R_markG 1 xs h (by omega) (by omega)
theorem near_num (n : Int) : isN .f32 (FloatKind.nearest .f32 n) = false := isN_encode .f32 _ rfl
theorem R_heldG (m : Int) (n : Nat) (h : n ≤ 1048576) (h0 : 0 ≤ m) (hm : m ≤ 16777216) : wheldFloat32S (seqF m n) m = some (m + (n : Int)) := by
  unfold wheldFloat32S wheldFloat32S_t
  have h1 : wheldFloat32S_l2 (seqF m n) m 0 = some (.inr (m + (n : Int))) := by
    unfold wheldFloat32S_l2
    have := runL_for (f := fun s : Int × Int => (wheldFloat32S_l2_t (seqF m n) s.1 s.2).sem) (seqF m n) (fun k (_ : Unit) => (m + (k : Int), (k : Int))) (fun k t x => (.inl () : Unit ⊕ (Int ⊕ Int))) (fun t => .inr (m + (n : Int))) (fun _ _ => True) () trivial (fun k t x _ hk hx => by
      have hk' : k < n := by rw [seqF_len] at hk; exact hk
      have hx' := seqF_get n m k hk'
      rw [hx] at hx'
      cases hx'
      simp only [wheldFloat32S_l2_t, Tr.sem, ltRange hk, zeroLe, Bool.and_self, cond_true, Int.toNat_natCast, getD_at hx, feq_self, near_num, Bool.not_false, Bool.not_true, cond_false]
      rw [wrap_id (by omega) (by omega), wrap_id (by omega) (by omega)]
      simp only [Int.natCast_add, Int.add_assoc]; rfl) (fun _ _ _ _ _ _ _ _ => trivial) (fun _ _ => by
      simp only [wheldFloat32S_l2_t, Tr.sem, not_lt_self, cond_false, seqF_len])
    have key : ∀ (ys : List Nat) (k : Nat), foldE (fun k (t : Unit) (x : Nat) => (.inl () : Unit ⊕ (Int ⊕ Int))) (fun t => .inr (m + (n : Int))) k () ys = .inr (m + (n : Int)) := by
      intro ys
      induction ys with
      | nil => intro k; rfl
      | cons y ys ih => intro k; simp only [foldE]; exact ih _
    rw [key] at this
    simp only [Int.natCast_zero, Int.add_zero] at this
    exact this
  simp only [Tr.sem, h1, osome, oget, cond_true, isL, unR, cond_false]
theorem R_held (n : Nat) (h : n ≤ 1048576) : wheldFloat32S (seqF 1 n) 1 = some (1 + (n : Int)) := R_heldG 1 n h (by omega) (by omega)
theorem R_heldnil : wheldFloat32S [] 1 = some 1 := R_held 0 (by omega)
theorem R_eqnil : weqFloat32S [] [] = some true := R_eq [] (by simp)
theorem R_left {n : Nat} {m : Int} (h0 : 0 ≤ m) (hm : m ≤ 1048576) (hn : n ≤ 9223372036854775807) : IntKind.wrap .i64 (m - (n : Int)) = m - n := wrap_id (by omega) (by omega)
def win (lo hi n : Int) : Bool := decide (lo ≤ n) && decide (n ≤ hi)
theorem R_within (n lo hi : Int) : iwithin n lo hi = win lo hi n := by
  unfold iwithin iwithin_t win
  cases h : decide (lo ≤ n) <;> simp [Tr.val, h]
theorem R_finite (xs : List Nat) (hl : xs.length ≤ 9223372036854775807) : sl02Finite xs = some (xs.all (isFin .f32)) := by
  have h0 := run_all (f := fun s => (sl02Finite_l2_t xs s).sem) xs 0 (isFin .f32) (.inl ()) (.inr ()) hl (fun k hk x hx => by
    simp only [sl02Finite_l2_t, Tr.sem, ltRange hk, zeroLe, Bool.and_self, Int.toNat_natCast, getD_at hx, cond_true]
    cases isFin .f32 x <;> rfl) (by simp only [sl02Finite_l2_t, Tr.sem, not_lt_self, cond_false])
  have h1 : sl02Finite_l2 xs 0 = some (bif xs.all (isFin .f32) then .inr () else .inl ()) := h0
  unfold sl02Finite sl02Finite_t
  simp only [h1, Tr.sem, osome, oget, cond_true]
  cases xs.all (isFin .f32) <;> rfl
def insB (xs : List Nat) : Bool := win 1 128 xs.length && xs.all (isFin .f32)
theorem R_sIns (xs : List Nat) : sl05Ins xs = some (insB xs) := by
  unfold sl05Ins sl05Ins_t insB win
  by_cases h1 : (xs.length : Int) ≥ 1
  · by_cases h2 : (xs.length : Int) ≤ 128
    · have h1' : (1 : Int) ≤ xs.length := h1
      simp [Tr.sem, h1', h2, R_finite xs (by omega), osome, oget]
    · simp [Tr.sem, h2]
  · have h1' : ¬ (1 : Int) ≤ xs.length := h1
    simp [Tr.sem, h1']
theorem R_iIns (xs : List Nat) : iareIns xs = some (insB xs) := by
  unfold iareIns iareIns_t insB
  simp only [R_within, Tr.sem]
  cases h : win 1 128 (xs.length : Int) with
  | false => rfl
  | true =>
    have hl : xs.length ≤ 128 := by simp only [win, Bool.and_eq_true, decide_eq_true_eq] at h; omega
    simp only [P_areFinite xs (by omega), osome, oget, cond_true, Bool.true_and]
theorem R_reach (d l : Nat) : iValidReach d l = sl05Reach d l := rfl
theorem R_shares (d l t : Nat) : iReachShares d l t = some (bif sl05Reach d l && isLen t then sl05Shares d l t else (0, 0, 0, false)) := by
  unfold iReachShares iReachShares_t sl05Shares sl05Shares_t
  simp only [R_reach, P_areFinite [_, _, _] (by simp), List.all_cons, List.all_nil, Bool.and_true, Tr.sem, Tr.val, osome, oget, cond_true]
  cases sl05Reach d l <;> cases isLen t <;> simp only [Bool.not_true, Bool.not_false, cond_true, cond_false, Bool.and_self, Bool.and_false, Bool.false_and, Bool.true_and]
  generalize fdiv .f32 (fsub .f32 t (fmul .f32 (fmul .f32 1073741824 d) l)) (fadd .f32 (fmul .f32 (fmul .f32 1073741824 d) (fsub .f32 1065353216 l)) t) = a
  generalize fdiv .f32 (fadd .f32 t (fmul .f32 (fmul .f32 1073741824 d) l)) (fadd .f32 (fmul .f32 (fmul .f32 1073741824 d) (fsub .f32 1065353216 l)) t) = b
  generalize fdiv .f32 (fsub .f32 (fmul .f32 (fmul .f32 1073741824 d) (fsub .f32 1065353216 l)) t) (fadd .f32 (fmul .f32 (fmul .f32 1073741824 d) (fsub .f32 1065353216 l)) t) = c
  cases isFin .f32 a <;> cases isFin .f32 b <;> cases isFin .f32 c <;> rfl
theorem R_run (ins : List Nat) (a b c x : Nat) (h1 : 1 ≤ ins.length) (hl : ins.length ≤ 1048576) : ∃ r, sl05Route_l6 ins a b c 1 [x] = some r ∧ iRouteReach_l6 ins a b c 1 [x] = some r ∧ r.length = ins.length := by
  obtain ⟨r, hr, hq⟩ := runL_ex0 (f := fun s : Int × List Nat => (sl05Route_l6_t ins a b c s.1 s.2).sem) (ins.length - 1) (fun j s => s.1 = (j : Int) + 1 ∧ s.2.length = j + 1) (fun r => r.length = ins.length) (1, [x]) ⟨rfl, rfl⟩ (fun j s hj ⟨e1, e2⟩ => by
    obtain ⟨y, l⟩ := s
    simp only at e1 e2
    subst e1
    have hw : IntKind.wrap .i64 ((j : Int) + 1 - 1) = (j : Int) := by rw [wrap_id (by omega) (by omega)]; omega
    simp only [sl05Route_l6_t, Tr.sem, hw, decide_eq_true (show ((j : Int) + 1) < (ins.length : Int) by omega), decide_eq_true (show (0 : Int) ≤ (j : Int) + 1 by omega), zeroLe, ltRange (show j < ins.length by omega), ltRange (show j < l.length by omega), Bool.and_self, cond_true]
    rw [decide_eq_true (by simp only [List.length_cons, List.length_nil]; omega)]
    refine ⟨_, rfl, ?_, ?_⟩
    · simp only; rw [wrap_id (by omega) (by omega)]; omega
    · simp only [List.length_append, List.length_cons, List.length_nil]; omega) (fun s ⟨e1, e2⟩ => by
    obtain ⟨y, l⟩ := s
    simp only at e1 e2
    subst e1
    exact ⟨l, by simp only [sl05Route_l6_t, Tr.sem, decide_eq_false (show ¬ (((ins.length - 1 : Nat) : Int) + 1 < (ins.length : Int)) by omega), cond_false], by omega⟩)
  exact ⟨r, hr, hr, hq⟩
theorem R_route (d l : Nat) (ins : List Nat) (t x : Nat) (h1 : 1 ≤ ins.length) (hl : ins.length ≤ 1048576) : ∃ r, sl05Route d l ins t x = some r ∧ (∀ q, r = .inr q → q.length = ins.length) ∧ (bif (sl05Shares d l t).2.2.2 then (∃ q, iRouteReach_l6 ins (sl05Shares d l t).1 (sl05Shares d l t).2.1 (sl05Shares d l t).2.2.1 1 [x] = some q ∧ q.length = ins.length ∧ r = bif q.all (isFin .f32) then .inr q else .inl ()) else r = .inl ()) := by
  obtain ⟨q, q1, q2, q3⟩ := R_run ins (sl05Shares d l t).1 (sl05Shares d l t).2.1 (sl05Shares d l t).2.2.1 x h1 hl
  unfold sl05Route sl05Route_t
  simp only [q1, R_finite q (by omega), Tr.sem, osome, oget, cond_true]
  cases (sl05Shares d l t).2.2.2 with
  | false => exact ⟨_, rfl, (fun q h => by cases h), rfl⟩
  | true =>
    cases hq : q.all (isFin .f32) with
    | false => exact ⟨_, rfl, (fun q h => by cases h), q, q2, q3, by rw [hq]; rfl⟩
    | true => exact ⟨_, rfl, (fun q' h => by cases h; exact q3), q, q2, q3, by rw [hq]; rfl⟩
/-- One reach, for rows that are in order. -/
theorem R_one (d l : Nat) (ins : List Nat) (t x : Nat) (hi : insB ins = true) (hx : isFin .f32 x = true) : ∃ r : Unit ⊕ List Nat, (sl05Route d l ins t x = some r ∨ (sl05Reach d l && isLen t) = false) ∧ iRouteReach d l ins t x = some (bif sl05Reach d l && isLen t then r else .inl ()) ∧ ((sl05Reach d l && isLen t) = true → ∀ q, r = .inr q → insB q = true ∧ q.length = ins.length) := by
  have hlen : 1 ≤ ins.length ∧ ins.length ≤ 128 := by simp only [insB, win, Bool.and_eq_true, decide_eq_true_eq] at hi; omega
  obtain ⟨r, r1, r2, r3⟩ := R_route d l ins t x hlen.1 (by omega)
  refine ⟨r, .inl r1, ?_, ?_⟩
  · unfold iRouteReach iRouteReach_t
    simp only [R_iIns, R_shares, Tr.sem, osome, oget, cond_true]
    cases hr : sl05Reach d l && isLen t with
    | false => rfl
    | true =>
      simp only [cond_true, hi, hx, Bool.not_true, cond_false]
      cases hs : (sl05Shares d l t).2.2.2 with
      | false =>
        rw [hs] at r3
        have r3' : r = .inl () := r3
        subst r3'
        rfl
      | true =>
        rw [hs] at r3
        obtain ⟨q, q1, q2, q3⟩ := (show ∃ q, _ from r3)
        simp only [q1, P_areFinite q (by omega), osome, oget, cond_true, Bool.not_true, cond_false]
        cases hq : q.all (isFin .f32) with
        | false => rw [hq] at q3; subst q3; rfl
        | true => rw [hq] at q3; simp only [cond_true] at q3; subst q3; rfl
  · intro _ q hq
    have hl := r2 q hq
    refine ⟨?_, hl⟩
    cases hs : (sl05Shares d l t).2.2.2 with
    | false => rw [hs] at r3; have r3' : r = .inl () := r3; rw [r3'] at hq; cases hq
    | true =>
      rw [hs] at r3
      obtain ⟨p, q1, q2, q3⟩ := (show ∃ q, _ from r3)
      cases hp : p.all (isFin .f32) with
      | false => rw [hp] at q3; rw [q3] at hq; cases hq
      | true =>
        rw [hp] at q3
        rw [q3] at hq
        cases hq
        unfold insB win
        rw [hp]
        simp only [Bool.and_true, Bool.and_eq_true, decide_eq_true_eq]; omega

noncomputable def rchB (x : Nat × Nat) : Bool := sl05Reach x.1 x.2
noncomputable def listB (l : List (Nat × Nat)) : Bool := win 1 12 l.length && l.all rchB
theorem R_iList (l : List (Nat × Nat)) (hl : l.length ≤ 9223372036854775807) : iareReaches l = some (listB l) := by
  have h0 := run_idx (f := fun s => (lIndexFunc_iareReaches_1_l2_t l l.length s).sem) l (fun x => !(rchB x)) hl (fun k hk x hx => by
    simp only [lIndexFunc_iareReaches_1_l2_t, Tr.sem, ltRange hk, inRange hk, Int.toNat_natCast, getD_at hx, cond_true, iareReaches_1, iareReaches_1_t, Tr.val]
    show (bif !rchB x then _ else _) = _
    cases rchB x <;> rfl) (by simp only [lIndexFunc_iareReaches_1_l2_t, Tr.sem, not_lt_self, cond_false])
  have h1 : lIndexFunc_iareReaches_1 l = some (idxI (fstIdx (fun x => !(rchB x)) 0 l)) := idx_tree h0
  have h2 : lContainsFunc_iareReaches_1 l = some (l.any fun x => !(rchB x)) := has_tree h1
  unfold iareReaches iareReaches_t listB
  simp only [R_within, h2, Tr.sem, osome, oget, cond_true]
  cases win 1 12 (l.length : Int) with
  | false => rfl
  | true => rw [not_any]; rfl
theorem R_sList (l : List (Nat × Nat)) (hl : l.length ≤ 9223372036854775807) : sl05List l = some (listB l) := by
  by_cases h12 : l.length ≤ 12
  · have h12' : (l.length : Int) ≤ 12 := by omega
    have h0 := run_all (f := fun s => (sl05List_l3_t l l.length s).sem) l (0, 0) rchB (.inl ()) (.inr (l.length : Int)) hl (fun k hk x hx => by
      simp only [sl05List_l3_t, Tr.sem, ltRange hk, zeroLe, Bool.and_self, Int.toNat_natCast, getD_at hx, cond_true, decide_eq_true h12']
      show (bif !rchB x then _ else _) = _
      cases rchB x <;> rfl) (by simp only [sl05List_l3_t, Tr.sem, not_lt_self, cond_false])
    have h1 : sl05List_l3 l l.length 0 = some (bif l.all rchB then .inr (l.length : Int) else .inl ()) := h0
    unfold sl05List sl05List_t listB win
    cases hm : l.all rchB with
    | false =>
      rw [hm] at h1
      simp only [cond_false] at h1
      simp [h1, Tr.sem, osome, oget, isL]
    | true =>
      rw [hm] at h1
      simp only [cond_true] at h1
      simp only [h1, Tr.sem, osome, oget, cond_true, isL, unR, cond_false, Bool.and_true]
      by_cases h1 : (1 : Int) ≤ l.length
      · rw [decide_eq_true (show (l.length : Int) ≥ 1 from h1)]; rfl
      · rw [decide_eq_false (show ¬ (l.length : Int) ≥ 1 from h1)]; rfl
  · have e12 : decide ((l.length : Int) ≤ 12) = false := by simp only [decide_eq_false_iff_not]; omega
    have h1 : sl05List_l3 l l.length 0 = some (.inr (l.length : Int)) := runL_out (by
      simp only [sl05List_l3_t, Tr.sem, decide_eq_true (show (0 : Int) < l.length by omega), cond_true, e12, cond_false])
    unfold sl05List sl05List_t listB win
    simp only [h1, Tr.sem, osome, oget, cond_true, isL, unR, cond_false, e12, Bool.and_false, Bool.false_and]
    cases decide ((l.length : Int) ≥ 1) <;> rfl

def chO : Unit ⊕ List Nat → Unit ⊕ List Nat ⊕ List Nat
  | .inl _ => .inl ()
  | .inr q => .inr (.inr q)
theorem ins_head {ins : List Nat} (h : insB ins = true) : 1 ≤ ins.length ∧ ins.length ≤ 128 ∧ isFin .f32 (ins.getD (Int.toNat 0) 0) = true := by
  simp only [insB, win, Bool.and_eq_true, decide_eq_true_eq, List.all_eq_true] at h
  refine ⟨by omega, by omega, ?_⟩
  have hl : 0 < ins.length := by omega
  rw [show Int.toNat 0 = 0 from rfl, List.getD_eq_getElem?_getD, List.getElem?_eq_getElem hl]
  exact h.2 _ (List.getElem_mem hl)
theorem R_chain (l : List (Nat × Nat)) (t : Nat) (hn : l.length ≤ 12) (hl : l.all rchB = true) (ht : isLen t = true) : ∀ (j : Nat) (ins : List Nat), j ≤ l.length → insB ins = true →
    ∃ r : Unit ⊕ List Nat, runL (fun s : Int × List Nat => (sl05Chain_l3_t l t (l.length : Int) s.1 s.2).sem) (((l.length - j : Nat) : Int), ins) = some r ∧ runL iRouteReaches_l4_s (.inr (t, l, (l.length : Int), ((l.length - j : Nat) : Int), ins)) = some (chO r) ∧ ∀ q, r = .inr q → q.length ≤ 128
  | 0, ins, hj, hi => by
    refine ⟨.inr ins, runL_out ?_, runL_out ?_, fun q h => by cases h; exact (ins_head hi).2.1⟩
    · simp only [sl05Chain_l3_t, Tr.sem, Nat.sub_zero, not_lt_self, cond_false]
    · show (iRouteReaches_l4_t1 t l (l.length : Int) ((l.length - 0 : Nat) : Int) ins).sem = _
      simp only [iRouteReaches_l4_t1, Tr.sem, Nat.sub_zero, not_lt_self, cond_false]; rfl
  | j + 1, ins, hj, hi => by
    obtain ⟨g1, g2, g3⟩ := ins_head hi
    have hk : l.length - (j + 1) < l.length := by omega
    have h0 : (decide ((0 : Int) ≤ 0) && decide ((0 : Int) < (ins.length : Int))) = true := by simp; omega
    have hw : IntKind.wrap .i64 (((l.length - (j + 1) : Nat) : Int) + 1) = ((l.length - j : Nat) : Int) := by rw [wrap_id (by omega) (by omega)]; omega
    have hr : sl05Reach (l.getD (l.length - (j + 1)) (0, 0)).1 (l.getD (l.length - (j + 1)) (0, 0)).2 = true := by
      rw [List.getD_eq_getElem?_getD, List.getElem?_eq_getElem hk]
      exact List.all_eq_true.1 hl _ (List.getElem_mem hk)
    obtain ⟨r, r1, r2, r3⟩ := R_one (l.getD (l.length - (j + 1)) (0, 0)).1 (l.getD (l.length - (j + 1)) (0, 0)).2 ins t (ins.getD (Int.toNat 0) 0) hi g3
    rw [hr, ht] at r1 r2 r3
    have r1 := r1.resolve_right (by simp)
    simp only [Bool.and_self, cond_true] at r2
    cases r with
    | inl u =>
      refine ⟨.inl (), runL_out ?_, runL_out ?_, fun q h => by cases h⟩
      · simp only [sl05Chain_l3_t, Tr.sem, ltRange hk, zeroLe, Bool.true_and, h0, cond_true, Int.toNat_natCast, r1, osome, oget, isL]
      · show (iRouteReaches_l4_t1 t l (l.length : Int) ((l.length - (j + 1) : Nat) : Int) ins).sem = _
        simp only [iRouteReaches_l4_t1, Tr.sem, ltRange hk, zeroLe, Bool.true_and, h0, cond_true, Int.toNat_natCast, r2, osome, oget, isL]; rfl
    | inr q =>
      obtain ⟨p, p1, p2, p3⟩ := R_chain l t hn hl ht j q (by omega) (r3 rfl q rfl).1
      refine ⟨p, (runL_in (s' := (((l.length - j : Nat) : Int), q)) ?_).trans p1, (runL_in (s' := .inr (t, l, (l.length : Int), ((l.length - j : Nat) : Int), q)) ?_).trans p2, p3⟩
      · simp only [sl05Chain_l3_t, Tr.sem, ltRange hk, zeroLe, Bool.true_and, h0, cond_true, Int.toNat_natCast, r1, osome, oget, isL, unR, cond_false, hw]
      · show (iRouteReaches_l4_t1 t l (l.length : Int) ((l.length - (j + 1) : Nat) : Int) ins).sem = _
        simp only [iRouteReaches_l4_t1, Tr.sem, ltRange hk, zeroLe, Bool.true_and, h0, cond_true, Int.toNat_natCast, r2, osome, oget, isL, unR, cond_false, hw]
theorem R_first (l : List (Nat × Nat)) (t : Nat) (ins : List Nat) (h : 1 ≤ l.length) : iRouteReaches_l4 (.inl (ins, t, l, (l.length : Int), 0)) = runL iRouteReaches_l4_s (.inr (t, l, (l.length : Int), 0, ins)) := by
  unfold iRouteReaches_l4
  have e : iRouteReaches_l4_s (.inl (ins, t, l, (l.length : Int), 0)) = iRouteReaches_l4_s (.inr (t, l, (l.length : Int), 0, ins)) := by
    show (iRouteReaches_l4_t0 ins t l (l.length : Int) 0).sem = (iRouteReaches_l4_t1 t l (l.length : Int) 0 ins).sem
    simp only [iRouteReaches_l4_t0, iRouteReaches_l4_t1, Tr.sem, decide_eq_true (show (0 : Int) < (l.length : Int) by omega), cond_true]
  rw [runL_eq, runL_eq, e]
/-- One list of numbers, down a chain of valid reaches. -/
theorem R_each (l : List (Nat × Nat)) (ins : List Nat) (t : Nat) (hl : l.length ≤ 9223372036854775807) (hL : listB l = true) (ht : isLen t = true) : ∃ r : Unit ⊕ List Nat, (bif insB ins then sl05Chain l ins t = some r else r = .inl ()) ∧ iRouteReaches l ins t = some (chO r) ∧ ∀ q, r = .inr q → q.length ≤ 128 := by
  unfold iRouteReaches iRouteReaches_t
  simp only [R_iList l hl, R_iIns, Tr.sem, osome, oget, cond_true, hL, Bool.not_true, cond_false]
  cases hi : insB ins with
  | false => exact ⟨.inl (), rfl, rfl, (fun q h => by cases h)⟩
  | true =>
  simp only [listB, win, Bool.and_eq_true, decide_eq_true_eq] at hL
  have hn : 1 ≤ l.length ∧ l.length ≤ 12 := by omega
  obtain ⟨g1, g2, g3⟩ := ins_head hi
  obtain ⟨r, r1, r2, r3⟩ := R_chain l t hn.2 hL.2 ht l.length ins (Nat.le_refl _) hi
  rw [Nat.sub_self] at r1 r2
  have hA : iRouteReaches_l4 (.inl (ins, t, l, (l.length : Int), 0)) = some (chO r) := (R_first l t ins hn.1).trans r2
  have hf : decide ((List.length ([] : List Nat) + ins.length) * 4 ≤ 140737488355328) = true := by simp only [decide_eq_true_eq, List.length_nil]; omega
  have hB : sl05Chain_l3 l t (l.length : Int) 0 ([] ++ ins) = some (match r with | .inl _ => .inl () | .inr q => .inr q) := by
    cases r <;> exact r1
  have hC : sl05Chain l ins t = some r := by
    unfold sl05Chain sl05Chain_t
    simp only [hf, hB, Tr.sem, osome, oget, cond_true]
    cases r <;> rfl
  simp only [hA, Bool.not_true, cond_true, cond_false, osome, oget]
  cases r with
  | inl u => exact ⟨.inl (), hC, rfl, (fun q h => by cases h)⟩
  | inr q => exact ⟨.inr q, hC, rfl, r3⟩
end Go.Proofs.Ytikmeahdcipanaa
