/- The program's sums and splits, told plainly. -/
import Derived.Test.YtcjekndobhkmbaaSp
import Derived.Test.YtcjekndobhkmbaaGu1d
set_option linter.unusedVariables false
set_option linter.unusedSimpArgs false
set_option linter.constructorNameAsVariable false
namespace Go.Proofs.Ytcjekndobhkmbaa
open Go.RowKit
set_option maxRecDepth 100000
theorem runL_steps {σ ρ : Type} {f : σ → Option (σ ⊕ ρ)} {r : ρ} : ∀ (n k : Nat) (s : Nat → σ), (∀ j, k ≤ j → j < k + n → f (s j) = some (.inl (s (j + 1)))) → f (s (k + n)) = some (.inr r) → runL f (s k) = some r
  | 0, k, s, h, he => runL_out he
  | n + 1, k, s, h, he => (runL_in (h k (Nat.le_refl _) (by omega))).trans (runL_steps n (k + 1) s (fun j h1 h2 => h j (by omega) (by omega)) (by rw [show k + 1 + n = k + (n + 1) by omega]; exact he))
theorem up1 {k : Nat} (h : k ≤ 1048576) : IntKind.wrap .i64 ((k : Int) + 1) = ((k + 1 : Nat) : Int) := by rw [wrap_id (by omega) (by omega)]; omega
theorem fits8 {a : Nat} (h : a ≤ 1048576) (x : Int) : decide ((a + List.length [x]) * 8 ≤ 140737488355328) = true := by
  simp only [List.length_cons, List.length_nil, decide_eq_true_eq]; omega
/-- One list is added up. -/
theorem T_one (a y2 y3 : Int) (L : List (List Int)) (l : List Int) (ha : 0 ≤ a) (h : ∀ x ∈ l, 0 ≤ x) (hs : a + isum l ≤ 4611686018427387904) (hl : l.length ≤ 1048576) : itotal_l6 a L y2 y3 l (l.length : Nat) 0 = some (a + isum l, L, y2, y3) := by
  have key := runL_steps (f := fun q : Int × Int => (itotal_l6_t L y2 y3 l (l.length : Nat) q.1 q.2).sem) (r := (a + isum l, L, y2, y3)) l.length 0 (fun k => (a + isum (l.take k), (k : Int))) (fun j _ hj => by
    have hj : j < l.length := by omega
    have e := take_succ l j 0 hj
    have hb := isum_take h (j + 1)
    have hb0 := isum_take h j
    rw [e, isum_append] at hb
    simp only [isum] at hb
    simp only [itotal_l6_t, Tr.sem, ltRange hj, zeroLe, Bool.and_self, cond_true, Int.toNat_natCast, up1 (show j ≤ 1048576 by omega), e, isum_append, isum]
    rw [wrap_id (by omega) (by omega), show a + isum (l.take j) + l.getD j 0 = a + (isum (l.take j) + (l.getD j 0 + 0)) by omega]) (by
    rw [Nat.zero_add, List.take_length]; simp only [itotal_l6_t, Tr.sem, not_lt_self, cond_false])
  have e0 : isum (l.take 0) = 0 := by simp [isum]
  simp only [e0, Int.add_zero] at key
  exact key
def isums (L : List (List Int)) : Int := isum (L.map isum)
theorem T_total (L : List (List Int)) (h : ∀ l ∈ L, (∀ x ∈ l, 0 ≤ x) ∧ l.length ≤ 1048576) (hs : isums L ≤ 4611686018427387904) (hl : L.length ≤ 1048576) : itotal L = some (isums L) := by
  have hn : ∀ y ∈ L.map isum, 0 ≤ y := fun y hy => by obtain ⟨l, hl, rfl⟩ := List.mem_map.1 hy; exact isum_nonneg (h l hl).1
  have key := runL_steps (f := fun q : Int × List (List Int) × Int × Int => (itotal_l3_t q.1 q.2.1 q.2.2.1 q.2.2.2).sem) (r := isums L) L.length 0 (fun k => (isum ((L.map isum).take k), L, (L.length : Int), (k : Int))) (fun j _ hj => by
    have hj : j < L.length := by omega
    have e := take_succ (L.map isum) j 0 (by simpa using hj)
    have eg : (L.map isum).getD j 0 = isum (L.getD j []) := by
      simp only [List.getD_eq_getElem?_getD, List.getElem?_map, List.getElem?_eq_getElem hj]; rfl
    have hb := isum_take hn (j + 1)
    have hb0 := isum_take hn j
    rw [e, isum_append, eg] at hb
    simp only [isum] at hb
    have hm := h _ (getD_mem (d := []) hj)
    have h1 := T_one (isum ((L.map isum).take j)) (L.length : Nat) (j : Nat) L (L.getD j []) hb0.1 hm.1 (by unfold isums at hs; omega) hm.2
    simp only [itotal_l3_t, Tr.sem, ltRange hj, zeroLe, Bool.and_self, cond_true, Int.toNat_natCast, h1, osome, oget, up1 (show j ≤ 1048576 by omega), e, isum_append, eg, isum, Int.add_zero]) (by
    rw [Nat.zero_add, show ((L.map isum).take L.length) = L.map isum from by rw [List.take_of_length_le (by simp)]]; simp only [itotal_l3_t, Tr.sem, not_lt_self, cond_false]; rfl)
  have k0 : itotal_l3 0 L (L.length : Nat) 0 = some (isums L) := by
    have e0 : isum ((L.map isum).take 0) = 0 := by simp [isum]
    simp only [e0] at key
    exact key
  unfold itotal itotal_t
  simp only [k0, Tr.sem, osome, oget, cond_true]
theorem T_list (l : List Int) (h : ∀ x ∈ l, 0 ≤ x) (hs : isum l ≤ 4611686018427387904) (hl : l.length ≤ 1048576) : itotal [l] = some (isum l) := by
  have := T_total [l] (fun m hm => by rw [List.mem_singleton.1 hm]; exact ⟨h, hl⟩) (by simp [isums, isum]; omega) (by simp)
  rw [this]; simp [isums, isum]
/-- Units: a row of one to 64 numbers up to a billion. -/
def unitsL (l : List Int) : Prop := l.length ≤ 64 ∧ ∀ x ∈ l, 0 ≤ x ∧ x ≤ 1000000000
theorem units_sum {l : List Int} (h : unitsL l) : 0 ≤ isum l ∧ isum l ≤ 64000000000 := by
  have h1 := isum_nonneg fun x hx => (h.2 x hx).1
  have h2 := isum_le (B := 1000000000) fun x hx => (h.2 x hx).2
  have h3 := h.1
  omega
/-- The shares and what is left of each. -/
theorem T_shares (n : Int) (l : List Int) (hn : 0 ≤ n) (hn2 : n ≤ 1000000000) (h : unitsL l) (hs : 0 < isum l) :
    isplit_l4 n (isum l) n l (l.length : Nat) 0 [] [] = some (n - isum (l.map (qS n (isum l))), l.map (qS n (isum l)), l.map (pS n (isum l))) := by
  have h0 : ∀ x ∈ l, 0 ≤ x := fun x hx => (h.2 x hx).1
  have key := runL_steps (f := fun q : Int × Int × List Int × List Int => (isplit_l4_t n (isum l) l (l.length : Nat) q.1 q.2.1 q.2.2.1 q.2.2.2).sem) (r := (n - isum (l.map (qS n (isum l))), l.map (qS n (isum l)), l.map (pS n (isum l)))) l.length 0 (fun k => (n - isum ((l.take k).map (qS n (isum l))), (k : Int), (l.take k).map (qS n (isum l)), (l.take k).map (pS n (isum l)))) (fun j _ hj => by
    have hj : j < l.length := by omega
    have e := take_succ l j 0 hj
    obtain ⟨x0, x1⟩ := h.2 _ (getD_mem (d := 0) hj)
    have hnx0 : 0 ≤ n * l.getD j 0 := Int.mul_nonneg hn x0
    have hnx1 : n * l.getD j 0 ≤ 1000000000 * 1000000000 := Int.le_trans (Int.mul_le_mul_of_nonneg_left x1 hn) (Int.mul_le_mul_of_nonneg_right hn2 (by omega))
    have hq := share_eq hn hs x0
    have ht : ∀ x ∈ l.take (j + 1), 0 ≤ x := fun x hx => h0 x (List.mem_of_mem_take hx)
    have hle := shares_le hn hs ht (isum_take h0 (j + 1)).2
    have hsp := shares_sum hn hs (l := l.take j) fun x hx => h0 x (List.mem_of_mem_take hx)
    have eq : isum ((l.take (j + 1)).map (qS n (isum l))) = isum ((l.take j).map (qS n (isum l))) + qS n (isum l) (l.getD j 0) := by
      rw [e, List.map_append, isum_append]; simp only [List.map_cons, List.map_nil, isum]; omega
    have hw1 : IntKind.wrap .i64 (n * l.getD j 0) = n * l.getD j 0 := wrap_id (by omega) (by omega)
    have hw2 : IntKind.wrap .i64 (Int.tdiv (n * l.getD j 0) (isum l)) = qS n (isum l) (l.getD j 0) := wrap_id (by have := hq.2.1; unfold qS at this; omega) (by rw [eq] at hle; have := hsp.2.1; unfold qS at hle this; omega)
    have hw3 : IntKind.wrap .i64 (n - isum ((l.take j).map (qS n (isum l))) - qS n (isum l) (l.getD j 0)) = n - isum ((l.take (j + 1)).map (qS n (isum l))) := by
      rw [eq] at hle ⊢
      rw [wrap_id (by omega) (by have := hsp.2.1; omega)]; omega
    have hlen : ((l.take j).map (qS n (isum l))).length ≤ 1048576 := by have := h.1; rw [List.length_map, List.length_take]; omega
    have hlen2 : ((l.take j).map (pS n (isum l))).length ≤ 1048576 := by have := h.1; rw [List.length_map, List.length_take]; omega
    simp only [isplit_l4_t, Tr.sem, ltRange hj, zeroLe, Bool.and_self, cond_true, Int.toNat_natCast, decide_eq_true (show isum l ≠ (0 : Int) by omega), fits8 hlen, fits8 hlen2, hw1, hw2, hw3, up1 (show j ≤ 1048576 by have := h.1; omega)]
    rw [e, List.map_append, List.map_append]; rfl) (by
    rw [Nat.zero_add, List.take_length]; simp only [isplit_l4_t, Tr.sem, not_lt_self, cond_false])
  simp only [List.take_zero, List.map_nil, isum, Int.sub_zero] at key
  exact key
/-- Which rest is greatest. -/
theorem T_best (a : Int) (u v : List Int) (h1 : 1 ≤ v.length) (hl : v.length ≤ 64) : ∃ b : Nat, isplit_l13 a 0 (v.length : Nat) 0 u v = some (a, (b : Int), u, v) ∧ b < v.length ∧ ∀ i, i < v.length → v.getD i 0 ≤ v.getD b 0 := by
  obtain ⟨r, hr, b, rfl, hb, hm⟩ := runL_ex0 (f := fun q : Int × Int => (isplit_l13_t a (v.length : Nat) u v q.1 q.2).sem) v.length (fun j q => q.2 = (j : Int) ∧ ∃ b : Nat, q.1 = (b : Int) ∧ b < v.length ∧ ∀ i, i < j → v.getD i 0 ≤ v.getD b 0) (fun r => ∃ b : Nat, r = (a, (b : Int), u, v) ∧ b < v.length ∧ ∀ i, i < v.length → v.getD i 0 ≤ v.getD b 0) (0, 0) ⟨rfl, 0, rfl, h1, fun i hi => by omega⟩ (fun j q hj ⟨e1, b, e2, hb, hm⟩ => by
    obtain ⟨x, y⟩ := q
    simp only at e1 e2
    subst e1; subst e2
    simp only [isplit_l13_t, Tr.sem, ltRange hj, ltRange hb, zeroLe, Bool.and_self, cond_true, Int.toNat_natCast, up1 (show j ≤ 1048576 by omega)]
    by_cases hc : v.getD j 0 > v.getD b 0
    · rw [decide_eq_true hc]
      refine ⟨_, rfl, rfl, j, rfl, hj, fun i hi => ?_⟩
      rcases Nat.lt_succ_iff_lt_or_eq.1 hi with hi | rfl
      · have := hm i hi; omega
      · exact Int.le_refl _
    · rw [decide_eq_false hc]
      refine ⟨_, rfl, rfl, b, rfl, hb, fun i hi => ?_⟩
      rcases Nat.lt_succ_iff_lt_or_eq.1 hi with hi | rfl
      · exact hm i hi
      · omega) (fun q ⟨e1, b, e2, hb, hm⟩ => by
    obtain ⟨x, y⟩ := q
    simp only at e1 e2
    subst e1; subst e2
    exact ⟨(a, (b : Int), u, v), by simp only [isplit_l13_t, Tr.sem, not_lt_self, cond_false], b, rfl, hb, hm⟩)
  exact ⟨b, hr, hb, hm⟩
/-- What is left is given to those with the greatest rests. -/
theorem T_rest : ∀ (m : Nat) (x y : List Int), x.length = y.length → 1 ≤ y.length → y.length ≤ 64 → m ≤ cpos y → m ≤ 64 → (∀ i, i < x.length → 0 < y.getD i 0 → -1 ≤ x.getD i 0 ∧ x.getD i 0 ≤ 1000000000) →
    ∃ r, isplit_l9 (m : Int) x y = some r ∧ r.length = x.length ∧ isum r = isum x + m ∧ ∀ i, i < x.length → r.getD i 0 = x.getD i 0 ∨ (r.getD i 0 = x.getD i 0 + 1 ∧ 0 < y.getD i 0)
  | 0, x, y, hl, h1, h64, hm, hm2, hb => ⟨x, runL_out (by simp only [isplit_l9_t, Tr.sem, decide_eq_false (show ¬ (((0 : Nat) : Int) > 0) by omega), cond_false]), rfl, by simp, fun i _ => .inl rfl⟩
  | m + 1, x, y, hl, h1, h64, hm, hm2, hb => by
    obtain ⟨b, hb1, hb2, hb3⟩ := T_best ((m + 1 : Nat) : Int) x y h1 h64
    obtain ⟨i, hi1, hi2⟩ := cpos_ex y (by omega)
    have hyb : 0 < y.getD b 0 := by have := hb3 i hi1; omega
    have hxb : b < x.length := by omega
    obtain ⟨q1, q2⟩ := hb b hxb hyb
    have hw : IntKind.wrap .i64 (((m + 1 : Nat) : Int) - 1) = (m : Int) := by rw [wrap_id (by omega) (by omega)]; omega
    have hw2 : IntKind.wrap .i64 (x.getD b 0 + 1) = x.getD b 0 + 1 := wrap_id (by omega) (by omega)
    have hc := cpos_set y b hb2 hyb
    obtain ⟨r, r1, r2, r3, r4⟩ := T_rest m (x.set b (x.getD b 0 + 1)) (y.set b (-1)) (by simp [hl]) (by simpa using h1) (by simpa using h64) (by omega) (by omega) (fun j hj hy => by
      rw [set_get hb2] at hy
      by_cases e : j = b
      · rw [if_pos e] at hy; omega
      · rw [if_neg e] at hy
        rw [set_get hxb, if_neg e]
        exact hb j (by simpa using hj) hy)
    refine ⟨r, (runL_in ?_).trans r1, by simpa using r2, ?_, fun j hj => ?_⟩
    · simp only [isplit_l9_t, Tr.sem, decide_eq_true (show (((m + 1 : Nat) : Int) > 0) by omega), hb1, osome, oget, cond_true, zeroLe, ltRange hb2, ltRange hxb, Bool.and_self, Int.toNat_natCast, hw, hw2]
    · rw [r3, isum_set x b _ hxb]; omega
    · rcases r4 j (by simpa using hj) with h | ⟨h, hy⟩
      · rw [set_get hxb] at h
        by_cases e : j = b
        · subst e; rw [if_pos rfl] at h; exact .inr ⟨h, hyb⟩
        · rw [if_neg e] at h; exact .inl h
      · rw [set_get hb2] at hy
        by_cases e : j = b
        · rw [if_pos e] at hy; omega
        · rw [if_neg e] at hy
          rw [set_get hxb, if_neg e] at h
          exact .inr ⟨h, hy⟩
/-- **A SPLIT**: the parts make the whole; each is its share, or one more. -/
theorem T_split (n : Int) (l : List Int) (hn : 0 ≤ n) (hn2 : n ≤ 1000000000) (h : unitsL l) (hs : 0 < isum l) : ∃ r, isplit n l = some r ∧ r.length = l.length ∧ isum r = n ∧
    ∀ i, i < l.length → r.getD i 0 = qS n (isum l) (l.getD i 0) ∨ (r.getD i 0 = qS n (isum l) (l.getD i 0) + 1 ∧ 0 < pS n (isum l) (l.getD i 0)) := by
  have h0 : ∀ x ∈ l, 0 ≤ x := fun x hx => (h.2 x hx).1
  have h1 : 1 ≤ l.length := by
    cases l with
    | nil => simp [isum] at hs
    | cons _ _ => simp
  have hsum := units_sum h
  have e1 := T_list l h0 (by omega) (by have := h.1; omega)
  have e2 := T_shares n l hn hn2 h hs
  have hle := shares_le hn hs h0 (Int.le_refl _)
  have hcp := left_le hn hs h0 rfl
  have hm : ((n - isum (l.map (qS n (isum l)))).toNat : Int) = n - isum (l.map (qS n (isum l))) := Int.toNat_of_nonneg (by omega)
  have hcl : ∀ l : List Int, cpos l ≤ l.length := fun l => by
    induction l with
    | nil => simp [cpos]
    | cons x l ih => simp only [cpos, List.length_cons]; split <;> omega
  have hcl2 := hcl (l.map (pS n (isum l)))
  have gm : ∀ (f : Int → Int) (i : Nat), i < l.length → (l.map f).getD i 0 = f (l.getD i 0) := fun f i hi => by
    simp only [List.getD_eq_getElem?_getD, List.getElem?_map, List.getElem?_eq_getElem hi]; rfl
  obtain ⟨r, r1, r2, r3, r4⟩ := T_rest (n - isum (l.map (qS n (isum l)))).toNat (l.map (qS n (isum l))) (l.map (pS n (isum l))) (by simp) (by simpa using h1) (by have := h.1; simpa using this) (by omega) (by rw [List.length_map] at hcl2; have := h.1; omega) (fun i hi hy => by
    rw [List.length_map] at hi
    rw [gm _ i hi]
    have a := share_eq hn hs (h0 _ (getD_mem (d := 0) hi))
    have b := isum_mem (l := l.map (qS n (isum l))) (fun y hy => by obtain ⟨x, hx, rfl⟩ := List.mem_map.1 hy; exact (share_eq hn hs (h0 x hx)).2.1) _ (List.mem_map.2 ⟨_, getD_mem (d := 0) hi, rfl⟩)
    omega)
  rw [hm] at r1 r3
  refine ⟨r, ?_, by simpa using r2, by omega, fun i hi => ?_⟩
  · unfold isplit isplit_t
    simp only [e1, e2, r1, Tr.sem, osome, oget, cond_true]
  · have := r4 i (by simpa using hi)
    rw [gm _ i hi, gm _ i hi] at this
    exact this
end Go.Proofs.Ytcjekndobhkmbaa
