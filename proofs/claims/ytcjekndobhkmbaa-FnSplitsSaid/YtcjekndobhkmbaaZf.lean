/- Splits: what is handed out answers. -/
import Derived.Test.YtcjekndobhkmbaaZe
set_option linter.unusedVariables false
set_option linter.unusedSimpArgs false
set_option linter.constructorNameAsVariable false
namespace Go.Proofs.Ytcjekndobhkmbaa
open Go.RowKit
set_option maxRecDepth 100000
/-- What is left ahead of a rank. -/
noncomputable def amA (w rk : List Int) (A : Int) : Nat → Int
  | 0 => A
  | k + 1 => amA w rk A k - isum (own2 (amA w rk A k) (ownL w rk (k : Int) rk.length))
noncomputable abbrev ownK (w rk : List Int) (A : Int) (k : Nat) : List Int := own2 (amA w rk A k) (ownL w rk (k : Int) rk.length)
section
variable {w rk : List Int} {A : Int} (hw : unitsL w) (hl : rk.length = w.length) (hA0 : 0 ≤ A) (hA1 : A ≤ 1000000000)
include hw hl hA0 hA1
theorem am_ok : ∀ k, 0 ≤ amA w rk A k ∧ amA w rk A k ≤ 1000000000
  | 0 => ⟨hA0, hA1⟩
  | k + 1 => by
    obtain ⟨a, b⟩ := am_ok k
    obtain ⟨o1, o2, o3, o4, o5, o6, o7⟩ := own2_spec a b (own_units hw rk (k : Int) hl)
    simp only [amA]; omega
theorem own_ok (k : Nat) : (ownK w rk A k).length = cntL rk (k : Int) rk.length ∧ (∀ x ∈ ownK w rk A k, 0 ≤ x) ∧ 0 ≤ isum (ownK w rk A k) ∧ isum (ownK w rk A k) ≤ amA w rk A k ∧ (isum (ownL w rk (k : Int) rk.length) > amA w rk A k → isum (ownK w rk A k) = amA w rk A k) ∧ (¬ isum (ownL w rk (k : Int) rk.length) > amA w rk A k → ownK w rk A k = ownL w rk (k : Int) rk.length) := by
  obtain ⟨a, b⟩ := am_ok hw hl hA0 hA1 k
  obtain ⟨o1, o2, o3, o4, o5, o6, o7⟩ := own2_spec a b (own_units hw rk (k : Int) hl)
  exact ⟨o1.trans (selL_len _ _ _ _), o2, o3, o4, fun h => (o5 h).2, o6⟩
omit hw hA0 hA1 in
theorem right_get : ∀ (j k : Nat) (out : List Int) (i : Nat), out.length = rk.length → i < rk.length → ∀ r : Nat, rk.getD i 0 = (r : Int) → r < k + j →
    (rightsL w rk j (amA w rk A k) (k : Int) out).getD i 0 = if r < k then out.getD i 0 else (ownK w rk A r).getD (cntL rk (r : Int) i) 0
  | 0, k, out, i, ho, hi, r, hr, hk => by rw [if_pos (by omega)]; rfl
  | j + 1, k, out, i, ho, hi, r, hr, hk => by
    have ih := right_get (j) (k + 1) (putR out (ownK w rk A k) rk (k : Int) rk.length) i (by rw [putR_len]; exact ho) hi r hr (by omega)
    have e : rightsL w rk (j + 1) (amA w rk A k) (k : Int) out = rightsL w rk j (amA w rk A (k + 1)) ((k + 1 : Nat) : Int) (putR out (ownK w rk A k) rk (k : Int) rk.length) := rfl
    rw [e, ih, putR_get _ _ _ _ _ _ (by omega)]
    by_cases h1 : r < k
    · rw [if_pos h1, if_pos (by omega), if_neg (fun h => by omega)]
    · by_cases h2 : r = k
      · subst h2
        rw [if_pos (by omega), if_pos ⟨hi, hr⟩, if_neg h1]
      · rw [if_neg (by omega), if_neg h1]
omit hw hl hA0 hA1 in
theorem right_len : ∀ (j : Nat) (am k : Int) (out : List Int), (rightsL w rk j am k out).length = out.length
  | 0, _, _, _ => rfl
  | j + 1, am, k, out => by simp only [rightsL]; rw [right_len j, putR_len]
omit hw hl hA0 hA1 in
theorem sel3 : ∀ m, m ≤ w.length → (∀ i, i < m → 0 ≤ rk.getD i 0 ∧ rk.getD i 0 < 3) → isum (ownL w rk 0 m) + isum (ownL w rk 1 m) + isum (ownL w rk 2 m) = isum (w.take m)
  | 0, _, _ => rfl
  | m + 1, h, hr => by
    have ih := sel3 m (by omega) (fun i hi => hr i (by omega))
    have := hr m (by omega)
    rw [take_succ w m 0 (by omega), isum_append]
    simp only [ownL, selL, isum_append]
    have e : isum [w.getD m 0] = w.getD m 0 := by simp [isum]
    have e0 : isum ([] : List Int) = 0 := rfl
    rw [e]
    rcases (by omega : rk.getD m 0 = 0 ∨ rk.getD m 0 = 1 ∨ rk.getD m 0 = 2) with h | h | h <;> rw [h] <;> simp only [reduceIte, e, e0, Int.reduceEq, if_true, if_false] <;> simp only [ownL] at ih <;> omega
theorem am_next (k : Nat) : amA w rk A (k + 1) = (if isum (ownL w rk (k : Int) rk.length) > amA w rk A k then 0 else amA w rk A k - isum (ownL w rk (k : Int) rk.length)) := by
  obtain ⟨o1, o2, o3, o4, o5, o6⟩ := own_ok hw hl hA0 hA1 k
  by_cases h : isum (ownL w rk (k : Int) rk.length) > amA w rk A k
  · rw [if_pos h]; have := o5 h; show amA w rk A k - isum (ownK w rk A k) = 0; omega
  · rw [if_neg h]; have := o6 h; show amA w rk A k - isum (ownK w rk A k) = _; rw [this]
theorem am_three (hr : ∀ i, i < rk.length → 0 ≤ rk.getD i 0 ∧ rk.getD i 0 < 3) : A - amA w rk A 3 = imin A (isum w) := by
  have s := sel3 (w := w) (rk := rk) rk.length (by omega) hr
  rw [hl, List.take_length] at s
  have e1 := am_next hw hl hA0 hA1 0
  have e2 := am_next hw hl hA0 hA1 1
  have e3 := am_next hw hl hA0 hA1 2
  have p0 := (units_sum (own_units hw rk 0 hl)).1
  have p1 := (units_sum (own_units hw rk 1 hl)).1
  have p2 := (units_sum (own_units hw rk 2 hl)).1
  rw [hl] at e1 e2 e3 p0 p1 p2
  have e0 : amA w rk A 0 = A := rfl
  rw [e0] at e1
  simp only [Int.natCast_zero, Int.natCast_one, Nat.zero_add, Nat.reduceAdd, show ((2 : Nat) : Int) = 2 from rfl] at e1 e2 e3
  unfold imin
  by_cases hc : isum w < A
  · rw [decide_eq_true hc, cond_true]
    rw [if_neg (by omega)] at e1
    rw [if_neg (by omega)] at e2
    rw [if_neg (by omega)] at e3
    omega
  · rw [decide_eq_false hc, cond_false]
    split at e1 <;> split at e2 <;> split at e3 <;> omega
end
theorem isum_take_succ {l : List Int} {j : Nat} (h : j < l.length) : isum (l.take (j + 1)) = isum (l.take j) + l.getD j 0 := by
  rw [take_succ l j 0 h, isum_append]; simp [isum]
theorem isum_zero {l : List Int} (h : ∀ x ∈ l, 0 ≤ x) (hs : isum l ≤ 0) {i : Nat} (hi : i < l.length) : l.getD i 0 = 0 := by
  have a := isum_mem h _ (getD_mem (d := 0) hi)
  have b := h _ (getD_mem (d := 0) hi)
  omega
theorem nn_at {l : List Int} (h : ∀ x ∈ l, 0 ≤ x) {i : Nat} (hi : i < l.length) : 0 ≤ l.getD i 0 := h _ (getD_mem (d := 0) hi)
/-- One rank of the answer is looked at. -/
theorem Z_rank {w rk G : List Int} {A : Int} (hw : unitsL w) (hl : rk.length = w.length) (hA0 : 0 ≤ A) (hA1 : A ≤ 1000000000) (hn : w.length ≤ 8) (hr : ∀ i, i < rk.length → 0 ≤ rk.getD i 0 ∧ rk.getD i 0 < 3) (hG : G = rightsL w rk 65 A 0 (List.replicate w.length 0))
    (k : Nat) (hk : k < 3) (sh : Int) (hsh : sh = -1 ∨ (0 ≤ sh ∧ sh < k ∧ amA w rk A k = 0)) (S : Int) :
    ∃ sh', wFnSplits_l38 (w.length : Nat) A S (A - amA w rk A k) sh (k : Int) 0 w rk G = some (.inr (((w.length : Nat) : Int), A, S, A - amA w rk A (k + 1), sh', (k : Int), w, rk, G)) ∧ (sh' = -1 ∨ (0 ≤ sh' ∧ sh' < ((k + 1 : Nat) : Int) ∧ amA w rk A (k + 1) = 0)) := by
  obtain ⟨o1, o2, o3, o4, o5, o6⟩ := own_ok hw hl hA0 hA1 k
  obtain ⟨a0, a1⟩ := am_ok hw hl hA0 hA1 k
  have hGl : G.length = w.length := by rw [hG, right_len]; simp
  have hGi : ∀ i, i < w.length → rk.getD i 0 = (k : Int) → G.getD i 0 = (ownK w rk A k).getD (cntL rk (k : Int) i) 0 := fun i hi h => by
    have := right_get (A := A) hl 65 0 (List.replicate w.length 0) i (by simp [hl]) (by omega) k h (by omega)
    rw [if_neg (by omega)] at this
    rw [hG]; exact this
  have ht := fun i => isum_take o2 i
  have u := own_units hw rk (k : Int) hl
  have hol : (ownL w rk (k : Int) rk.length).length = cntL rk (k : Int) rk.length := selL_len _ _ _ _
  have hwi : ∀ i, i < w.length → rk.getD i 0 = (k : Int) → (ownL w rk (k : Int) rk.length).getD (cntL rk (k : Int) i) 0 = w.getD i 0 := fun i hi h => by
    have := selL_at (fun i => w.getD i 0) rk (k : Int) h rk.length (by omega)
    rw [List.getD_eq_getElem?_getD, this]; rfl
  obtain ⟨_, _, _, _, _, _, o7⟩ := own2_spec a0 a1 u
  obtain ⟨r, hr1, sh', hr2, hr3⟩ := runL_ex0 (f := fun q : Int × Int × Int => (wFnSplits_l38_t (w.length : Nat) A S (k : Int) w rk G q.1 q.2.1 q.2.2).sem) w.length
    (fun j q => ∃ s, q = (A - amA w rk A k + isum ((ownK w rk A k).take (cntL rk (k : Int) j)), s, (j : Int)) ∧ (s = -1 ∨ (0 ≤ s ∧ s < k ∧ amA w rk A k = 0) ∨ (s = k ∧ amA w rk A (k + 1) = 0)))
    (fun r => ∃ s, r = .inr (((w.length : Nat) : Int), A, S, A - amA w rk A (k + 1), s, (k : Int), w, rk, G) ∧ (s = -1 ∨ (0 ≤ s ∧ s < ((k + 1 : Nat) : Int) ∧ amA w rk A (k + 1) = 0)))
    (A - amA w rk A k, sh, 0) ⟨sh, by simp [cntL, isum], by omega⟩ (fun j q hj ⟨s, hq, hs⟩ => by
      subst hq
      have hc : cntL rk (k : Int) (j + 1) = cntL rk (k : Int) j + (if rk.getD j 0 = (k : Int) then 1 else 0) := rfl
      have t0 := ht (cntL rk (k : Int) j)
      by_cases h : rk.getD j 0 = (k : Int)
      · have hlt := cntL_lt rk (k : Int) h rk.length (by omega)
        have e1 := hGi j hj h
        have e2 := hwi j hj h
        have e3 := nn_at o2 (show cntL rk (k : Int) j < (ownK w rk A k).length by omega)
        have e4 := o7 (cntL rk (k : Int) j) (by rw [hol]; exact hlt)
        rw [e2] at e4
        have e5 := isum_take_succ (show cntL rk (k : Int) j < (ownK w rk A k).length by omega)
        have t1 := ht (cntL rk (k : Int) j + 1)
        rw [if_pos h] at hc
        have hneq : (rk.getD j 0 != (k : Int)) = false := by rw [h]; exact bne_self_eq_false _
        have wr1 : IntKind.wrap .i64 (A - amA w rk A k + isum ((ownK w rk A k).take (cntL rk (k : Int) j)) + G.getD j 0) = A - amA w rk A k + isum ((ownK w rk A k).take (cntL rk (k : Int) (j + 1))) := by
          rw [hc, e5, e1, wrap_id (by omega) (by omega)]; omega
        have g0 : decide (G.getD j 0 < 0) = false := decide_eq_false (by rw [e1]; omega)
        have g1 : decide (G.getD j 0 > w.getD j 0) = false := decide_eq_false (by rw [e1]; show ¬ _ > _; exact Int.not_lt.2 e4)
        have g2 : s ≥ 0 → s < (k : Int) → (G.getD j 0 != 0) = false := fun h1 h2 => by
          have hz : amA w rk A k = 0 := by omega
          rw [e1, isum_zero o2 (by omega) (show cntL rk (k : Int) j < (ownK w rk A k).length by omega)]; rfl
        have g3 : G.getD j 0 < w.getD j 0 → amA w rk A (k + 1) = 0 := fun h1 => by
          have : isum (ownL w rk (k : Int) rk.length) > amA w rk A k := by
            refine Decidable.byContradiction fun hno => ?_
            rw [e1, o6 hno, e2] at h1; omega
          show amA w rk A k - isum (ownK w rk A k) = 0
          have := o5 this; omega
        have base : ∀ s', ((A - amA w rk A k + isum ((ownK w rk A k).take (cntL rk (k : Int) (j + 1))), s', ((j + 1 : Nat) : Int)) : Int × Int × Int) = (A - amA w rk A k + isum ((ownK w rk A k).take (cntL rk (k : Int) (j + 1))), s', ((j + 1 : Nat) : Int)) := fun _ => rfl
        simp only [wFnSplits_l38_t, Tr.sem, ltRange hj, ltRange (show j < rk.length by omega), ltRange (show j < G.length by omega), zeroLe, Bool.and_self, cond_true, Int.toNat_natCast, hneq, cond_false, g0, g1, up1 (show j ≤ 1048576 by omega), wr1]
        by_cases hs0 : s ≥ 0
        · simp only [decide_eq_true hs0, decide_eq_false (show ¬ s < 0 by omega), cond_true, cond_false]
          by_cases hs1 : s < (k : Int)
          · simp only [decide_eq_true hs1, g2 hs0 hs1, cond_true, cond_false, Bool.cond_self]
            exact ⟨_, rfl, s, rfl, hs⟩
          · simp only [decide_eq_false hs1, cond_false, Bool.cond_self]
            exact ⟨_, rfl, s, rfl, hs⟩
        · simp only [decide_eq_false hs0, decide_eq_true (show s < 0 by omega), cond_true, cond_false]
          by_cases hlt2 : G.getD j 0 < w.getD j 0
          · simp only [decide_eq_true hlt2, cond_true]
            exact ⟨_, rfl, (k : Int), rfl, .inr (.inr ⟨rfl, g3 hlt2⟩)⟩
          · simp only [decide_eq_false hlt2, cond_false]
            exact ⟨_, rfl, s, rfl, hs⟩
      · rw [if_neg h] at hc
        have hneq : (rk.getD j 0 != (k : Int)) = true := by simpa using h
        simp only [wFnSplits_l38_t, Tr.sem, ltRange hj, ltRange (show j < rk.length by omega), zeroLe, Bool.and_self, cond_true, Int.toNat_natCast, hneq, up1 (show j ≤ 1048576 by omega)]
        exact ⟨_, rfl, s, by rw [hc]; rfl, hs⟩) (fun q ⟨s, hq, hs⟩ => by
      subst hq
      refine ⟨_, by simp only [wFnSplits_l38_t, Tr.sem, not_lt_self, cond_false]; rfl, s, ?_, ?_⟩
      · have : isum ((ownK w rk A k).take (cntL rk (k : Int) w.length)) = isum (ownK w rk A k) := by rw [← hl, ← o1, List.take_length]
        rw [this]
        have : amA w rk A (k + 1) = amA w rk A k - isum (ownK w rk A k) := rfl
        rw [this]
        rw [show A - (amA w rk A k - isum (ownK w rk A k)) = A - amA w rk A k + isum (ownK w rk A k) by omega]
      · have : amA w rk A (k + 1) = amA w rk A k - isum (ownK w rk A k) := rfl
        omega)
  subst hr2
  exact ⟨sh', hr1, hr3⟩
/-- **SPLITS.** What is handed out answers. -/
theorem Z_true {c m : List Int} (hc : bytesL c) (hm : bytesL m) : wFnSplits c m = some true := by
  unfold wFnSplits
  simp only [wFnSplits_t, Tr.sem]
  cases hL : wr8Long c m with
  | true => rfl
  | false =>
  obtain ⟨w, u1, u2, u3, u4, u5⟩ := Z_units hc
  obtain ⟨A, a1, a2, a3⟩ := Z_at hm 40 (by omega) 200 (by omega)
  have a1' : wr8At m 40 200 = some A := a1
  have hw : unitsL w := ⟨by omega, fun x hx => by have := u4 x hx; omega⟩
  have w0 : ∀ x ∈ w, 0 ≤ x := fun x hx => (u4 x hx).1
  have hsum := isum_le (B := 9) (fun x hx => (u4 x hx).2)
  -- shares
  have hun : (unitB A && win 1 64 (w.length : Int) && w.all unitB) = true := by
    simp only [unitB, Bool.and_eq_true, win_iff, List.all_eq_true]
    exact ⟨⟨by omega, by omega⟩, fun x hx => by have := u4 x hx; omega⟩
  obtain ⟨r, s1, s2, s3, s4⟩ := T_split A w a2 (by omega) hw u5
  have tt := T_list w w0 (by omega) (by omega)
  have hne0 : (isum w == 0) = false := by simp only [beq_eq_false_iff_ne]; omega
  have hsp : iSplitExact A w = some (.inr r) := by
    unfold iSplitExact iSplitExact_t
    simp only [P_units, hun, tt, s1, hne0, Tr.sem, osome, oget, Bool.not_true, cond_true, cond_false]
  have sh : ∀ i, i < w.length → isum w * qS A (isum w) (w.getD i 0) + pS A (isum w) (w.getD i 0) = A * w.getD i 0 ∧ 0 ≤ qS A (isum w) (w.getD i 0) ∧ 0 ≤ pS A (isum w) (w.getD i 0) ∧ pS A (isum w) (w.getD i 0) < isum w := fun i hi => share_eq a2 u5 (w0 _ (getD_mem (d := 0) hi))
  have hq : ∀ i, i < w.length → 0 ≤ A * w.getD i 0 ∧ A * w.getD i 0 ≤ 1800 ∧ qS A (isum w) (w.getD i 0) ≤ 1800 := fun i hi => by
    have h1 := u4 _ (getD_mem (d := 0) hi)
    have h2 : A * w.getD i 0 ≤ 200 * w.getD i 0 := Int.mul_le_mul_of_nonneg_right (by omega) h1.1
    have h3 := sh i hi
    have h4 : 1 * qS A (isum w) (w.getD i 0) ≤ isum w * qS A (isum w) (w.getD i 0) := Int.mul_le_mul_of_nonneg_right (by omega) h3.2.1
    have h5 : 0 ≤ A * w.getD i 0 := Int.mul_nonneg a2 h1.1
    omega
  have hr0 : ∀ x ∈ r, 0 ≤ x := fun x hx => by
    obtain ⟨i, hi⟩ := List.getElem?_of_mem hx
    have hil : i < r.length := (List.getElem?_eq_some_iff.1 hi).1
    have e := getD_at (d := 0) hi
    have h1 := sh i (by omega)
    rcases s4 i (by omega) with q | ⟨q, _⟩ <;> omega
  have h12 : wFnSplits_l12 m (w.length : Nat) A 0 0 0 w r = some (m, ((w.length : Nat) : Int), A, isum w, A, w, r) := by
    have key := runL_steps (f := fun s : Int × Int × Int => (wFnSplits_l12_t m (w.length : Nat) A w r s.1 s.2.1 s.2.2).sem) (r := (m, ((w.length : Nat) : Int), A, isum w, A, w, r)) w.length 0 (fun k => (isum (w.take k), isum (r.take k), (k : Int))) (fun j _ hj => by
      have hj : j < w.length := by omega
      have e1 := isum_take_succ hj
      have e2 := isum_take_succ (show j < r.length by omega)
      have t1 := isum_take w0 j
      have t2 := isum_take w0 (j + 1)
      have t3 := isum_take hr0 j
      have t4 := isum_take hr0 (j + 1)
      have w1 : IntKind.wrap .i64 (isum (w.take j) + w.getD j 0) = isum (w.take (j + 1)) := by rw [e1, wrap_id (by omega) (by omega)]
      have w2 : IntKind.wrap .i64 (isum (r.take j) + r.getD j 0) = isum (r.take (j + 1)) := by rw [e2, wrap_id (by omega) (by omega)]
      simp only [wFnSplits_l12_t, Tr.sem, ltRange hj, ltRange (show j < r.length by omega), zeroLe, Bool.and_self, cond_true, Int.toNat_natCast, up1 (show j ≤ 1048576 by omega), w1, w2]) (by
      rw [Nat.zero_add, List.take_length, ← s2, List.take_length, s3, s2]; simp only [wFnSplits_l12_t, Tr.sem, not_lt_self, cond_false])
    exact key
  have h17 : wFnSplits_l17 m (w.length : Nat) A (isum w) A 0 w r = some (.inr (m, ((w.length : Nat) : Int), A, isum w, A, w)) := by
    have key := runL_steps (f := fun s : Int => (wFnSplits_l17_t m (w.length : Nat) A (isum w) A w r s).sem) (r := .inr (m, ((w.length : Nat) : Int), A, isum w, A, w)) w.length 0 (fun k => (k : Int)) (fun j _ hj => by
      have hj : j < w.length := by omega
      have h1 := sh j hj
      obtain ⟨p0, p1, p2⟩ := hq j hj
      have w1 : IntKind.wrap .i64 (A * w.getD j 0) = A * w.getD j 0 := wrap_id (by omega) (by omega)
      have w2 : IntKind.wrap .i64 ((A * w.getD j 0).tdiv (isum w)) = qS A (isum w) (w.getD j 0) := wrap_id (by show _ ≤ qS A (isum w) (w.getD j 0); omega) (by show qS A (isum w) (w.getD j 0) ≤ _; omega)
      have w3 : IntKind.wrap .i64 (qS A (isum w) (w.getD j 0) + 1) = qS A (isum w) (w.getD j 0) + 1 := wrap_id (by omega) (by omega)
      have hd : decide (isum w ≠ (0 : Int)) = true := by simp only [decide_eq_true_eq]; omega
      have hz : w.getD j 0 = 0 → r.getD j 0 = 0 := fun h => by
        have e1 : qS A (isum w) (w.getD j 0) = 0 := by unfold qS; rw [h]; simp
        have e2 : pS A (isum w) (w.getD j 0) = 0 := by unfold pS; rw [h]; simp
        rcases s4 j hj with q | ⟨q, _⟩ <;> omega
      have tail : (bif w.getD j 0 == 0 then (bif r.getD j 0 != 0 then some (.inr (.inl ())) else some (.inl ((j + 1 : Nat) : Int))) else some (.inl ((j + 1 : Nat) : Int)) : Option (Int ⊕ (Unit ⊕ (List Int × Int × Int × Int × Int × List Int)))) = some (.inl ((j + 1 : Nat) : Int)) := by
        by_cases h : w.getD j 0 = 0
        · rw [show (w.getD j 0 == 0) = true by simpa using h, show (r.getD j 0 != 0) = false by simpa using hz h]; rfl
        · rw [show (w.getD j 0 == 0) = false by simpa using h]; rfl
      simp only [wFnSplits_l17_t, Tr.sem, ltRange hj, ltRange (show j < r.length by omega), zeroLe, Bool.and_self, cond_true, Int.toNat_natCast, up1 (show j ≤ 1048576 by omega), w1, w2, w3, hd, tail]
      rcases s4 j hj with q | ⟨q, _⟩
      · rw [q]; simp only [bne_self_eq_false, cond_false]
      · rw [q]; simp only [bne_self_eq_false, cond_false, Bool.cond_self]) (by
      rw [Nat.zero_add]; simp only [wFnSplits_l17_t, Tr.sem, not_lt_self, cond_false])
    exact key
  -- ranks
  obtain ⟨q, h26, rk, hq2, hl, hr⟩ := runL_ex0 (f := fun s : Int × List Int => (wFnSplits_l26_t m (w.length : Nat) A (isum w) w s.1 s.2).sem) w.length
    (fun j s => ∃ l : List Int, s = ((j : Int), l) ∧ l.length = j ∧ ∀ x ∈ l, 0 ≤ x ∧ x < 3) (fun r => ∃ l : List Int, r = (((w.length : Nat) : Int), A, isum w, w, l) ∧ l.length = w.length ∧ ∀ x ∈ l, 0 ≤ x ∧ x < 3) (0, []) ⟨[], rfl, rfl, fun x hx => by cases hx⟩ (fun j s hj ⟨l, hs, l1, l2⟩ => by
      subst hs
      obtain ⟨v, v1, v2, v3⟩ := Z_at hm j (by omega) 3 (by omega)
      simp only [wFnSplits_l26_t, Tr.sem, ltRange hj, v1, osome, oget, cond_true, fits8 (show l.length ≤ 1048576 by omega), up1 (show j ≤ 1048576 by omega)]
      refine ⟨_, rfl, _, rfl, by simp [l1], fun x hx => ?_⟩
      rcases List.mem_append.1 hx with h | h
      · exact l2 x h
      · rw [List.mem_singleton.1 h]; omega) (fun s ⟨l, hs, l1, l2⟩ => by
      subst hs
      exact ⟨_, by simp only [wFnSplits_l26_t, Tr.sem, not_lt_self, cond_false], l, rfl, l1, l2⟩)
  subst hq2
  have h26' : wFnSplits_l26 m (w.length : Nat) A (isum w) 0 w [] = _ := h26
  have hrB : rightB A w rk = true := by
    unfold rightB
    rw [hun, decide_eq_true hl]
    simp only [Bool.true_and, List.all_eq_true, win_iff]
    exact fun x hx => by have := hr x hx; omega
  have hbr := T_byRights A w rk
  rw [hrB, cond_true] at hbr
  obtain ⟨G, hG⟩ : ∃ G, G = rightsL w rk 65 A 0 (List.replicate w.length 0) := ⟨_, rfl⟩
  rw [← hG] at hbr
  have hGl : G.length = w.length := by rw [hG, right_len]; simp
  have hri : ∀ i, i < rk.length → 0 ≤ rk.getD i 0 ∧ rk.getD i 0 < 3 := fun i hi => hr _ (getD_mem hi)
  obtain ⟨z1, r1, k1⟩ := Z_rank hw hl a2 (by omega) u3 hri hG 0 (by omega) (-1) (.inl rfl) (isum w)
  obtain ⟨z2, r2, k2⟩ := Z_rank hw hl a2 (by omega) u3 hri hG 1 (by omega) z1 k1 (isum w)
  obtain ⟨z3, r3, k3⟩ := Z_rank hw hl a2 (by omega) u3 hri hG 2 (by omega) z2 k2 (isum w)
  have h35 : wFnSplits_l35 (w.length : Nat) A (isum w) 0 (-1) 0 w rk G = some (.inr (((w.length : Nat) : Int), A, isum w, imin A (isum w), w)) := by
    rw [← am_three hw hl a2 (by omega) hri]
    have e0 : A - amA w rk A 0 = 0 := by show A - A = 0; omega
    rw [e0] at r1
    have q0 : ((0 : Nat) : Int) = 0 := rfl
    have q1 : ((1 : Nat) : Int) = 1 := rfl
    have q2 : ((2 : Nat) : Int) = 2 := rfl
    rw [q0] at r1; rw [q1] at r2; rw [q2] at r3
    unfold wFnSplits_l35
    refine (runL_in (s' := (((w.length : Nat) : Int), A, isum w, A - amA w rk A 1, z1, 1, w, rk, G)) ?_).trans ((runL_in (s' := (((w.length : Nat) : Int), A, isum w, A - amA w rk A 2, z2, 2, w, rk, G)) ?_).trans ((runL_in (s' := (((w.length : Nat) : Int), A, isum w, A - amA w rk A 3, z3, 3, w, rk, G)) ?_).trans (runL_out ?_)))
    · simp only [wFnSplits_l35_t, Tr.sem, show decide ((0 : Int) < 3) = true from rfl, r1, osome, oget, isL, unR, cond_true, cond_false]; rfl
    · simp only [wFnSplits_l35_t, Tr.sem, show decide ((1 : Int) < 3) = true from rfl, r2, osome, oget, isL, unR, cond_true, cond_false]; rfl
    · simp only [wFnSplits_l35_t, Tr.sem, show decide ((2 : Int) < 3) = true from rfl, r3, osome, oget, isL, unR, cond_true, cond_false]; rfl
    · simp only [wFnSplits_l35_t, Tr.sem, show decide ((3 : Int) < 3) = false from rfl, cond_false]
  have hh := H_half w u2 (by omega) (fun x hx => by have := u4 x hx; omega)
  have hhl : (halfL w).length = w.length := by simp [halfL]
  have h55 : wFnSplits_l55 (w.length : Nat) 0 w (halfL w) = some (.inr ()) := by
    have key := runL_steps (f := fun s : Int => (wFnSplits_l55_t (w.length : Nat) w (halfL w) s).sem) (r := .inr ()) w.length 0 (fun k => (k : Int)) (fun j _ hj => by
      have hj : j < w.length := by omega
      have hx := w0 _ (getD_mem (d := 0) hj)
      have e : (halfL w).getD j 0 = if w.getD j 0 = 0 then 0 else 1 := by
        simp only [halfL, List.getD_eq_getElem?_getD, List.getElem?_map, List.getElem?_eq_getElem hj]; rfl
      simp only [wFnSplits_l55_t, Tr.sem, ltRange hj, ltRange (show j < (halfL w).length by omega), zeroLe, Bool.and_self, cond_true, Int.toNat_natCast, up1 (show j ≤ 1048576 by omega), e]
      by_cases h : w.getD j 0 = 0
      · rw [if_pos h, show (w.getD j 0 == 0) = true by simpa using h, decide_eq_false (show ¬ w.getD j 0 > 0 by omega)]; rfl
      · rw [if_neg h, show (w.getD j 0 == 0) = false by simpa using h, decide_eq_true (show w.getD j 0 > 0 by omega)]; rfl) (by
      rw [Nat.zero_add]; simp only [wFnSplits_l55_t, Tr.sem, not_lt_self, cond_false])
    exact key
  simp only [wFnSplits_o1, wFnSplits_o2, wFnSplits_o3, wFnSplits_o4, wFnSplits_o5, wFnSplits_o6, wFnSplits_o7, wFnSplits_o8, wFnSplits_o9, wFnSplits_o10, Tr.sem, u1, a1', hsp, s2, h12, h17, h26', hbr, hGl, h35, hh, hhl, h55, osome, oget, isL, unR, bne_self_eq_false, decide_eq_false (show ¬ ((w.length : Nat) : Int) > 12 by omega), cond_true, cond_false]
theorem bytes_wf {l : List Int} (hs : l.length ≤ 48) (h : ∀ x : Int, List.Mem x l → (Lit.int .u8 x).wf = true) : bytesL l := bytes_of (by omega) h
theorem long_parts {c m : List Int} (h : wr8Long c m = false) : c.length ≤ 48 ∧ m.length ≤ 48 := by
  unfold wr8Long wr8Long_t at h
  by_cases h1 : ((c.length : Nat) : Int) > 48
  · simp [Tr.val, h1] at h
  · simp [Tr.val, h1] at h; omega
theorem pureFnSplits (x0 x1 : List Int) (h0 : List.length x0 ≤ 9223372036854775807 ∧ ∀ x : Int, List.Mem x x0 → (Lit.int .u8 x).wf = true) (h1 : List.length x1 ≤ 9223372036854775807 ∧ ∀ x : Int, List.Mem x x1 → (Lit.int .u8 x).wf = true) : wFnSplits x0 x1 = some true := by
  cases hL : wr8Long x0 x1 with
  | true => unfold wFnSplits; simp only [wFnSplits_t, Tr.sem, hL, cond_true]
  | false =>
    obtain ⟨a, b⟩ := long_parts hL
    exact Z_true (bytes_wf a h0.2) (bytes_wf b h1.2)
end Go.Proofs.Ytcjekndobhkmbaa
