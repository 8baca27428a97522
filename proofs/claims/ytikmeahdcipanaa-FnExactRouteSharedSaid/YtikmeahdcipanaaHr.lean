/- RouteShared: the program answers as the reference. -/
import Derived.Test.YtikmeahdcipanaaHq
set_option linter.unusedVariables false
set_option linter.unusedSimpArgs false
set_option linter.constructorNameAsVariable false
namespace Go.Proofs.Ytikmeahdcipanaa
open Go.RowKit
set_option maxRecDepth 100000
abbrev NL := List (List Nat)
def totN : NL → Nat
  | [] => 0
  | x :: l => x.length + totN l
theorem totN_mem : ∀ {l : NL} {x : List Nat}, x ∈ l → x.length ≤ totN l
  | y :: l, x, h => by
    rcases List.mem_cons.1 h with rfl | h
    · simp [totN]
    · have := totN_mem h; simp only [totN]; omega
theorem getD_mem {l : NL} {k : Nat} (h : k < l.length) : l.getD k [] ∈ l := by
  rw [List.getD_eq_getElem?_getD, List.getElem?_eq_getElem h]; exact List.getElem_mem h
theorem totN_take : ∀ (l : NL) (k : Nat), k < l.length → totN (l.take (k + 1)) = totN (l.take k) + (l.getD k []).length
  | x :: l, 0, h => by simp [totN]
  | x :: l, k + 1, h => by
    have := totN_take l k (by simpa using h)
    simp only [List.take_succ_cons, totN, List.getD_cons_succ]; omega
theorem totN_le : ∀ (l : NL) (k : Nat), totN (l.take k) ≤ totN l
  | [], k => by simp
  | x :: l, 0 => by simp [totN]
  | x :: l, k + 1 => by
    have := totN_le l k
    simp only [List.take_succ_cons, totN]; omega
/-- Small lists of lists. -/
def smallNL (l : NL) : Prop := l.length ≤ 1048576 ∧ totN l ≤ 1048576
theorem small_at {l : NL} (h : smallNL l) {x : List Nat} (hx : x ∈ l) : x.length ≤ 1048576 := Nat.le_trans (totN_mem hx) h.2
theorem mk24 {n : Nat} (h : n ≤ 1048576) : (decide (((n : Nat) : Int) = ((n : Nat) : Int)) && decide (0 ≤ ((n : Nat) : Int)) && decide (((n : Nat) : Int) * ((24 : Nat) : Int) ≤ 140737488355328)) = true := by
  simp only [decide_true, Bool.true_and, Bool.and_eq_true, decide_eq_true_eq]; omega
theorem mk8 {n : Nat} (h : n ≤ 1048576) : (decide (((n : Nat) : Int) = ((n : Nat) : Int)) && decide (0 ≤ ((n : Nat) : Int)) && decide (((n : Nat) : Int) * ((8 : Nat) : Int) ≤ 140737488355328)) = true := by
  simp only [decide_true, Bool.true_and, Bool.and_eq_true, decide_eq_true_eq]; omega
theorem R_szR (l : List (Nat × Nat)) (hl : l.length ≤ 9223372036854775807) (h : decide (wszReachS l 1048576 < 0) = false) : l.length ≤ 1048576 := by
  have h' := of_decide_eq_false h
  unfold wszReachS wszReachS_t at h'
  rw [wrap_id (by omega) (by omega)] at h'
  by_cases hz : (1048576 - ((l.length : Nat) : Int) : Int) < 0
  · rw [decide_eq_true hz] at h'
    simp [Tr.val] at h'
  · omega
theorem R_toR (xs : List (Nat × Nat)) (h : xs.length ≤ 1048576) : wtoReachS xs = some xs := by
  unfold wtoReachS wtoReachS_t
  have h1 : wtoReachS_l3 xs 0 (List.replicate (Int.toNat ((xs.length : Nat) : Int)) (0, 0)) = some xs := by
    unfold wtoReachS_l3
    refine run_copy xs _ (by simp) (by omega) (fun k t x hk ht hx => ?_) (fun t => by simp only [wtoReachS_l3_t, Tr.sem, not_lt_self, cond_false])
    simp only [wtoReachS_l3_t, Tr.sem, ltRange hk, zeroLe, Bool.and_self, ltRange (show k < t.length by omega), cond_true, Int.toNat_natCast, getD_at hx]
    rfl
  refine (brT (mk8 h)).trans ?_
  simp only [Tr.sem, h1, osome, oget, cond_true]
theorem R_eqR (xs : List (Nat × Nat)) (h : xs.length ≤ 1048576) : weqReachS xs xs = some true := by
  unfold weqReachS weqReachS_t
  have h1 : weqReachS_l4 xs xs 0 = some () := by
    unfold weqReachS_l4
    have := run_all (f := fun s => (weqReachS_l4_t xs xs s).sem) xs (0, 0) (fun _ => true) () () (by omega) (fun k hk x hx => by
      have he : ∀ a b, weqReach a b a b = some () := fun a b => by
        unfold weqReach weqReach_t
        simp only [natEq_self, Tr.sem, cond_true]
      simp only [weqReachS_l4_t, Tr.sem, ltRange hk, zeroLe, Bool.and_self, cond_true, he, osome]) (by simp only [weqReachS_l4_t, Tr.sem, not_lt_self, cond_false])
    rw [all_true] at this
    exact this
  simp only [Tr.sem, bne_self_eq_false, cond_false, h1, osome, cond_true]
theorem R_markR (xs : List (Nat × Nat)) (h : xs.length ≤ 1048576) : ∃ ys, wmarkReachS 1 xs = some (1 + 2 * (xs.length : Int), ys) := by
  obtain ⟨r, hr, hq⟩ := runL_ex0 (f := fun s : Int × Int × List (Nat × Nat) => (wmarkReachS_l2_t s.1 s.2.1 s.2.2).sem) xs.length (fun j s => s.1 = 1 + 2 * (j : Int) ∧ s.2.1 = (j : Int) ∧ s.2.2.length = xs.length) (fun r => r.1 = 1 + 2 * (xs.length : Int)) (1, 0, xs) ⟨rfl, rfl, rfl⟩ (fun j s hj ⟨e1, e2, e3⟩ => by
    obtain ⟨a, b, l⟩ := s
    simp only at e1 e2 e3
    subst e1; subst e2
    simp only [wmarkReachS_l2_t, Tr.sem, ltRange (show j < l.length by omega), zeroLe, Bool.and_self, cond_true, Int.toNat_natCast, List.length_set]
    refine ⟨_, rfl, ?_, ?_, ?_⟩
    · simp only
      rw [wrap_id (n := 1 + 2 * (j : Int) + 1) (by omega) (by omega), wrap_id (by omega) (by omega)]; omega
    · simp only; rw [wrap_id (by omega) (by omega)]; omega
    · simp only [List.length_set]; exact e3) (fun s ⟨e1, e2, e3⟩ => by
    obtain ⟨a, b, l⟩ := s
    simp only at e1 e2 e3
    subst e1; subst e2
    refine ⟨(1 + 2 * (xs.length : Int), l), ?_, rfl⟩
    simp only [wmarkReachS_l2_t, Tr.sem, e3, not_lt_self, cond_false])
  obtain ⟨a, ys⟩ := r
  have ha : a = 1 + 2 * (xs.length : Int) := hq
  subst ha
  have h1 : wmarkReachS_l2 1 0 xs = some (1 + 2 * (xs.length : Int), ys) := hr
  refine ⟨ys, ?_⟩
  unfold wmarkReachS wmarkReachS_t
  simp only [h1, Tr.sem, osome, oget, cond_true]
theorem R_nil : wmarkFloat32S_nil 1 = some 1 := by
  unfold wmarkFloat32S_nil wmarkFloat32S_nil_t
  have h : wmarkFloat32S_nil_l2 1 0 = some 1 := runL_out rfl
  simp only [h, Tr.sem, osome, oget, cond_true]
theorem R_sz (xs : List Nat) (m : Int) (h0 : 0 ≤ m) (hm : m ≤ 1048576) (hn : xs.length ≤ 9223372036854775807) : wszFloat32S xs m = if m - xs.length < 0 then -1 else m - xs.length := by
  unfold wszFloat32S wszFloat32S_t
  simp only [Tr.val, R_left h0 hm hn]
  by_cases h : m - (xs.length : Int) < 0 <;> simp [h]
theorem R_szRv (l : List (Nat × Nat)) (hl : l.length ≤ 9223372036854775807) (h : decide (wszReachS l 1048576 < 0) = false) : wszReachS l 1048576 = 1048576 - (l.length : Int) := by
  have h1 := R_szR l hl h
  unfold wszReachS wszReachS_t
  rw [wrap_id (by omega) (by omega)]
  simp only [Tr.val, decide_eq_false (show ¬ (1048576 - ((l.length : Nat) : Int) < 0) by omega), cond_false]
noncomputable def szE : Nat → Int → NL → Int ⊕ Int
  | _, t, [] => .inr t
  | k, t, x :: l => if wszFloat32S x t < 0 then .inl (-1) else szE (k + 1) (wszFloat32S x t) l
theorem szE_ok : ∀ (l : NL) (k : Nat) (t : Int), 0 ≤ t → t ≤ 1048576 → (∀ x ∈ l, x.length ≤ 9223372036854775807) → (szE k t l = .inl (-1)) ∨ (∃ r, szE k t l = .inr r ∧ 0 ≤ r ∧ (totN l : Int) ≤ t)
  | [], k, t, h0, h1, hx => .inr ⟨t, rfl, h0, by simp [totN]; exact h0⟩
  | x :: l, k, t, h0, h1, hx => by
    have e := R_sz x t h0 h1 (hx x List.mem_cons_self)
    simp only [szE]
    by_cases h : t - (x.length : Int) < 0
    · rw [e, if_pos h]; simp
    · rw [e, if_neg h, if_neg h]
      rcases szE_ok l (k + 1) (t - x.length) (by omega) (by omega) (fun y hy => hx y (List.mem_cons_of_mem _ hy)) with g | ⟨r, g1, g2, g3⟩
      · exact .inl g
      · exact .inr ⟨r, g1, g2, by simp only [totN]; omega⟩
theorem foldE_sz : ∀ (l : NL) (k : Nat) (t : Int), foldE (fun _ (t : Int) (x : List Nat) => if wszFloat32S x t < 0 then .inr (.inl (-1)) else .inl (wszFloat32S x t)) (fun t => (.inr t : Int ⊕ Int)) k t l = szE k t l
  | [], k, t => rfl
  | x :: l, k, t => by
    simp only [foldE, szE]
    by_cases h : wszFloat32S x t < 0
    · simp only [if_pos h]
    · simp only [if_neg h]; exact foldE_sz l (k + 1) _
theorem R_szSS (l : NL) (m : Int) (h0 : 0 ≤ m) (hm : m ≤ 1048576) (hl : l.length ≤ 9223372036854775807) (hx : ∀ x ∈ l, x.length ≤ 9223372036854775807) : ∃ v, wszFloat32SS l m = some v ∧ (decide (v < 0) = false → (l.length : Int) + totN l ≤ m) := by
  unfold wszFloat32SS wszFloat32SS_t
  rw [R_left h0 hm hl]
  by_cases h : m - (l.length : Int) < 0
  · exact ⟨-1, by simp only [decide_eq_true h, Tr.sem, cond_true], fun h => by simp at h⟩
  · have hr : wszFloat32SS_l5 l (m - (l.length : Int)) 0 = some (szE 0 (m - (l.length : Int)) l) := by
      unfold wszFloat32SS_l5
      have := runL_for (f := fun s : Int × Int => (wszFloat32SS_l5_t l s.1 s.2).sem) l (fun k (t : Int) => (t, (k : Int))) (fun _ (t : Int) (x : List Nat) => if wszFloat32S x t < 0 then .inr (.inl (-1)) else .inl (wszFloat32S x t)) (fun t => (.inr t : Int ⊕ Int)) (fun _ _ => True) (m - (l.length : Int)) trivial (fun k t x _ hk hx => by
        simp only [wszFloat32SS_l5_t, Tr.sem, ltRange hk, zeroLe, Bool.and_self, cond_true, Int.toNat_natCast, getD_at hx]
        rw [wrap_id (n := (k : Int) + 1) (by omega) (by omega)]
        by_cases h : wszFloat32S x t < 0
        · simp only [decide_eq_true h, if_pos h, cond_true]
        · simp only [decide_eq_false h, if_neg h, cond_false]; rfl) (fun _ _ _ _ _ _ _ _ => trivial) (fun t _ => by simp only [wszFloat32SS_l5_t, Tr.sem, not_lt_self, cond_false])
      rw [foldE_sz] at this
      exact this
    simp only [decide_eq_false h, Tr.sem, cond_false, hr, osome, oget, cond_true]
    rcases szE_ok l 0 (m - (l.length : Int)) (by omega) (by omega) hx with g | ⟨r, g1, g2, g3⟩
    · rw [g]; exact ⟨-1, rfl, fun h => by simp at h⟩
    · rw [g1]; exact ⟨r, rfl, fun _ => by omega⟩
theorem R_toSS (l : NL) (h : smallNL l) : wtoFloat32SS l = some l := by
  unfold wtoFloat32SS wtoFloat32SS_t
  have h1 : wtoFloat32SS_l3 l 0 (List.replicate (Int.toNat ((l.length : Nat) : Int)) []) = some l := by
    unfold wtoFloat32SS_l3
    refine run_copy l _ (by simp) (by have := h.1; omega) (fun k t x hk ht hx => ?_) (fun t => by simp only [wtoFloat32SS_l3_t, Tr.sem, not_lt_self, cond_false])
    simp only [wtoFloat32SS_l3_t, Tr.sem, ltRange hk, zeroLe, Bool.and_self, ltRange (show k < t.length by omega), cond_true, Int.toNat_natCast, getD_at hx, R_to x (small_at h (List.mem_of_getElem? hx)), osome, oget]
  refine (brT (mk24 h.1)).trans ?_
  simp only [Tr.sem, h1, osome, oget, cond_true]
theorem R_eqSS (l : NL) (h : smallNL l) : weqFloat32SS l l = some true := by
  unfold weqFloat32SS weqFloat32SS_t
  have h1 : weqFloat32SS_l4 l l 0 = some (.inr ()) := by
    unfold weqFloat32SS_l4
    have := run_all (f := fun s => (weqFloat32SS_l4_t l l s).sem) l [] (fun _ => true) (.inl ()) (.inr ()) (by have := h.1; omega) (fun k hk x hx => by
      simp only [weqFloat32SS_l4_t, Tr.sem, ltRange hk, zeroLe, Bool.and_self, cond_true, Int.toNat_natCast, getD_at hx, R_eq x (small_at h (List.mem_of_getElem? hx)), osome, oget, Bool.not_true, cond_false]) (by simp only [weqFloat32SS_l4_t, Tr.sem, not_lt_self, cond_false])
    rw [all_true] at this
    exact this
  simp only [Tr.sem, bne_self_eq_false, cond_false, h1, osome, oget, isL, cond_true]
theorem R_nilG (m : Int) : wmarkFloat32S_nil m = some m := by
  unfold wmarkFloat32S_nil wmarkFloat32S_nil_t
  have h : wmarkFloat32S_nil_l2 m 0 = some m := runL_out rfl
  simp only [h, Tr.sem, osome, oget, cond_true]
theorem R_nilSS (m : Int) : wmarkFloat32SS_nil m = some m := by
  unfold wmarkFloat32SS_nil wmarkFloat32SS_nil_t
  have h : wmarkFloat32SS_nil_l2 m 0 = some m := runL_out rfl
  simp only [h, Tr.sem, osome, oget, cond_true]
/-- Numbers from m on, row by row. -/
def seqSS : Int → NL → NL
  | _, [] => []
  | m, x :: l => seqF m x.length :: seqSS (m + x.length) l
theorem seqSS_len : ∀ (l : NL) (m : Int), (seqSS m l).length = l.length
  | [], m => rfl
  | x :: l, m => by simp [seqSS, seqSS_len l]
theorem seqSS_tot : ∀ (l : NL) (m : Int), totN (seqSS m l) = totN l
  | [], m => rfl
  | x :: l, m => by simp [seqSS, totN, seqF_len, seqSS_tot l]
theorem seqSS_at : ∀ (l : NL) (m : Int) (k : Nat), k < l.length → (seqSS m l).getD k [] = seqF (m + (totN (l.take k) : Int)) (l.getD k []).length
  | x :: l, m, 0, h => by simp [seqSS, totN]
  | x :: l, m, k + 1, h => by
    have := seqSS_at l (m + x.length) k (by simpa using h)
    simp only [seqSS, List.getD_cons_succ, this, List.take_succ_cons, totN]
    congr 1
    omega
theorem seqSS_take : ∀ (l : NL) (m : Int) (k : Nat), k < l.length → (seqSS m l).take (k + 1) = (seqSS m l).take k ++ [seqF (m + (totN (l.take k) : Int)) (l.getD k []).length] := fun l m k h => by
  have h' : k < (seqSS m l).length := by rw [seqSS_len]; exact h
  rw [List.take_add_one, List.getElem?_eq_getElem h', ← seqSS_at l m k h, List.getD_eq_getElem?_getD, List.getElem?_eq_getElem h']; rfl
theorem R_markSS (l : NL) (m : Int) (h : smallNL l) (h0 : 0 ≤ m) (hm : m ≤ 4194304) : wmarkFloat32SS m l = some (m + (totN l : Int), seqSS m l) := by
  unfold wmarkFloat32SS wmarkFloat32SS_t
  have h1 : ∃ r, wmarkFloat32SS_l2 m 0 l = some r ∧ r = (m + (totN l : Int), seqSS m l) := by
    unfold wmarkFloat32SS_l2
    refine runL_ex0 (f := fun s : Int × Int × NL => (wmarkFloat32SS_l2_t s.1 s.2.1 s.2.2).sem) l.length (fun k s => s = (m + (totN (l.take k) : Int), (k : Int), (seqSS m l).take k ++ l.drop k)) (fun r => r = (m + (totN l : Int), seqSS m l)) (m, 0, l) (by simp [totN]) (fun k s hk e => ?_) (fun s e => ?_)
    · subst e
      have hlen : ((seqSS m l).take k).length = k := by rw [List.length_take, seqSS_len]; omega
      have hL : ((seqSS m l).take k ++ l.drop k).length = l.length := by rw [List.length_append, hlen, List.length_drop]; omega
      have hg : ((seqSS m l).take k ++ l.drop k).getD k [] = l.getD k [] := by
        rw [List.getD_eq_getElem?_getD, List.getElem?_append_right (by omega), hlen, Nat.sub_self, List.getElem?_drop, Nat.add_zero, ← List.getD_eq_getElem?_getD]
      have htk := totN_take l k hk
      have hle := totN_le l (k + 1)
      have hb := h.2
      have hmk : wmarkFloat32S (m + (totN (l.take k) : Int)) (l.getD k []) = some (m + (totN (l.take k) : Int) + ((l.getD k []).length : Int), seqF (m + (totN (l.take k) : Int)) (l.getD k []).length) := R_markG _ _ (small_at h (getD_mem hk)) (by omega) (by omega)
      have hset : ((seqSS m l).take k ++ l.drop k).set k (seqF (m + (totN (l.take k) : Int)) (l.getD k []).length) = (seqSS m l).take (k + 1) ++ l.drop (k + 1) := by
        rw [List.set_append_right _ _ (by omega), hlen, Nat.sub_self, List.drop_eq_getElem_cons hk, List.set_cons_zero, seqSS_take l m k hk, List.append_assoc]; rfl
      have w1 : IntKind.wrap .i64 ((k : Int) + 1) = ((k + 1 : Nat) : Int) := wrap_id (by have := h.1; omega) (by have := h.1; omega)
      have e1 : m + (totN (l.take k) : Int) + ((l.getD k []).length : Int) = m + (totN (l.take (k + 1)) : Int) := by rw [htk]; omega
      simp only [wmarkFloat32SS_l2_t, Tr.sem, ltRange (show k < ((seqSS m l).take k ++ l.drop k).length by rw [hL]; exact hk), zeroLe, Bool.and_self, cond_true, Int.toNat_natCast, hg, hmk, osome, oget, R_nilG, w1]
      cases he : (l.getD k []).isEmpty with
      | true =>
        have h0 : l.getD k [] = [] := by simpa using he
        have hbe : (m + (totN (l.take k) : Int) + ((l.getD k []).length : Int) == m + (totN (l.take k) : Int)) = true := by rw [h0]; simp
        simp only [cond_true, hbe]
        rw [h0] at hset
        refine ⟨_, rfl, ?_⟩
        rw [e1, ← hset, h0]; rfl
      | false =>
        simp only [cond_false]
        exact ⟨_, rfl, by rw [e1, hset]⟩
    · subst e
      have hlen : ((seqSS m l).take l.length).length = l.length := by rw [List.length_take, seqSS_len]; omega
      have hL : ((seqSS m l).take l.length ++ l.drop l.length).length = l.length := by rw [List.length_append, hlen, List.length_drop]; omega
      simp only [wmarkFloat32SS_l2_t, Tr.sem]
      rw [hL, not_lt_self]
      refine ⟨_, rfl, ?_⟩
      rw [List.take_length, List.drop_length, List.append_nil, List.take_of_length_le (by rw [seqSS_len]; exact Nat.le_refl _)]
  obtain ⟨r, e1, e2⟩ := h1
  subst e2
  simp only [Tr.sem, e1, osome, oget, cond_true]
theorem R_heldSS (l : NL) (m : Int) (h : smallNL l) (h0 : 0 ≤ m) (hm : m ≤ 4194304) : wheldFloat32SS (seqSS m l) m = some (m + (totN l : Int)) := by
  unfold wheldFloat32SS wheldFloat32SS_t
  have h1 : ∃ r, wheldFloat32SS_l2 (seqSS m l) m 0 = some r ∧ r = .inr (m + (totN l : Int)) := by
    unfold wheldFloat32SS_l2
    refine runL_ex0 (f := fun s : Int × Int => (wheldFloat32SS_l2_t (seqSS m l) s.1 s.2).sem) l.length (fun k s => s = (m + (totN (l.take k) : Int), (k : Int))) (fun r => r = .inr (m + (totN l : Int))) (m, 0) (by simp [totN]) (fun k s hk e => ?_) (fun s e => ?_)
    · subst e
      have htk := totN_take l k hk
      have hle := totN_le l (k + 1)
      have hb := h.2
      have hh : wheldFloat32S (seqF (m + (totN (l.take k) : Int)) (l.getD k []).length) (m + (totN (l.take k) : Int)) = some (m + (totN (l.take k) : Int) + ((l.getD k []).length : Int)) := R_heldG _ _ (small_at h (getD_mem hk)) (by omega) (by omega)
      have e1 : m + (totN (l.take k) : Int) + ((l.getD k []).length : Int) = m + (totN (l.take (k + 1)) : Int) := by rw [htk]; omega
      have w1 : IntKind.wrap .i64 ((k : Int) + 1) = ((k + 1 : Nat) : Int) := wrap_id (by have := h.1; omega) (by have := h.1; omega)
      have hneg : decide (m + (totN (l.take (k + 1)) : Int) < 0) = false := by simp only [decide_eq_false_iff_not]; omega
      rw [e1] at hh
      simp only [wheldFloat32SS_l2_t, Tr.sem, ltRange (show k < (seqSS m l).length by rw [seqSS_len]; exact hk), zeroLe, Bool.and_self, cond_true, Int.toNat_natCast, seqSS_at l m k hk, hh, osome, oget, hneg, cond_false, w1]
      exact ⟨_, rfl, rfl⟩
    · subst e
      simp only [wheldFloat32SS_l2_t, Tr.sem, seqSS_len, not_lt_self, cond_false]
      exact ⟨_, rfl, by rw [List.take_length]⟩
  obtain ⟨r, e1, e2⟩ := h1
  subst e2
  simp only [Tr.sem, e1, osome, oget, cond_true, isL, unR, cond_false]
/-! ### Many lists -/
theorem R_loops (l : List (Nat × Nat)) (t : Nat) (ll : NL) (hl : l.length ≤ 9223372036854775807) (hL : listB l = true) (ht : isLen t = true) (h12 : ll.length ≤ 12) : ∀ (j : Nat) (out : NL), j ≤ ll.length → out.length = ll.length - j → (∀ q ∈ out, q.length ≤ 128) →
    ∃ R : Unit ⊕ NL, runL (fun s : Int × NL => (sRouteShared_l5_t l ll t (ll.length : Int) s.1 s.2).sem) (((ll.length - j : Nat) : Int), out) = some R ∧ runL (fun s : Int × NL => (iRouteShared_l5_t l t ll (ll.length : Int) s.1 s.2).sem) (((ll.length - j : Nat) : Int), out) = some R ∧ ∀ Q, R = .inr Q → Q.length = ll.length ∧ ∀ q ∈ Q, q.length ≤ 128
  | 0, out, hj, ho, hq => by
    refine ⟨.inr out, runL_out ?_, runL_out ?_, fun Q h => by cases h; exact ⟨by simpa using ho, hq⟩⟩
    · simp only [sRouteShared_l5_t, Tr.sem, Nat.sub_zero, not_lt_self, cond_false]
    · simp only [iRouteShared_l5_t, Tr.sem, Nat.sub_zero, not_lt_self, cond_false]
  | j + 1, out, hj, ho, hq => by
    have hk : ll.length - (j + 1) < ll.length := by omega
    have w1 : IntKind.wrap .i64 (((ll.length - (j + 1) : Nat) : Int) + 1) = ((ll.length - j : Nat) : Int) := by rw [wrap_id (by omega) (by omega)]; omega
    obtain ⟨r, r1, r2, r3⟩ := R_each l (ll.getD (ll.length - (j + 1)) []) t hl hL ht
    have hfit : decide ((out.length + 1) * 24 ≤ 140737488355328) = true := by simp only [decide_eq_true_eq]; omega
    cases hi : insB (ll.getD (ll.length - (j + 1)) []) with
    | false =>
      rw [hi] at r1
      have r1' : r = .inl () := r1
      subst r1'
      refine ⟨.inl (), runL_out ?_, runL_out ?_, fun Q h => by cases h⟩
      · simp only [sRouteShared_l5_t, Tr.sem, ltRange hk, zeroLe, Bool.and_self, cond_true, Int.toNat_natCast, R_sIns, hi, osome, oget, Bool.not_false]
      · simp only [iRouteShared_l5_t, Tr.sem, ltRange hk, zeroLe, Bool.and_self, cond_true, Int.toNat_natCast, r2, chO, osome, oget, isL]
    | true =>
      rw [hi] at r1
      simp only [cond_true] at r1
      cases r with
      | inl u =>
        refine ⟨.inl (), runL_out ?_, runL_out ?_, fun Q h => by cases h⟩
        · simp only [sRouteShared_l5_t, Tr.sem, ltRange hk, zeroLe, Bool.and_self, cond_true, Int.toNat_natCast, R_sIns, hi, osome, oget, Bool.not_true, cond_false, r1, isL]
        · simp only [iRouteShared_l5_t, Tr.sem, ltRange hk, zeroLe, Bool.and_self, cond_true, Int.toNat_natCast, r2, chO, osome, oget, isL]
      | inr q =>
        have hq' : ∀ q' ∈ out ++ [q], q'.length ≤ 128 := fun q' h => by
          rcases List.mem_append.1 h with h | h
          · exact hq q' h
          · rw [List.mem_singleton.1 h]; exact r3 q rfl
        obtain ⟨R, R1, R2, R3⟩ := R_loops l t ll hl hL ht h12 j (out ++ [q]) (by omega) (by simp [ho]; omega) hq'
        refine ⟨R, (runL_in (s' := (((ll.length - j : Nat) : Int), out ++ [q])) ?_).trans R1, (runL_in (s' := (((ll.length - j : Nat) : Int), out ++ [q])) ?_).trans R2, R3⟩
        · simp only [sRouteShared_l5_t, Tr.sem, ltRange hk, zeroLe, Bool.and_self, cond_true, Int.toNat_natCast, R_sIns, hi, osome, oget, Bool.not_true, cond_false, r1, isL, unR, List.length_singleton, hfit, w1]
        · simp only [iRouteShared_l5_t, Tr.sem, ltRange hk, zeroLe, Bool.and_self, cond_true, Int.toNat_natCast, r2, chO, osome, oget, isL, unR, cond_false, List.length_singleton, hfit, w1]
theorem R_shared (l : List (Nat × Nat)) (ll : NL) (t : Nat) (n : Int) (hl : l.length ≤ 9223372036854775807) : ∃ R : Unit ⊕ NL, sRouteShared l ll t n = some R ∧ iRouteShared l ll t n = some R ∧ ∀ Q, R = .inr Q → Q.length ≤ 12 ∧ ∀ q ∈ Q, q.length ≤ 128 := by
  have hin : sl00In n 1 8 = win 1 8 n := by
    unfold sl00In sl00In_t win
    cases h : decide (n ≥ 1) <;> simp_all [Tr.val]
  unfold sRouteShared sRouteShared_t iRouteShared iRouteShared_t
  simp only [R_sList l hl, R_iList l hl, Tr.sem, osome, oget, cond_true, hin, R_within]
  cases hL : listB l with
  | false => exact ⟨.inl (), rfl, rfl, (fun q h => by cases h)⟩
  | true =>
  by_cases h12 : (ll.length : Int) > 12
  · simp only [decide_eq_true h12, Bool.not_true, cond_true, cond_false]
    exact ⟨.inl (), rfl, rfl, (fun q h => by cases h)⟩
  simp only [decide_eq_false h12, Bool.not_true, cond_false]
  cases ht : isLen t with
  | false => exact ⟨.inl (), rfl, rfl, (fun q h => by cases h)⟩
  | true =>
  simp only [Bool.not_true, cond_false]
  cases hw : win 1 8 n with
  | false => exact ⟨.inl (), rfl, rfl, (fun q h => by cases h)⟩
  | true =>
  obtain ⟨R, R1, R2, R3⟩ := R_loops l t ll hl hL ht (by omega) ll.length [] (Nat.le_refl _) (by simp) (fun q h => by cases h)
  rw [Nat.sub_self] at R1 R2
  have hA : sRouteShared_l5 l ll t (ll.length : Int) 0 [] = some R := R1
  have hB : iRouteShared_l5 l t ll (ll.length : Int) 0 [] = some R := R2
  simp only [Bool.not_true, cond_false, hA, hB, osome, oget, cond_true]
  cases R with
  | inl u => exact ⟨.inl (), rfl, rfl, (fun q h => by cases h)⟩
  | inr Q => exact ⟨.inr Q, rfl, rfl, fun Q' h => by cases h; obtain ⟨g1, g2⟩ := R3 Q rfl; exact ⟨by omega, g2⟩⟩
theorem tot_le {Q : NL} {n : Nat} (h : ∀ q ∈ Q, q.length ≤ n) : totN Q ≤ n * Q.length := by
  induction Q with
  | nil => simp [totN]
  | cons x l ih =>
    have h1 := ih fun q hq => h q (List.mem_cons_of_mem _ hq)
    have h2 := h x List.mem_cons_self
    simp only [totN, List.length_cons, Nat.mul_add, Nat.mul_one]; omega
theorem pureFnExactRouteShared (l : List (Nat × Nat)) (ll : NL) (t : Nat) (n : Int) (hL : List.length l ≤ 9223372036854775807) (hl : List.length ll ≤ 9223372036854775807) (hx : ∀ x : List Nat, List.Mem x ll → x.length ≤ 9223372036854775807) : wFnExactRouteShared l ll t n = some true := by
  unfold wFnExactRouteShared wFnExactRouteShared_t
  cases hd0 : decide (wszReachS l 1048576 < 0) with
  | true => rfl
  | false =>
  have hl1 := R_szR l hL hd0
  have hv := R_szRv l hL hd0
  obtain ⟨v, hv1, hs⟩ := R_szSS ll (wszReachS l 1048576) (by omega) (by omega) hl (fun x h => hx x h)
  refine (brF rfl).trans ?_
  unfold wFnExactRouteShared_o78
  simp only [hv1, Tr.sem, osome, oget, cond_true]
  cases hd : decide (v < 0) with
  | true => rfl
  | false =>
  have hsm : smallNL ll := by have := hs hd; exact ⟨by omega, by omega⟩
  obtain ⟨R, s1, s2, hR⟩ := R_shared l ll t n hL
  obtain ⟨ys, hm⟩ := R_markR l hl1
  have hto := R_toR l hl1
  have htS := R_toSS ll hsm
  have heR := R_eqR l hl1
  have heS := R_eqSS ll hsm
  have hk := R_markSS ll (1 + 2 * (l.length : Int)) hsm (by omega) (by omega)
  have hneg : decide (1 + 2 * (l.length : Int) + (totN ll : Int) < 0) = false := by simp only [decide_eq_false_iff_not]; omega
  have h0 : smallNL [] := ⟨by simp, by simp [totN]⟩
  have e00 := R_eqSS [] h0
  have h00 : wheldFloat32SS [] 1 = some 1 := R_heldSS [] 1 h0 (by omega) (by omega)
  cases R with
  | inl u =>
    simp only [wFnExactRouteShared_o1, wFnExactRouteShared_o2, wFnExactRouteShared_o3, wFnExactRouteShared_o4, wFnExactRouteShared_o5, wFnExactRouteShared_o6, wFnExactRouteShared_o7, wFnExactRouteShared_o8, wFnExactRouteShared_o9, wFnExactRouteShared_o10, wFnExactRouteShared_o11, wFnExactRouteShared_o12, wFnExactRouteShared_o13, wFnExactRouteShared_o14, wFnExactRouteShared_o15, wFnExactRouteShared_o16, wFnExactRouteShared_o17, wFnExactRouteShared_o18, wFnExactRouteShared_o19, wFnExactRouteShared_o20, wFnExactRouteShared_o21, wFnExactRouteShared_o22, wFnExactRouteShared_o23, wFnExactRouteShared_o24, wFnExactRouteShared_o25, wFnExactRouteShared_o26, wFnExactRouteShared_o27, wFnExactRouteShared_o28, wFnExactRouteShared_o29, wFnExactRouteShared_o30, wFnExactRouteShared_o31, wFnExactRouteShared_o32, wFnExactRouteShared_o33, wFnExactRouteShared_o34, wFnExactRouteShared_o35, wFnExactRouteShared_o36, wFnExactRouteShared_o37, wFnExactRouteShared_o38, wFnExactRouteShared_o39, wFnExactRouteShared_o40, wFnExactRouteShared_o41, wFnExactRouteShared_o42, wFnExactRouteShared_o43, wFnExactRouteShared_o44, wFnExactRouteShared_o45, wFnExactRouteShared_o46, wFnExactRouteShared_o47, wFnExactRouteShared_o48, wFnExactRouteShared_o49, wFnExactRouteShared_o50, wFnExactRouteShared_o51, wFnExactRouteShared_o52, wFnExactRouteShared_o53, wFnExactRouteShared_o54, wFnExactRouteShared_o55, wFnExactRouteShared_o56, wFnExactRouteShared_o57, wFnExactRouteShared_o58, wFnExactRouteShared_o59, wFnExactRouteShared_o60, wFnExactRouteShared_o61, wFnExactRouteShared_o62, wFnExactRouteShared_o63, wFnExactRouteShared_o64, wFnExactRouteShared_o65, wFnExactRouteShared_o66, wFnExactRouteShared_o67, wFnExactRouteShared_o68, wFnExactRouteShared_o69, wFnExactRouteShared_o70, wFnExactRouteShared_o71, wFnExactRouteShared_o72, wFnExactRouteShared_o73, wFnExactRouteShared_o74, wFnExactRouteShared_o75, wFnExactRouteShared_o76, wFnExactRouteShared_o77, Tr.sem, osome, oget, isL, unR, unL, cond_true, cond_false, s1, s2, hto, htS, heR, heS, hm, hk, hneg, e00, h00, R_nilSS, bne_self_eq_false, Bool.not_true, Bool.not_false, beq_self_eq_true]
    rfl
  | inr Q =>
    obtain ⟨g1, g2⟩ := hR Q rfl
    have ht := tot_le g2
    have hQ : smallNL Q := ⟨by omega, by omega⟩
    have eQ := R_eqSS Q hQ
    have hmQ := R_markSS Q 1 hQ (by omega) (by omega)
    have hhQ := R_heldSS Q 1 hQ (by omega) (by omega)
    have hn2 : decide (1 + (totN Q : Int) < 0) = false := by simp only [decide_eq_false_iff_not]; omega
    simp only [wFnExactRouteShared_o1, wFnExactRouteShared_o2, wFnExactRouteShared_o3, wFnExactRouteShared_o4, wFnExactRouteShared_o5, wFnExactRouteShared_o6, wFnExactRouteShared_o7, wFnExactRouteShared_o8, wFnExactRouteShared_o9, wFnExactRouteShared_o10, wFnExactRouteShared_o11, wFnExactRouteShared_o12, wFnExactRouteShared_o13, wFnExactRouteShared_o14, wFnExactRouteShared_o15, wFnExactRouteShared_o16, wFnExactRouteShared_o17, wFnExactRouteShared_o18, wFnExactRouteShared_o19, wFnExactRouteShared_o20, wFnExactRouteShared_o21, wFnExactRouteShared_o22, wFnExactRouteShared_o23, wFnExactRouteShared_o24, wFnExactRouteShared_o25, wFnExactRouteShared_o26, wFnExactRouteShared_o27, wFnExactRouteShared_o28, wFnExactRouteShared_o29, wFnExactRouteShared_o30, wFnExactRouteShared_o31, wFnExactRouteShared_o32, wFnExactRouteShared_o33, wFnExactRouteShared_o34, wFnExactRouteShared_o35, wFnExactRouteShared_o36, wFnExactRouteShared_o37, wFnExactRouteShared_o38, wFnExactRouteShared_o39, wFnExactRouteShared_o40, wFnExactRouteShared_o41, wFnExactRouteShared_o42, wFnExactRouteShared_o43, wFnExactRouteShared_o44, wFnExactRouteShared_o45, wFnExactRouteShared_o46, wFnExactRouteShared_o47, wFnExactRouteShared_o48, wFnExactRouteShared_o49, wFnExactRouteShared_o50, wFnExactRouteShared_o51, wFnExactRouteShared_o52, wFnExactRouteShared_o53, wFnExactRouteShared_o54, wFnExactRouteShared_o55, wFnExactRouteShared_o56, wFnExactRouteShared_o57, wFnExactRouteShared_o58, wFnExactRouteShared_o59, wFnExactRouteShared_o60, wFnExactRouteShared_o61, wFnExactRouteShared_o62, wFnExactRouteShared_o63, wFnExactRouteShared_o64, wFnExactRouteShared_o65, wFnExactRouteShared_o66, wFnExactRouteShared_o67, wFnExactRouteShared_o68, wFnExactRouteShared_o69, wFnExactRouteShared_o70, wFnExactRouteShared_o71, wFnExactRouteShared_o72, wFnExactRouteShared_o73, wFnExactRouteShared_o74, wFnExactRouteShared_o75, wFnExactRouteShared_o76, wFnExactRouteShared_o77, Tr.sem, osome, oget, isL, unR, unL, cond_true, cond_false, s1, s2, hto, htS, heR, heS, hm, hk, hneg, eQ, hmQ, hhQ, hn2, bne_self_eq_false, Bool.not_true, Bool.not_false, beq_self_eq_true]
end Go.Proofs.Ytikmeahdcipanaa
