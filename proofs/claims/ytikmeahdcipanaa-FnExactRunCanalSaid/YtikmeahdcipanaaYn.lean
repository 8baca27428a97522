/- Canals: tests of lists of floats; what laws copy, compare and mark; which canals are valid. -/
import Derived.Test.YtikmeahdcipanaaPa
import Derived.Test.YtikmeahdcipanaaGn1d
set_option linter.unusedVariables false
set_option linter.unusedSimpArgs false
set_option linter.constructorNameAsVariable false
namespace Go.Proofs.Ytikmeahdcipanaa
open Go.RowKit
set_option maxRecDepth 100000
theorem P_areFinite (xs : List Nat) (hl : xs.length ≤ 9223372036854775807) : iareFinite xs = some (xs.all (isFin .f32)) := by
  have h0 := run_idx (f := fun s => (lIndexFunc_iareFinite_1_l2_t xs xs.length s).sem) xs (fun x => !(isFin .f32 x)) hl (fun k hk x hx => by
    simp only [lIndexFunc_iareFinite_1_l2_t, Tr.sem, ltRange hk, inRange hk, Int.toNat_natCast, getD_at hx, cond_true, iareFinite_1, iareFinite_1_t, Tr.val]
    cases isFin .f32 x <;> rfl) (by simp only [lIndexFunc_iareFinite_1_l2_t, Tr.sem, not_lt_self, cond_false])
  have h1 : lIndexFunc_iareFinite_1 xs = some (idxI (fstIdx (fun x => !(isFin .f32 x)) 0 xs)) := idx_tree h0
  have h2 : lContainsFunc_iareFinite_1 xs = some (xs.any fun x => !(isFin .f32 x)) := has_tree h1
  have h3 : iareFinite xs = _ := not_tree h2
  rw [h3, not_any]
theorem P_areLengths (xs : List Nat) (hl : xs.length ≤ 9223372036854775807) : iareLengths xs = some (xs.all isLen) := by
  have h0 := run_all (f := fun s => (iareLengths_l2_t xs xs.length s).sem) xs 0 isLen (.inl ()) (.inr ()) hl (fun k hk x hx => by
    simp only [iareLengths_l2_t, Tr.sem, ltRange hk, inRange hk, Int.toNat_natCast, getD_at hx, cond_true]
    cases isLen x <;> rfl) (by simp only [iareLengths_l2_t, Tr.sem, not_lt_self, cond_false])
  have h1 : iareLengths_l2 xs xs.length 0 = some (bif xs.all isLen then .inr () else .inl ()) := h0
  unfold iareLengths iareLengths_t
  simp only [h1, Tr.sem, osome, oget, cond_true]
  cases xs.all isLen <;> rfl
/-! ### What laws copy, compare and mark -/
theorem q_fold_set {α : Type} : ∀ (xs ys : List α) (k : Nat) (pre : List α), pre.length = k → ys.length = xs.length → foldE (fun k (t : List α) x => (.inl (t.set k x) : List α ⊕ List α)) id k (pre ++ ys) xs = pre ++ xs
  | [], ys, k, pre, hp, hl => by
    have : ys = [] := List.length_eq_zero_iff.1 (by simpa using hl)
    subst this; rfl
  | x :: xs, [], k, pre, hp, hl => by simp at hl
  | x :: xs, y :: ys, k, pre, hp, hl => by
    simp only [foldE]
    have e : (pre ++ y :: ys).set k x = (pre ++ [x]) ++ ys := by
      rw [List.set_append_right _ _ (by omega), show k - pre.length = 0 from by omega, List.set_cons_zero, List.append_assoc]; rfl
    rw [e, q_fold_set xs ys (k + 1) (pre ++ [x]) (by simp [hp]) (by simpa using hl), List.append_assoc]; rfl
theorem run_copy {α : Type} {f : Int × List α → Option ((Int × List α) ⊕ List α)} (xs ys : List α) (hl : ys.length = xs.length) (hb : xs.length ≤ 9223372036854775806)
    (hf : ∀ (k : Nat) (t : List α) (x : α), k < xs.length → t.length = xs.length → xs[k]? = some x → f ((k : Int), t) = some (.inl (IntKind.wrap .i64 ((k : Int) + 1), t.set k x)))
    (he : ∀ t : List α, f ((xs.length : Nat), t) = some (.inr t)) : runL f (0, ys) = some xs := by
  have h := runL_for (f := f) xs (fun k (t : List α) => ((k : Int), t)) (fun k t x => .inl (t.set k x)) id (fun _ t => t.length = xs.length) ys hl (fun k t x hi hk hx => by
    rw [hf k t x hk hi hx, wrap_id (by omega) (by omega)]; rfl) (fun k t x t' hi hk hx e => by cases e; simpa using hi) (fun t _ => he t)
  have e := q_fold_set xs ys 0 [] rfl hl
  simp only [List.nil_append] at e
  rw [e] at h
  exact h
theorem mk4 {n : Nat} (h : n ≤ 1048576) : (decide (((n : Nat) : Int) = ((n : Nat) : Int)) && decide (0 ≤ ((n : Nat) : Int)) && decide (((n : Nat) : Int) * ((4 : Nat) : Int) ≤ 140737488355328)) = true := by
  simp only [decide_true, Bool.true_and, Bool.and_eq_true, decide_eq_true_eq]; omega
theorem R_to (xs : List Nat) (h : xs.length ≤ 1048576) : wtoFloat32S xs = some xs := by
  unfold wtoFloat32S wtoFloat32S_t
  have h1 : wtoFloat32S_l3 xs 0 (List.replicate (Int.toNat ((xs.length : Nat) : Int)) 0) = some xs := by
    unfold wtoFloat32S_l3
    refine run_copy xs _ (by simp) (by omega) (fun k t x hk ht hx => ?_) (fun t => by simp only [wtoFloat32S_l3_t, Tr.sem, not_lt_self, cond_false])
    simp only [wtoFloat32S_l3_t, Tr.sem, ltRange hk, zeroLe, Bool.and_self, ltRange (show k < t.length by omega), cond_true, Int.toNat_natCast, getD_at hx]
  refine (brT (mk4 h)).trans ?_
  simp only [Tr.sem, h1, osome, oget, cond_true]
theorem R_eq (xs : List Nat) (h : xs.length ≤ 1048576) : weqFloat32S xs xs = some true := by
  unfold weqFloat32S weqFloat32S_t
  have h1 : weqFloat32S_l4 xs xs 0 = some () := by
    unfold weqFloat32S_l4
    have := run_all (f := fun s => (weqFloat32S_l4_t xs xs s).sem) xs 0 (fun _ => true) () () (by omega) (fun k hk x hx => by
      simp only [weqFloat32S_l4_t, Tr.sem, ltRange hk, zeroLe, Bool.and_self, cond_true, natEq_self]) (by simp only [weqFloat32S_l4_t, Tr.sem, not_lt_self, cond_false])
    rw [all_true] at this
    exact this
  simp only [Tr.sem, bne_self_eq_false, cond_false, h1, osome, cond_true]
/-- The words of numbers one after another. -/
def seqF : Int → Nat → List Nat
  | _, 0 => []
  | k, n + 1 => FloatKind.nearest .f32 k :: seqF (k + 1) n
theorem seqF_len : ∀ (n : Nat) (k : Int), (seqF k n).length = n
  | 0, _ => rfl
  | n + 1, k => by simp [seqF, seqF_len n]
theorem seqF_get : ∀ (n : Nat) (k : Int) (j : Nat), j < n → (seqF k n)[j]? = some (FloatKind.nearest .f32 (k + j))
  | 0, _, j, h => by omega
  | n + 1, k, 0, h => by simp [seqF]
  | n + 1, k, j + 1, h => by
    simp only [seqF, List.getElem?_cons_succ]
    rw [seqF_get n (k + 1) j (by omega)]
    congr 2; omega
theorem fold_markF (m : Int) : ∀ (xs ys : List Nat) (k : Nat) (pre : List Nat), pre.length = k → ys.length = xs.length → foldE (fun k (t : List Nat) (x : Nat) => (.inl (t.set k (FloatKind.nearest .f32 (m + k))) : List Nat ⊕ List Nat)) id k (pre ++ ys) xs = pre ++ seqF (m + k) xs.length
  | [], ys, k, pre, hp, hl => by
    have : ys = [] := List.length_eq_zero_iff.1 (by simpa using hl)
    subst this; rfl
  | x :: xs, [], k, pre, hp, hl => by simp at hl
  | x :: xs, y :: ys, k, pre, hp, hl => by
    simp only [foldE]
    have e : (pre ++ y :: ys).set k (FloatKind.nearest .f32 (m + k)) = (pre ++ [FloatKind.nearest .f32 (m + (k : Int))]) ++ ys := by
      rw [List.set_append_right _ _ (by omega), show k - pre.length = 0 from by omega, List.set_cons_zero, List.append_assoc]; rfl
    rw [e, fold_markF m xs ys (k + 1) (pre ++ [FloatKind.nearest .f32 (m + (k : Int))]) (by simp [hp]) (by simpa using hl), List.append_assoc, show m + ((k + 1 : Nat) : Int) = m + k + 1 from by omega]; rfl
theorem R_markG (m : Int) (xs : List Nat) (h : xs.length ≤ 1048576) (h0 : 0 ≤ m) (hm : m ≤ 16777216) : wmarkFloat32S m xs = some (m + (xs.length : Int), seqF m xs.length) := by
  unfold wmarkFloat32S wmarkFloat32S_t
  have h1 : wmarkFloat32S_l2 m 0 xs = some (m + (xs.length : Int), seqF m xs.length) := by
    unfold wmarkFloat32S_l2
    have := runL_for (f := fun s : Int × Int × List Nat => (wmarkFloat32S_l2_t s.1 s.2.1 s.2.2).sem) xs (fun k (t : List Nat) => (m + (k : Int), (k : Int), t)) (fun k t x => .inl (t.set k (FloatKind.nearest .f32 (m + (k : Int))))) (fun t => (m + (xs.length : Int), t)) (fun _ t => t.length = xs.length) xs rfl (fun k t x hi hk hx => by
      simp only [wmarkFloat32S_l2_t, Tr.sem, ltRange (show k < t.length by omega), zeroLe, Bool.and_self, cond_true, Int.toNat_natCast]
      rw [wrap_id (by omega) (by omega), wrap_id (by omega) (by omega)]
      simp only [Int.natCast_add, Int.add_assoc]; rfl) (fun k t x t' hi hk hx e => by cases e; simpa using hi) (fun t hi => by
      simp only [wmarkFloat32S_l2_t, Tr.sem]
      rw [hi, not_lt_self]; rfl)
    have e := fold_markF m xs xs 0 [] rfl rfl
    have key : ∀ (ys : List Nat) (k : Nat) (t : List Nat), foldE (fun k (t : List Nat) (x : Nat) => (.inl (t.set k (FloatKind.nearest .f32 (m + (k : Int)))) : List Nat ⊕ (Int × List Nat))) (fun t => (m + (xs.length : Int), t)) k t ys = (m + (xs.length : Int), foldE (fun k (t : List Nat) (x : Nat) => (.inl (t.set k (FloatKind.nearest .f32 (m + k))) : List Nat ⊕ List Nat)) id k t ys) := by
      intro ys
      induction ys with
      | nil => intro k t; rfl
      | cons y ys ih => intro k t; simp only [foldE]; exact ih _ _
    rw [key] at this
    simp only [List.nil_append] at e
    rw [e] at this
    simp only [Int.natCast_zero, Int.add_zero] at this
    exact this
  simp only [Tr.sem, h1, osome, oget, cond_true]
theorem R_mark (xs : List Nat) (h : xs.length ≤ 1048576) : wmarkFloat32S 1 xs = some (1 + (xs.length : Int), seqF 1 xs.length) := R_markG 1 xs h (by omega) (by omega)
theorem near_num (n : Int) : isN .f32 (FloatKind.nearest .f32 n) = false := isN_encode .f32 _ rfl
theorem R_heldG (m : Int) (n : Nat) (h : n ≤ 1048576) (h0 : 0 ≤ m) (hm : m ≤ 16777216) : wheldFloat32S (seqF m n) m = some (m + (n : Int)) := by
  unfold wheldFloat32S wheldFloat32S_t
  have h1 : wheldFloat32S_l2 (seqF m n) m 0 = some (.inr (m + (n : Int))) := by
    unfold wheldFloat32S_l2
    have := runL_for (f := fun s : Int × Int => (wheldFloat32S_l2_t (seqF m n) s.1 s.2).sem) (seqF m n) (fun k (_ : Unit) => (m + (k : Int), (k : Int))) (fun k t x => (.inl () : Unit ⊕ (Int ⊕ Int))) (fun t => .inr (m + (n : Int))) (fun _ _ => True) () trivial (fun k t x _ hk hx => by
      have hk' : k < n := by rw [seqF_len] at hk; exact hk
      have hx' := seqF_get n m k hk'
      rw [hx] at hx'
      cases hx'
      simp only [wheldFloat32S_l2_t, Tr.sem, ltRange hk, zeroLe, Bool.and_self, cond_true, Int.toNat_natCast, getD_at hx, feq_self, near_num, Bool.not_false, Bool.not_true, cond_false]
      rw [wrap_id (by omega) (by omega), wrap_id (by omega) (by omega)]
      simp only [Int.natCast_add, Int.add_assoc]; rfl) (fun _ _ _ _ _ _ _ _ => trivial) (fun _ _ => by
      simp only [wheldFloat32S_l2_t, Tr.sem, not_lt_self, cond_false, seqF_len])
    have key : ∀ (ys : List Nat) (k : Nat), foldE (fun k (t : Unit) (x : Nat) => (.inl () : Unit ⊕ (Int ⊕ Int))) (fun t => .inr (m + (n : Int))) k () ys = .inr (m + (n : Int)) := by
      intro ys
      induction ys with
      | nil => intro k; rfl
      | cons y ys ih => intro k; simp only [foldE]; exact ih _
    rw [key] at this
    simp only [Int.natCast_zero, Int.add_zero] at this
    exact this
  simp only [Tr.sem, h1, osome, oget, cond_true, isL, unR, cond_false]
theorem R_held (n : Nat) (h : n ≤ 1048576) : wheldFloat32S (seqF 1 n) 1 = some (1 + (n : Int)) := R_heldG 1 n h (by omega) (by omega)
theorem R_heldnil : wheldFloat32S [] 1 = some 1 := R_held 0 (by omega)
theorem R_eqnil : weqFloat32S [] [] = some true := R_eq [] (by simp)
theorem R_left {n : Nat} {m : Int} (h0 : 0 ≤ m) (hm : m ≤ 1048576) (hn : n ≤ 9223372036854775807) : IntKind.wrap .i64 (m - (n : Int)) = m - n := wrap_id (by omega) (by omega)
def win (lo hi n : Int) : Bool := decide (lo ≤ n) && decide (n ≤ hi)
theorem R_within (n lo hi : Int) : iwithin n lo hi = win lo hi n := by
  unfold iwithin iwithin_t win
  cases h : decide (lo ≤ n) <;> simp [Tr.val, h]
theorem R_finite (xs : List Nat) (hl : xs.length ≤ 9223372036854775807) : sl02Finite xs = some (xs.all (isFin .f32)) := by
  have h0 := run_all (f := fun s => (sl02Finite_l2_t xs s).sem) xs 0 (isFin .f32) (.inl ()) (.inr ()) hl (fun k hk x hx => by
    simp only [sl02Finite_l2_t, Tr.sem, ltRange hk, zeroLe, Bool.and_self, Int.toNat_natCast, getD_at hx, cond_true]
    cases isFin .f32 x <;> rfl) (by simp only [sl02Finite_l2_t, Tr.sem, not_lt_self, cond_false])
  have h1 : sl02Finite_l2 xs 0 = some (bif xs.all (isFin .f32) then .inr () else .inl ()) := h0
  unfold sl02Finite sl02Finite_t
  simp only [h1, Tr.sem, osome, oget, cond_true]
  cases xs.all (isFin .f32) <;> rfl
def canalB (s d g : Nat) (h f : List Nat) : Bool := isLen s && isLen d && isMass g && win 1 48 h.length && decide (f.length = h.length) && h.all (isFin .f32) && f.all (isFin .f32)
theorem lenEq (f h : List Nat) : (((f.length : Nat) : Int) == ((h.length : Nat) : Int)) = decide (f.length = h.length) := by
  rw [Bool.eq_iff_iff, beq_iff_eq, decide_eq_true_eq]; omega
theorem R_iCanal (s d g : Nat) (h f : List Nat) (hf : f.length ≤ 9223372036854775807) : iValidCanal s d g h f = some (canalB s d g h f) := by
  unfold iValidCanal iValidCanal_t canalB
  simp only [P_areLengths [s, d] (by simp), R_within, lenEq, List.all_cons, List.all_nil, Bool.and_true, Tr.sem, osome, oget, cond_true]
  cases isLen s <;> cases isLen d <;> cases isMass g <;> cases hw : win 1 48 (h.length : Int) <;> cases decide (f.length = h.length) <;> try rfl
  have hl : h.length ≤ 48 := by simp only [win, Bool.and_eq_true, decide_eq_true_eq] at hw; omega
  simp only [P_areFinite h (by omega), P_areFinite f hf, osome, oget, cond_true, Bool.and_self, Bool.true_and]
  cases h.all (isFin .f32) <;> rfl
theorem R_sCanal (s d g : Nat) (h f : List Nat) (hf : f.length ≤ 9223372036854775807) : sl05Canal s d g h f = some (canalB s d g h f) := by
  unfold sl05Canal sl05Canal_t canalB win
  simp only [lenEq, Tr.sem]
  cases isLen s <;> cases isLen d <;> cases isMass g <;> try rfl
  by_cases h1 : (h.length : Int) ≥ 1
  · have h1' : (1 : Int) ≤ h.length := h1
    by_cases h2 : (h.length : Int) ≤ 48
    · simp only [decide_eq_true h1, decide_eq_true h1', decide_eq_true h2, R_finite h (by omega), R_finite f hf, osome, oget, cond_true, Bool.and_self, Bool.true_and]
      cases decide (f.length = h.length) <;> cases h.all (isFin .f32) <;> rfl
    · simp [h2]
  · have h1' : ¬ (1 : Int) ≤ h.length := h1
    simp [h1']
theorem canal_parts {s d g : Nat} {h f : List Nat} (hc : canalB s d g h f = true) : 1 ≤ h.length ∧ h.length ≤ 48 ∧ f.length = h.length := by
  simp only [canalB, Bool.and_eq_true, decide_eq_true_eq] at hc
  obtain ⟨⟨⟨⟨_, hw⟩, hl⟩, _⟩, _⟩ := hc
  simp only [win, Bool.and_eq_true, decide_eq_true_eq] at hw
  omega
theorem R_sz (xs : List Nat) (m : Int) (h0 : 0 ≤ m) (hm : m ≤ 1048576) (hn : xs.length ≤ 9223372036854775807) : wszFloat32S xs m = if m - xs.length < 0 then -1 else m - xs.length := by
  unfold wszFloat32S wszFloat32S_t
  simp only [Tr.val, R_left h0 hm hn]
  by_cases h : m - (xs.length : Int) < 0 <;> simp [h]
theorem R_szC (s d g : Nat) (a b : List Nat) (ha : a.length ≤ 9223372036854775807) (hb : b.length ≤ 9223372036854775807) (h : decide (wszCanal s d g a b 1048576 < 0) = false) : a.length ≤ 1048576 ∧ b.length ≤ 1048576 := by
  unfold wszCanal wszCanal_t at h
  simp only [Tr.val] at h
  rw [R_sz a _ (by omega) (by omega) ha] at h
  by_cases h1 : (1048576 : Int) - (a.length : Int) < 0
  · simp [h1] at h
  rw [if_neg h1] at h
  rw [R_sz b _ (by omega) (by omega) hb] at h
  by_cases h2 : (1048576 : Int) - (a.length : Int) - b.length < 0
  · simp [h1, h2] at h
  omega
theorem R_toC (s d g : Nat) (a b : List Nat) (ha : a.length ≤ 1048576) (hb : b.length ≤ 1048576) : wtoCanal s d g a b = some (s, d, g, a, b) := by
  unfold wtoCanal wtoCanal_t
  simp only [R_to a ha, R_to b hb, Tr.sem, osome, oget, cond_true]
theorem R_eqC (s d g : Nat) (a b : List Nat) (ha : a.length ≤ 1048576) (hb : b.length ≤ 1048576) : weqCanal s d g a b s d g a b = some true := by
  unfold weqCanal weqCanal_t
  simp only [R_eq a ha, R_eq b hb, natEq_self, Tr.sem, osome, oget, cond_true, Bool.not_true, cond_false]
theorem R_nil : wmarkFloat32S_nil 1 = some 1 := by
  unfold wmarkFloat32S_nil wmarkFloat32S_nil_t
  have h : wmarkFloat32S_nil_l2 1 0 = some 1 := runL_out rfl
  simp only [h, Tr.sem, osome, oget, cond_true]
theorem runL_steps {σ ρ : Type} {f : σ → Option (σ ⊕ ρ)} {r : ρ} : ∀ (n k : Nat) (s : Nat → σ), (∀ j, k ≤ j → j < k + n → f (s j) = some (.inl (s (j + 1)))) → f (s (k + n)) = some (.inr r) → runL f (s k) = some r
  | 0, k, s, h, he => runL_out he
  | n + 1, k, s, h, he => (runL_in (h k (Nat.le_refl _) (by omega))).trans (runL_steps n (k + 1) s (fun j h1 h2 => h j (by omega) (by omega)) (by rw [show k + 1 + n = k + (n + 1) by omega]; exact he))
def wr {α : Type} (g : Nat → α) (xs : List α) (k : Nat) : List α := (List.range k).map g ++ xs.drop k
theorem wr_len {α : Type} (g : Nat → α) (xs : List α) (k : Nat) (h : k ≤ xs.length) : (wr g xs k).length = xs.length := by simp [wr]; omega
theorem wr_zero {α : Type} (g : Nat → α) (xs : List α) : wr g xs 0 = xs := by simp [wr]
theorem wr_end {α : Type} (g : Nat → α) (xs : List α) : wr g xs xs.length = (List.range xs.length).map g := by simp [wr]
theorem wr_set {α : Type} (g : Nat → α) (xs : List α) (k : Nat) (h : k < xs.length) : (wr g xs k).set k (g k) = wr g xs (k + 1) := by
  unfold wr
  rw [List.set_append_right _ _ (by simp)]
  simp only [List.length_map, List.length_range, Nat.sub_self]
  rw [List.drop_eq_getElem_cons h, List.set_cons_zero, List.range_succ, List.map_append, List.append_assoc]; rfl
theorem range_getD {α : Type} (g : Nat → α) (n k : Nat) (d : α) (h : k < n) : ((List.range n).map g).getD k d = g k := by
  rw [List.getD_eq_getElem?_getD, List.getElem?_map, List.getElem?_range h]; rfl
end Go.Proofs.Ytikmeahdcipanaa
