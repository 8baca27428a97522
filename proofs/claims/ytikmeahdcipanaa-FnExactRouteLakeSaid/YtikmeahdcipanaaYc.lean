/- Lakes: what flows out, steps. -/
import Derived.Test.YtikmeahdcipanaaYa
import Derived.Test.YtikmeahdcipanaaMf
set_option linter.unusedVariables false
set_option linter.unusedSimpArgs false
set_option linter.constructorNameAsVariable false
namespace Go.Proofs.Ytikmeahdcipanaa
open Go.RowKit
set_option maxRecDepth 100000
/-! ### Orders -/
theorem order_some {k : FloatKind} {a b : Nat} (ha : isN k a = false) (hb : isN k b = false) : ∃ o, k.format.order a b = some o := by
  unfold isN at ha hb
  unfold Ieee.Format.order
  cases h1 : k.format.read a <;> cases h2 : k.format.read b <;> simp_all [Ieee.Datum.isNaN, Ieee.Datum.order]
theorem not_flt {k : FloatKind} {a b : Nat} (ha : isN k a = false) (hb : isN k b = false) : (!flt k a b) = fge k a b := by
  obtain ⟨o, ho⟩ := order_some ha hb
  unfold flt fge; rw [ho]; cases o <;> rfl
theorem not_fle {k : FloatKind} {a b : Nat} (ha : isN k a = false) (hb : isN k b = false) : (!fle k a b) = fgt k a b := by
  obtain ⟨o, ho⟩ := order_some ha hb
  unfold fle fgt; rw [ho]; cases o <;> rfl
theorem not_fge {k : FloatKind} {a b : Nat} (ha : isN k a = false) (hb : isN k b = false) : (!fge k a b) = flt k a b := by
  obtain ⟨o, ho⟩ := order_some ha hb
  unfold fge flt; rw [ho]; cases o <;> rfl
theorem datum_swap (a b : Ieee.Datum) : b.order a = (a.order b).map Ordering.swap := by
  cases a <;> cases b <;> simp only [Ieee.Datum.order, Option.map_none, Option.map_some, Option.some.injEq]
  · rename_i s m i t n j
    rw [Int.min_comm]
    generalize Ieee.signed s m (i - min i j).toNat = x
    generalize Ieee.signed t n (j - min i j).toNat = y
    rw [cmp_int, cmp_int]
    by_cases h1 : x < y
    · rw [if_pos h1, if_neg (by omega), if_neg (by omega)]; rfl
    · rw [if_neg h1]
      by_cases h2 : x = y
      · subst h2; simp
      · rw [if_neg h2, if_pos (by omega)]; rfl
  · rename_i s m i t
    cases t <;> rfl
  · rename_i t s m i
    cases t <;> rfl
  · rename_i s t
    cases s <;> cases t <;> decide
theorem order_swap (k : FloatKind) (a b : Nat) : k.format.order b a = (k.format.order a b).map Ordering.swap := datum_swap _ _
theorem fge_swap (k : FloatKind) (a b : Nat) : fge k b a = fle k a b := by
  unfold fge fle; rw [order_swap k a b]
  cases k.format.order a b with
  | none => rfl
  | some o => cases o <;> rfl
theorem fgt_swap (k : FloatKind) (a b : Nat) : fgt k b a = flt k a b := by
  unfold fgt flt; rw [order_swap k a b]
  cases k.format.order a b with
  | none => rfl
  | some o => cases o <;> rfl
theorem num_fin {k : FloatKind} {a : Nat} (h : isFin k a = true) : isN k a = false := by
  rw [fin_not, Bool.and_eq_true] at h
  simpa using h.1
theorem num_mass {a : Nat} (h : isMass a = true) : isN .f32 a = false := by
  unfold isMass at h
  rw [Bool.and_eq_true] at h
  exact num_fin h.1
theorem fle_num {k : FloatKind} {a b : Nat} (h : fle k a b = true) : isN k a = false ∧ isN k b = false := by
  unfold fle at h
  cases ho : k.format.order a b with
  | none => rw [ho] at h; cases h
  | some o => exact order_num ho
theorem flt_le {k : FloatKind} {a b : Nat} (h : flt k a b = true) : fle k a b = true := by
  unfold flt at h; unfold fle; rw [h]; rfl
/-! ### Valid lakes -/
def rise (a b : List Nat) (i : Nat) : Bool := fgt .f32 (a.getD i 0) (a.getD (i - 1) 0) && !(flt .f32 (b.getD i 0) (b.getD (i - 1) 0))
def lakeB (a b : List Nat) : Bool := win 2 16 a.length && decide (b.length = a.length) && (a.all isMass && b.all isMass && (List.range a.length).all fun i => decide (i = 0) || rise a b i)
theorem run_upto {ρ σ : Type} {f : σ → Option (σ ⊕ ρ)} (mk : Int → σ) (n : Nat) (hn : n ≤ 9223372036854775806) (p : Nat → Bool) (r e : ρ)
    (hf : ∀ k : Nat, k < n → f (mk k) = some (bif p k then .inl (mk (IntKind.wrap .i64 ((k : Int) + 1))) else .inr r)) (he : f (mk n) = some (.inr e)) : runL f (mk 0) = some (bif (List.range n).all p then e else r) := by
  have h := runL_for (f := f) (List.range n) (fun k (_ : Unit) => mk (k : Int)) (fun _ _ x => bif p x then .inl () else .inr r) (fun _ => e) (fun _ _ => True) () trivial (fun k t x _ hk hx => by
    have hk' : k < n := by simpa using hk
    have : x = k := by rw [List.getElem?_range hk'] at hx; cases hx; rfl
    subst this
    rw [hf x hk', wrap_id (by omega) (by omega)]
    cases p x <;> rfl) (fun _ _ _ _ _ _ _ _ => trivial) (fun _ _ => by simpa using he)
  rw [foldE_all] at h
  exact h
theorem run_from1 {ρ σ : Type} {f : σ → Option (σ ⊕ ρ)} (mk : Int → σ) (n : Nat) (hn : n ≤ 9223372036854775806) (h1 : 1 ≤ n) (p : Nat → Bool) (r e : ρ)
    (hf : ∀ k : Nat, 1 ≤ k → k < n → f (mk k) = some (bif p k then .inl (mk (IntKind.wrap .i64 ((k : Int) + 1))) else .inr r)) (he : f (mk n) = some (.inr e)) : runL f (mk 1) = some (bif (List.range n).all (fun i => decide (i = 0) || p i) then e else r) := by
  have h := runL_up (f := f) (List.range n) (fun k (_ : Unit) => mk (k : Int)) (fun _ _ x => bif p x then .inl () else .inr r) (fun _ => e) (fun k _ => 1 ≤ k) (fun k t x h0 hk hx => by
    have hk' : k < n := by simpa using hk
    have : x = k := by rw [List.getElem?_range hk'] at hx; cases hx; rfl
    subst this
    rw [hf x h0 hk', wrap_id (by omega) (by omega)]
    cases p x <;> rfl) (fun k _ _ _ h _ _ _ => by omega) (fun _ _ => by simpa using he) ((List.range n).drop 1) 1 () rfl (by simpa using h1) (Nat.le_refl _)
  rw [foldE_all] at h
  have e2 : (List.range n).all (fun i => decide (i = 0) || p i) = ((List.range n).drop 1).all p := by
    cases n with
    | zero => omega
    | succ n =>
      rw [List.range_succ_eq_map]
      simp only [List.all_cons, List.drop_succ_cons, List.drop_zero, List.all_map, decide_true, Bool.true_or, Bool.true_and]
      congr 1
  rw [e2]
  exact h
theorem all_range {α : Type} (xs : List α) (d : α) (p : α → Bool) : (List.range xs.length).all (fun i => p (xs.getD i d)) = xs.all p := by
  induction xs with
  | nil => rfl
  | cons x xs ih =>
    rw [List.length_cons, List.range_succ_eq_map, List.all_cons, List.all_map, List.all_cons, ← ih]
    rfl
theorem all_and {α : Type} (xs : List α) (p q : α → Bool) : xs.all (fun i => p i && q i) = (xs.all p && xs.all q) := by
  induction xs with
  | nil => rfl
  | cons x xs ih => simp only [List.all_cons, ih]; cases p x <;> cases q x <;> cases xs.all p <;> cases xs.all q <;> rfl
theorem mass_at {xs : List Nat} (h : xs.all isMass = true) {i : Nat} (hi : i < xs.length) : isMass (xs.getD i 0) = true := by
  have := List.all_eq_true.1 h xs[i] (List.getElem_mem hi)
  simpa [List.getD, List.getElem?_eq_getElem hi] using this
theorem prev {k : Nat} (h : 1 ≤ k) (hk : k ≤ 9223372036854775806) : IntKind.wrap .i64 ((k : Int) - 1) = ((k - 1 : Nat) : Int) := by rw [wrap_id (by omega) (by omega)]; omega
theorem R_valid (a b : List Nat) (hb : b.length ≤ 9223372036854775807) : iValidLake a b = some (lakeB a b) := by
  unfold iValidLake iValidLake_t lakeB
  simp only [R_within, Tr.sem]
  cases hw : win 2 16 (a.length : Int) with
  | false => simp
  | true =>
  have hn : 2 ≤ a.length ∧ a.length ≤ 16 := by simp only [win, Bool.and_eq_true, decide_eq_true_eq] at hw; omega
  by_cases h1 : b.length = a.length
  case neg =>
    have : (((b.length : Nat) : Int) != ((a.length : Nat) : Int)) = true := by simp; omega
    simp [this, h1]
  have e1 : (((b.length : Nat) : Int) != ((a.length : Nat) : Int)) = false := by simp; omega
  simp only [e1, h1, P_areMasses a (by omega), P_areMasses b hb, osome, oget, cond_true, cond_false, Bool.not_true, Bool.not_false, decide_true, Bool.true_and, bne_self_eq_false]
  cases hA : a.all isMass with
  | false => simp
  | true =>
  cases hB : b.all isMass with
  | false => simp
  | true =>
  have hl : iValidLake_l4 1 a b = some (bif (List.range a.length).all (fun i => decide (i = 0) || rise a b i) then .inr () else .inl ()) := by
    unfold iValidLake_l4
    refine run_from1 (f := fun s => (iValidLake_l4_t a b s).sem) (fun k => k) a.length (by omega) (by omega) (rise a b) (.inl ()) (.inr ()) (fun k h0 hk => ?_) (by simp only [iValidLake_l4_t, Tr.sem, not_lt_self, cond_false])
    simp only [iValidLake_l4_t, Tr.sem, prev h0 (by omega), ltRange hk, zeroLe, ltRange (show k - 1 < a.length by omega), ltRange (show k < b.length by omega), ltRange (show k - 1 < b.length by omega), Bool.and_self, cond_true, Int.toNat_natCast, rise]
    cases fgt .f32 (a.getD k 0) (a.getD (k - 1) 0) <;> cases flt .f32 (b.getD k 0) (b.getD (k - 1) 0) <;> rfl
  simp only [hl, osome, oget, cond_true, Bool.not_true, cond_false, Bool.true_and]
  cases (List.range a.length).all (fun i => decide (i = 0) || rise a b i) <;> rfl
theorem R_lake (a b : List Nat) : sl05Lake a b = some (lakeB a b) := by
  unfold sl05Lake sl05Lake_t lakeB
  by_cases h0 : (a.length : Int) < 2
  · have : win 2 16 (a.length : Int) = false := by simp only [win, Bool.and_eq_false_iff, decide_eq_false_iff_not]; omega
    simp [Tr.sem, h0, this]
  by_cases h9 : (a.length : Int) > 16
  · have : win 2 16 (a.length : Int) = false := by simp only [win, Bool.and_eq_false_iff, decide_eq_false_iff_not]; omega
    simp [Tr.sem, h0, h9, this]
  have hw : win 2 16 (a.length : Int) = true := by simp only [win, Bool.and_eq_true, decide_eq_true_eq]; omega
  have hn : 2 ≤ a.length ∧ a.length ≤ 16 := by omega
  by_cases h1 : b.length = a.length
  case neg =>
    have : (((b.length : Nat) : Int) != ((a.length : Nat) : Int)) = true := by simp; omega
    simp [this, h0, h9, h1, Tr.sem]
  have e1 : (((b.length : Nat) : Int) != ((a.length : Nat) : Int)) = false := by simp; omega
  have hl : sl05Lake_l5 a b (a.length : Nat) 0 = some (bif (a.all isMass && b.all isMass && (List.range a.length).all fun i => decide (i = 0) || rise a b i) then .inr () else .inl ()) := by
    have := run_upto (f := fun s => (sl05Lake_l5_t a b (a.length : Nat) s).sem) (fun k => k) a.length (by omega) (fun i => isMass (a.getD i 0) && isMass (b.getD i 0) && (decide (i = 0) || (!(fle .f32 (a.getD i 0) (a.getD (i - 1) 0)) && !(flt .f32 (b.getD i 0) (b.getD (i - 1) 0))))) (.inl ()) (.inr ()) (fun k hk => by
      simp only [sl05Lake_l5_t, Tr.sem, ltRange hk, zeroLe, ltRange (show k < b.length by omega), Bool.and_self, cond_true, Int.toNat_natCast]
      cases isMass (a.getD k 0) <;> cases isMass (b.getD k 0) <;> simp only [Bool.not_true, Bool.not_false, cond_true, cond_false, Bool.and_self, Bool.and_false, Bool.false_and, Bool.true_and]
      by_cases hk0 : k = 0
      · subst hk0; simp
      · have hkp : ((k : Nat) : Int) > 0 := by omega
        simp only [decide_eq_true hkp, hk0, decide_false, Bool.false_or, prev (show 1 ≤ k by omega) (by omega), ltRange (show k - 1 < a.length by omega), ltRange (show k - 1 < b.length by omega), zeroLe, Bool.and_self, cond_true, Int.toNat_natCast]
        cases fle .f32 (a.getD k 0) (a.getD (k - 1) 0) <;> cases flt .f32 (b.getD k 0) (b.getD (k - 1) 0) <;> rfl) (by simp only [sl05Lake_l5_t, Tr.sem, not_lt_self, cond_false])
    rw [all_and, all_and, all_range, show (List.range a.length).all (fun i => isMass (b.getD i 0)) = b.all isMass from by rw [← h1]; exact all_range b 0 isMass] at this
    refine Eq.trans this (congrArg some ?_)
    cases hA : a.all isMass with
    | false => rfl
    | true =>
      have : (List.range a.length).all (fun i => decide (i = 0) || (!(fle .f32 (a.getD i 0) (a.getD (i - 1) 0)) && !(flt .f32 (b.getD i 0) (b.getD (i - 1) 0)))) = (List.range a.length).all (fun i => decide (i = 0) || rise a b i) := by
        rw [Bool.eq_iff_iff, List.all_eq_true, List.all_eq_true]
        have key : ∀ i ∈ List.range a.length, (decide (i = 0) || (!(fle .f32 (a.getD i 0) (a.getD (i - 1) 0)) && !(flt .f32 (b.getD i 0) (b.getD (i - 1) 0)))) = (decide (i = 0) || rise a b i) := fun i hi => by
          rw [List.mem_range] at hi
          unfold rise
          rw [not_fle (num_mass (mass_at hA hi)) (num_mass (mass_at hA (by omega)))]
        exact ⟨fun h i hi => by rw [← key i hi]; exact h i hi, fun h i hi => by rw [key i hi]; exact h i hi⟩
      rw [this]
  simp only [Tr.sem, h0, h9, e1, h1, hw, hl, osome, oget, decide_true, decide_false, cond_true, cond_false, Bool.true_and, bne_self_eq_false]
  cases (a.all isMass && b.all isMass && (List.range a.length).all fun i => decide (i = 0) || rise a b i) <;> rfl
theorem lake_parts {a b : List Nat} (h : lakeB a b = true) : 2 ≤ a.length ∧ a.length ≤ 16 ∧ b.length = a.length ∧ a.all isMass = true ∧ b.all isMass = true := by
  simp only [lakeB, Bool.and_eq_true, decide_eq_true_eq] at h
  obtain ⟨⟨h1, h2⟩, ⟨h3, h4⟩, h5⟩ := h
  simp only [win, Bool.and_eq_true, decide_eq_true_eq] at h1
  exact ⟨by omega, by omega, h2, h3, h4⟩
/-! ### What flows out -/
/-- Where the first store stands that is not below. -/
theorem fst_at (p : Nat → Bool) : ∀ (xs : List Nat) (k : Nat), (∃ x ∈ xs, p x = true) → ∃ i, fstIdx p k xs = some i ∧ k ≤ i ∧ i < k + xs.length ∧ p (xs.getD (i - k) 0) = true ∧ ∀ j, k ≤ j → j < i → p (xs.getD (j - k) 0) = false
  | [], k, ⟨x, hx, _⟩ => by cases hx
  | x :: xs, k, ⟨y, hy, hp⟩ => by
    simp only [fstIdx]
    cases hx : p x with
    | true => exact ⟨k, rfl, Nat.le_refl _, by simp, by simpa using hx, fun j h1 h2 => by omega⟩
    | false =>
      have hy' : ∃ z ∈ xs, p z = true := by
        rcases List.mem_cons.1 hy with rfl | hy
        · rw [hx] at hp; cases hp
        · exact ⟨y, hy, hp⟩
      obtain ⟨i, h1, h2, h3, h4, h5⟩ := fst_at p xs (k + 1) hy'
      refine ⟨i, h1, by omega, by simp; omega, ?_, fun j h6 h7 => ?_⟩
      · rw [show i - k = (i - (k + 1)) + 1 from by omega, List.getD_cons_succ]; exact h4
      · rcases Nat.eq_or_lt_of_le h6 with rfl | h8
        · simpa using hx
        · rw [show j - k = (j - (k + 1)) + 1 from by omega, List.getD_cons_succ]; exact h5 j (by omega) h7
theorem R_out (a b : List Nat) (x : Nat) (hv : lakeB a b = true) (hx : isN .f32 x = false) : ∃ r, sl05Out a b x = some r ∧ iLake_out a b x = some r := by
  obtain ⟨hn1, hn2, hb, hA, hB⟩ := lake_parts hv
  have z1 : (decide ((0 : Int) ≤ 0) && decide ((0 : Int) < (a.length : Int))) = true := by simp; omega
  have z2 : (decide ((0 : Int) ≤ 0) && decide ((0 : Int) < (b.length : Int))) = true := by simp; omega
  have hl : IntKind.wrap .i64 ((a.length : Int) - 1) = ((a.length - 1 : Nat) : Int) := prev (by omega) (by omega)
  have z3 : (decide ((0 : Int) ≤ ((a.length - 1 : Nat) : Int)) && decide (((a.length - 1 : Nat) : Int) < (a.length : Int))) = true := inRange (by omega)
  have z4 : (decide ((0 : Int) ≤ ((a.length - 1 : Nat) : Int)) && decide (((a.length - 1 : Nat) : Int) < (b.length : Int))) = true := inRange (by omega)
  unfold sl05Out sl05Out_t iLake_out iLake_out_t
  simp only [Tr.sem, z1, z2, hl, z3, z4, cond_true]
  cases hlo : fle .f32 x (a.getD (Int.toNat 0) 0) with
  | true => exact ⟨_, rfl, rfl⟩
  | false =>
  cases hhi : fge .f32 x (a.getD (Int.toNat ((a.length - 1 : Nat) : Int)) 0) with
  | true => exact ⟨_, rfl, rfl⟩
  | false =>
  simp only [cond_false]
  rw [Int.toNat_natCast] at hhi
  have hlo' : fle .f32 x (a.getD 0 0) = false := hlo
  have n0 := num_mass (mass_at hA (show 0 < a.length by omega))
  have nl := num_mass (mass_at hA (show a.length - 1 < a.length by omega))
  -- the first store that is not below x
  obtain ⟨i, h1, h2, h3, h4, h5⟩ := fst_at (fun y => fge .f32 y x) a 0 ⟨a.getD (a.length - 1) 0, by
    simp only [List.getD, List.getElem?_eq_getElem (show a.length - 1 < a.length by omega), Option.getD_some]; exact List.getElem_mem _, by
    have := not_fge hx nl
    rw [hhi] at this
    rw [fge_swap]; exact flt_le this.symm⟩
  have hi1 : 1 ≤ i := by
    rcases Nat.eq_zero_or_pos i with rfl | h
    · have : fge .f32 (a.getD 0 0) x = true := h4
      rw [fge_swap, hlo'] at this; cases this
    · exact h
  rw [Nat.sub_zero] at h4
  have hi : i < a.length := by omega
  have hrun := run_idx (f := fun s => (lIndexFunc_iLake_out_1_l2_t a x a.length s).sem) a (fun y => fge .f32 y x) (by omega) (fun k hk y hy => by
    simp only [lIndexFunc_iLake_out_1_l2_t, Tr.sem, ltRange hk, zeroLe, Bool.and_self, Int.toNat_natCast, getD_at hy, cond_true, iLake_out_1, iLake_out_1_t, Tr.val]
    cases fge .f32 y x <;> rfl) (by simp only [lIndexFunc_iLake_out_1_l2_t, Tr.sem, not_lt_self, cond_false])
  have hix : lIndexFunc_iLake_out_1 a x = some (idxI (fstIdx (fun y => fge .f32 y x) 0 a)) := idx_tree hrun
  rw [h1] at hix
  have hix' : lIndexFunc_iLake_out_1 a x = some ((i : Nat) : Int) := hix
  have hl7 : sl05Out_l7 a b x 1 = some (a, b, x, ((i : Nat) : Int)) := by
    unfold sl05Out_l7
    have : ∀ (d k : Nat), k + d = i → 1 ≤ k → runL (fun s => (sl05Out_l7_t a b x s).sem) (k : Int) = some (a, b, x, ((i : Nat) : Int)) := by
      intro d
      induction d with
      | zero =>
        intro k hk hk1
        have : k = i := by omega
        subst this
        have hf : flt .f32 (a.getD k 0) x = false := by
          have := not_flt (num_mass (mass_at hA hi)) hx
          rw [h4] at this; simpa using this
        exact runL_out (by simp only [sl05Out_l7_t, Tr.sem, ltRange hi, zeroLe, Bool.and_self, Int.toNat_natCast, hf, cond_true, cond_false])
      | succ d ih =>
        intro k hk hk1
        have hf : flt .f32 (a.getD k 0) x = true := by
          have h6 := h5 k (by omega) (by omega)
          simp only [Nat.sub_zero] at h6
          have := not_flt (num_mass (mass_at hA (show k < a.length by omega))) hx
          rw [h6] at this; simpa using this
        refine (runL_in (s' := ((k + 1 : Nat) : Int)) (by
          simp only [sl05Out_l7_t, Tr.sem, ltRange (show k < a.length by omega), zeroLe, Bool.and_self, Int.toNat_natCast, hf, cond_true]
          rw [wrap_id (by omega) (by omega)]; rfl)).trans ?_
        exact ih (k + 1) (by omega) (by omega)
    exact this (i - 1) 1 (by omega) (by omega)
  simp only [hix', hl7, osome, oget, cond_true, prev hi1 (by omega), zeroLe, ltRange hi, ltRange (show i - 1 < a.length by omega), ltRange (show i < b.length by omega), ltRange (show i - 1 < b.length by omega), Bool.and_self]
  exact ⟨_, rfl, rfl⟩
theorem R_szL (a b : List Nat) (ha : a.length ≤ 9223372036854775807) (hb : b.length ≤ 9223372036854775807) (h : decide (wszLake a b 1048576 < 0) = false) : a.length ≤ 1048576 ∧ b.length ≤ 1048576 := by
  unfold wszLake wszLake_t at h
  simp only [Tr.val] at h
  rw [R_sz a _ (by omega) (by omega) ha] at h
  by_cases h1 : (1048576 : Int) - (a.length : Int) < 0
  · simp [h1] at h
  rw [if_neg h1] at h
  rw [R_sz b _ (by omega) (by omega) hb] at h
  by_cases h2 : (1048576 : Int) - (a.length : Int) - b.length < 0
  · simp [h1, h2] at h
  omega
theorem R_toL (a b : List Nat) (ha : a.length ≤ 1048576) (hb : b.length ≤ 1048576) : wtoLake a b = some (a, b) := by
  unfold wtoLake wtoLake_t
  simp only [R_to a ha, R_to b hb, Tr.sem, osome, oget, cond_true]
theorem R_eqL (a b : List Nat) (ha : a.length ≤ 1048576) (hb : b.length ≤ 1048576) : weqLake a b a b = some true := by
  unfold weqLake weqLake_t
  simp only [R_eq a ha, R_eq b hb, Tr.sem, osome, oget, cond_true, Bool.not_true, cond_false]
end Go.Proofs.Ytikmeahdcipanaa
