/- Still canals: the program's and the reference's are the same. -/
import Derived.Test.YtihoaflcjkppnaaWa
set_option linter.unusedVariables false
set_option linter.unusedSimpArgs false
set_option linter.constructorNameAsVariable false
namespace Go.Proofs.Ytihoaflcjkppnaa
open Go.RowKit
set_option maxRecDepth 100000
theorem R_finite (xs : List Nat) (hl : xs.length ≤ 9223372036854775807) : sl02Finite xs = some (xs.all (isFin .f32)) := by
  have h0 := run_all (f := fun s => (sl02Finite_l2_t xs s).sem) xs 0 (isFin .f32) (.inl ()) (.inr ()) hl (fun k hk x hx => by
    simp only [sl02Finite_l2_t, Tr.sem, ltRange hk, zeroLe, Bool.and_self, Int.toNat_natCast, getD_at hx, cond_true]
    cases isFin .f32 x <;> rfl) (by simp only [sl02Finite_l2_t, Tr.sem, not_lt_self, cond_false])
  have h1 : sl02Finite_l2 xs 0 = some (bif xs.all (isFin .f32) then .inr () else .inl ()) := h0
  unfold sl02Finite sl02Finite_t
  simp only [h1, Tr.sem, osome, oget, cond_true]
  cases xs.all (isFin .f32) <;> rfl
def canalB (s d g : Nat) (h f : List Nat) : Bool := isLen s && isLen d && isMass g && win 1 48 h.length && decide (f.length = h.length) && h.all (isFin .f32) && f.all (isFin .f32)
theorem lenEq (f h : List Nat) : (((f.length : Nat) : Int) == ((h.length : Nat) : Int)) = decide (f.length = h.length) := by
  rw [Bool.eq_iff_iff, beq_iff_eq, decide_eq_true_eq]; omega
theorem R_iCanal (s d g : Nat) (h f : List Nat) (hf : f.length ≤ 9223372036854775807) : iValidCanal s d g h f = some (canalB s d g h f) := by
  unfold iValidCanal iValidCanal_t canalB
  simp only [P_areLengths [s, d] (by simp), R_within, lenEq, List.all_cons, List.all_nil, Bool.and_true, Tr.sem, osome, oget, cond_true]
  cases isLen s <;> cases isLen d <;> cases isMass g <;> cases hw : win 1 48 (h.length : Int) <;> cases decide (f.length = h.length) <;> try rfl
  have hl : h.length ≤ 48 := by simp only [win, Bool.and_eq_true, decide_eq_true_eq] at hw; omega
  simp only [P_areFinite h (by omega), P_areFinite f hf, osome, oget, cond_true, Bool.and_self, Bool.true_and]
  cases h.all (isFin .f32) <;> rfl
theorem R_sCanal (s d g : Nat) (h f : List Nat) (hf : f.length ≤ 9223372036854775807) : sl05Canal s d g h f = some (canalB s d g h f) := by
  unfold sl05Canal sl05Canal_t canalB win
  simp only [lenEq, Tr.sem]
  cases isLen s <;> cases isLen d <;> cases isMass g <;> try rfl
  by_cases h1 : (h.length : Int) ≥ 1
  · have h1' : (1 : Int) ≤ h.length := h1
    by_cases h2 : (h.length : Int) ≤ 48
    · simp only [decide_eq_true h1, decide_eq_true h1', decide_eq_true h2, R_finite h (by omega), R_finite f hf, osome, oget, cond_true, Bool.and_self, Bool.true_and]
      cases decide (f.length = h.length) <;> cases h.all (isFin .f32) <;> rfl
    · simp [h2]
  · have h1' : ¬ (1 : Int) ≤ h.length := h1
    simp [h1']
theorem canal_parts {s d g : Nat} {h f : List Nat} (hc : canalB s d g h f = true) : 1 ≤ h.length ∧ h.length ≤ 48 ∧ f.length = h.length := by
  simp only [canalB, Bool.and_eq_true, decide_eq_true_eq] at hc
  obtain ⟨⟨⟨⟨_, hw⟩, hl⟩, _⟩, _⟩ := hc
  simp only [win, Bool.and_eq_true, decide_eq_true_eq] at hw
  omega
theorem R_eqC (s d g : Nat) (a b : List Nat) (ha : a.length ≤ 1048576) (hb : b.length ≤ 1048576) : weqCanal s d g a b s d g a b = some true := by
  unfold weqCanal weqCanal_t
  simp only [R_eq a ha, R_eq b hb, natEq_self, Tr.sem, osome, oget, cond_true, Bool.not_true, cond_false]
theorem Q_in (n lo hi : Int) : sl00In n lo hi = win lo hi n := by
  unfold sl00In sl00In_t win
  cases h : decide (n ≥ lo) <;> simp_all [Tr.val]
theorem R_nil (n : Int) : wmarkFloat32S_nil n = some n := by
  unfold wmarkFloat32S_nil wmarkFloat32S_nil_t
  have h : wmarkFloat32S_nil_l2 n 0 = some n := runL_out rfl
  simp only [h, Tr.sem, osome, oget, cond_true]
def zs (n : Int) : List Nat := List.replicate n.toNat 0
theorem R_still (n : Int) (s d g : Nat) : ∃ r : (Nat × Nat × Nat) ⊕ (Nat × Nat × Nat × List Nat × List Nat), sStillCanal n s d g = some r ∧ iStillCanal n s d g = some r ∧ (∀ u, r = .inl u → u = (0, 0, 0)) ∧ ∀ u, r = .inr u → u = (s, d, g, zs n, zs n) ∧ (zs n).length ≤ 48 := by
  unfold sStillCanal sStillCanal_t iStillCanal iStillCanal_t
  simp only [Q_in, R_within, Tr.sem]
  cases hw : win 1 48 n with
  | false => exact ⟨.inl (0, 0, 0), rfl, rfl, fun u h => by cases h; rfl, fun u h => by cases h⟩
  | true =>
    have hl : (zs n).length ≤ 48 := by simp only [win, Bool.and_eq_true, decide_eq_true_eq] at hw; simp [zs]; omega
    have hr : (decide True && decide (0 ≤ n) && decide (n * ((4 : Nat) : Int) ≤ 140737488355328)) = true := by
      simp only [win, Bool.and_eq_true, decide_eq_true_eq] at hw
      simp only [decide_true, Bool.true_and, Bool.and_eq_true, decide_eq_true_eq]; omega
    have ht : itoldCanal s d g (zs n) (zs n) = some (bif canalB s d g (zs n) (zs n) then .inr (s, d, g, zs n, zs n) else .inl (0, 0, 0, zs n, zs n)) := by
      unfold itoldCanal itoldCanal_t
      simp only [R_iCanal s d g (zs n) (zs n) (by omega), Tr.sem, osome, oget, cond_true]
      cases canalB s d g (zs n) (zs n) <;> rfl
    have hs := R_sCanal s d g (zs n) (zs n) (by omega)
    change itoldCanal s d g (List.replicate n.toNat 0) (List.replicate n.toNat 0) = _ at ht
    change sl05Canal s d g (List.replicate n.toNat 0) (List.replicate n.toNat 0) = _ at hs
    simp only [hr, ht, hs, Bool.not_true, cond_false, cond_true, osome, oget]
    cases canalB s d g (zs n) (zs n) with
    | false => exact ⟨.inl (0, 0, 0), rfl, rfl, fun u h => by cases h; rfl, fun u h => by cases h⟩
    | true => exact ⟨.inr (s, d, g, zs n, zs n), rfl, rfl, (fun u h => by cases h), fun u h => by cases h; exact ⟨rfl, hl⟩⟩
theorem R_markC (s d g : Nat) (h : List Nat) (hl : h.length ≤ 48) : wmarkCanal_n1 s d g 1 h h = some (1 + (h.length : Int) + h.length, seqF 1 h.length, seqF (1 + h.length) h.length) := by
  unfold wmarkCanal_n1 wmarkCanal_n1_t
  simp only [R_markG 1 h (by omega) (by omega) (by omega), R_markG (1 + (h.length : Int)) h (by omega) (by omega) (by omega), Tr.sem, osome, oget, cond_true]
theorem R_heldC (s d g : Nat) (n : Nat) (hl : n ≤ 48) : wheldCanal s d g (seqF 1 n) (seqF (1 + n) n) 1 = some (1 + (n : Int) + n) := by
  have e1 : decide (1 + (n : Int) < 0) = false := by simp only [decide_eq_false_iff_not]; omega
  have e2 : decide (1 + (n : Int) + n < 0) = false := by simp only [decide_eq_false_iff_not]; omega
  unfold wheldCanal wheldCanal_t
  simp only [R_heldG 1 n (by omega) (by omega) (by omega), R_heldG (1 + (n : Int)) n (by omega) (by omega) (by omega), Tr.sem, osome, oget, cond_true, e1, e2, cond_false]
theorem R_heldC0 : wheldCanal 0 0 0 [] [] 1 = some 1 := R_heldC 0 0 0 0 (by omega)
theorem R_markC0 : wmarkCanal 0 0 0 1 = some 1 := by
  unfold wmarkCanal wmarkCanal_t
  simp only [R_nil, Tr.sem, osome, oget, cond_true]
theorem pureFnExactStillCanal (n : Int) (s d g : Nat) : wFnExactStillCanal n s d g = some true := by
  unfold wFnExactStillCanal wFnExactStillCanal_t
  obtain ⟨r, s1, s2, h0, h1⟩ := R_still n s d g
  cases r with
  | inl u =>
    cases h0 u rfl
    simp only [s1, s2, Tr.sem, osome, oget, isL, unL, cond_true, cond_false, R_eqC 0 0 0 [] [] (by simp) (by simp), R_markC0, R_heldC0, Bool.not_true, beq_self_eq_true, bne_self_eq_false, show decide ((1 : Int) < 0) = false from rfl]
  | inr u =>
    obtain ⟨e, hl⟩ := h1 u rfl
    subst e
    generalize zs n = z at *
    have hd : decide (1 + (z.length : Int) + z.length < 0) = false := by simp only [decide_eq_false_iff_not]; omega
    simp only [s1, s2, Tr.sem, osome, oget, isL, unL, unR, cond_true, cond_false, R_eqC s d g z z (by omega) (by omega), R_markC s d g z hl, R_heldC s d g z.length hl, hd, Bool.not_true, beq_self_eq_true, bne_self_eq_false]
end Go.Proofs.Ytihoaflcjkppnaa
