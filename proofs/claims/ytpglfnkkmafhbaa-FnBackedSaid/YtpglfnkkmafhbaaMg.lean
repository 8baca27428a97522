/- Rounding is monotone: what is not greater is not greater when it is rounded. -/
import Derived.Test.YtpglfnkkmafhbaaMf
set_option linter.unusedVariables false
set_option linter.unusedSimpArgs false
namespace Go.Proofs.Ytpglfnkkmafhbaa
open Go.RowKit
open Ieee
/-- To the nearest one, and to the even one of two that are as near. -/
theorem cut_half (s : Bool) (n drop : Nat) : (2 * Toward.even.cut s n drop * 2 ^ drop ≤ 2 * n + 2 ^ drop ∧ 2 * n ≤ (2 * Toward.even.cut s n drop + 1) * 2 ^ drop) ∧ (2 * Toward.even.cut s n drop * 2 ^ drop = 2 * n + 2 ^ drop ∨ 2 * n = (2 * Toward.even.cut s n drop + 1) * 2 ^ drop → Toward.even.cut s n drop % 2 = 0) := by
  unfold Toward.cut
  dsimp only
  generalize hg : 1 <<< min drop (n.log2 + 2) = gap
  have hgap : gap = 2 ^ min drop (n.log2 + 2) := by rw [← hg, Nat.one_shiftLeft]
  have gp : 0 < gap := by rw [hgap]; exact Nat.two_pow_pos _
  have dm := Nat.div_add_mod n gap
  have ml := Nat.mod_lt n gp
  rcases Nat.le_total drop (n.log2 + 2) with h | h
  · rw [Nat.min_eq_left h] at hgap
    rw [← hgap]
    generalize hm : (decide (gap < 2 * (n % gap)) || gap == 2 * (n % gap) && n / gap % 2 == 1) = more
    generalize n / gap = Q at *
    generalize n % gap = R at *
    cases more with
    | false =>
      have h1 : ¬ gap < 2 * R := fun hh => by rw [decide_eq_true hh] at hm; simp at hm
      have h2 : gap = 2 * R → Q % 2 = 0 := fun hh => by
        rcases Nat.mod_two_eq_zero_or_one Q with q | q
        · exact q
        · rw [q, beq_iff_eq.2 hh] at hm; simp at hm
      simp only [Bool.toNat_false, Nat.add_zero, Nat.add_mul, Nat.one_mul]
      have e : 2 * Q * gap = 2 * (gap * Q) := by rw [Nat.mul_assoc, Nat.mul_comm Q gap]
      rw [e]
      generalize gap * Q = G at *
      refine ⟨⟨by omega, by omega⟩, fun hh => h2 (by omega)⟩
    | true =>
      have h1 : gap < 2 * R ∨ (gap = 2 * R ∧ Q % 2 = 1) := by
        rw [Bool.or_eq_true, Bool.and_eq_true, decide_eq_true_eq, beq_iff_eq, beq_iff_eq] at hm
        exact hm
      simp only [Bool.toNat_true, Nat.mul_add, Nat.add_mul, Nat.one_mul, Nat.mul_one]
      have e : 2 * Q * gap = 2 * (gap * Q) := by rw [Nat.mul_assoc, Nat.mul_comm Q gap]
      rw [e]
      generalize gap * Q = G at *
      refine ⟨⟨by omega, by omega⟩, fun hh => by omega⟩
  · rw [Nat.min_eq_right h] at hgap
    have h3 : n < 2 ^ (n.log2 + 1) := Nat.lt_log2_self
    have h4 : gap = 2 * 2 ^ (n.log2 + 1) := by rw [hgap, Nat.pow_succ, Nat.mul_comm]
    have e0 : n / gap = 0 := Nat.div_eq_of_lt (by omega)
    have e1 : n % gap = n := Nat.mod_eq_of_lt (by omega)
    have hm : (decide (gap < 2 * (n % gap)) || gap == 2 * (n % gap) && n / gap % 2 == 1) = false := by
      rw [e0, e1, decide_eq_false (by omega)]; simp
    have h5 : gap ≤ 2 ^ drop := by rw [hgap]; exact Nat.pow_le_pow_right (by omega) h
    rw [hm, e0]
    simp only [Bool.toNat_false, Nat.add_zero, Nat.mul_zero, Nat.zero_mul, Nat.zero_add, Nat.one_mul]
    exact ⟨⟨by omega, by omega⟩, fun hh => trivial⟩
/-- The rung, its neighbours, and which one of two. -/
theorem near_h (f : Format) (hf : 1 ≤ f.fractionBits) (s : Bool) (m : Nat) (p b : Int) (hbp : b ≤ p) (hbl : b ≤ f.leastPlace) : ∃ g, f.nearest s m p = f.word s (min g f.infRung) ∧
    2 * (m * 2 ^ (p - b).toNat) ≤ (val f.binade g + val f.binade (g + 1)) * 2 ^ (f.leastPlace - b).toNat ∧
    (2 * (m * 2 ^ (p - b).toNat) = (val f.binade g + val f.binade (g + 1)) * 2 ^ (f.leastPlace - b).toNat → g % 2 = 0) ∧
    (1 ≤ g → (val f.binade (g - 1) + val f.binade g) * 2 ^ (f.leastPlace - b).toNat ≤ 2 * (m * 2 ^ (p - b).toNat) ∧
      ((val f.binade (g - 1) + val f.binade g) * 2 ^ (f.leastPlace - b).toNat = 2 * (m * 2 ^ (p - b).toNat) → g % 2 = 0)) := by
  have hB : 0 < f.binade := Nat.two_pow_pos _
  have hBe : f.binade % 2 = 0 := by
    have : f.binade = 2 ^ f.fractionBits := rfl
    rw [this, show f.fractionBits = f.fractionBits - 1 + 1 by omega, Nat.pow_succ]; omega
  unfold Format.nearest
  by_cases hm : m = 0
  · rw [if_pos hm]
    refine ⟨0, by rw [Nat.min_eq_left (Nat.zero_le _)], ?_, fun _ => rfl, fun h => by omega⟩
    rw [hm, Nat.zero_mul]; exact Nat.zero_le _
  rw [if_neg hm]
  generalize hl : max (p + m.log2 - f.fractionBits) f.leastPlace = last
  have hll : f.leastPlace ≤ last := by omega
  have hk2 := kept_le f s m p last (by omega)
  have hcut := cut_half s (m <<< (p - last).toNat) (last - p).toNat
  have hcn := cut_near s (m <<< (p - last).toNat) (last - p).toNat
  generalize hk : Toward.even.cut s (m <<< (p - last).toNat) (last - p).toNat = kept at hk2 hcut hcn
  rw [Nat.shiftLeft_eq] at hcut hcn
  generalize hU : (2 : Nat) ^ (f.leastPlace - b).toNat = U
  have hUp : 0 < U := by rw [← hU]; exact Nat.two_pow_pos _
  generalize hq : (last - f.leastPlace).toNat = q
  generalize hV : m * 2 ^ (p - b).toNat = V
  have hD : (2 : Nat) ^ q * U = 2 ^ (last - b).toNat := by rw [← hU, ← Nat.pow_add]; congr 1; omega
  have hX : ∃ X : Nat, (last - p).toNat + X = (last - b).toNat ∧ (p - last).toNat + X = (p - b).toNat := ⟨(p - b).toNat - (p - last).toNat, by omega, by omega⟩
  obtain ⟨X, hX1, hX2⟩ := hX
  have hVn : m * 2 ^ (p - last).toNat * 2 ^ X = V := by rw [← hV, Nat.mul_assoc, ← Nat.pow_add, hX2]
  have hDx : (2 : Nat) ^ (last - p).toNat * 2 ^ X = 2 ^ q * U := by rw [hD, ← Nat.pow_add, hX1]
  have hXp : 0 < 2 ^ X := Nat.two_pow_pos _
  -- the same in the great units
  have k1 : 2 * kept * (2 ^ q * U) ≤ 2 * V + 2 ^ q * U := by
    rw [← hDx, ← hVn, ← Nat.mul_assoc (2 * kept), ← Nat.mul_assoc 2 (m * _), ← Nat.add_mul]
    exact Nat.mul_le_mul_right _ hcut.1.1
  have k2 : 2 * V ≤ (2 * kept + 1) * (2 ^ q * U) := by
    rw [← hDx, ← hVn, ← Nat.mul_assoc (2 * kept + 1), ← Nat.mul_assoc 2 (m * _)]
    exact Nat.mul_le_mul_right _ hcut.1.2
  have k3 : 2 * kept * (2 ^ q * U) = 2 * V + 2 ^ q * U ∨ 2 * V = (2 * kept + 1) * (2 ^ q * U) → kept % 2 = 0 := fun hh => by
    refine hcut.2 ?_
    rcases hh with hh | hh
    · left
      rw [← hDx, ← hVn, ← Nat.mul_assoc (2 * kept), ← Nat.mul_assoc 2 (m * _), ← Nat.add_mul] at hh
      exact Nat.eq_of_mul_eq_mul_right hXp hh
    · right
      rw [← hDx, ← hVn, ← Nat.mul_assoc (2 * kept + 1), ← Nat.mul_assoc 2 (m * _)] at hh
      exact Nat.eq_of_mul_eq_mul_right hXp hh
  have k4 : V < (kept + 1) * (2 ^ q * U) := by
    rw [← hDx, ← hVn, ← Nat.mul_assoc]
    exact Nat.mul_lt_mul_of_pos_right hcn.2 hXp
  have hN : 0 < q → f.binade * (2 ^ q * U) ≤ V := by
    intro hq0
    have h1 : 2 ^ m.log2 ≤ m := Nat.log2_self_le hm
    rw [hD, ← hV]
    have h2 : f.binade * 2 ^ (last - b).toNat = 2 ^ m.log2 * 2 ^ (p - b).toNat := by
      have : f.binade = 2 ^ f.fractionBits := rfl
      rw [this, ← Nat.pow_add, ← Nat.pow_add]; congr 1; omega
    rw [h2]
    exact Nat.mul_le_mul_right _ h1
  have hu : 0 < 2 ^ q * U := Nat.mul_pos (Nat.two_pow_pos _) hUp
  have hkB : 0 < q → f.binade ≤ kept := by
    intro h
    have := Nat.lt_of_mul_lt_mul_right (Nat.lt_of_le_of_lt (hN h) k4)
    omega
  -- values of the rung and its neighbours
  have hv : val f.binade (q * f.binade + kept) = kept * 2 ^ q := by
    rcases Nat.eq_zero_or_pos q with h0 | h0
    · subst h0
      rw [Nat.zero_mul, Nat.zero_add, Nat.pow_zero, Nat.mul_one]
      rcases Nat.lt_or_ge kept (2 * f.binade) with h | h
      · exact val_low hB _ h
      · have e : kept = 1 * f.binade + f.binade := by omega
        rw [e, val_shift hB _ _ (Nat.le_refl _), val_low hB _ (by omega)]; omega
    · rw [val_shift hB _ _ (hkB h0)]
      rcases Nat.lt_or_ge kept (2 * f.binade) with h | h
      · rw [val_low hB _ h]
      · have e : kept = 1 * f.binade + f.binade := by omega
        rw [e, val_shift hB _ _ (Nat.le_refl _), val_low hB _ (by omega)]
        congr 1; omega
  have hup : (kept + 1) * 2 ^ q ≤ val f.binade (q * f.binade + kept + 1) := by
    rcases Nat.eq_zero_or_pos q with h0 | h0
    · subst h0
      rw [Nat.zero_mul, Nat.zero_add, Nat.pow_zero, Nat.mul_one]; exact val_self hB _
    · rw [show q * f.binade + kept + 1 = q * f.binade + (kept + 1) from rfl, val_shift hB _ _ (by have := hkB h0; omega)]
      exact Nat.mul_le_mul_right _ (val_self hB _)
  have ev : (q * f.binade + kept) % 2 = kept % 2 := by
    have : q * f.binade % 2 = 0 := by rw [Nat.mul_mod, hBe, Nat.mul_zero]
    omega
  have up2 : (2 * kept + 1) * (2 ^ q * U) ≤ (val f.binade (q * f.binade + kept) + val f.binade (q * f.binade + kept + 1)) * U := by
    rw [← Nat.mul_assoc]
    refine Nat.mul_le_mul_right _ ?_
    rw [hv]
    have : (2 * kept + 1) * 2 ^ q = kept * 2 ^ q + (kept + 1) * 2 ^ q := by rw [← Nat.add_mul]; congr 1; omega
    omega
  refine ⟨q * f.binade + kept, by dsimp only; rw [hk, hq], Nat.le_trans k2 up2, fun hh => ?_, fun hg => ?_⟩
  · rw [ev]; exact k3 (.inr (Nat.le_antisymm k2 (by omega)))
  · -- the rung below
    by_cases hc : 0 < q ∧ kept = f.binade
    · obtain ⟨c1, c2⟩ := hc
      have hlow : val f.binade (q * f.binade + kept - 1) < f.binade * 2 ^ q := by
        have := val_lt hB (show q * f.binade + kept - 1 < q * f.binade + kept by omega)
        rw [hv, c2] at this
        rwa [c2]
      have hs := hN c1
      have h8 : (val f.binade (q * f.binade + kept - 1) + val f.binade (q * f.binade + kept)) * U < 2 * V := by
        rw [hv, c2] at *
        have h9 : (val f.binade (q * f.binade + f.binade - 1) + f.binade * 2 ^ q) * U < (f.binade * 2 ^ q + f.binade * 2 ^ q) * U := Nat.mul_lt_mul_of_pos_right (by omega) hUp
        have h10 : (f.binade * 2 ^ q + f.binade * 2 ^ q) * U = 2 * (f.binade * (2 ^ q * U)) := by rw [Nat.add_mul, Nat.mul_assoc]; omega
        omega
      exact ⟨Nat.le_of_lt h8, fun hh => by omega⟩
    · have hk1 : 1 ≤ kept := by
        rcases Nat.eq_zero_or_pos q with h0 | h0
        · subst h0; omega
        · have := hkB h0; omega
      have hdn : val f.binade (q * f.binade + kept - 1) = (kept - 1) * 2 ^ q := by
        rcases Nat.eq_zero_or_pos q with h0 | h0
        · subst h0
          rw [Nat.zero_mul, Nat.zero_add, Nat.pow_zero, Nat.mul_one]
          exact val_low hB _ (by omega)
        · have h1 := hkB h0
          have h2 : kept ≠ f.binade := fun e => hc ⟨h0, e⟩
          rw [show q * f.binade + kept - 1 = q * f.binade + (kept - 1) by omega, val_shift hB _ _ (by omega), val_low hB _ (by omega)]
      have hs : (val f.binade (q * f.binade + kept - 1) + val f.binade (q * f.binade + kept)) * U + 2 ^ q * U = 2 * kept * (2 ^ q * U) := by
        have e : (kept - 1) * 2 ^ q + kept * 2 ^ q + 2 ^ q = 2 * kept * 2 ^ q := by
          obtain ⟨j, hj⟩ : ∃ j, kept = j + 1 := ⟨kept - 1, by omega⟩
          rw [hj, Nat.add_sub_cancel, Nat.add_mul j, show 2 * (j + 1) = j + j + 1 + 1 by omega, Nat.add_mul (j + j + 1), Nat.add_mul (j + j), Nat.add_mul j, Nat.one_mul]
          omega
        rw [hdn, hv, ← Nat.add_mul, e, Nat.mul_assoc]
      refine ⟨by omega, fun hh => ?_⟩
      rw [ev]
      exact k3 (.inl (by omega))
/-- **ROUNDING IS MONOTONE.** -/
theorem near_mono (f : Format) (hf : 1 ≤ f.fractionBits) (s t : Bool) (m n : Nat) (p r b : Int) (hbp : b ≤ p) (hbr : b ≤ r) (hbl : b ≤ f.leastPlace) (h : m * 2 ^ (p - b).toNat ≤ n * 2 ^ (r - b).toNat) : f.nearest s m p % f.signWeight ≤ f.nearest t n r % f.signWeight := by
  have hB : 0 < f.binade := Nat.two_pow_pos _
  obtain ⟨g, e1, a1, a2, a3⟩ := near_h f hf s m p b hbp hbl
  obtain ⟨u, e2, b1, b2, b3⟩ := near_h f hf t n r b hbr hbl
  have hi := f.infRung_lt
  rw [e1, e2, word_mod f s _ (by omega), word_mod f t _ (by omega)]
  have key : g ≤ u := by
    rcases Nat.lt_or_ge u g with hlt | hge
    · exfalso
      obtain ⟨c1, c2⟩ := a3 (by omega)
      have v1 : val f.binade u ≤ val f.binade (g - 1) := val_mono hB (by omega)
      have v2 : val f.binade (u + 1) ≤ val f.binade g := val_mono hB (by omega)
      have v3 : (val f.binade u + val f.binade (u + 1)) * 2 ^ (f.leastPlace - b).toNat ≤ (val f.binade (g - 1) + val f.binade g) * 2 ^ (f.leastPlace - b).toNat := Nat.mul_le_mul_right _ (by omega)
      have q1 := c2 (by omega)
      have q2 := b2 (by omega)
      have q3 : (val f.binade u + val f.binade (u + 1)) = (val f.binade (g - 1) + val f.binade g) := Nat.eq_of_mul_eq_mul_right (Nat.two_pow_pos (f.leastPlace - b).toNat) (by omega)
      have q4 : val f.binade u = val f.binade (g - 1) := by omega
      have := val_inj hB q4
      omega
    · exact hge
  omega
end Go.Proofs.Ytpglfnkkmafhbaa
