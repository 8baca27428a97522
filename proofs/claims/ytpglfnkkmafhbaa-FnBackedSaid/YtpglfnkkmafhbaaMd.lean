/- Rounding keeps the order. -/
import Derived.Test.YtpglfnkkmafhbaaMb
set_option linter.unusedVariables false
set_option linter.unusedSimpArgs false
namespace Go.Proofs.Ytpglfnkkmafhbaa
open Go.RowKit
open Ieee
theorem cut_near (s : Bool) (n drop : Nat) : Toward.even.cut s n drop * 2 ^ drop < n + 2 ^ drop ∧ n < (Toward.even.cut s n drop + 1) * 2 ^ drop := by
  unfold Toward.cut
  dsimp only
  generalize hg : 1 <<< min drop (n.log2 + 2) = gap
  have hgap : gap = 2 ^ min drop (n.log2 + 2) := by rw [← hg, Nat.one_shiftLeft]
  have gp : 0 < gap := by rw [hgap]; exact Nat.two_pow_pos _
  have dm := Nat.div_add_mod n gap
  have ml := Nat.mod_lt n gp
  rcases Nat.le_total drop (n.log2 + 2) with h | h
  · rw [Nat.min_eq_left h] at hgap
    rw [← hgap]
    have e : n / gap * gap = gap * (n / gap) := Nat.mul_comm ..
    generalize hm : (decide (gap < 2 * (n % gap)) || gap == 2 * (n % gap) && n / gap % 2 == 1) = more
    cases more with
    | false =>
      simp only [Bool.toNat_false, Nat.add_zero, Nat.add_mul, Nat.one_mul]
      omega
    | true =>
      have hr : 0 < n % gap := by
        rcases Nat.eq_zero_or_pos (n % gap) with h0 | h0
        · rw [h0] at hm
          simp at hm
          omega
        · exact h0
      simp only [Bool.toNat_true, Nat.add_mul, Nat.one_mul]
      omega
  · rw [Nat.min_eq_right h] at hgap
    have h3 : n < 2 ^ (n.log2 + 1) := Nat.lt_log2_self
    have h4 : gap = 2 * 2 ^ (n.log2 + 1) := by rw [hgap, Nat.pow_succ, Nat.mul_comm]
    have e0 : n / gap = 0 := Nat.div_eq_of_lt (by omega)
    have e1 : n % gap = n := Nat.mod_eq_of_lt (by omega)
    have hm : (decide (gap < 2 * (n % gap)) || gap == 2 * (n % gap) && n / gap % 2 == 1) = false := by
      rw [e0, e1, decide_eq_false (by omega)]; simp
    have h5 : gap ≤ 2 ^ drop := by rw [hgap]; exact Nat.pow_le_pow_right (by omega) h
    rw [hm, e0]
    simp only [Bool.toNat_false, Nat.add_zero, Nat.zero_mul, Nat.zero_add, Nat.one_mul]
    omega
theorem val_self {B : Nat} (hB : 0 < B) (r : Nat) : r ≤ val B r := by
  unfold val
  split
  · exact Nat.le_refl _
  · rename_i h
    have p1 : 1 ≤ r / B := (Nat.one_le_div_iff hB).2 (by omega)
    have d := Nat.div_add_mod r B
    have h2 : r / B ≤ 2 ^ (r / B - 1) := by
      obtain ⟨k, hk⟩ : ∃ k, r / B = k + 1 := ⟨r / B - 1, by omega⟩
      rw [hk]; simp only [Nat.add_sub_cancel]; exact Nat.lt_two_pow_self
    have h3 : B * (r / B) ≤ B * 2 ^ (r / B - 1) := Nat.mul_le_mul_left _ h2
    have h4 : r % B ≤ r % B * 2 ^ (r / B - 1) := Nat.le_mul_of_pos_right _ (Nat.two_pow_pos _)
    rw [Nat.add_mul]; omega
theorem val_shift {B : Nat} (hB : 0 < B) (q t : Nat) (h : B ≤ t) : val B (q * B + t) = val B t * 2 ^ q := by
  have p1 : 1 ≤ t / B := (Nat.one_le_div_iff hB).2 h
  unfold val
  rw [if_neg (by have := Nat.zero_le (q * B); omega), if_neg (by omega)]
  rw [show q * B + t = t + q * B from Nat.add_comm .., Nat.add_mul_mod_self_right, Nat.add_mul_div_right _ _ hB, Nat.mul_assoc, ← Nat.pow_add]
  congr 2; omega
theorem val_low {B : Nat} (hB : 0 < B) (t : Nat) (h : t < 2 * B) : val B t = t := by
  unfold val
  split
  · rfl
  · rename_i h0
    have e : t / B = 1 := Nat.div_eq_of_lt_le (by omega) (by omega)
    have d := Nat.div_add_mod t B
    rw [e] at d
    rw [e]; simp only [Nat.sub_self, Nat.pow_zero, Nat.mul_one]; omega
theorem val_lt {B r q : Nat} (hB : 0 < B) (h : r < q) : val B r < val B q := by
  have h1 := val_mono hB (Nat.le_of_lt h)
  have h2 : val B r ≠ val B q := fun e => by have := val_inj hB e; omega
  omega
/-- The rung next to a magnitude: none of the rungs is on the other side. -/
theorem near_g (f : Format) (s : Bool) (m : Nat) (p b : Int) (hbp : b ≤ p) (hbl : b ≤ f.leastPlace) : ∃ g, f.nearest s m p = f.word s (min g f.infRung) ∧
    (∀ r, val f.binade r * 2 ^ (f.leastPlace - b).toNat ≤ m * 2 ^ (p - b).toNat → r ≤ g) ∧ (∀ r, m * 2 ^ (p - b).toNat ≤ val f.binade r * 2 ^ (f.leastPlace - b).toNat → g ≤ r) := by
  have hB : 0 < f.binade := Nat.two_pow_pos _
  unfold Format.nearest
  by_cases hm : m = 0
  · rw [if_pos hm]
    refine ⟨0, by rw [Nat.min_eq_left (Nat.zero_le _)], fun r h => ?_, fun r h => Nat.zero_le _⟩
    rw [hm, Nat.zero_mul] at h
    have h1 := val_self hB r
    have h2 : 0 < 2 ^ (f.leastPlace - b).toNat := Nat.two_pow_pos _
    have h3 : val f.binade r ≤ val f.binade r * 2 ^ (f.leastPlace - b).toNat := Nat.le_mul_of_pos_right _ h2
    omega
  rw [if_neg hm]
  generalize hl : max (p + m.log2 - f.fractionBits) f.leastPlace = last
  have hll : f.leastPlace ≤ last := by omega
  have hk2 := kept_le f s m p last (by omega)
  have hcut := cut_near s (m <<< (p - last).toNat) (last - p).toNat
  generalize hk : Toward.even.cut s (m <<< (p - last).toNat) (last - p).toNat = kept at hk2 hcut
  rw [Nat.shiftLeft_eq] at hcut
  generalize hU : (2 : Nat) ^ (f.leastPlace - b).toNat = U
  have hUp : 0 < U := by rw [← hU]; exact Nat.two_pow_pos _
  generalize hq : (last - f.leastPlace).toNat = q
  generalize hV : m * 2 ^ (p - b).toNat = V
  have hD : (2 : Nat) ^ q * U = 2 ^ (last - b).toNat := by rw [← hU, ← Nat.pow_add]; congr 1; omega
  have hX : ∃ X : Nat, (last - p).toNat + X = (last - b).toNat ∧ (p - last).toNat + X = (p - b).toNat := ⟨(p - b).toNat - (p - last).toNat, by omega, by omega⟩
  obtain ⟨X, hX1, hX2⟩ := hX
  have hVn : m * 2 ^ (p - last).toNat * 2 ^ X = V := by rw [← hV, Nat.mul_assoc, ← Nat.pow_add, hX2]
  have hDx : (2 : Nat) ^ (last - p).toNat * 2 ^ X = 2 ^ q * U := by rw [hD, ← Nat.pow_add, hX1]
  have k1 : kept * (2 ^ q * U) < V + 2 ^ q * U := by
    rw [← hDx, ← hVn, ← Nat.add_mul, ← Nat.mul_assoc]
    exact Nat.mul_lt_mul_of_pos_right hcut.1 (Nat.two_pow_pos _)
  have k2 : V < (kept + 1) * (2 ^ q * U) := by
    rw [← hDx, ← hVn, ← Nat.mul_assoc]
    exact Nat.mul_lt_mul_of_pos_right hcut.2 (Nat.two_pow_pos _)
  have hN : 0 < q → f.binade * (2 ^ q * U) ≤ V := by
    intro hq0
    have h1 : 2 ^ m.log2 ≤ m := Nat.log2_self_le hm
    rw [hD, ← hV]
    have h2 : f.binade * 2 ^ (last - b).toNat = 2 ^ m.log2 * 2 ^ (p - b).toNat := by
      have : f.binade = 2 ^ f.fractionBits := rfl
      rw [this, ← Nat.pow_add, ← Nat.pow_add]; congr 1; omega
    rw [h2]
    exact Nat.mul_le_mul_right _ h1
  have hu : 0 < 2 ^ q * U := Nat.mul_pos (Nat.two_pow_pos _) hUp
  have hkB : 0 < q → f.binade ≤ kept := by
    intro h
    have h1 := Nat.lt_of_le_of_lt (hN h) k2
    have := Nat.lt_of_mul_lt_mul_right h1
    omega
  refine ⟨q * f.binade + kept, by dsimp only; rw [hk, hq], fun r h => ?_, fun r h => ?_⟩
  · rcases Nat.lt_or_ge (q * f.binade + kept) r with hr | hr
    · exfalso
      have h1 : val f.binade (q * f.binade + (kept + 1)) ≤ val f.binade r := val_mono hB (by omega)
      have h2 : (kept + 1) * 2 ^ q ≤ val f.binade (q * f.binade + (kept + 1)) := by
        rcases Nat.eq_zero_or_pos q with h0 | h0
        · rw [h0, Nat.zero_mul, Nat.zero_add, Nat.pow_zero, Nat.mul_one]; exact val_self hB _
        · rw [val_shift hB _ _ (by have := hkB h0; omega)]
          exact Nat.mul_le_mul_right _ (val_self hB _)
      have h3 : (kept + 1) * (2 ^ q * U) ≤ val f.binade r * U := by
        rw [← Nat.mul_assoc]; exact Nat.mul_le_mul_right _ (Nat.le_trans h2 h1)
      omega
    · exact hr
  · rcases Nat.lt_or_ge r (q * f.binade + kept) with hr | hr
    · exfalso
      have h1 : val f.binade r ≤ val f.binade (q * f.binade + kept - 1) := val_mono hB (by omega)
      have h5 : val f.binade r * U ≤ val f.binade (q * f.binade + kept - 1) * U := Nat.mul_le_mul_right _ h1
      have close : 1 ≤ kept → val f.binade (q * f.binade + kept - 1) = (kept - 1) * 2 ^ q → False := by
        intro hk0 e
        rw [e, Nat.mul_assoc] at h5
        have h6 : (kept - 1) * (2 ^ q * U) + 2 ^ q * U = kept * (2 ^ q * U) := by
          obtain ⟨j, hj⟩ : ∃ j, kept = j + 1 := ⟨kept - 1, by omega⟩
          rw [hj, Nat.add_sub_cancel, Nat.add_mul, Nat.one_mul]
        omega
      rcases Nat.eq_zero_or_pos q with h0 | h0
      · subst h0
        refine close (by omega) ?_
        rw [Nat.zero_mul, Nat.zero_add, Nat.pow_zero, Nat.mul_one]
        exact val_low hB _ (by omega)
      · have hkb := hkB h0
        rcases Nat.lt_or_ge f.binade kept with hlt | hge
        · refine close (by omega) ?_
          rw [show q * f.binade + kept - 1 = q * f.binade + (kept - 1) by omega, val_shift hB _ _ (by omega), val_low hB _ (by omega)]
        · have e : kept = f.binade := by omega
          have h6 : val f.binade (q * f.binade + kept - 1) < val f.binade (q * f.binade + kept) := val_lt hB (by omega)
          have h7 : val f.binade (q * f.binade + kept) = f.binade * 2 ^ q := by rw [val_shift hB _ _ hkb, e, val_low hB _ (by omega)]
          have h8 : val f.binade (q * f.binade + kept - 1) * U < f.binade * (2 ^ q * U) := by
            rw [← Nat.mul_assoc, ← h7]; exact Nat.mul_lt_mul_of_pos_right h6 hUp
          have := hN h0
          omega
    · exact hr
/-- .. of the word that is written. -/
theorem near_ge (f : Format) (s : Bool) (m : Nat) (p b : Int) (hbp : b ≤ p) (hbl : b ≤ f.leastPlace) (r : Nat) (hr : r ≤ f.infRung) (h : val f.binade r * 2 ^ (f.leastPlace - b).toNat ≤ m * 2 ^ (p - b).toNat) : r ≤ f.nearest s m p % f.signWeight := by
  obtain ⟨g, e, h1, h2⟩ := near_g f s m p b hbp hbl
  have hi := f.infRung_lt
  rw [e, word_mod f s _ (by omega)]
  have := h1 r h
  omega
theorem near_le (f : Format) (s : Bool) (m : Nat) (p b : Int) (hbp : b ≤ p) (hbl : b ≤ f.leastPlace) (r : Nat) (h : m * 2 ^ (p - b).toNat ≤ val f.binade r * 2 ^ (f.leastPlace - b).toNat) : f.nearest s m p % f.signWeight ≤ r := by
  obtain ⟨g, e, h1, h2⟩ := near_g f s m p b hbp hbl
  have hi := f.infRung_lt
  rw [e, word_mod f s _ (by omega)]
  have := h2 r h
  omega
end Go.Proofs.Ytpglfnkkmafhbaa
