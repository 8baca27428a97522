/- Waves down a slope: runs of ticks. -/
import Derived.Test.YtpglfnkkmafhbaaBs
set_option linter.unusedVariables false
set_option linter.unusedSimpArgs false
set_option linter.constructorNameAsVariable false
namespace Go.Proofs.Ytpglfnkkmafhbaa
open Go.RowKit
set_option maxRecDepth 100000
theorem A_at {c : List Int} (hc : bytesL c) (k : Nat) (hk : k ≤ 1048576) (n : Int) (hn : 2 ≤ n) (hn2 : n ≤ 1000000) : ∃ v, wb10At c k n = some v ∧ 0 ≤ v ∧ v < n := by
  unfold wb10At wb10At_t
  have hne : decide (n ≠ (0 : Int)) = true := by simp only [decide_eq_true_eq]; omega
  simp only [decide_eq_false (show ¬ n ≤ 1 by omega), Tr.sem, cond_false, hne, cond_true]
  by_cases h1 : k < c.length
  · obtain ⟨b0, b1⟩ := byte_at hc h1
    have hb : IntKind.wrap .i64 (c.getD k 0) = c.getD k 0 := wrap_id (by omega) (by omega)
    simp only [ltRange h1, zeroLe, Bool.and_self, cond_true, Int.toNat_natCast, hb]
    exact ⟨_, rfl, Int.tmod_nonneg _ b0, Int.tmod_lt_of_pos _ (by omega)⟩
  · have hw1 : IntKind.wrap .i64 ((k : Int) * 37) = (k : Int) * 37 := wrap_id (by omega) (by omega)
    have hw2 : IntKind.wrap .i64 ((k : Int) * 37 + 11) = (k : Int) * 37 + 11 := wrap_id (by omega) (by omega)
    simp only [decide_eq_false (show ¬ ((k : Int) < (c.length : Int)) by omega), cond_false, hw1, hw2]
    exact ⟨_, rfl, Int.tmod_nonneg _ (by omega), Int.tmod_lt_of_pos _ (by omega)⟩
theorem gap_rv {a b : Nat} (ha : isFin .f64 a = true) (hb : isFin .f64 b = true) (E : Rat) (l1 : -E ≤ rv .f64 a - rv .f64 b) (u1 : rv .f64 a - rv .f64 b ≤ E) (hE : E ≤ 2 ^ 100) :
    isFin .f64 (wb10Gap a b) = true ∧ ∀ e : Rat, rv .f64 a - rv .f64 b ≤ e → rv .f64 b - rv .f64 a ≤ e → rv .f64 (wb10Gap a b) ≤ e + (E * eps .f64 + 1 / 10 ^ 40) := by
  unfold wb10Gap wb10Gap_t
  cases h : flt .f64 a b with
  | true =>
    have s := sub_rv .f64 hb ha E (by grind) (by grind) hE
    have sh := s.hi
    simp only [Tr.val, h, cond_true]
    exact ⟨s.fin, fun e h1 h2 => by grind⟩
  | false =>
    have s := sub_rv .f64 ha hb E l1 u1 hE
    have sh := s.hi
    simp only [Tr.val, h, cond_false]
    exact ⟨s.fin, fun e h1 h2 => by grind⟩
noncomputable def AW (xs ins : List Nat) : Nat → List Nat
  | 0 => xs
  | k + 1 => outW sH (ins.getD k 0) (fdiv .f32 sH dX) (AW xs ins k) (AW xs ins k).length
noncomputable def oW (xs ins : List Nat) (k : Nat) : Nat := flowW sH ((AW xs ins k).getD ((AW xs ins k).length - 1) 0)
noncomputable def OW (xs ins : List Nat) : Nat → List Nat
  | 0 => []
  | k + 1 => OW xs ins k ++ [oW xs ins k]
theorem OW_len (xs ins : List Nat) : ∀ k, (OW xs ins k).length = k
  | 0 => rfl
  | k + 1 => by simp [OW, OW_len xs ins k]
theorem OW_get (xs ins : List Nat) : ∀ n k, k < n → (OW xs ins n).getD k 0 = oW xs ins k
  | 0, k, h => by omega
  | n + 1, k, h => by
    simp only [OW]
    by_cases e : k = n
    · subst e
      rw [List.getD_eq_getElem?_getD, List.getElem?_append_right (by rw [OW_len]; exact Nat.le_refl _), OW_len, Nat.sub_self]; rfl
    · rw [List.getD_eq_getElem?_getD, List.getElem?_append_left (by rw [OW_len]; omega), ← List.getD_eq_getElem?_getD]
      exact OW_get xs ins n k (by omega)
theorem AW_len (xs ins : List Nat) : ∀ k, (AW xs ins k).length = xs.length
  | 0 => rfl
  | k + 1 => by simp only [AW]; rw [outW_len]; exact AW_len xs ins k
theorem waveB_of {xs : List Nat} (h1 : 1 ≤ xs.length) (h8 : xs.length ≤ 8) (hm : ∀ x ∈ xs, isMass x = true) : waveB xs sH dX sH = true := by
  unfold waveB
  rw [cst.2.2.2.2.2.1, cst.2.2.2.2.2.2]
  have : xs.all isMass = true := List.all_eq_true.2 hm
  rw [this]
  simp only [win, Bool.and_true, Bool.and_eq_true, decide_eq_true_eq]; omega
/-- Tick by tick. -/
theorem ticks {xs ins : List Nat} (h1 : 1 ≤ xs.length) (h8 : xs.length ≤ 8) (hm : ∀ x ∈ xs, isMass x = true) (hx : rs xs ≤ 16) (hi8 : ins.length ≤ 8) (hi : ∀ x ∈ ins, isMass x = true ∧ rv .f32 x ≤ 2) : ∀ k, k ≤ ins.length →
    (∀ x ∈ AW xs ins k, isMass x = true) ∧ (∀ x ∈ OW xs ins k, isMass x = true) ∧ rs (AW xs ins k) ≤ 20 ∧
    4 * rs xs + rs (ins.take k) / 2 - (k : Rat) * (3 / 10000) ≤ 4 * rs (AW xs ins k) + rs (OW xs ins k) / 2 ∧ 4 * rs (AW xs ins k) + rs (OW xs ins k) / 2 ≤ 4 * rs xs + rs (ins.take k) / 2 + (k : Rat) * (3 / 10000) ∧ rs (ins.take k) ≤ (k : Rat) * 2
  | 0, _ => by
    have e : ((0 : Nat) : Rat) = 0 := rfl
    simp only [AW, OW, List.take_zero, rs, e]
    exact ⟨hm, fun x hx => by simp at hx, by grind, by grind, by grind, by grind⟩
  | k + 1, hk => by
    obtain ⟨i1, i2, i3, i4, i5, i6⟩ := ticks h1 h8 hm hx hi8 hi k (by omega)
    obtain ⟨q1, q2⟩ := hi _ (getD_memN (show k < ins.length by omega))
    have q0 := (mass_iff.1 q1).2
    have hl := AW_len xs ins k
    obtain ⟨r1, ⟨r2, r3, r4⟩, r5, r6⟩ := row_new i1 i3 q1 (by grind) (AW xs ins k).length (Nat.le_refl _)
    rw [List.take_length] at r5 r6
    have hin : inW sH (ins.getD k 0) (AW xs ins k) (AW xs ins k).length = oW xs ins k := by
      obtain ⟨m, hm⟩ : ∃ m, (AW xs ins k).length = m + 1 := ⟨(AW xs ins k).length - 1, by omega⟩
      unfold oW
      rw [hm]; rfl
    rw [hin] at r2 r3 r4 r5 r6
    have hom := mass_iff.2 ⟨r2, r3⟩
    have hc : ((k + 1 : Nat) : Rat) = (k : Rat) + 1 := by rw [Rat.natCast_add]; rfl
    have hn : (((AW xs ins k).length : Nat) : Rat) ≤ 8 := by
      have : (AW xs ins k).length ≤ 8 := by omega
      have h : (((AW xs ins k).length : Nat) : Rat) ≤ ((8 : Nat) : Rat) := by exact_mod_cast this
      exact h
    have hk8 : (k : Rat) ≤ 8 := by
      have h : ((k : Nat) : Rat) ≤ ((8 : Nat) : Rat) := by exact_mod_cast (show k ≤ 8 by omega)
      exact h
    have hk0 : (0 : Rat) ≤ (k : Rat) := by exact_mod_cast Nat.zero_le k
    have hnn : 0 ≤ rs (OW xs ins k) := rs_nn i2
    rw [rs_take (by omega), hc]
    simp only [AW, OW, rs_append, rs]
    generalize hA : rs (AW xs ins k) = A at *
    generalize hN : rs (outW sH (ins.getD k 0) (fdiv .f32 sH dX) (AW xs ins k) (AW xs ins k).length) = N at *
    generalize rs (OW xs ins k) = O at *
    generalize rv .f32 (oW xs ins k) = o at *
    generalize rv .f32 (ins.getD k 0) = q at *
    generalize rs (ins.take k) = I at *
    generalize (((AW xs ins k).length : Nat) : Rat) = n at *
    generalize (k : Rat) = κ at *
    refine ⟨r1, fun x hx => ?_, by grind, by grind, by grind, by grind⟩
    rcases List.mem_append.1 hx with h | h
    · exact i2 x h
    · rw [List.mem_singleton.1 h]; exact hom
/-- A tick of the program and of the reference. -/
theorem tick {xs ins : List Nat} (h1 : 1 ≤ xs.length) (h8 : xs.length ≤ 8) (hm : ∀ x ∈ xs, isMass x = true) (hx : rs xs ≤ 16) (hi8 : ins.length ≤ 8) (hi : ∀ x ∈ ins, isMass x = true ∧ rv .f32 x ≤ 2) (k : Nat) (hk : k < ins.length) :
    sl05Wave (AW xs ins k) (ins.getD k 0) sH dX sH = some (.inr (oW xs ins k, AW xs ins (k + 1))) ∧ iStepWave (AW xs ins k) (ins.getD k 0) sH dX sH = some (.inr (oW xs ins k, AW xs ins (k + 1))) := by
  obtain ⟨i1, i2, i3, i4, i5, i6⟩ := ticks h1 h8 hm hx hi8 hi k (by omega)
  obtain ⟨j1, j2, _⟩ := ticks h1 h8 hm hx hi8 hi (k + 1) (by omega)
  have hl := AW_len xs ins k
  obtain ⟨q1, q2⟩ := hi _ (getD_memN hk)
  have hf : ∀ j, j < (AW xs ins k).length → fastW sH dX sH ((AW xs ins k).getD j 0) = false := fun j hj => by
    have hx := i1 _ (getD_memN hj)
    have hxl := rs_mem i1 _ (getD_memN hj)
    exact (cell_flow hx (by grind)).1
  have ho : isMass (oW xs ins k) = true := j2 _ (by simp [OW])
  obtain ⟨w1, w2, _⟩ := R_waveOk (AW xs ins k) (ins.getD k 0) sH dX sH (waveB_of (by omega) (by omega) i1) hf (List.all_eq_true.2 fun x hx => (mass_iff.1 (j1 x hx)).1) (mass_iff.1 ho).1 q1
  exact ⟨w1, w2⟩
end Go.Proofs.Ytpglfnkkmafhbaa
