/- The source of choices, told plainly: bytes, and numbers below a bound. -/
import Derived.Test.YtpglfnkkmafhbaaPa
import Derived.Test.YtpglfnkkmafhbaaHd1d
set_option linter.unusedVariables false
set_option linter.unusedSimpArgs false
set_option linter.constructorNameAsVariable false
namespace Go.Proofs.Ytpglfnkkmafhbaa
open Go.RowKit
set_option maxRecDepth 100000
/-- Bytes. -/
def bytesL (c : List Int) : Prop := c.length ≤ 1048576 ∧ ∀ x ∈ c, 0 ≤ x ∧ x ≤ 255
theorem byte_at {c : List Int} (h : bytesL c) {i : Nat} (hi : i < c.length) : 0 ≤ c.getD i 0 ∧ c.getD i 0 ≤ 255 := by
  rw [List.getD_eq_getElem?_getD, List.getElem?_eq_getElem hi]; exact h.2 _ (List.getElem_mem hi)
theorem bytes_of {c : List Int} (hl : c.length ≤ 1048576) (h : ∀ x : Int, List.Mem x c → (Lit.int .u8 x).wf = true) : bytesL c := ⟨hl, fun x hx => by
  have := h x hx
  simp only [Lit.wf, Bool.and_eq_true, decide_eq_true_eq] at this
  have e1 : IntKind.u8.min = 0 := rfl
  have e2 : IntKind.u8.max = 255 := rfl
  omega⟩
theorem iand_byte (a : Int) : 0 ≤ IntKind.wrap .i64 (iand .u64 a 255) ∧ IntKind.wrap .i64 (iand .u64 a 255) ≤ 255 := by
  unfold iand
  have h : (BitVec.ofInt IntKind.u64.bits a &&& BitVec.ofInt IntKind.u64.bits 255).toNat ≤ 255 := by
    rw [BitVec.toNat_and]
    exact Nat.le_trans Nat.and_le_right (by decide)
  generalize (BitVec.ofInt IntKind.u64.bits a &&& BitVec.ofInt IntKind.u64.bits 255).toNat = n at h
  rw [IntKind.wrap_u64, wrap_id (by omega) (by omega)]
  omega
theorem D_next {c : List Int} (hc : bytesL c) (k : Nat) (hk : k ≤ 2097152) (s : Int) : ∃ b s', sl00Src_next c k s = some (b, c, ((k + 1 : Nat) : Int), s') ∧ 0 ≤ b ∧ b ≤ 255 := by
  have hw : IntKind.wrap .i64 ((k : Int) + 1) = ((k + 1 : Nat) : Int) := by rw [wrap_id (by omega) (by omega)]; omega
  unfold sl00Src_next sl00Src_next_t
  simp only [hw, Tr.sem, show decide ((0 : Int) ≤ 40) = true from rfl, cond_true]
  by_cases h1 : k < c.length
  · obtain ⟨b0, b1⟩ := byte_at hc h1
    have hb : IntKind.wrap .i64 (c.getD k 0) = c.getD k 0 := wrap_id (by omega) (by omega)
    have h2 : decide (((k + 1 : Nat) : Int) ≤ (c.length : Int)) = true := by simp only [decide_eq_true_eq]; omega
    simp only [ltRange h1, zeroLe, Bool.and_self, cond_true, Int.toNat_natCast, h2]
    rw [hb]
    exact ⟨_, _, rfl, b0, b1⟩
  · have h0 : decide ((k : Int) < (c.length : Int)) = false := by simp only [decide_eq_false_iff_not]; omega
    have h2 : decide (((k + 1 : Nat) : Int) ≤ (c.length : Int)) = false := by simp only [decide_eq_false_iff_not]; omega
    simp only [h0, cond_false, h2]
    exact ⟨_, _, rfl, (iand_byte _).1, (iand_byte _).2⟩
/-- A number below n. -/
theorem D_pick {c : List Int} (hc : bytesL c) (n : Int) (hn : 1 ≤ n) (hn2 : n ≤ 1000000) (k : Nat) (hk : k ≤ 2097000) (s : Int) : ∃ (b : Int) (k' : Nat) (s' : Int), sl00Src_pick n c k s = some (b, c, (k' : Int), s') ∧ 0 ≤ b ∧ b < n ∧ k' ≤ k + 2 := by
  unfold sl00Src_pick sl00Src_pick_t
  by_cases h1 : n ≤ 1
  · simp only [decide_eq_true h1, Tr.sem, cond_true]
    exact ⟨0, k, s, rfl, by omega, by omega, by omega⟩
  · obtain ⟨b, s1, e1, b0, b1⟩ := D_next hc k (by omega) s
    have hne : decide (n ≠ (0 : Int)) = true := by simp only [decide_eq_true_eq]; omega
    simp only [decide_eq_false h1, Tr.sem, cond_false, e1, osome, oget, cond_true, hne]
    by_cases h2 : n > 200
    · obtain ⟨d, s2, e2, d0, d1⟩ := D_next hc (k + 1) (by omega) s1
      have hw : IntKind.wrap .i64 (b * 256) = b * 256 := wrap_id (by omega) (by omega)
      have hw2 : IntKind.wrap .i64 (b * 256 + d) = b * 256 + d := wrap_id (by omega) (by omega)
      simp only [decide_eq_true h2, e2, osome, oget, cond_true, hw, hw2]
      exact ⟨_, k + 2, s2, rfl, Int.tmod_nonneg _ (by omega), Int.tmod_lt_of_pos _ (by omega), by omega⟩
    · simp only [decide_eq_false h2, cond_false]
      exact ⟨_, k + 1, s1, rfl, Int.tmod_nonneg _ (by omega), Int.tmod_lt_of_pos _ (by omega), by omega⟩
theorem D_from (c : List Int) : sl00From c = (c, 0, 0) := rfl
end Go.Proofs.Ytpglfnkkmafhbaa
