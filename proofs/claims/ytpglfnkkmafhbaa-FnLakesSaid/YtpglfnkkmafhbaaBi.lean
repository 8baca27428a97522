/- What flows out of a lake of halves. -/
import Derived.Test.YtpglfnkkmafhbaaBh
set_option linter.unusedVariables false
set_option linter.unusedSectionVars false
set_option linter.unusedSimpArgs false
set_option linter.constructorNameAsVariable false
namespace Go.Proofs.Ytpglfnkkmafhbaa
open Go.RowKit
set_option maxRecDepth 100000
theorem fst_at (p : Nat → Bool) : ∀ (xs : List Nat) (k : Nat), (∃ x ∈ xs, p x = true) → ∃ i, fstIdx p k xs = some i ∧ k ≤ i ∧ i < k + xs.length ∧ p (xs.getD (i - k) 0) = true ∧ ∀ j, k ≤ j → j < i → p (xs.getD (j - k) 0) = false
  | [], k, ⟨x, hx, _⟩ => by cases hx
  | x :: xs, k, ⟨y, hy, hp⟩ => by
    simp only [fstIdx]
    cases hx : p x with
    | true => exact ⟨k, rfl, Nat.le_refl _, by simp, by simpa using hx, fun j h1 h2 => by omega⟩
    | false =>
      have hy' : ∃ z ∈ xs, p z = true := by
        rcases List.mem_cons.1 hy with rfl | hy
        · rw [hx] at hp; cases hp
        · exact ⟨y, hy, hp⟩
      obtain ⟨i, h1, h2, h3, h4, h5⟩ := fst_at p xs (k + 1) hy'
      refine ⟨i, h1, by omega, by simp; omega, ?_, fun j h6 h7 => ?_⟩
      · rw [show i - k = (i - (k + 1)) + 1 from by omega, List.getD_cons_succ]; exact h4
      · rcases Nat.eq_or_lt_of_le h6 with rfl | h8
        · simpa using hx
        · rw [show j - k = (j - (k + 1)) + 1 from by omega, List.getD_cons_succ]; exact h5 j (by omega) h7
theorem getD_memN {l : List Nat} {j : Nat} (h : j < l.length) : l.getD j 0 ∈ l := by
  rw [List.getD_eq_getElem?_getD, List.getElem?_eq_getElem h]; exact List.getElem_mem h
theorem mono_P {n : Nat} {P : Nat → Nat} (h : ∀ i, i + 1 < n → P i < P (i + 1)) : ∀ d i, i + d < n → P i + d ≤ P (i + d)
  | 0, i, _ => Nat.le_refl _
  | d + 1, i, hi => by
    have h1 := mono_P h d i (by omega)
    have h2 := h (i + d) (by omega)
    rw [show i + (d + 1) = i + d + 1 from rfl]; omega
theorem mono_Q {n : Nat} {Q : Nat → Nat} (h : ∀ i, i + 1 < n → Q i ≤ Q (i + 1) ∧ Q (i + 1) ≤ Q i + 8) : ∀ d i, i + d < n → Q i ≤ Q (i + d)
  | 0, i, _ => Nat.le_refl _
  | d + 1, i, hi => by
    have h1 := mono_Q h d i (by omega)
    have h2 := h (i + d) (by omega)
    rw [show i + (d + 1) = i + d + 1 from rfl]; omega
abbrev xR (l : List Nat) (i : Nat) : Rat := rv .f32 (l.getD i 0)
/-- Where a store lies, and what flows out. -/
inductive OutH (xs ys : List Nat) (s w : Nat) : Prop
  | lo : rv .f32 s ≤ xR xs 0 → w = ys.getD 0 0 → OutH xs ys s w
  | hi : xR xs 0 < rv .f32 s → xR xs (xs.length - 1) ≤ rv .f32 s → w = ys.getD (xs.length - 1) 0 → OutH xs ys s w
  | mid (f : Nat) : f + 1 < xs.length → xR xs f < rv .f32 s → rv .f32 s ≤ xR xs (f + 1) → w = segW (xs.getD f 0) (xs.getD (f + 1) 0) (ys.getD f 0) (ys.getD (f + 1) 0) s → OutH xs ys s w
theorem out_ok {xs ys : List Nat} {P Q : Nat → Nat} (h : LakeH xs ys P Q) (h2 : 2 ≤ xs.length) (h5 : xs.length ≤ 5) {s : Nat} (fs : isFin .f32 s = true) : ∃ w, iLake_out xs ys s = some w ∧ OutH xs ys s w := by
  have hl := h.len
  have z1 : (decide ((0 : Int) ≤ 0) && decide ((0 : Int) < (xs.length : Int))) = true := by simp; omega
  have z2 : (decide ((0 : Int) ≤ 0) && decide ((0 : Int) < (ys.length : Int))) = true := by simp; omega
  have hw : IntKind.wrap .i64 ((xs.length : Int) - 1) = ((xs.length - 1 : Nat) : Int) := by rw [wrap_id (by omega) (by omega)]; omega
  have z3 : (decide ((0 : Int) ≤ ((xs.length - 1 : Nat) : Int)) && decide (((xs.length - 1 : Nat) : Int) < (xs.length : Int))) = true := inRange (by omega)
  have z4 : (decide ((0 : Int) ≤ ((xs.length - 1 : Nat) : Int)) && decide (((xs.length - 1 : Nat) : Int) < (ys.length : Int))) = true := inRange (by omega)
  have c0 := fle_rv .f32 fs (h.hx 0 (by omega)).1
  have c1 := fge_rv .f32 fs (h.hx (xs.length - 1) (by omega)).1
  unfold iLake_out iLake_out_t
  simp only [Tr.sem, z1, z2, hw, z3, z4, cond_true]
  cases hlo : fle .f32 s (xs.getD (Int.toNat 0) 0) with
  | true => exact ⟨_, rfl, .lo (c0.1 hlo) rfl⟩
  | false =>
  have n0 : ¬ rv .f32 s ≤ xR xs 0 := fun hh => by
    have : fle .f32 s (xs.getD (Int.toNat 0) 0) = true := c0.2 hh
    rw [this] at hlo; cases hlo
  cases hhi : fge .f32 s (xs.getD (Int.toNat ((xs.length - 1 : Nat) : Int)) 0) with
  | true =>
    rw [Int.toNat_natCast] at hhi
    exact ⟨_, rfl, .hi (by grind) (c1.1 hhi) (by rw [Int.toNat_natCast])⟩
  | false =>
  simp only [cond_false]
  rw [Int.toNat_natCast] at hhi
  have n1 : ¬ xR xs (xs.length - 1) ≤ rv .f32 s := fun hh => by
    have := c1.2 hh
    rw [this] at hhi; cases hhi
  obtain ⟨i, g1, g2, g3, g4, g5⟩ := fst_at (fun y => fge .f32 y s) xs 0 ⟨xs.getD (xs.length - 1) 0, getD_memN (by omega), (fge_rv .f32 (h.hx _ (by omega)).1 fs).2 (by grind)⟩
  rw [Nat.sub_zero] at g4
  have hi : i < xs.length := by omega
  have hi1 : 1 ≤ i := by
    rcases Nat.eq_zero_or_pos i with rfl | hh
    · exfalso
      exact n0 ((fge_rv .f32 (h.hx 0 (by omega)).1 fs).1 g4)
    · exact hh
  have hrun := run_idx (f := fun t => (lIndexFunc_iLake_out_1_l2_t xs s xs.length t).sem) xs (fun y => fge .f32 y s) (by omega) (fun k hk y hy => by
    simp only [lIndexFunc_iLake_out_1_l2_t, Tr.sem, ltRange hk, zeroLe, Bool.and_self, Int.toNat_natCast, getD_at hy, cond_true, iLake_out_1, iLake_out_1_t, Tr.val]
    cases fge .f32 y s <;> rfl) (by simp only [lIndexFunc_iLake_out_1_l2_t, Tr.sem, not_lt_self, cond_false])
  have hix : lIndexFunc_iLake_out_1 xs s = some (idxI (fstIdx (fun y => fge .f32 y s) 0 xs)) := idx_tree hrun
  rw [g1] at hix
  have hix' : lIndexFunc_iLake_out_1 xs s = some ((i : Nat) : Int) := hix
  obtain ⟨f, rfl⟩ : ∃ f, i = f + 1 := ⟨i - 1, by omega⟩
  have hp : IntKind.wrap .i64 (((f + 1 : Nat) : Int) - 1) = (f : Int) := by rw [wrap_id (by omega) (by omega)]; omega
  have hlt := g5 f (by omega) (by omega)
  rw [Nat.sub_zero] at hlt
  have nf : ¬ rv .f32 s ≤ xR xs f := fun hh => by
    have := (fge_rv .f32 (h.hx f (by omega)).1 fs).2 hh
    rw [this] at hlt; cases hlt
  simp only [hix', osome, oget, cond_true, hp, inRange hi, inRange (show f < xs.length by omega), inRange (show f < ys.length by omega), inRange (show f + 1 < ys.length by omega), Int.toNat_natCast]
  exact ⟨_, rfl, .mid f hi (by grind) ((fge_rv .f32 (h.hx (f + 1) (by omega)).1 fs).1 g4) rfl⟩
end Go.Proofs.Ytpglfnkkmafhbaa
