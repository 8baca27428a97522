/- Lakes of halves: routing, step by step. -/
import Derived.Test.YtpglfnkkmafhbaaBo
set_option linter.unusedVariables false
set_option linter.unusedSectionVars false
set_option linter.unusedSimpArgs false
set_option linter.constructorNameAsVariable false
namespace Go.Proofs.Ytpglfnkkmafhbaa
open Go.RowKit
set_option maxRecDepth 100000
noncomputable def sT (xs ys ins : List Nat) (st : Nat) : Nat → Nat
  | 0 => st
  | k + 1 => (oget (iStepLake xs ys (sT xs ys ins st k) (ins.getD k 0) (ins.getD (k + 1) 0) 1048576000)).1
noncomputable def oT (xs ys ins : List Nat) (st k : Nat) : Nat := oget (iLake_out xs ys (sT xs ys ins st k))
noncomputable def sL (xs ys ins : List Nat) (st k : Nat) : List Nat := (List.range k).map (sT xs ys ins st)
noncomputable def oL (xs ys ins : List Nat) (st k : Nat) : List Nat := (List.range k).map (oT xs ys ins st)
theorem sL_len (xs ys ins : List Nat) (st k : Nat) : (sL xs ys ins st k).length = k := by simp [sL]
theorem oL_len (xs ys ins : List Nat) (st k : Nat) : (oL xs ys ins st k).length = k := by simp [oL]
theorem sL_succ (xs ys ins : List Nat) (st k : Nat) : sL xs ys ins st (k + 1) = sL xs ys ins st k ++ [sT xs ys ins st k] := by
  unfold sL; rw [List.range_succ, List.map_append]; rfl
theorem oL_succ (xs ys ins : List Nat) (st k : Nat) : oL xs ys ins st (k + 1) = oL xs ys ins st k ++ [oT xs ys ins st k] := by
  unfold oL; rw [List.range_succ, List.map_append]; rfl
theorem sL_get (xs ys ins : List Nat) (st n k : Nat) (h : k < n) : (sL xs ys ins st n).getD k 0 = sT xs ys ins st k := by
  unfold sL; rw [List.getD_eq_getElem?_getD, List.getElem?_map, List.getElem?_range h]; rfl
theorem oL_get (xs ys ins : List Nat) (st n k : Nat) (h : k < n) : (oL xs ys ins st n).getD k 0 = oT xs ys ins st k := by
  unfold oL; rw [List.getD_eq_getElem?_getD, List.getElem?_map, List.getElem?_range h]; rfl
section
variable {xs ys : List Nat} {P Q : Nat → Nat} (h : LakeH xs ys P Q) (h2 : 2 ≤ xs.length) (h5 : xs.length ≤ 5) {ins : List Nat} {st : Nat} (hi : ∀ x ∈ ins, isMass x = true ∧ rv .f32 x ≤ 2) (fs : isFin .f32 st = true) (s0 : xR xs 0 ≤ rv .f32 st) (s1 : rv .f32 st ≤ xR xs (xs.length - 1))
include h h2 h5 hi fs s0 s1
theorem sT_ok : ∀ k, k < ins.length → isFin .f32 (sT xs ys ins st k) = true ∧ xR xs 0 ≤ rv .f32 (sT xs ys ins st k) ∧ rv .f32 (sT xs ys ins st k) ≤ xR xs (xs.length - 1)
  | 0, _ => ⟨fs, s0, s1⟩
  | k + 1, hk => by
    obtain ⟨a, b, c⟩ := sT_ok k (by omega)
    obtain ⟨p1, p2⟩ := hi _ (getD_memN (show k < ins.length by omega))
    obtain ⟨q1, q2⟩ := hi _ (getD_memN hk)
    obtain ⟨lo, wl, w, r, r1, r2, r3, _⟩ := step_ok h h2 h5 a b c p1 q1 p2 q2
    have e : sT xs ys ins st (k + 1) = lo := by simp only [sT, r, oget]
    rw [e]; exact ⟨r1, r2, r3⟩
theorem sT_step (k : Nat) (hk : k + 1 < ins.length) : iStepLake xs ys (sT xs ys ins st k) (ins.getD k 0) (ins.getD (k + 1) 0) 1048576000 = some (sT xs ys ins st (k + 1), true) := by
  obtain ⟨a, b, c⟩ := sT_ok h h2 h5 hi fs s0 s1 k (by omega)
  obtain ⟨p1, p2⟩ := hi _ (getD_memN (show k < ins.length by omega))
  obtain ⟨q1, q2⟩ := hi _ (getD_memN hk)
  obtain ⟨lo, wl, w, r, r1, r2, r3, _⟩ := step_ok h h2 h5 a b c p1 q1 p2 q2
  have e : sT xs ys ins st (k + 1) = lo := by simp only [sT, r, oget]
  rw [e]; exact r
theorem oT_out (k : Nat) (hk : k < ins.length) : iLakeOut xs ys (sT xs ys ins st k) = some (oT xs ys ins st k, true) := by
  obtain ⟨a, b, c⟩ := sT_ok h h2 h5 hi fs s0 s1 k hk
  obtain ⟨w, o1, o2, _⟩ := lake_out_ok h h2 h5 a
  have e : oT xs ys ins st k = w := by simp only [oT, o2, oget]
  rw [e]; exact o1
theorem l26_ok (hl : ins.length ≤ 8) : wFnLakes_l26 st (ins.length : Nat) 0 xs ys ins (sL xs ys ins st ins.length) (oL xs ys ins st ins.length) = some (.inr ()) := by
  have sl := sL_len xs ys ins st ins.length
  have ol := oL_len xs ys ins st ins.length
  have key := runL_ex0 (f := fun s : Nat × Int => (wFnLakes_l26_t (ins.length : Nat) xs ys ins (sL xs ys ins st ins.length) (oL xs ys ins st ins.length) s.1 s.2).sem) ins.length (fun k s => s = (sT xs ys ins st (k - 1), (k : Int))) (fun r => r = .inr ()) (st, 0) rfl (fun k s hk hs => by
    subst hs
    have up : IntKind.wrap .i64 ((k : Int) + 1) = ((k + 1 : Nat) : Int) := by rw [wrap_id (by omega) (by omega)]; omega
    have oo := oT_out h h2 h5 hi fs s0 s1 k hk
    cases k with
    | zero =>
      have z : decide ((((0 : Nat)) : Int) > 0) = false := rfl
      have oo' : iLakeOut xs ys (sT xs ys ins st (0 - 1)) = _ := oo
      simp only [wFnLakes_l26_t, Tr.sem, ltRange hk, z, cond_true, cond_false, oo', osome, oget, Bool.not_true, zeroLe, ltRange (show 0 < (sL xs ys ins st ins.length).length by omega), ltRange (show 0 < (oL xs ys ins st ins.length).length by omega), Bool.and_self, Int.toNat_natCast, sL_get xs ys ins st _ 0 hk, oL_get xs ys ins st _ 0 hk, sSameNumber, sSameNumber_t, Tr.val, natEq_self, up]
      exact ⟨_, rfl, rfl⟩
    | succ k =>
      have z : decide ((((k + 1 : Nat)) : Int) > 0) = true := by simp only [decide_eq_true_eq]; omega
      have pr : IntKind.wrap .i64 (((k + 1 : Nat) : Int) - 1) = (k : Int) := by rw [wrap_id (by omega) (by omega)]; omega
      have ss := sT_step h h2 h5 hi fs s0 s1 k hk
      have ss' : iStepLake xs ys (sT xs ys ins st (k + 1 - 1)) (ins.getD k 0) (ins.getD (k + 1) 0) 1048576000 = _ := ss
      simp only [wFnLakes_l26_t, Tr.sem, ltRange hk, ltRange (show k < ins.length by omega), z, pr, cond_true, cond_false, ss', oo, osome, oget, Bool.not_true, zeroLe, ltRange (show k + 1 < (sL xs ys ins st ins.length).length by omega), ltRange (show k + 1 < (oL xs ys ins st ins.length).length by omega), Bool.and_self, Int.toNat_natCast, sL_get xs ys ins st _ (k + 1) hk, oL_get xs ys ins st _ (k + 1) hk, sSameNumber, sSameNumber_t, Tr.val, natEq_self, up]
      exact ⟨_, rfl, rfl⟩) (fun s hs => by
    subst hs
    exact ⟨_, by simp only [wFnLakes_l26_t, Tr.sem, not_lt_self, cond_false], rfl⟩)
  obtain ⟨r, r1, r2⟩ := key
  subst r2
  exact r1
theorem l5_ok (hl : ins.length ≤ 8) (h1 : 1 ≤ ins.length) : ∃ y, iRouteLake_l5 st ins 1048576000 (ins.length : Nat) 0 xs ys [] [] = some (.inr y) ∧ y = (sL xs ys ins st ins.length, oL xs ys ins st ins.length) := by
  have key := runL_ex0 (f := fun s : Nat × Int × List Nat × List Nat => (iRouteLake_l5_t ins 1048576000 (ins.length : Nat) xs ys s.1 s.2.1 s.2.2.1 s.2.2.2).sem) ins.length (fun k s => s = (sT xs ys ins st (k - 1), (k : Int), sL xs ys ins st k, oL xs ys ins st k)) (fun r => r = .inr (sL xs ys ins st ins.length, oL xs ys ins st ins.length)) (st, 0, [], []) rfl (fun k s hk hs => by
    subst hs
    have up : IntKind.wrap .i64 ((k : Int) + 1) = ((k + 1 : Nat) : Int) := by rw [wrap_id (by omega) (by omega)]; omega
    have oo := oT_out h h2 h5 hi fs s0 s1 k hk
    have f1 := fits4 (a := (sL xs ys ins st k).length) (by rw [sL_len]; omega)
    have f2 := fits4 (a := (oL xs ys ins st k).length) (by rw [oL_len]; omega)
    cases k with
    | zero =>
      have z : decide ((((0 : Nat)) : Int) > 0) = false := rfl
      have oo' : iLakeOut xs ys (sT xs ys ins st (0 - 1)) = _ := oo
      simp only [iRouteLake_l5_t, Tr.sem, ltRange hk, z, cond_true, cond_false, oo', osome, oget, Bool.not_true, f1, f2, up]
      exact ⟨_, rfl, by rw [sL_succ, oL_succ]⟩
    | succ k =>
      have z : decide ((((k + 1 : Nat)) : Int) > 0) = true := by simp only [decide_eq_true_eq]; omega
      have pr : IntKind.wrap .i64 (((k + 1 : Nat) : Int) - 1) = (k : Int) := by rw [wrap_id (by omega) (by omega)]; omega
      have ss := sT_step h h2 h5 hi fs s0 s1 k hk
      have ss' : iStepLake xs ys (sT xs ys ins st (k + 1 - 1)) (ins.getD k 0) (ins.getD (k + 1) 0) 1048576000 = _ := ss
      simp only [iRouteLake_l5_t, Tr.sem, ltRange hk, ltRange (show k < ins.length by omega), z, pr, cond_true, cond_false, ss', oo, osome, oget, Bool.not_true, zeroLe, Bool.and_self, Int.toNat_natCast, f1, f2, up]
      exact ⟨_, rfl, by rw [sL_succ xs ys ins st (k + 1), oL_succ xs ys ins st (k + 1), show k + 1 + 1 - 1 = k + 1 from rfl]⟩) (fun s hs => by
    subst hs
    exact ⟨_, by simp only [iRouteLake_l5_t, Tr.sem, not_lt_self, cond_false], rfl⟩)
  obtain ⟨r, r1, r2⟩ := key
  subst r2
  exact ⟨_, r1, rfl⟩
end
end Go.Proofs.Ytpglfnkkmafhbaa
