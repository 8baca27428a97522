/- Lakes of halves: routing. -/
import Derived.Test.YtpglfnkkmafhbaaBp
set_option linter.unusedVariables false
set_option linter.unusedSectionVars false
set_option linter.unusedSimpArgs false
set_option linter.constructorNameAsVariable false
namespace Go.Proofs.Ytpglfnkkmafhbaa
open Go.RowKit
set_option maxRecDepth 100000
theorem eps64 : eps .f64 = 1 / 4000000000000000 := rfl
theorem runL_steps {σ ρ : Type} {f : σ → Option (σ ⊕ ρ)} {r : ρ} : ∀ (n k : Nat) (s : Nat → σ), (∀ j, k ≤ j → j < k + n → f (s j) = some (.inl (s (j + 1)))) → f (s (k + n)) = some (.inr r) → runL f (s k) = some r
  | 0, k, s, h, he => runL_out he
  | n + 1, k, s, h, he => (runL_in (h k (Nat.le_refl _) (by omega))).trans (runL_steps n (k + 1) s (fun j h1 h2 => h j (by omega) (by omega)) (by rw [show k + 1 + n = k + (n + 1) by omega]; exact he))
theorem up1 {k : Nat} (h : k ≤ 1048576) : IntKind.wrap .i64 ((k : Int) + 1) = ((k + 1 : Nat) : Int) := by rw [wrap_id (by omega) (by omega)]; omega
theorem fits {a : Nat} (h : a ≤ 1048576) (x : Nat) : decide ((a + List.length [x]) * 4 ≤ 140737488355328) = true := by
  simp only [List.length_cons, List.length_nil, decide_eq_true_eq]; omega
theorem P_areFinite (xs : List Nat) (hl : xs.length ≤ 9223372036854775807) : iareFinite xs = some (xs.all (isFin .f32)) := by
  have h0 := run_idx (f := fun s => (lIndexFunc_iareFinite_1_l2_t xs xs.length s).sem) xs (fun x => !(isFin .f32 x)) hl (fun k hk x hx => by
    simp only [lIndexFunc_iareFinite_1_l2_t, Tr.sem, ltRange hk, inRange hk, Int.toNat_natCast, getD_at hx, cond_true, iareFinite_1, iareFinite_1_t, Tr.val]
    cases isFin .f32 x <;> rfl) (by simp only [lIndexFunc_iareFinite_1_l2_t, Tr.sem, not_lt_self, cond_false])
  have h1 : lIndexFunc_iareFinite_1 xs = some (idxI (fstIdx (fun x => !(isFin .f32 x)) 0 xs)) := idx_tree h0
  have h2 : lContainsFunc_iareFinite_1 xs = some (xs.any fun x => !(isFin .f32 x)) := has_tree h1
  have h3 : iareFinite xs = _ := not_tree h2
  rw [h3, not_any]
def insB (xs : List Nat) : Bool := win 1 128 xs.length && xs.all (isFin .f32)
theorem R_iIns (xs : List Nat) : iareIns xs = some (insB xs) := by
  unfold iareIns iareIns_t insB
  simp only [R_within, Tr.sem]
  cases h : win 1 128 (xs.length : Int) with
  | false => rfl
  | true =>
    have hl : xs.length ≤ 128 := by simp only [win, Bool.and_eq_true, decide_eq_true_eq] at h; omega
    simp only [P_areFinite xs (by omega), osome, oget, cond_true, Bool.true_and]
theorem rain9 : ∀ b : Fin 9, isMass (fdiv .f32 (FloatKind.nearest .f32 (b.val : Int)) 1082130432) = true ∧ rv .f32 (fdiv .f32 (FloatKind.nearest .f32 (b.val : Int)) 1082130432) ≤ 2 := by decide +kernel
/-- Rain is drawn. -/
theorem rain_loop {c : List Int} (hc : bytesL c) : ∀ (m : Nat) (k : Nat) (s : Int) (l : List Nat), k + 2 * m ≤ 100 → l.length + m ≤ 8 → (∀ x ∈ l, isMass x = true ∧ rv .f32 x ≤ 2) → ∃ r, sB10Rain_l3 (m : Int) c (k : Int) s l = some r ∧ r.length = l.length + m ∧ ∀ x ∈ r, isMass x = true ∧ rv .f32 x ≤ 2
  | 0, k, s, l, hk, hl, hx => ⟨l, runL_out (by simp only [sB10Rain_l3_t, Tr.sem, decide_eq_false (show ¬ (((0 : Nat) : Int) > 0) by omega), cond_false]), rfl, hx⟩
  | m + 1, k, s, l, hk, hl, hx => by
    obtain ⟨b, k', s', e1, b0, b1, hk'⟩ := D_pick hc 9 (by omega) (by omega) k (by omega) s
    obtain ⟨f, hf⟩ : ∃ f : Fin 9, (f.val : Int) = b := ⟨⟨b.toNat, by omega⟩, by simp; omega⟩
    have hr := rain9 f
    rw [hf] at hr
    obtain ⟨r, r1, r2, r3⟩ := rain_loop hc m k' s' (l ++ [fdiv .f32 (FloatKind.nearest .f32 b) 1082130432]) (by omega) (by simp; omega) (fun x hx' => by
      rcases List.mem_append.1 hx' with h | h
      · exact hx x h
      · rw [List.mem_singleton.1 h]; exact hr)
    have hw : IntKind.wrap .i64 (((m + 1 : Nat) : Int) - 1) = (m : Int) := by rw [wrap_id (by omega) (by omega)]; omega
    refine ⟨r, (runL_in (s' := ((m : Int), c, (k' : Int), s', l ++ [fdiv .f32 (FloatKind.nearest .f32 b) 1082130432])) ?_).trans r1, by rw [r2]; simp; omega, r3⟩
    simp only [sB10Rain_l3_t, Tr.sem, decide_eq_true (show (((m + 1 : Nat) : Int) > 0) by omega), e1, osome, oget, cond_true, fits (show l.length ≤ 1048576 by omega), hw]
theorem rain {c : List Int} (hc : bytesL c) (n : Nat) (hn : n ≤ 8) : ∃ r, sB10Rain c (n : Int) = some r ∧ r.length = n ∧ ∀ x ∈ r, isMass x = true ∧ rv .f32 x ≤ 2 := by
  obtain ⟨r, r1, r2, r3⟩ := rain_loop hc n 0 0 [] (by omega) (by simp; omega) (fun x hx => by simp at hx)
  have r1' : sB10Rain_l3 (n : Int) c 0 0 [] = some r := r1
  refine ⟨r, ?_, by simpa using r2, r3⟩
  unfold sB10Rain sB10Rain_t
  simp only [D_from, r1', Tr.sem, osome, oget, cond_true]
theorem gap_rv {a b : Nat} (ha : isFin .f64 a = true) (hb : isFin .f64 b = true) (E : Rat) (l1 : -E ≤ rv .f64 a - rv .f64 b) (u1 : rv .f64 a - rv .f64 b ≤ E) (hE : E ≤ 2 ^ 100) :
    isFin .f64 (wb10Gap a b) = true ∧ ∀ e : Rat, rv .f64 a - rv .f64 b ≤ e → rv .f64 b - rv .f64 a ≤ e → rv .f64 (wb10Gap a b) ≤ e + (E * eps .f64 + 1 / 10 ^ 40) := by
  unfold wb10Gap wb10Gap_t
  cases h : flt .f64 a b with
  | true =>
    have s := sub_rv .f64 hb ha E (by grind) (by grind) hE
    have sh := s.hi
    simp only [Tr.val, h, cond_true]
    exact ⟨s.fin, fun e h1 h2 => by grind⟩
  | false =>
    have s := sub_rv .f64 ha hb E l1 u1 hE
    have sh := s.hi
    simp only [Tr.val, h, cond_false]
    exact ⟨s.fin, fun e h1 h2 => by grind⟩
theorem A_at {c : List Int} (hc : bytesL c) (k : Nat) (hk : k ≤ 1048576) (n : Int) (hn : 2 ≤ n) (hn2 : n ≤ 1000000) : ∃ v, wb10At c k n = some v ∧ 0 ≤ v ∧ v < n := by
  unfold wb10At wb10At_t
  have hne : decide (n ≠ (0 : Int)) = true := by simp only [decide_eq_true_eq]; omega
  simp only [decide_eq_false (show ¬ n ≤ 1 by omega), Tr.sem, cond_false, hne, cond_true]
  by_cases h1 : k < c.length
  · obtain ⟨b0, b1⟩ := byte_at hc h1
    have hb : IntKind.wrap .i64 (c.getD k 0) = c.getD k 0 := wrap_id (by omega) (by omega)
    simp only [ltRange h1, zeroLe, Bool.and_self, cond_true, Int.toNat_natCast, hb]
    exact ⟨_, rfl, Int.tmod_nonneg _ b0, Int.tmod_lt_of_pos _ (by omega)⟩
  · have hw1 : IntKind.wrap .i64 ((k : Int) * 37) = (k : Int) * 37 := wrap_id (by omega) (by omega)
    have hw2 : IntKind.wrap .i64 ((k : Int) * 37 + 11) = (k : Int) * 37 + 11 := wrap_id (by omega) (by omega)
    simp only [decide_eq_false (show ¬ ((k : Int) < (c.length : Int)) by omega), cond_false, hw1, hw2]
    exact ⟨_, rfl, Int.tmod_nonneg _ (by omega), Int.tmod_lt_of_pos _ (by omega)⟩
theorem same_nums (l : List Nat) (hl : l.length ≤ 1048576) : isameNumbers l l = some true := by
  have h1 : lEqualFunc_iSameNumber_l4 l l (l.length : Nat) 0 = some (.inr ()) := by
    unfold lEqualFunc_iSameNumber_l4
    exact runL_steps (f := fun s : Int => (lEqualFunc_iSameNumber_l4_t l l (l.length : Nat) s).sem) l.length 0 (fun k => (k : Int)) (fun j _ hj => by
      simp only [lEqualFunc_iSameNumber_l4_t, Tr.sem, ltRange (show j < l.length by omega), zeroLe, Bool.and_self, cond_true, Int.toNat_natCast, natEq_self, Bool.not_true, cond_false, up1 (show j ≤ 1048576 by omega)]) (by
      rw [Nat.zero_add]; simp only [lEqualFunc_iSameNumber_l4_t, Tr.sem, not_lt_self, cond_false])
  unfold isameNumbers isameNumbers_t lEqualFunc_iSameNumber lEqualFunc_iSameNumber_t
  simp only [h1, Tr.sem, osome, oget, isL, bne_self_eq_false, cond_true, cond_false]
theorem same_lake (xs ys : List Nat) (hx : xs.length ≤ 1048576) (hy : ys.length ≤ 1048576) : iSameLake xs ys xs ys = some true := by
  unfold iSameLake iSameLake_t
  simp only [same_nums xs hx, same_nums ys hy, Tr.sem, osome, oget, cond_true]
section
variable {xs ys : List Nat} {P Q : Nat → Nat} (h : LakeH xs ys P Q) (h2 : 2 ≤ xs.length) (h5 : xs.length ≤ 5)
include h h2 h5
theorem is_store {s : Nat} (fs : isFin .f32 s = true) (s0 : xR xs 0 ≤ rv .f32 s) (s1 : rv .f32 s ≤ xR xs (xs.length - 1)) : iLake_isStore xs ys s = some true := by
  have hl := h.len
  have z1 : (decide ((0 : Int) ≤ 0) && decide ((0 : Int) < (xs.length : Int))) = true := by simp; omega
  have hw : IntKind.wrap .i64 ((xs.length : Int) - 1) = ((xs.length - 1 : Nat) : Int) := by rw [wrap_id (by omega) (by omega)]; omega
  have z3 : (decide ((0 : Int) ≤ ((xs.length - 1 : Nat) : Int)) && decide (((xs.length - 1 : Nat) : Int) < (xs.length : Int))) = true := inRange (by omega)
  have t1 : fge .f32 s (xs.getD 0 0) = true := (fge_rv .f32 fs (h.hx 0 (by omega)).1).2 s0
  have t2 : fle .f32 s (xs.getD (xs.length - 1) 0) = true := (fle_rv .f32 fs (h.hx (xs.length - 1) (by omega)).1).2 s1
  unfold iLake_isStore iLake_isStore_t
  simp only [lake_valid h h2 h5, z1, hw, z3, show Int.toNat 0 = 0 from rfl, Int.toNat_natCast, t1, t2, Tr.sem, osome, oget, cond_true]
theorem route_ok {ins : List Nat} {st : Nat} (hi : ∀ x ∈ ins, isMass x = true ∧ rv .f32 x ≤ 2) (fs : isFin .f32 st = true) (s0 : xR xs 0 ≤ rv .f32 st) (s1 : rv .f32 st ≤ xR xs (xs.length - 1)) (hl : ins.length ≤ 8) (h1 : 1 ≤ ins.length) :
    iRouteLake xs ys st ins 1048576000 = some (.inr (sL xs ys ins st ins.length, oL xs ys ins st ins.length)) := by
  have ms : ∀ x ∈ ins, isMass x = true := fun x hx => (hi x hx).1
  have hI : insB ins = true := by
    unfold insB win
    have : ins.all (isFin .f32) = true := List.all_eq_true.2 fun x hx => (mass_iff.1 (ms x hx)).1
    rw [this]
    simp only [Bool.and_true, Bool.and_eq_true, decide_eq_true_eq]; omega
  have hM : ins.all isMass = true := List.all_eq_true.2 ms
  have hL : isLen 1048576000 = true := by decide +kernel
  obtain ⟨y, r, e⟩ := l5_ok h h2 h5 hi fs s0 s1 hl h1
  subst e
  unfold iRouteLake iRouteLake_t
  simp only [is_store h h2 h5 fs s0 s1, R_iIns, hI, P_areMasses ins (by omega), hM, hL, r, Tr.sem, osome, oget, isL, unR, Bool.not_true, cond_true, cond_false]
end
end Go.Proofs.Ytpglfnkkmafhbaa
