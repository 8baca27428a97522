/- Lakes routed: the program's and the reference's are the same. -/
import Derived.Test.YtikmeahdcipanaaYd
set_option linter.unusedVariables false
set_option linter.unusedSimpArgs false
set_option linter.constructorNameAsVariable false
namespace Go.Proofs.Ytikmeahdcipanaa
open Go.RowKit
set_option maxRecDepth 100000
theorem R_finite (xs : List Nat) (hl : xs.length ≤ 9223372036854775807) : sl02Finite xs = some (xs.all (isFin .f32)) := by
  have h0 := run_all (f := fun s => (sl02Finite_l2_t xs s).sem) xs 0 (isFin .f32) (.inl ()) (.inr ()) hl (fun k hk x hx => by
    simp only [sl02Finite_l2_t, Tr.sem, ltRange hk, zeroLe, Bool.and_self, Int.toNat_natCast, getD_at hx, cond_true]
    cases isFin .f32 x <;> rfl) (by simp only [sl02Finite_l2_t, Tr.sem, not_lt_self, cond_false])
  have h1 : sl02Finite_l2 xs 0 = some (bif xs.all (isFin .f32) then .inr () else .inl ()) := h0
  unfold sl02Finite sl02Finite_t
  simp only [h1, Tr.sem, osome, oget, cond_true]
  cases xs.all (isFin .f32) <;> rfl
def insB (xs : List Nat) : Bool := win 1 128 xs.length && xs.all (isFin .f32)
theorem R_sIns (xs : List Nat) : sl05Ins xs = some (insB xs) := by
  unfold sl05Ins sl05Ins_t insB win
  by_cases h1 : (xs.length : Int) ≥ 1
  · by_cases h2 : (xs.length : Int) ≤ 128
    · have h1' : (1 : Int) ≤ xs.length := h1
      simp [Tr.sem, h1', h2, R_finite xs (by omega), osome, oget]
    · simp [Tr.sem, h2]
  · have h1' : ¬ (1 : Int) ≤ xs.length := h1
    simp [Tr.sem, h1']
theorem R_iIns (xs : List Nat) : iareIns xs = some (insB xs) := by
  unfold iareIns iareIns_t insB
  simp only [R_within, Tr.sem]
  cases h : win 1 128 (xs.length : Int) with
  | false => rfl
  | true =>
    have hl : xs.length ≤ 128 := by simp only [win, Bool.and_eq_true, decide_eq_true_eq] at h; omega
    simp only [P_areFinite xs (by omega), osome, oget, cond_true, Bool.true_and]
theorem fin_between {x a b : Nat} (h1 : fge .f32 x a = true) (h2 : fle .f32 x b = true) (fa : isFin .f32 a = true) (fb : isFin .f32 b = true) : isFin .f32 x = true := by
  unfold isFin at fa fb ⊢
  unfold fge Ieee.Format.order at h1
  unfold fle Ieee.Format.order at h2
  cases ha : FloatKind.f32.format.read a with
  | nan s t => rw [ha] at fa; cases fa
  | infinity s => rw [ha] at fa; cases fa
  | number s m e =>
  cases hb : FloatKind.f32.format.read b with
  | nan s t => rw [hb] at fb; cases fb
  | infinity s => rw [hb] at fb; cases fb
  | number s' m' e' =>
  cases hx : FloatKind.f32.format.read x with
  | nan s t => rw [hx] at h1; cases h1
  | number s m e => rfl
  | infinity s =>
    rw [hx, ha] at h1
    rw [hx, hb] at h2
    cases s with
    | true => cases h1
    | false => cases h2

theorem runL_steps {σ ρ : Type} {f : σ → Option (σ ⊕ ρ)} {r : ρ} : ∀ (n k : Nat) (s : Nat → σ), (∀ j, k ≤ j → j < k + n → f (s j) = some (.inl (s (j + 1)))) → f (s (k + n)) = some (.inr r) → runL f (s k) = some r
  | 0, k, s, h, he => runL_out he
  | n + 1, k, s, h, he => (runL_in (h k (Nat.le_refl _) (by omega))).trans (runL_steps n (k + 1) s (fun j h1 h2 => h j (by omega) (by omega)) (by rw [show k + 1 + n = k + (n + 1) by omega]; exact he))
theorem first_or (p : Nat → Bool) : ∀ n : Nat, (∃ i, i < n ∧ p i = true ∧ ∀ k, k < i → p k = false) ∨ ∀ k, k < n → p k = false
  | 0 => .inr (fun k hk => by omega)
  | n + 1 => by
    rcases first_or p n with ⟨i, h1, h2, h3⟩ | h
    · exact .inl ⟨i, by omega, h2, h3⟩
    · cases hp : p n with
      | true => exact .inl ⟨n, by omega, hp, h⟩
      | false => exact .inr (fun k hk => by
          by_cases e : k = n
          · subst e; exact hp
          · exact h k (by omega))
theorem R_iStep (a b : List Nat) (x i n t : Nat) (p : Nat × Nat) (o : Nat) (hb : b.length ≤ 9223372036854775807) (hh : holdsB a b x = true) (hi : isMass i = true) (hn : isMass n = true) (ht : isLen t = true) (h2 : iLake_out a b x = some o)
    (h3 : ihalve_iStepLake_1 (a.getD (Int.toNat 0) 0) (a.getD (a.length - 1) 0) (fmul .f32 1056964608 t) a b (fadd .f32 (fsub .f32 x (fmul .f32 (fmul .f32 1056964608 t) o)) (fmul .f32 (fmul .f32 1056964608 t) (fadd .f32 i n))) = some p) :
    iStepLake a b x i n t = some (ifinite32 p.1) := by
  obtain ⟨hv, hx⟩ := holds_num hh
  obtain ⟨z1, z2, z3⟩ := ends a b hv
  unfold iStepLake iStepLake_t
  simp only [R_isStore a b x hb, hh, P_areMasses [i, n] (by simp), List.all_cons, List.all_nil, Bool.and_true, hi, hn, ht, h2, h3, z1, z2, z3, Int.toNat_natCast, Tr.sem, osome, oget, cond_true, Bool.not_true, cond_false, Bool.and_self]
theorem R_iOut (a b : List Nat) (x o : Nat) (hb : b.length ≤ 9223372036854775807) (hv : lakeB a b = true) (hf : isFin .f32 x = true) (h2 : iLake_out a b x = some o) : iLakeOut a b x = some (ifinite32 o) := by
  unfold iLakeOut iLakeOut_t
  simp only [R_valid a b hb, hv, hf, h2, Tr.sem, osome, oget, cond_true, Bool.not_true, cond_false]
theorem fin32_t {x : Nat} (h : isFin .f32 x = true) : ifinite32 x = (x, true) := by
  unfold ifinite32 ifinite32_t
  simp only [h, Tr.val, Bool.not_true, cond_false]
theorem fin32_f {x : Nat} (h : isFin .f32 x = false) : ifinite32 x = (0, false) := by
  unfold ifinite32 ifinite32_t
  simp only [h, Tr.val, Bool.not_false, cond_true]
noncomputable def stS (a b ins : List Nat) (t x : Nat) : Nat → Nat
  | 0 => x
  | k + 1 => (sl05Store a b (stS a b ins t x k) (ins.getD k 0) (ins.getD (k + 1) 0) t).getD 0
noncomputable def stO (a b ins : List Nat) (t x k : Nat) : Nat := (sl05Out a b (stS a b ins t x k)).getD 0
theorem stS_num (a b ins : List Nat) (t x : Nat) (hv : lakeB a b = true) (hx : isN .f32 x = false) : ∀ k, isN .f32 (stS a b ins t x k) = false
  | 0 => hx
  | k + 1 => by
    obtain ⟨o, p, h1, _, _, _, h5, _⟩ := R_later a b (stS a b ins t x k) (ins.getD k 0) (ins.getD (k + 1) 0) t hv (stS_num a b ins t x hv hx k)
    unfold stS
    rw [h1]; exact h5
noncomputable def lstS (a b ins : List Nat) (t x k : Nat) : List Nat := (List.range k).map (stS a b ins t x)
noncomputable def lstO (a b ins : List Nat) (t x k : Nat) : List Nat := (List.range k).map (stO a b ins t x)
theorem lstS_succ (a b ins : List Nat) (t x k : Nat) : lstS a b ins t x (k + 1) = lstS a b ins t x k ++ [stS a b ins t x k] := by
  unfold lstS; rw [List.range_succ, List.map_append]; rfl
theorem lstO_succ (a b ins : List Nat) (t x k : Nat) : lstO a b ins t x (k + 1) = lstO a b ins t x k ++ [stO a b ins t x k] := by
  unfold lstO; rw [List.range_succ, List.map_append]; rfl
theorem lstS_len (a b ins : List Nat) (t x k : Nat) : (lstS a b ins t x k).length = k := by simp [lstS]
theorem lstO_len (a b ins : List Nat) (t x k : Nat) : (lstO a b ins t x k).length = k := by simp [lstO]
theorem up1 {k : Nat} (h : k ≤ 1048576) : IntKind.wrap .i64 ((k : Int) + 1) = ((k + 1 : Nat) : Int) := by rw [wrap_id (by omega) (by omega)]; omega
theorem fits {a : Nat} (h : a ≤ 1048576) (x : Nat) : decide ((a + List.length [x]) * 4 ≤ 140737488355328) = true := by
  simp only [List.length_cons, List.length_nil, decide_eq_true_eq]; omega
theorem R_sstep (a b ins : List Nat) (t x k : Nat) (hv : lakeB a b = true) (hx : isN .f32 x = false) (hl : ins.length ≤ 1048576) (hk : k < ins.length) (hm : isMass (ins.getD k 0) = true) :
    (sRouteLake_l6_t ins t ins.length a b (stS a b ins t x (k - 1)) (k : Int) (lstS a b ins t x k) (lstO a b ins t x k)).sem = some (.inl (stS a b ins t x (k + 1 - 1), ((k + 1 : Nat) : Int), lstS a b ins t x (k + 1), lstO a b ins t x (k + 1))) := by
  have f1 := fits (show (lstS a b ins t x k).length ≤ 1048576 by rw [lstS_len]; omega)
  have f2 := fits (show (lstO a b ins t x k).length ≤ 1048576 by rw [lstO_len]; omega)
  rw [lstS_succ, lstO_succ, Nat.add_sub_cancel]
  cases k with
  | zero =>
    obtain ⟨o, p, h1, h2, h3, h4, h5, h6⟩ := R_later a b x (ins.getD 0 0) (ins.getD 0 0) t hv hx
    have hO : stO a b ins t x 0 = o := by
      unfold stO
      rw [show stS a b ins t x 0 = x from rfl, h3]; rfl
    rw [hO]
    have h0 : decide ((((0 : Nat) : Int)) > 0) = false := rfl
    have e0 : stS a b ins t x (0 - 1) = x := rfl
    have e1 : stS a b ins t x 0 = x := rfl
    simp only [sRouteLake_l6_t, Tr.sem, ltRange hk, zeroLe, Bool.and_self, Int.toNat_natCast, cond_true, hm, Bool.not_true, cond_false, h0, e0, e1, h3, osome, oget, f1, f2, up1 (show 0 ≤ 1048576 by omega)]
  | succ k =>
    obtain ⟨o, p, h1, h2, h3, h4, h5, h6⟩ := R_later a b (stS a b ins t x k) (ins.getD k 0) (ins.getD (k + 1) 0) t hv (stS_num a b ins t x hv hx k)
    have hS : stS a b ins t x (k + 1) = p.1 := by
      show (sl05Store a b (stS a b ins t x k) (ins.getD k 0) (ins.getD (k + 1) 0) t).getD 0 = p.1
      rw [h1]; rfl
    obtain ⟨o', p', g1, g2, g3, g4, g5, g6⟩ := R_later a b p.1 (ins.getD k 0) (ins.getD (k + 1) 0) t hv h5
    have hO : stO a b ins t x (k + 1) = o' := by
      unfold stO
      rw [hS, g3]; rfl
    rw [hO, hS]
    have h0 : decide ((((k + 1 : Nat) : Int)) > 0) = true := by simp only [decide_eq_true_eq]; omega
    have hw : IntKind.wrap .i64 (((k + 1 : Nat) : Int) - 1) = (k : Int) := by rw [wrap_id (by omega) (by omega)]; omega
    have e0 : stS a b ins t x (k + 1 - 1) = stS a b ins t x k := rfl
    simp only [sRouteLake_l6_t, Tr.sem, ltRange hk, zeroLe, Bool.and_self, Int.toNat_natCast, cond_true, hm, Bool.not_true, cond_false, h0, hw, ltRange (show k < ins.length by omega), e0, h1, g3, osome, oget, f1, f2, up1 (show k + 1 ≤ 1048576 by omega)]
theorem R_sstop (a b ins : List Nat) (t y k : Nat) (u v : List Nat) (hk : k < ins.length) (hm : isMass (ins.getD k 0) = false) : (sRouteLake_l6_t ins t ins.length a b y (k : Int) u v).sem = some (.inr (.inl ())) := by
  simp only [sRouteLake_l6_t, Tr.sem, ltRange hk, zeroLe, Bool.and_self, Int.toNat_natCast, cond_true, hm, Bool.not_false]
/-- The program's rounds: as long as all is finite. -/
theorem R_istep (a b ins : List Nat) (t x k : Nat) (hv : lakeB a b = true) (hh : holdsB a b x = true) (hb : b.length ≤ 9223372036854775807) (ht : isLen t = true) (hl : ins.length ≤ 1048576) (hk : k < ins.length) (hm : ins.all isMass = true)
    (hF : ∀ j, j < k → isFin .f32 (stS a b ins t x j) = true) :
    (iRouteLake_l5_t ins t ins.length a b (stS a b ins t x (k - 1)) (k : Int) (lstS a b ins t x k) (lstO a b ins t x k)).sem =
      bif isFin .f32 (stS a b ins t x k) && isFin .f32 (stO a b ins t x k) then some (.inl (stS a b ins t x (k + 1 - 1), ((k + 1 : Nat) : Int), lstS a b ins t x (k + 1), lstO a b ins t x (k + 1))) else some (.inr (.inl ())) := by
  have f1 := fits (show (lstS a b ins t x k).length ≤ 1048576 by rw [lstS_len]; omega)
  have f2 := fits (show (lstO a b ins t x k).length ≤ 1048576 by rw [lstO_len]; omega)
  have hx := (holds_num hh).2
  rw [lstS_succ, lstO_succ, Nat.add_sub_cancel]
  cases k with
  | zero =>
    obtain ⟨o, p, h1, h2, h3, h4, h5, h6⟩ := R_later a b x (ins.getD 0 0) (ins.getD 0 0) t hv hx
    have hO : stO a b ins t x 0 = o := by
      unfold stO
      rw [show stS a b ins t x 0 = x from rfl, h3]; rfl
    have hfx : isFin .f32 x = true := by
      simp only [holdsB, Bool.and_eq_true] at hh
      have h1 := hh.2.2
      obtain ⟨hn1, hn2, hb, hA, hB⟩ := lake_parts hv
      have m1 := mass_at hA (show a.length - 1 < a.length by omega)
      have m0 := mass_at hA (show 0 < a.length by omega)
      exact fin_between hh.2.1 h1 (by rw [fin_iff]; exact decide_eq_true (fin_mass m0)) (by rw [fin_iff]; exact decide_eq_true (fin_mass m1))
    rw [hO]
    have h0 : decide ((((0 : Nat) : Int)) > 0) = false := rfl
    have e0 : stS a b ins t x (0 - 1) = x := rfl
    have e1 : stS a b ins t x 0 = x := rfl
    have hio := R_iOut a b x o hb hv hfx h2
    cases hfo : isFin .f32 o with
    | true =>
      rw [fin32_t hfo] at hio
      simp only [iRouteLake_l5_t, Tr.sem, ltRange hk, zeroLe, Bool.and_self, Int.toNat_natCast, cond_true, Bool.not_true, cond_false, h0, e0, e1, hio, osome, oget, f1, f2, hfx, hfo, up1 (show 0 ≤ 1048576 by omega)]
    | false =>
      rw [fin32_f hfo] at hio
      simp only [iRouteLake_l5_t, Tr.sem, ltRange hk, zeroLe, Bool.and_self, Int.toNat_natCast, cond_true, Bool.not_false, cond_false, h0, e0, e1, hio, osome, oget, f1, f2, hfx, hfo, Bool.and_false]
  | succ k =>
    have hn := stS_num a b ins t x hv hx k
    obtain ⟨o, p, h1, h2, h3, h4, h5, h6⟩ := R_later a b (stS a b ins t x k) (ins.getD k 0) (ins.getD (k + 1) 0) t hv hn
    have hS : stS a b ins t x (k + 1) = p.1 := by
      show (sl05Store a b (stS a b ins t x k) (ins.getD k 0) (ins.getD (k + 1) 0) t).getD 0 = p.1
      rw [h1]; rfl
    obtain ⟨o', p', g1, g2, g3, g4, g5, g6⟩ := R_later a b p.1 (ins.getD k 0) (ins.getD (k + 1) 0) t hv h5
    have hO : stO a b ins t x (k + 1) = o' := by
      unfold stO
      rw [hS, g3]; rfl
    have hhk : holdsB a b (stS a b ins t x k) = true := by
      cases k with
      | zero => exact hh
      | succ k =>
        obtain ⟨o2, p2, q1, q2, q3, q4, q5, q6⟩ := R_later a b (stS a b ins t x k) (ins.getD k 0) (ins.getD (k + 1) 0) t hv (stS_num a b ins t x hv hx k)
        have hS2 : stS a b ins t x (k + 1) = p2.1 := by
          show (sl05Store a b (stS a b ins t x k) (ins.getD k 0) (ins.getD (k + 1) 0) t).getD 0 = p2.1
          rw [q1]; rfl
        have := hF (k + 1) (by omega)
        rw [hS2] at this ⊢
        exact q6 this
    have hst := R_iStep a b (stS a b ins t x k) (ins.getD k 0) (ins.getD (k + 1) 0) t p o hb hhk (mass_at hm (by omega)) (mass_at hm (by omega)) ht h2 h4
    rw [hO, hS]
    have h0 : decide ((((k + 1 : Nat) : Int)) > 0) = true := by simp only [decide_eq_true_eq]; omega
    have hw : IntKind.wrap .i64 (((k + 1 : Nat) : Int) - 1) = (k : Int) := by rw [wrap_id (by omega) (by omega)]; omega
    have e0 : stS a b ins t x (k + 1 - 1) = stS a b ins t x k := rfl
    cases hfp : isFin .f32 p.1 with
    | false =>
      rw [fin32_f hfp] at hst
      simp only [iRouteLake_l5_t, Tr.sem, ltRange hk, zeroLe, Bool.and_self, Int.toNat_natCast, cond_true, Bool.not_false, cond_false, h0, hw, ltRange (show k < ins.length by omega), e0, hst, osome, oget, hfp, Bool.false_and]
    | true =>
      rw [fin32_t hfp] at hst
      have hio := R_iOut a b p.1 o' hb hv hfp g2
      cases hfo : isFin .f32 o' with
      | true =>
        rw [fin32_t hfo] at hio
        simp only [iRouteLake_l5_t, Tr.sem, ltRange hk, zeroLe, Bool.and_self, Int.toNat_natCast, cond_true, Bool.not_true, cond_false, h0, hw, ltRange (show k < ins.length by omega), e0, hst, hio, osome, oget, f1, f2, hfp, hfo, up1 (show k + 1 ≤ 1048576 by omega)]
      | false =>
        rw [fin32_f hfo] at hio
        simp only [iRouteLake_l5_t, Tr.sem, ltRange hk, zeroLe, Bool.and_self, Int.toNat_natCast, cond_true, Bool.not_true, Bool.not_false, cond_false, h0, hw, ltRange (show k < ins.length by omega), e0, hst, hio, osome, oget, hfp, hfo, Bool.and_false]
theorem all_map_range (n : Nat) (g : Nat → Nat) (p : Nat → Bool) : ((List.range n).map g).all p = (List.range n).all fun i => p (g i) := by
  rw [List.all_map]; rfl
theorem R_routeLake (a b : List Nat) (x : Nat) (ins : List Nat) (t : Nat) (hb : b.length ≤ 9223372036854775807) (hi : ins.length ≤ 9223372036854775807) : ∃ r : Unit ⊕ (List Nat × List Nat), sRouteLake a b x ins t = some r ∧ iRouteLake a b x ins t = some r ∧ ∀ u, r = .inr u → u.1.length ≤ 1048576 ∧ u.2.length ≤ 1048576 := by
  unfold sRouteLake sRouteLake_t iRouteLake iRouteLake_t
  simp only [R_holds, R_isStore a b x hb, R_sIns, R_iIns, P_areMasses ins hi, Tr.sem, osome, oget, cond_true]
  cases hh : holdsB a b x with
  | false => exact ⟨.inl (), rfl, rfl, (fun u h => by cases h)⟩
  | true =>
  obtain ⟨hv, hx⟩ := holds_num hh
  cases hw : insB ins with
  | false => exact ⟨.inl (), rfl, rfl, (fun u h => by cases h)⟩
  | true =>
  have hn : ins.length ≤ 128 := by
    simp only [insB, win, Bool.and_eq_true, decide_eq_true_eq] at hw; omega
  cases ht : isLen t with
  | false =>
    cases hm : ins.all isMass with
    | false => exact ⟨.inl (), rfl, rfl, (fun u h => by cases h)⟩
    | true => exact ⟨.inl (), rfl, rfl, (fun u h => by cases h)⟩
  | true =>
  rcases first_or (fun k => !isMass (ins.getD k 0)) ins.length with ⟨i, h1, h2, h3⟩ | h
  · have hm : ins.all isMass = false := by
      cases hm : ins.all isMass with
      | false => rfl
      | true =>
        have := mass_at hm h1
        rw [this] at h2; cases h2
    have a1 : sRouteLake_l6 x ins t ins.length 0 a b [] [] = some (.inl ()) :=
      runL_steps (f := fun s : Nat × Int × List Nat × List Nat => (sRouteLake_l6_t ins t ins.length a b s.1 s.2.1 s.2.2.1 s.2.2.2).sem) i 0 (fun k => (stS a b ins t x (k - 1), (k : Int), lstS a b ins t x k, lstO a b ins t x k)) (fun j _ hj => R_sstep a b ins t x j hv hx (by omega) (by omega) (by have := h3 j (by omega); simpa using this)) (by
        rw [Nat.zero_add]
        exact R_sstop a b ins t _ i _ _ h1 (by simpa using h2))
    simp only [hm, a1, osome, oget, isL, cond_true, Bool.not_false, Bool.not_true, cond_false]
    exact ⟨.inl (), rfl, rfl, (fun u h => by cases h)⟩
  · have hall : ∀ k, k < ins.length → isMass (ins.getD k 0) = true := fun k hk => by have := h k hk; simpa using this
    have hm : ins.all isMass = true := by
      have e := all_range ins 0 isMass
      rw [← e, List.all_eq_true]
      intro k hk
      exact hall k (List.mem_range.1 hk)
    have a1 : sRouteLake_l6 x ins t ins.length 0 a b [] [] = some (.inr (lstS a b ins t x ins.length, lstO a b ins t x ins.length)) :=
      runL_steps (f := fun s : Nat × Int × List Nat × List Nat => (sRouteLake_l6_t ins t ins.length a b s.1 s.2.1 s.2.2.1 s.2.2.2).sem) ins.length 0 (fun k => (stS a b ins t x (k - 1), (k : Int), lstS a b ins t x k, lstO a b ins t x k)) (fun j _ hj => R_sstep a b ins t x j hv hx (by omega) (by omega) (hall j (by omega))) (by
        rw [Nat.zero_add]
        simp only [sRouteLake_l6_t, Tr.sem, not_lt_self, cond_false])
    have hlS := lstS_len a b ins t x ins.length
    have hlO := lstO_len a b ins t x ins.length
    rcases first_or (fun k => !(isFin .f32 (stS a b ins t x k) && isFin .f32 (stO a b ins t x k))) ins.length with ⟨i, g1, g2, g3⟩ | g
    · have g3' : ∀ k, k < i → isFin .f32 (stS a b ins t x k) = true ∧ isFin .f32 (stO a b ins t x k) = true := fun k hk => by have := g3 k hk; simpa using this
      have g2' : (isFin .f32 (stS a b ins t x i) && isFin .f32 (stO a b ins t x i)) = false := by rw [Bool.not_eq_true'] at g2; exact g2
      have a2 : iRouteLake_l5 x ins t ins.length 0 a b [] [] = some (.inl ()) :=
        runL_steps (f := fun s : Nat × Int × List Nat × List Nat => (iRouteLake_l5_t ins t ins.length a b s.1 s.2.1 s.2.2.1 s.2.2.2).sem) i 0 (fun k => (stS a b ins t x (k - 1), (k : Int), lstS a b ins t x k, lstO a b ins t x k)) (fun j _ hj => by
          have := R_istep a b ins t x j hv hh hb ht (by omega) (by omega) hm (fun k hk => (g3' k (by omega)).1)
          rw [(g3' j (by omega)).1, (g3' j (by omega)).2] at this
          exact this) (by
          rw [Nat.zero_add]
          have := R_istep a b ins t x i hv hh hb ht (by omega) (by omega) hm (fun k hk => (g3' k (by omega)).1)
          rw [g2'] at this
          exact this)
      have hnot : ((lstS a b ins t x ins.length).all (isFin .f32) && (lstO a b ins t x ins.length).all (isFin .f32)) = false := by
        cases hq : ((lstS a b ins t x ins.length).all (isFin .f32) && (lstO a b ins t x ins.length).all (isFin .f32)) with
        | false => rfl
        | true =>
          rw [Bool.and_eq_true] at hq
          unfold lstS lstO at hq
          rw [all_map_range, all_map_range, List.all_eq_true, List.all_eq_true] at hq
          have q1 := hq.1 i (List.mem_range.2 g1)
          have q2 := hq.2 i (List.mem_range.2 g1)
          rw [q1, q2] at g2'; cases g2'
      simp only [hm, a1, a2, osome, oget, isL, unR, cond_true, Bool.not_false, Bool.not_true, cond_false, R_finite (lstS a b ins t x ins.length) (by omega), R_finite (lstO a b ins t x ins.length) (by omega)]
      refine ⟨.inl (), ?_, rfl, (fun u h => by cases h)⟩
      revert hnot
      cases (lstS a b ins t x ins.length).all (isFin .f32) <;> cases (lstO a b ins t x ins.length).all (isFin .f32) <;> intro hnot <;> first | rfl | cases hnot
    · have g3' : ∀ k, k < ins.length → isFin .f32 (stS a b ins t x k) = true ∧ isFin .f32 (stO a b ins t x k) = true := fun k hk => by have := g k hk; simpa using this
      have a2 : iRouteLake_l5 x ins t ins.length 0 a b [] [] = some (.inr (lstS a b ins t x ins.length, lstO a b ins t x ins.length)) :=
        runL_steps (f := fun s : Nat × Int × List Nat × List Nat => (iRouteLake_l5_t ins t ins.length a b s.1 s.2.1 s.2.2.1 s.2.2.2).sem) ins.length 0 (fun k => (stS a b ins t x (k - 1), (k : Int), lstS a b ins t x k, lstO a b ins t x k)) (fun j _ hj => by
          have := R_istep a b ins t x j hv hh hb ht (by omega) (by omega) hm (fun k hk => (g3' k (by omega)).1)
          rw [(g3' j (by omega)).1, (g3' j (by omega)).2] at this
          exact this) (by
          rw [Nat.zero_add]
          simp only [iRouteLake_l5_t, Tr.sem, not_lt_self, cond_false])
      have q1 : (lstS a b ins t x ins.length).all (isFin .f32) = true := by
        unfold lstS; rw [all_map_range, List.all_eq_true]; intro k hk; exact (g3' k (List.mem_range.1 hk)).1
      have q2 : (lstO a b ins t x ins.length).all (isFin .f32) = true := by
        unfold lstO; rw [all_map_range, List.all_eq_true]; intro k hk; exact (g3' k (List.mem_range.1 hk)).2
      simp only [hm, a1, a2, osome, oget, isL, unR, cond_true, Bool.not_false, Bool.not_true, cond_false, R_finite (lstS a b ins t x ins.length) (by omega), R_finite (lstO a b ins t x ins.length) (by omega), q1, q2]
      exact ⟨.inr (lstS a b ins t x ins.length, lstO a b ins t x ins.length), rfl, rfl, (fun u h => by cases h; simp only [hlS, hlO]; omega)⟩
/-! ### The law -/
theorem R_nilG (n : Int) : wmarkFloat32S_nil n = some n := by
  unfold wmarkFloat32S_nil wmarkFloat32S_nil_t
  have h : wmarkFloat32S_nil_l2 n 0 = some n := runL_out rfl
  simp only [h, Tr.sem, osome, oget, cond_true]
theorem pureFnExactRouteLake (a b : List Nat) (x : Nat) (ins : List Nat) (t : Nat) (ha : a.length ≤ 9223372036854775807) (hb : b.length ≤ 9223372036854775807) (hi : ins.length ≤ 9223372036854775807) : wFnExactRouteLake a b x ins t = some true := by
  unfold wFnExactRouteLake wFnExactRouteLake_t
  cases hz0 : decide (((ins.length : Nat) : Int) > 1048576) with
  | true => rfl
  | false =>
  have hl : ins.length ≤ 1048576 := by have := of_decide_eq_false hz0; omega
  refine (brF rfl).trans ?_
  cases hz : decide (wszLake a b 1048576 < 0) with
  | true => rfl
  | false =>
    obtain ⟨h1, h2⟩ := R_szL a b ha hb hz
    obtain ⟨r, s1, s2, hq⟩ := R_routeLake a b x ins t hb hi
    refine (brF rfl).trans ?_
    have hmk : wmarkLake 1 a b = some (1 + (a.length : Int) + b.length, seqF 1 a.length, seqF (1 + (a.length : Int)) b.length) := by
      unfold wmarkLake wmarkLake_t
      simp only [R_markG 1 a h1 (by omega) (by omega), R_markG (1 + (a.length : Int)) b h2 (by omega) (by omega), Tr.sem, osome, oget, cond_true]
    have hmk2 := R_markG (1 + (a.length : Int) + b.length) ins hl (by omega) (by omega)
    have hd0 : decide (1 + (a.length : Int) + b.length + ins.length < 0) = false := by simp only [decide_eq_false_iff_not]; omega
    simp only [R_toL a b h1 h2, R_eqL a b h1 h2, R_to ins hl, R_eq ins hl, hmk, hmk2, hd0, s1, s2, Tr.sem, osome, oget, cond_true, Bool.not_true, cond_false, R_eqnil, R_nilG, R_heldnil, beq_self_eq_true, bne_self_eq_false]
    cases r with
    | inl u => simp [isL]
    | inr u =>
      obtain ⟨p, q⟩ := u
      obtain ⟨g1, g2⟩ := hq _ rfl
      simp only at g1 g2
      have k1 := R_markG (1 + (p.length : Int)) q g2 (by omega) (by omega)
      have k2 := R_heldG (1 + (p.length : Int)) q.length g2 (by omega) (by omega)
      have hd : decide (1 + (p.length : Int) + q.length < 0) = false := by simp only [decide_eq_false_iff_not]; omega
      have hd1 : decide (1 + (p.length : Int) < 0) = false := by simp only [decide_eq_false_iff_not]; omega
      simp only [isL, unR, cond_false, R_eq p g1, R_eq q g2, R_mark p g1, R_held p.length g1, k1, k2, hd, hd1, Bool.not_true, cond_true, bne_self_eq_false]
end Go.Proofs.Ytikmeahdcipanaa
