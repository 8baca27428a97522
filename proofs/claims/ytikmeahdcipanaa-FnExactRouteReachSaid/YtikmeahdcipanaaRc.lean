/- Lakes a tick later; reaches; the energy of canals. -/
import Derived.Test.YtikmeahdcipanaaRb
set_option linter.unusedVariables false
set_option linter.unusedSimpArgs false
set_option linter.constructorNameAsVariable false
namespace Go.Proofs.Ytikmeahdcipanaa
open Go.RowKit
set_option maxRecDepth 100000
/-! ### Numbers not below zero -/
def ND : Ieee.Datum → Prop
  | .number s m _ => s = false ∨ m = 0
  | .infinity s => s = false
  | .nan _ _ => False
def nn (c : Nat) : Prop := ND (FloatKind.f32.format.read c)
theorem nn_num {c : Nat} (h : nn c) : isN .f32 c = false := by
  unfold nn at h
  unfold isN
  cases hr : FloatKind.f32.format.read c with
  | nan s t => rw [hr] at h; exact h.elim
  | number s m e => rfl
  | infinity s => rfl
theorem write_nzero (e : Int) : FloatKind.f32.format.write (.number true 0 e) = FloatKind.f32.format.word true 0 := by simp [Ieee.Format.write, Ieee.Format.nearest]
theorem read_nzero : FloatKind.f32.format.read (FloatKind.f32.format.word true 0) = .number true 0 (-149) := by decide +kernel
theorem w_num (d : Ieee.Datum) (hn : d.isNaN = false) : isN .f32 (FloatKind.f32.format.write d) = false := write_num FloatKind.f32.format d hn
theorem w_sgn (d : Ieee.Datum) (hn : d.isNaN = false) (hs : d.neg = false) : sgn .f32 (FloatKind.f32.format.write d) = false := (encode_sgn .f32 d hn).trans hs
theorem nd_of {c : Nat} (h1 : isN .f32 c = false) (h2 : sgn .f32 c = false) : ND (FloatKind.f32.format.read c) := by
  have h3 := read_neg .f32 c h1
  rw [h2] at h3
  unfold isN at h1
  generalize FloatKind.f32.format.read c = q at h1 h3
  cases q with
  | nan s t => cases h1
  | number s m e => exact .inl h3
  | infinity s => exact h3
theorem nd_pos (d : Ieee.Datum) (hn : d.isNaN = false) (hs : d.neg = false) : ND (FloatKind.f32.format.read (FloatKind.f32.format.write d)) := nd_of (w_num d hn) (w_sgn d hn hs)
theorem nd_write : ∀ (d : Ieee.Datum), ND d → ND (FloatKind.f32.format.read (FloatKind.f32.format.write d))
  | .nan s t, h => h.elim
  | .infinity s, h => nd_pos _ rfl h
  | .number false m e, h => nd_pos _ rfl rfl
  | .number true m e, h => by
    have hm : m = 0 := by simpa [ND] using h
    subst hm
    rw [write_nzero e, read_nzero]
    exact .inr rfl
theorem nd_sum : ∀ (x y : Ieee.Datum), ND x → ND y → ∃ z, x.sum y = some z ∧ ND z
  | .nan .., _, h, _ => h.elim
  | _, .nan .., _, h => h.elim
  | .infinity s, .infinity t, h1, h2 => ⟨.infinity s, by simp only [Ieee.Datum.sum]; rw [if_pos (h1.trans h2.symm)], h1⟩
  | .infinity s, .number t n j, h1, _ => ⟨.infinity s, rfl, h1⟩
  | .number s m i, .infinity t, _, h2 => ⟨.infinity t, rfl, h2⟩
  | .number s m i, .number t n j, ha, hb => ⟨_, rfl, by
      have p1 : 0 ≤ Ieee.signed s m (i - min i j).toNat := by
        rw [signed_mul]
        rcases ha with rfl | rfl
        · simp; exact Int.natCast_nonneg _
        · simp
      have p2 : 0 ≤ Ieee.signed t n (j - min i j).toNat := by
        rw [signed_mul]
        rcases hb with rfl | rfl
        · simp; exact Int.natCast_nonneg _
        · simp
      by_cases h0 : Ieee.signed s m (i - min i j).toNat + Ieee.signed t n (j - min i j).toNat = 0
      · right; simp [h0]
      · left
        rw [if_neg h0]
        simp; omega⟩
theorem nn_add {a b : Nat} (ha : nn a) (hb : nn b) : nn (fadd .f32 a b) := by
  obtain ⟨z, h1, h2⟩ := nd_sum _ _ ha hb
  unfold nn fadd Ieee.Format.add
  rw [h1, Option.map_some, Option.getD_some]
  exact nd_write z h2
theorem nd_half : ∀ (y : Ieee.Datum), ND y → ∃ z, (Ieee.Datum.number false 8388608 (-24)).product y = some z ∧ ND z
  | .nan .., h => h.elim
  | .infinity s, h => ⟨.infinity (s ^^ false), by simp [Ieee.Datum.product], by cases s <;> simp_all [ND]⟩
  | .number s m i, h => ⟨.number (false ^^ s) (8388608 * m) (-24 + i), rfl, by
      rcases h with rfl | rfl
      · exact .inl rfl
      · exact .inr rfl⟩
theorem read_hf : FloatKind.f32.format.read 1056964608 = .number false 8388608 (-24) := by decide +kernel
theorem nn_half {a : Nat} (ha : nn a) : nn (fmul .f32 1056964608 a) := by
  obtain ⟨z, h1, h2⟩ := nd_half _ ha
  unfold nn fmul Ieee.Format.mul
  rw [read_hf, h1, Option.map_some, Option.getD_some]
  exact nd_write z h2
theorem nn_mass {a : Nat} (h : isMass a = true) : nn a := by
  have hn := num_mass h
  unfold isMass at h
  rw [Bool.and_eq_true] at h
  have h2 := h.2
  unfold nn
  unfold fge Ieee.Format.order at h2
  rw [show FloatKind.f32.format.read 0 = .number false 0 (-149) from by decide +kernel] at h2
  unfold isN at hn
  cases h1 : FloatKind.f32.format.read a with
  | nan s t => rw [h1] at hn; cases hn
  | infinity s =>
    rw [h1] at h2
    cases s with
    | false => rfl
    | true => simp [Ieee.Datum.order] at h2
  | number s m i =>
    rw [h1] at h2
    cases s with
    | false => exact .inl rfl
    | true =>
      right
      simp only [Ieee.Datum.order, signed_mul, Nat.zero_mul] at h2
      rw [cmp_int] at h2
      simp only [if_true, Bool.false_eq_true, if_false] at h2
      rcases Nat.eq_zero_or_pos m with h | h
      · exact h
      · exfalso
        have : 0 < m * 2 ^ (i - min i (-149)).toNat := Nat.mul_pos h (Nat.two_pow_pos _)
        rw [if_pos (show -((m * 2 ^ (i - min i (-149)).toNat : Nat) : Int) < ((0 : Nat) : Int) from by omega)] at h2
        simp at h2
/-! ### A lake a tick later -/
def midL (lo hi : Nat) : Nat := fmul .f32 1056964608 (fadd .f32 lo hi)
theorem R_store (a b : List Nat) (h g : Nat) (hv : lakeB a b = true) : ∀ (j : Nat) (lo hi : Nat), j ≤ 40 → nn lo → nn hi →
    ∃ r : Nat × Nat, runL (fun s : Nat × Nat × Int => (sl05Store_l6_t a b h g s.1 s.2.1 s.2.2).sem) (lo, hi, ((40 - j : Nat) : Int)) = some r.1 ∧ runL (fun s : Nat × Nat × Int => (ihalve_iStepLake_1_l2_t h a b g s.1 s.2.1 s.2.2).sem) (lo, hi, ((40 - j : Nat) : Int)) = some r
  | 0, lo, hi, hj, h1, h2 => ⟨(lo, hi), runL_out rfl, runL_out rfl⟩
  | j + 1, lo, hi, hj, h1, h2 => by
    have hm : nn (fmul .f32 1056964608 (fadd .f32 lo hi)) := nn_half (nn_add h1 h2)
    obtain ⟨r, r1, r2⟩ := R_out a b (fmul .f32 1056964608 (fadd .f32 lo hi)) hv (nn_num hm)
    have hlt : decide (((40 - (j + 1) : Nat) : Int) < 40) = true := by simp; omega
    have hw : IntKind.wrap .i64 (((40 - (j + 1) : Nat) : Int) + 1) = ((40 - j : Nat) : Int) := by rw [wrap_id (by omega) (by omega)]; omega
    cases hc : fgt .f32 (fadd .f32 (fmul .f32 1056964608 (fadd .f32 lo hi)) (fmul .f32 h r)) g with
    | true =>
      obtain ⟨q, q1, q2⟩ := R_store a b h g hv j lo (fmul .f32 1056964608 (fadd .f32 lo hi)) (by omega) h1 hm
      exact ⟨q, (runL_in (s' := (lo, fmul .f32 1056964608 (fadd .f32 lo hi), ((40 - j : Nat) : Int))) (by simp only [sl05Store_l6_t, Tr.sem, hlt, r1, osome, oget, cond_true, hc, hw])).trans q1,
        (runL_in (s' := (lo, fmul .f32 1056964608 (fadd .f32 lo hi), ((40 - j : Nat) : Int))) (by simp only [ihalve_iStepLake_1_l2_t, iStepLake_1, iStepLake_1_t, Tr.sem, hlt, r2, osome, oget, cond_true, hc, hw])).trans q2⟩
    | false =>
      obtain ⟨q, q1, q2⟩ := R_store a b h g hv j (fmul .f32 1056964608 (fadd .f32 lo hi)) hi (by omega) hm h2
      exact ⟨q, (runL_in (s' := (fmul .f32 1056964608 (fadd .f32 lo hi), hi, ((40 - j : Nat) : Int))) (by simp only [sl05Store_l6_t, Tr.sem, hlt, r1, osome, oget, cond_true, cond_false, hc, hw])).trans q1,
        (runL_in (s' := (fmul .f32 1056964608 (fadd .f32 lo hi), hi, ((40 - j : Nat) : Int))) (by simp only [ihalve_iStepLake_1_l2_t, iStepLake_1, iStepLake_1_t, Tr.sem, hlt, r2, osome, oget, cond_true, cond_false, hc, hw])).trans q2⟩
def holdsB (a b : List Nat) (x : Nat) : Bool := lakeB a b && (fge .f32 x (a.getD 0 0) && fle .f32 x (a.getD (a.length - 1) 0))
theorem ends (a b : List Nat) (hv : lakeB a b = true) : (decide ((0 : Int) ≤ 0) && decide ((0 : Int) < (a.length : Int))) = true ∧ IntKind.wrap .i64 ((a.length : Int) - 1) = ((a.length - 1 : Nat) : Int) ∧ (decide ((0 : Int) ≤ ((a.length - 1 : Nat) : Int)) && decide (((a.length - 1 : Nat) : Int) < (a.length : Int))) = true := by
  obtain ⟨hn1, hn2, hb, hA, hB⟩ := lake_parts hv
  exact ⟨by simp; omega, prev (by omega) (by omega), inRange (by omega)⟩
theorem R_holds (a b : List Nat) (x : Nat) : sl05Holds a b x = some (holdsB a b x) := by
  unfold sl05Holds sl05Holds_t holdsB
  simp only [R_lake, Tr.sem, osome, oget, cond_true]
  cases hv : lakeB a b with
  | false => rfl
  | true =>
    obtain ⟨z1, z2, z3⟩ := ends a b hv
    simp only [z1, z2, z3, cond_true, Int.toNat_natCast, Bool.true_and, show Int.toNat 0 = 0 from rfl]
    cases fge .f32 x (a.getD 0 0) <;> rfl
theorem R_isStore (a b : List Nat) (x : Nat) (hb : b.length ≤ 9223372036854775807) : iLake_isStore a b x = some (holdsB a b x) := by
  unfold iLake_isStore iLake_isStore_t holdsB
  simp only [R_valid a b hb, Tr.sem, osome, oget, cond_true]
  cases hv : lakeB a b with
  | false => rfl
  | true =>
    obtain ⟨z1, z2, z3⟩ := ends a b hv
    simp only [z1, z2, z3, cond_true, Int.toNat_natCast, Bool.true_and, show Int.toNat 0 = 0 from rfl]
    cases fge .f32 x (a.getD 0 0) <;> rfl
theorem holds_num {a b : List Nat} {x : Nat} (h : holdsB a b x = true) : lakeB a b = true ∧ isN .f32 x = false := by
  simp only [holdsB, Bool.and_eq_true] at h
  exact ⟨h.1, (fle_num h.2.2).1⟩
theorem R_later (a b : List Nat) (x i n t : Nat) (hv : lakeB a b = true) (hx : isN .f32 x = false) : ∃ o r : Nat, ∃ p : Nat × Nat, sl05Store a b x i n t = some p.1 ∧ iLake_out a b x = some o ∧
    ihalve_iStepLake_1 (a.getD (Int.toNat 0) 0) (a.getD (a.length - 1) 0) (fmul .f32 1056964608 t) a b (fadd .f32 (fsub .f32 x (fmul .f32 (fmul .f32 1056964608 t) o)) (fmul .f32 (fmul .f32 1056964608 t) (fadd .f32 i n))) = some p := by
  obtain ⟨o, o1, o2⟩ := R_out a b x hv hx
  obtain ⟨z1, z2, z3⟩ := ends a b hv
  obtain ⟨hn1, hn2, hb, hA, hB⟩ := lake_parts hv
  obtain ⟨p, p1, p2⟩ := R_store a b (fmul .f32 1056964608 t) (fadd .f32 (fsub .f32 x (fmul .f32 (fmul .f32 1056964608 t) o)) (fmul .f32 (fmul .f32 1056964608 t) (fadd .f32 i n))) hv 40 (a.getD 0 0) (a.getD (a.length - 1) 0) (Nat.le_refl _) (nn_mass (mass_at hA (by omega))) (nn_mass (mass_at hA (by omega)))
  have p1' : sl05Store_l6 a b (fmul .f32 1056964608 t) (fadd .f32 (fsub .f32 x (fmul .f32 (fmul .f32 1056964608 t) o)) (fmul .f32 (fmul .f32 1056964608 t) (fadd .f32 i n))) (a.getD (Int.toNat 0) 0) (a.getD (a.length - 1) 0) 0 = some p.1 := p1
  have p2' : ihalve_iStepLake_1_l2 (a.getD (Int.toNat 0) 0) (a.getD (a.length - 1) 0) (fmul .f32 1056964608 t) a b (fadd .f32 (fsub .f32 x (fmul .f32 (fmul .f32 1056964608 t) o)) (fmul .f32 (fmul .f32 1056964608 t) (fadd .f32 i n))) 0 = some p := p2
  refine ⟨o, 0, p, ?_, o2, ?_⟩
  · unfold sl05Store sl05Store_t
    simp only [o1, z1, z2, z3, p1', Int.toNat_natCast, Tr.sem, osome, oget, cond_true]
  · unfold ihalve_iStepLake_1 ihalve_iStepLake_1_t
    simp only [p2', Tr.sem, osome, oget, cond_true]
theorem R_stepLake (a b : List Nat) (x i n t : Nat) (hb : b.length ≤ 9223372036854775807) : ∃ r, sStepLake a b x i n t = some r ∧ iStepLake a b x i n t = some r := by
  unfold sStepLake sStepLake_t iStepLake iStepLake_t
  simp only [R_holds, R_isStore a b x hb, P_areMasses [i, n] (by simp), List.all_cons, List.all_nil, Bool.and_true, Tr.sem, osome, oget, cond_true, num_same]
  cases hh : holdsB a b x with
  | false => exact ⟨_, rfl, rfl⟩
  | true =>
  obtain ⟨hv, hx⟩ := holds_num hh
  obtain ⟨z1, z2, z3⟩ := ends a b hv
  cases isMass i with
  | false => exact ⟨_, rfl, rfl⟩
  | true =>
  cases isMass n with
  | false => exact ⟨_, rfl, rfl⟩
  | true =>
  cases isLen t with
  | false => exact ⟨_, rfl, rfl⟩
  | true =>
  obtain ⟨o, r, p, h1, h2, h3⟩ := R_later a b x i n t hv hx
  simp only [h1, h2, h3, z1, z2, z3, Int.toNat_natCast, osome, oget, cond_true, Bool.not_true, cond_false, Bool.and_self]
  exact ⟨_, rfl, rfl⟩
theorem pureFnExactStepLake (a b : List Nat) (x i n t : Nat) (ha : a.length ≤ 9223372036854775807) (hb : b.length ≤ 9223372036854775807) : wFnExactStepLake a b x i n t = some true := by
  unfold wFnExactStepLake wFnExactStepLake_t
  cases hz : decide (wszLake a b 1048576 < 0) with
  | true => rfl
  | false =>
    obtain ⟨h1, h2⟩ := R_szL a b ha hb hz
    obtain ⟨r, s1, s2⟩ := R_stepLake a b x i n t hb
    refine (brF rfl).trans ?_
    simp only [R_toL a b h1 h2, R_eqL a b h1 h2, s1, s2, Tr.sem, osome, oget, cond_true, natEq_self, beq_self_eq_true, Bool.not_true, cond_false]
/-! ### Reaches -/
theorem R_finite (xs : List Nat) (hl : xs.length ≤ 9223372036854775807) : sl02Finite xs = some (xs.all (isFin .f32)) := by
  have h0 := run_all (f := fun s => (sl02Finite_l2_t xs s).sem) xs 0 (isFin .f32) (.inl ()) (.inr ()) hl (fun k hk x hx => by
    simp only [sl02Finite_l2_t, Tr.sem, ltRange hk, zeroLe, Bool.and_self, Int.toNat_natCast, getD_at hx, cond_true]
    cases isFin .f32 x <;> rfl) (by simp only [sl02Finite_l2_t, Tr.sem, not_lt_self, cond_false])
  have h1 : sl02Finite_l2 xs 0 = some (bif xs.all (isFin .f32) then .inr () else .inl ()) := h0
  unfold sl02Finite sl02Finite_t
  simp only [h1, Tr.sem, osome, oget, cond_true]
  cases xs.all (isFin .f32) <;> rfl
def insB (xs : List Nat) : Bool := win 1 128 xs.length && xs.all (isFin .f32)
theorem R_sIns (xs : List Nat) : sl05Ins xs = some (insB xs) := by
  unfold sl05Ins sl05Ins_t insB win
  by_cases h1 : (xs.length : Int) ≥ 1
  · by_cases h2 : (xs.length : Int) ≤ 128
    · have h1' : (1 : Int) ≤ xs.length := h1
      simp [Tr.sem, h1', h2, R_finite xs (by omega), osome, oget]
    · simp [Tr.sem, h2]
  · have h1' : ¬ (1 : Int) ≤ xs.length := h1
    simp [Tr.sem, h1']
theorem R_iIns (xs : List Nat) : iareIns xs = some (insB xs) := by
  unfold iareIns iareIns_t insB
  simp only [R_within, Tr.sem]
  cases h : win 1 128 (xs.length : Int) with
  | false => rfl
  | true =>
    have hl : xs.length ≤ 128 := by simp only [win, Bool.and_eq_true, decide_eq_true_eq] at h; omega
    simp only [P_areFinite xs (by omega), osome, oget, cond_true, Bool.true_and]
theorem R_reach (d l : Nat) : iValidReach d l = sl05Reach d l := rfl
theorem R_shares (d l t : Nat) : iReachShares d l t = some (bif sl05Reach d l && isLen t then sl05Shares d l t else (0, 0, 0, false)) := by
  unfold iReachShares iReachShares_t sl05Shares sl05Shares_t
  simp only [R_reach, P_areFinite [_, _, _] (by simp), List.all_cons, List.all_nil, Bool.and_true, Tr.sem, Tr.val, osome, oget, cond_true]
  cases sl05Reach d l <;> cases isLen t <;> simp only [Bool.not_true, Bool.not_false, cond_true, cond_false, Bool.and_self, Bool.and_false, Bool.false_and, Bool.true_and]
  generalize fdiv .f32 (fsub .f32 t (fmul .f32 (fmul .f32 1073741824 d) l)) (fadd .f32 (fmul .f32 (fmul .f32 1073741824 d) (fsub .f32 1065353216 l)) t) = a
  generalize fdiv .f32 (fadd .f32 t (fmul .f32 (fmul .f32 1073741824 d) l)) (fadd .f32 (fmul .f32 (fmul .f32 1073741824 d) (fsub .f32 1065353216 l)) t) = b
  generalize fdiv .f32 (fsub .f32 (fmul .f32 (fmul .f32 1073741824 d) (fsub .f32 1065353216 l)) t) (fadd .f32 (fmul .f32 (fmul .f32 1073741824 d) (fsub .f32 1065353216 l)) t) = c
  cases isFin .f32 a <;> cases isFin .f32 b <;> cases isFin .f32 c <;> rfl
theorem R_run (ins : List Nat) (a b c x : Nat) (h1 : 1 ≤ ins.length) (hl : ins.length ≤ 1048576) : ∃ r, sl05Route_l6 ins a b c 1 [x] = some r ∧ iRouteReach_l6 ins a b c 1 [x] = some r ∧ r.length = ins.length := by
  obtain ⟨r, hr, hq⟩ := runL_ex0 (f := fun s : Int × List Nat => (sl05Route_l6_t ins a b c s.1 s.2).sem) (ins.length - 1) (fun j s => s.1 = (j : Int) + 1 ∧ s.2.length = j + 1) (fun r => r.length = ins.length) (1, [x]) ⟨rfl, rfl⟩ (fun j s hj ⟨e1, e2⟩ => by
    obtain ⟨y, l⟩ := s
    simp only at e1 e2
    subst e1
    have hw : IntKind.wrap .i64 ((j : Int) + 1 - 1) = (j : Int) := by rw [wrap_id (by omega) (by omega)]; omega
    simp only [sl05Route_l6_t, Tr.sem, hw, decide_eq_true (show ((j : Int) + 1) < (ins.length : Int) by omega), decide_eq_true (show (0 : Int) ≤ (j : Int) + 1 by omega), zeroLe, ltRange (show j < ins.length by omega), ltRange (show j < l.length by omega), Bool.and_self, cond_true]
    rw [decide_eq_true (by simp only [List.length_cons, List.length_nil]; omega)]
    refine ⟨_, rfl, ?_, ?_⟩
    · simp only; rw [wrap_id (by omega) (by omega)]; omega
    · simp only [List.length_append, List.length_cons, List.length_nil]; omega) (fun s ⟨e1, e2⟩ => by
    obtain ⟨y, l⟩ := s
    simp only at e1 e2
    subst e1
    exact ⟨l, by simp only [sl05Route_l6_t, Tr.sem, decide_eq_false (show ¬ (((ins.length - 1 : Nat) : Int) + 1 < (ins.length : Int)) by omega), cond_false], by omega⟩)
  exact ⟨r, hr, hr, hq⟩
theorem R_route (d l : Nat) (ins : List Nat) (t x : Nat) (h1 : 1 ≤ ins.length) (hl : ins.length ≤ 1048576) : ∃ r, sl05Route d l ins t x = some r ∧ (∀ q, r = .inr q → q.length = ins.length) ∧ (bif (sl05Shares d l t).2.2.2 then (∃ q, iRouteReach_l6 ins (sl05Shares d l t).1 (sl05Shares d l t).2.1 (sl05Shares d l t).2.2.1 1 [x] = some q ∧ q.length = ins.length ∧ r = bif q.all (isFin .f32) then .inr q else .inl ()) else r = .inl ()) := by
  obtain ⟨q, q1, q2, q3⟩ := R_run ins (sl05Shares d l t).1 (sl05Shares d l t).2.1 (sl05Shares d l t).2.2.1 x h1 hl
  unfold sl05Route sl05Route_t
  simp only [q1, R_finite q (by omega), Tr.sem, osome, oget, cond_true]
  cases (sl05Shares d l t).2.2.2 with
  | false => exact ⟨_, rfl, (fun q h => by cases h), rfl⟩
  | true =>
    cases hq : q.all (isFin .f32) with
    | false => exact ⟨_, rfl, (fun q h => by cases h), q, q2, q3, by rw [hq]; rfl⟩
    | true => exact ⟨_, rfl, (fun q' h => by cases h; exact q3), q, q2, q3, by rw [hq]; rfl⟩
theorem R_routeReach (d l : Nat) (ins : List Nat) (t x : Nat) : ∃ r, sRouteReach d l ins t x = some r ∧ iRouteReach d l ins t x = some r ∧ ∀ q, r = .inr q → q.length ≤ 1048576 := by
  unfold sRouteReach sRouteReach_t iRouteReach iRouteReach_t
  simp only [R_sIns, R_iIns, R_shares, Tr.sem, osome, oget, cond_true]
  cases hr : sl05Reach d l with
  | false => exact ⟨_, rfl, rfl, fun q h => by cases h⟩
  | true =>
  cases hi : insB ins with
  | false =>
    cases isLen t with
    | false => exact ⟨_, rfl, rfl, fun q h => by cases h⟩
    | true =>
      simp only [Bool.and_self, cond_true, Bool.not_true, Bool.not_false, cond_false]
      cases (sl05Shares d l t).2.2.2 <;> exact ⟨_, rfl, rfl, fun q h => by cases h⟩
  | true =>
  cases ht : isLen t with
  | false => exact ⟨_, rfl, rfl, fun q h => by cases h⟩
  | true =>
  cases hx : isFin .f32 x with
  | false =>
    simp only [Bool.and_self, cond_true, Bool.not_true, Bool.not_false, cond_false]
    cases (sl05Shares d l t).2.2.2 <;> exact ⟨_, rfl, rfl, fun q h => by cases h⟩
  | true =>
  have hlen : 1 ≤ ins.length ∧ ins.length ≤ 128 := by simp only [insB, win, Bool.and_eq_true, decide_eq_true_eq] at hi; omega
  obtain ⟨r, r1, r2, r3⟩ := R_route d l ins t x hlen.1 (by omega)
  simp only [Bool.and_self, cond_true, Bool.not_true, cond_false, r1, osome, oget]
  cases hs : (sl05Shares d l t).2.2.2 with
  | false =>
    rw [hs] at r3
    have r3' : r = .inl () := r3
    subst r3'
    exact ⟨_, rfl, rfl, fun q h => by cases h⟩
  | true =>
    rw [hs] at r3
    obtain ⟨q, q1, q2, q3⟩ := (show ∃ q, _ from r3)
    simp only [q1, P_areFinite q (by omega), osome, oget, cond_true, Bool.not_true, cond_false]
    cases hq : q.all (isFin .f32) with
    | false =>
      rw [hq] at q3
      subst q3
      exact ⟨_, rfl, rfl, fun q h => by cases h⟩
    | true =>
      rw [hq] at q3
      simp only [cond_true] at q3
      subst q3
      exact ⟨_, rfl, rfl, fun q' h => by cases h; show q.length ≤ 1048576; omega⟩
/-! ### Canals -/
def canalB (s d g : Nat) (h f : List Nat) : Bool := isLen s && isLen d && isMass g && win 1 48 h.length && decide (f.length = h.length) && h.all (isFin .f32) && f.all (isFin .f32)
theorem lenEq (f h : List Nat) : (((f.length : Nat) : Int) == ((h.length : Nat) : Int)) = decide (f.length = h.length) := by
  rw [Bool.eq_iff_iff, beq_iff_eq, decide_eq_true_eq]; omega
theorem R_iCanal (s d g : Nat) (h f : List Nat) (hf : f.length ≤ 9223372036854775807) : iValidCanal s d g h f = some (canalB s d g h f) := by
  unfold iValidCanal iValidCanal_t canalB
  simp only [P_areLengths [s, d] (by simp), R_within, lenEq, List.all_cons, List.all_nil, Bool.and_true, Tr.sem, osome, oget, cond_true]
  cases isLen s <;> cases isLen d <;> cases isMass g <;> cases hw : win 1 48 (h.length : Int) <;> cases decide (f.length = h.length) <;> try rfl
  have hl : h.length ≤ 48 := by simp only [win, Bool.and_eq_true, decide_eq_true_eq] at hw; omega
  simp only [P_areFinite h (by omega), P_areFinite f hf, osome, oget, cond_true, Bool.and_self, Bool.true_and]
  cases h.all (isFin .f32) <;> rfl
theorem R_sCanal (s d g : Nat) (h f : List Nat) (hf : f.length ≤ 9223372036854775807) : sl05Canal s d g h f = some (canalB s d g h f) := by
  unfold sl05Canal sl05Canal_t canalB win
  simp only [lenEq, Tr.sem]
  cases isLen s <;> cases isLen d <;> cases isMass g <;> try rfl
  by_cases h1 : (h.length : Int) ≥ 1
  · have h1' : (1 : Int) ≤ h.length := h1
    by_cases h2 : (h.length : Int) ≤ 48
    · simp only [decide_eq_true h1, decide_eq_true h1', decide_eq_true h2, R_finite h (by omega), R_finite f hf, osome, oget, cond_true, Bool.and_self, Bool.true_and]
      cases decide (f.length = h.length) <;> cases h.all (isFin .f32) <;> rfl
    · simp [h2]
  · have h1' : ¬ (1 : Int) ≤ h.length := h1
    simp [h1']
theorem canal_parts {s d g : Nat} {h f : List Nat} (hc : canalB s d g h f = true) : 1 ≤ h.length ∧ h.length ≤ 48 ∧ f.length = h.length := by
  simp only [canalB, Bool.and_eq_true, decide_eq_true_eq] at hc
  obtain ⟨⟨⟨⟨_, hw⟩, hl⟩, _⟩, _⟩ := hc
  simp only [win, Bool.and_eq_true, decide_eq_true_eq] at hw
  omega
theorem half_g : fmul .f32 1056964608 1092416963 = 1084028355 := by decide +kernel
theorem R_energy (s d g : Nat) (h f : List Nat) (hf : f.length ≤ 9223372036854775807) : ∃ r, sEnergyOfCanal s d g h f = some r ∧ iEnergyOfCanal s d g h f = some r := by
  unfold sEnergyOfCanal sEnergyOfCanal_t iEnergyOfCanal iEnergyOfCanal_t
  simp only [R_iCanal s d g h f hf, R_sCanal s d g h f hf, half_g, Tr.sem, osome, oget, cond_true, num_same]
  cases hc : canalB s d g h f with
  | false => exact ⟨_, rfl, rfl⟩
  | true =>
    obtain ⟨hn1, hn2, hl⟩ := canal_parts hc
    have key : ∀ (j : Nat) (acc : Nat), j ≤ h.length → ∃ r, runL (fun q : Nat × Int => (sEnergyOfCanal_l5_t (h.length : Nat) s d g h f q.1 q.2).sem) (acc, ((h.length - j : Nat) : Int)) = some r ∧ runL (fun q : Nat × Int => (iEnergyOfCanal_l6_t 1084028355 h (h.length : Nat) s d g h f q.1 q.2).sem) (acc, ((h.length - j : Nat) : Int)) = some r := by
      intro j
      induction j with
      | zero =>
        intro acc _
        rw [Nat.sub_zero]
        exact ⟨acc, runL_out (by simp only [sEnergyOfCanal_l5_t, Tr.sem, not_lt_self, cond_false]), runL_out (by simp only [iEnergyOfCanal_l6_t, Tr.sem, not_lt_self, cond_false])⟩
      | succ j ih =>
        intro acc hj
        have hk : h.length - (j + 1) < h.length := by omega
        have hw : IntKind.wrap .i64 (((h.length - (j + 1) : Nat) : Int) + 1) = ((h.length - j : Nat) : Int) := by rw [wrap_id (by omega) (by omega)]; omega
        obtain ⟨r, r1, r2⟩ := ih (fadd .f32 acc (fmul .f32 s (fadd .f32 (fmul .f32 1084028355 (fmul .f32 (h.getD (h.length - (j + 1)) 0) (h.getD (h.length - (j + 1)) 0))) (fdiv .f32 (fmul .f32 1056964608 (fmul .f32 (f.getD (h.length - (j + 1)) 0) (f.getD (h.length - (j + 1)) 0))) d)))) (by omega)
        refine ⟨r, (runL_in (s' := (_, _)) ?_).trans r1, (runL_in (s' := (_, _)) ?_).trans r2⟩
        · simp only [sEnergyOfCanal_l5_t, Tr.sem, ltRange hk, zeroLe, ltRange (show h.length - (j + 1) < f.length by omega), Bool.and_self, cond_true, hw, Int.toNat_natCast]
        · simp only [iEnergyOfCanal_l6_t, Tr.sem, ltRange hk, zeroLe, ltRange (show h.length - (j + 1) < f.length by omega), Bool.and_self, cond_true, hw, Int.toNat_natCast]
    obtain ⟨r, r1, r2⟩ := key h.length 0 (Nat.le_refl _)
    rw [Nat.sub_self] at r1 r2
    have r1' : sEnergyOfCanal_l5 0 (h.length : Nat) 0 s d g h f = some r := r1
    have r2' : iEnergyOfCanal_l6 0 1084028355 h (h.length : Nat) 0 s d g h f = some r := r2
    simp only [r1', r2', osome, oget, cond_true, Bool.not_true, cond_false]
    exact ⟨_, rfl, rfl⟩
theorem R_szC (s d g : Nat) (a b : List Nat) (ha : a.length ≤ 9223372036854775807) (hb : b.length ≤ 9223372036854775807) (h : decide (wszCanal s d g a b 1048576 < 0) = false) : a.length ≤ 1048576 ∧ b.length ≤ 1048576 := by
  unfold wszCanal wszCanal_t at h
  simp only [Tr.val] at h
  rw [R_sz a _ (by omega) (by omega) ha] at h
  by_cases h1 : (1048576 : Int) - (a.length : Int) < 0
  · simp [h1] at h
  rw [if_neg h1] at h
  rw [R_sz b _ (by omega) (by omega) hb] at h
  by_cases h2 : (1048576 : Int) - (a.length : Int) - b.length < 0
  · simp [h1, h2] at h
  omega
theorem R_toC (s d g : Nat) (a b : List Nat) (ha : a.length ≤ 1048576) (hb : b.length ≤ 1048576) : wtoCanal s d g a b = some (s, d, g, a, b) := by
  unfold wtoCanal wtoCanal_t
  simp only [R_to a ha, R_to b hb, Tr.sem, osome, oget, cond_true]
theorem R_eqC (s d g : Nat) (a b : List Nat) (ha : a.length ≤ 1048576) (hb : b.length ≤ 1048576) : weqCanal s d g a b s d g a b = some true := by
  unfold weqCanal weqCanal_t
  simp only [R_eq a ha, R_eq b hb, natEq_self, Tr.sem, osome, oget, cond_true, Bool.not_true, cond_false]
theorem pureFnExactEnergyOfCanal (s d g : Nat) (a b : List Nat) (ha : a.length ≤ 9223372036854775807) (hb : b.length ≤ 9223372036854775807) : wFnExactEnergyOfCanal s d g a b = some true := by
  unfold wFnExactEnergyOfCanal wFnExactEnergyOfCanal_t
  cases hz : decide (wszCanal s d g a b 1048576 < 0) with
  | true => rfl
  | false =>
    obtain ⟨h1, h2⟩ := R_szC s d g a b ha hb hz
    obtain ⟨r, s1, s2⟩ := R_energy s d g a b hb
    refine (brF rfl).trans ?_
    simp only [R_toC s d g a b h1 h2, R_eqC s d g a b h1 h2, s1, s2, Tr.sem, osome, oget, cond_true, natEq_self, beq_self_eq_true, Bool.not_true, cond_false]
end Go.Proofs.Ytikmeahdcipanaa
