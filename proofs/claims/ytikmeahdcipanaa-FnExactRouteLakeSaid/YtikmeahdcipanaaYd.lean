/- Lakes routed: the program's and the reference's are the same. -/
import Derived.Test.YtikmeahdcipanaaYc
set_option linter.unusedVariables false
set_option linter.unusedSimpArgs false
set_option linter.constructorNameAsVariable false
namespace Go.Proofs.Ytikmeahdcipanaa
open Go.RowKit
set_option maxRecDepth 100000
/-! ### Numbers not below zero -/
def ND : Ieee.Datum → Prop
  | .number s m _ => s = false ∨ m = 0
  | .infinity s => s = false
  | .nan _ _ => False
def nn (c : Nat) : Prop := ND (FloatKind.f32.format.read c)
theorem nn_num {c : Nat} (h : nn c) : isN .f32 c = false := by
  unfold nn at h
  unfold isN
  cases hr : FloatKind.f32.format.read c with
  | nan s t => rw [hr] at h; exact h.elim
  | number s m e => rfl
  | infinity s => rfl
theorem write_nzero (e : Int) : FloatKind.f32.format.write (.number true 0 e) = FloatKind.f32.format.word true 0 := by simp [Ieee.Format.write, Ieee.Format.nearest]
theorem read_nzero : FloatKind.f32.format.read (FloatKind.f32.format.word true 0) = .number true 0 (-149) := by decide +kernel
theorem w_num (d : Ieee.Datum) (hn : d.isNaN = false) : isN .f32 (FloatKind.f32.format.write d) = false := write_num FloatKind.f32.format d hn
theorem w_sgn (d : Ieee.Datum) (hn : d.isNaN = false) (hs : d.neg = false) : sgn .f32 (FloatKind.f32.format.write d) = false := (encode_sgn .f32 d hn).trans hs
theorem nd_of {c : Nat} (h1 : isN .f32 c = false) (h2 : sgn .f32 c = false) : ND (FloatKind.f32.format.read c) := by
  have h3 := read_neg .f32 c h1
  rw [h2] at h3
  unfold isN at h1
  generalize FloatKind.f32.format.read c = q at h1 h3
  cases q with
  | nan s t => cases h1
  | number s m e => exact .inl h3
  | infinity s => exact h3
theorem nd_pos (d : Ieee.Datum) (hn : d.isNaN = false) (hs : d.neg = false) : ND (FloatKind.f32.format.read (FloatKind.f32.format.write d)) := nd_of (w_num d hn) (w_sgn d hn hs)
theorem nd_write : ∀ (d : Ieee.Datum), ND d → ND (FloatKind.f32.format.read (FloatKind.f32.format.write d))
  | .nan s t, h => h.elim
  | .infinity s, h => nd_pos _ rfl h
  | .number false m e, h => nd_pos _ rfl rfl
  | .number true m e, h => by
    have hm : m = 0 := by simpa [ND] using h
    subst hm
    rw [write_nzero e, read_nzero]
    exact .inr rfl
theorem nd_sum : ∀ (x y : Ieee.Datum), ND x → ND y → ∃ z, x.sum y = some z ∧ ND z
  | .nan .., _, h, _ => h.elim
  | _, .nan .., _, h => h.elim
  | .infinity s, .infinity t, h1, h2 => ⟨.infinity s, by simp only [Ieee.Datum.sum]; rw [if_pos (h1.trans h2.symm)], h1⟩
  | .infinity s, .number t n j, h1, _ => ⟨.infinity s, rfl, h1⟩
  | .number s m i, .infinity t, _, h2 => ⟨.infinity t, rfl, h2⟩
  | .number s m i, .number t n j, ha, hb => ⟨_, rfl, by
      have p1 : 0 ≤ Ieee.signed s m (i - min i j).toNat := by
        rw [signed_mul]
        rcases ha with rfl | rfl
        · simp; exact Int.natCast_nonneg _
        · simp
      have p2 : 0 ≤ Ieee.signed t n (j - min i j).toNat := by
        rw [signed_mul]
        rcases hb with rfl | rfl
        · simp; exact Int.natCast_nonneg _
        · simp
      by_cases h0 : Ieee.signed s m (i - min i j).toNat + Ieee.signed t n (j - min i j).toNat = 0
      · right; simp [h0]
      · left
        rw [if_neg h0]
        simp; omega⟩
theorem nn_add {a b : Nat} (ha : nn a) (hb : nn b) : nn (fadd .f32 a b) := by
  obtain ⟨z, h1, h2⟩ := nd_sum _ _ ha hb
  unfold nn fadd Ieee.Format.add
  rw [h1, Option.map_some, Option.getD_some]
  exact nd_write z h2
theorem nd_half : ∀ (y : Ieee.Datum), ND y → ∃ z, (Ieee.Datum.number false 8388608 (-24)).product y = some z ∧ ND z
  | .nan .., h => h.elim
  | .infinity s, h => ⟨.infinity (s ^^ false), by simp [Ieee.Datum.product], by cases s <;> simp_all [ND]⟩
  | .number s m i, h => ⟨.number (false ^^ s) (8388608 * m) (-24 + i), rfl, by
      rcases h with rfl | rfl
      · exact .inl rfl
      · exact .inr rfl⟩
theorem read_hf : FloatKind.f32.format.read 1056964608 = .number false 8388608 (-24) := by decide +kernel
theorem nn_half {a : Nat} (ha : nn a) : nn (fmul .f32 1056964608 a) := by
  obtain ⟨z, h1, h2⟩ := nd_half _ ha
  unfold nn fmul Ieee.Format.mul
  rw [read_hf, h1, Option.map_some, Option.getD_some]
  exact nd_write z h2
theorem nn_mass {a : Nat} (h : isMass a = true) : nn a := by
  have hn := num_mass h
  unfold isMass at h
  rw [Bool.and_eq_true] at h
  have h2 := h.2
  unfold nn
  unfold fge Ieee.Format.order at h2
  rw [show FloatKind.f32.format.read 0 = .number false 0 (-149) from by decide +kernel] at h2
  unfold isN at hn
  cases h1 : FloatKind.f32.format.read a with
  | nan s t => rw [h1] at hn; cases hn
  | infinity s =>
    rw [h1] at h2
    cases s with
    | false => rfl
    | true => simp [Ieee.Datum.order] at h2
  | number s m i =>
    rw [h1] at h2
    cases s with
    | false => exact .inl rfl
    | true =>
      right
      simp only [Ieee.Datum.order, signed_mul, Nat.zero_mul] at h2
      rw [cmp_int] at h2
      simp only [if_true, Bool.false_eq_true, if_false] at h2
      rcases Nat.eq_zero_or_pos m with h | h
      · exact h
      · exfalso
        have : 0 < m * 2 ^ (i - min i (-149)).toNat := Nat.mul_pos h (Nat.two_pow_pos _)
        rw [if_pos (show -((m * 2 ^ (i - min i (-149)).toNat : Nat) : Int) < ((0 : Nat) : Int) from by omega)] at h2
        simp at h2
/-! ### The middle of two numbers -/
def inf32 : Nat := FloatKind.f32.format.infRung
theorem nn_val {c : Nat} (h : nn c) (hf : mg .f32 c < FloatKind.f32.format.infRung) : ∃ s m e, FloatKind.f32.format.read c = .number s m e ∧ FloatKind.f32.format.leastPlace ≤ e ∧ m * 2 ^ (e - FloatKind.f32.format.leastPlace).toNat = vl .f32 (mg .f32 c) ∧ sv s (vl .f32 (mg .f32 c)) = (vl .f32 (mg .f32 c) : Int) := by
  obtain ⟨s, m, e, hr, l, v⟩ := fin_mg .f32 hf
  refine ⟨s, m, e, hr, l, v, ?_⟩
  unfold nn at h
  rw [hr] at h
  rcases h with h | h
  · subst h; rfl
  · subst h
    rw [Nat.zero_mul] at v
    rw [← v]; cases s <;> rfl
theorem fin_iff (k : FloatKind) (c : Nat) : isFin k c = decide (mg k c < k.format.infRung) := by
  have hb := binade_le k
  by_cases h : mg k c < k.format.infRung
  · obtain ⟨s, m, e, hr, _, _⟩ := fin_mg k h
    rw [decide_eq_true h]
    unfold isFin
    rw [hr]
  · rw [decide_eq_false h]
    unfold isFin
    have h2 : ∀ s m e, k.format.read c ≠ .number s m e := fun s m e hr => h (read_val hb hr).2.2
    cases hr : k.format.read c with
    | number s m e => exact absurd hr (h2 s m e)
    | infinity s => rfl
    | nan s t => rfl
theorem nn_inf {c : Nat} (h : nn c) (hf : ¬ mg .f32 c < FloatKind.f32.format.infRung) : FloatKind.f32.format.read c = .infinity false := by
  unfold nn at h
  cases hr : FloatKind.f32.format.read c with
  | nan s t => rw [hr] at h; exact h.elim
  | number s m e => exact absurd (read_val (binade_le .f32) hr).2.2 hf
  | infinity s =>
    rw [hr] at h
    have : s = false := h
    subst this; rfl
theorem read_word_inf : FloatKind.f32.format.read (FloatKind.f32.format.word false FloatKind.f32.format.infRung) = .infinity false := by decide +kernel
theorem half_inf {s : Nat} (h : FloatKind.f32.format.read s = .infinity false) : FloatKind.f32.format.read (fmul .f32 1056964608 s) = .infinity false := by
  have key : (FloatKind.f32.format.read 1056964608).product (FloatKind.f32.format.read s) = some (.infinity false) := by
    rw [h, read_hf]; rfl
  unfold fmul Ieee.Format.mul
  rw [key, Option.map_some, Option.getD_some, (show FloatKind.f32.format.write (.infinity false) = FloatKind.f32.format.word false FloatKind.f32.format.infRung from rfl)]
  exact read_word_inf
theorem inf_not {c : Nat} (h : FloatKind.f32.format.read c = .infinity false) : ¬ mg .f32 c < FloatKind.f32.format.infRung := by
  intro hf
  obtain ⟨s, m, e, hr, _, _⟩ := fin_mg .f32 hf
  rw [h] at hr; cases hr
theorem sum_inf1 (s : Bool) (m : Nat) (e : Int) : Ieee.Datum.sum (.number s m e) (.infinity false) = some (.infinity false) := rfl
theorem sum_inf2 (s : Bool) (m : Nat) (e : Int) : Ieee.Datum.sum (.infinity false) (.number s m e) = some (.infinity false) := rfl
theorem sum_inf3 : Ieee.Datum.sum (.infinity false) (.infinity false) = some (.infinity false) := rfl
theorem write_inf : FloatKind.f32.format.write (.infinity false) = FloatKind.f32.format.word false FloatKind.f32.format.infRung := rfl
theorem add_inf {a b : Nat} (ha : nn a) (hb : nn b) (h : ¬ (mg .f32 a < FloatKind.f32.format.infRung ∧ mg .f32 b < FloatKind.f32.format.infRung)) : FloatKind.f32.format.read (fadd .f32 a b) = .infinity false := by
  have key : (FloatKind.f32.format.read a).sum (FloatKind.f32.format.read b) = some (.infinity false) := by
    by_cases h1 : mg .f32 a < FloatKind.f32.format.infRung
    · have h2 : ¬ mg .f32 b < FloatKind.f32.format.infRung := fun h2 => h ⟨h1, h2⟩
      obtain ⟨s, m, e, hr, _, _⟩ := fin_mg .f32 h1
      rw [hr, nn_inf hb h2, sum_inf1]
    · rw [nn_inf ha h1]
      by_cases h2 : mg .f32 b < FloatKind.f32.format.infRung
      · obtain ⟨s, m, e, hr, _, _⟩ := fin_mg .f32 h2
        rw [hr, sum_inf2]
      · rw [nn_inf hb h2, sum_inf3]
  unfold fadd Ieee.Format.add
  rw [key, Option.map_some, Option.getD_some, write_inf]
  exact read_word_inf
def dbl (r : Nat) : Nat := if r < 8388608 then 2 * r else r + 8388608
theorem binade32 : FloatKind.f32.format.binade = 8388608 := by decide +kernel
theorem vl_dbl (r : Nat) : vl .f32 (dbl r) = 2 * vl .f32 r := by
  unfold vl dbl
  rw [binade32]
  by_cases h : r < 8388608
  · rw [if_pos h, val_low (by omega) _ (by omega), val_low (by omega) _ (by omega)]
  · rw [if_neg h]
    have e := val_shift (B := 8388608) (by omega) 1 r (by omega)
    rw [show 1 * 8388608 + r = r + 8388608 by omega] at e
    rw [e]; omega
theorem half_mg : mg .f32 1056964608 = 1056964608 := by decide +kernel
theorem half_vl : vl .f32 1056964608 = 2 ^ 148 := by decide +kernel
theorem unit32 : (-FloatKind.f32.format.leastPlace).toNat = 149 := by decide +kernel
theorem half_fin : mg .f32 1056964608 < FloatKind.f32.format.infRung := by decide +kernel
theorem mid_prop {lo hi : Nat} (h1 : nn lo) (h2 : nn hi) (hm : mg .f32 (fmul .f32 1056964608 (fadd .f32 lo hi)) < FloatKind.f32.format.infRung) :
    mg .f32 lo < FloatKind.f32.format.infRung ∧ mg .f32 hi < FloatKind.f32.format.infRung ∧ (mg .f32 lo ≤ mg .f32 hi → mg .f32 lo ≤ mg .f32 (fmul .f32 1056964608 (fadd .f32 lo hi)) ∧ mg .f32 (fmul .f32 1056964608 (fadd .f32 lo hi)) ≤ mg .f32 hi) := by
  have hS : mg .f32 (fadd .f32 lo hi) < FloatKind.f32.format.infRung := by
    rcases Nat.lt_or_ge (mg .f32 (fadd .f32 lo hi)) FloatKind.f32.format.infRung with h | h
    · exact h
    · exact absurd hm (inf_not (half_inf (nn_inf (nn_add h1 h2) (by omega))))
  have hf : mg .f32 lo < FloatKind.f32.format.infRung ∧ mg .f32 hi < FloatKind.f32.format.infRung := by
    by_cases h : mg .f32 lo < FloatKind.f32.format.infRung ∧ mg .f32 hi < FloatKind.f32.format.infRung
    · exact h
    · exact absurd hS (inf_not (add_inf h1 h2 h))
  refine ⟨hf.1, hf.2, fun hle => ?_⟩
  obtain ⟨s, m, i, ra, la, va, sa⟩ := nn_val h1 hf.1
  obtain ⟨t, n, j, rb, lb, vb, sb⟩ := nn_val h2 hf.2
  obtain ⟨z, T, e, e1, e2, e3⟩ := add_near .f32 ra rb la lb va vb
  rw [sa, sb] at e3
  have e4 : T * 2 ^ (e - FloatKind.f32.format.leastPlace).toNat = vl .f32 (mg .f32 lo) + vl .f32 (mg .f32 hi) := by rw [e3]; omega
  have hvl := vl_le .f32 hle
  have u1 : mg .f32 (fadd .f32 lo hi) ≤ dbl (mg .f32 hi) := by
    rw [e1]; exact near_le0 .f32 e2 (by rw [e4, vl_dbl]; omega)
  have l1 : dbl (mg .f32 lo) ≤ mg .f32 (fadd .f32 lo hi) := by
    rcases Nat.lt_or_ge (FloatKind.f32.format.infRung) (dbl (mg .f32 lo)) with h | h
    · exfalso
      have h3 : FloatKind.f32.format.infRung ≤ mg .f32 (fadd .f32 lo hi) := by
        have h4 := vl_le .f32 (Nat.le_of_lt h)
        rw [vl_dbl] at h4
        rw [e1]; exact near_ge0 .f32 e2 (Nat.le_refl _) (by rw [e4]; omega)
      omega
    · rw [e1]; exact near_ge0 .f32 e2 h (by rw [e4, vl_dbl]; omega)
  have u2 := vl_le .f32 u1
  have l2 := vl_le .f32 l1
  rw [vl_dbl] at u2 l2
  constructor
  · refine mul_ge .f32 half_fin hS (Nat.le_of_lt hf.1) ?_
    rw [half_mg, half_vl, unit32]
    have : vl .f32 (mg .f32 lo) * 2 ^ 149 = 2 ^ 148 * (2 * vl .f32 (mg .f32 lo)) := by rw [show (2 : Nat) ^ 149 = 2 ^ 148 * 2 by decide]; ac_rfl
    rw [this]; exact Nat.mul_le_mul_left _ l2
  · refine mul_le .f32 half_fin hS ?_
    rw [half_mg, half_vl, unit32]
    have : vl .f32 (mg .f32 hi) * 2 ^ 149 = 2 ^ 148 * (2 * vl .f32 (mg .f32 hi)) := by rw [show (2 : Nat) ^ 149 = 2 ^ 148 * 2 by decide]; ac_rfl
    rw [this]; exact Nat.mul_le_mul_left _ u2
/-! ### A lake a tick later -/
def inJ (α β lo hi : Nat) : Prop := (mg .f32 lo < FloatKind.f32.format.infRung → α ≤ mg .f32 lo ∧ mg .f32 lo ≤ β) ∧ (mg .f32 hi < FloatKind.f32.format.infRung → mg .f32 hi ≤ β) ∧ (mg .f32 lo < FloatKind.f32.format.infRung → mg .f32 lo ≤ mg .f32 hi)
theorem inJ_hi {α β lo hi : Nat} (h1 : nn lo) (h2 : nn hi) (h : inJ α β lo hi) : inJ α β lo (fmul .f32 1056964608 (fadd .f32 lo hi)) := by
  obtain ⟨p1, p2, p3⟩ := h
  refine ⟨p1, fun hm => ?_, fun hl => ?_⟩
  · obtain ⟨q1, q2, q3⟩ := mid_prop h1 h2 hm
    exact Nat.le_trans (q3 (p3 q1)).2 (p2 q2)
  · rcases Nat.lt_or_ge (mg .f32 (fmul .f32 1056964608 (fadd .f32 lo hi))) FloatKind.f32.format.infRung with hm | hm
    · obtain ⟨q1, q2, q3⟩ := mid_prop h1 h2 hm
      exact (q3 (p3 q1)).1
    · omega
theorem inJ_lo {α β lo hi : Nat} (h1 : nn lo) (h2 : nn hi) (h : inJ α β lo hi) : inJ α β (fmul .f32 1056964608 (fadd .f32 lo hi)) hi := by
  obtain ⟨p1, p2, p3⟩ := h
  refine ⟨fun hm => ?_, p2, fun hm => ?_⟩
  · obtain ⟨q1, q2, q3⟩ := mid_prop h1 h2 hm
    have a1 := (p1 q1).1
    have a2 := q3 (p3 q1)
    have a3 := p2 q2
    omega
  · obtain ⟨q1, q2, q3⟩ := mid_prop h1 h2 hm
    exact (q3 (p3 q1)).2
theorem R_store (a b : List Nat) (h g : Nat) (hv : lakeB a b = true) (α β : Nat) : ∀ (j : Nat) (lo hi : Nat), j ≤ 40 → nn lo → nn hi → inJ α β lo hi →
    ∃ r : Nat × Nat, runL (fun s : Nat × Nat × Int => (sl05Store_l6_t a b h g s.1 s.2.1 s.2.2).sem) (lo, hi, ((40 - j : Nat) : Int)) = some r.1 ∧ runL (fun s : Nat × Nat × Int => (ihalve_iStepLake_1_l2_t h a b g s.1 s.2.1 s.2.2).sem) (lo, hi, ((40 - j : Nat) : Int)) = some r ∧ nn r.1 ∧ inJ α β r.1 r.2
  | 0, lo, hi, hj, h1, h2, hJ => ⟨(lo, hi), runL_out rfl, runL_out rfl, h1, hJ⟩
  | j + 1, lo, hi, hj, h1, h2, hJ => by
    have hm : nn (fmul .f32 1056964608 (fadd .f32 lo hi)) := nn_half (nn_add h1 h2)
    obtain ⟨r, r1, r2⟩ := R_out a b (fmul .f32 1056964608 (fadd .f32 lo hi)) hv (nn_num hm)
    have hlt : decide (((40 - (j + 1) : Nat) : Int) < 40) = true := by simp; omega
    have hw : IntKind.wrap .i64 (((40 - (j + 1) : Nat) : Int) + 1) = ((40 - j : Nat) : Int) := by rw [wrap_id (by omega) (by omega)]; omega
    cases hc : fgt .f32 (fadd .f32 (fmul .f32 1056964608 (fadd .f32 lo hi)) (fmul .f32 h r)) g with
    | true =>
      obtain ⟨q, q1, q2, q3, q4⟩ := R_store a b h g hv α β j lo (fmul .f32 1056964608 (fadd .f32 lo hi)) (by omega) h1 hm (inJ_hi h1 h2 hJ)
      exact ⟨q, (runL_in (s' := (lo, fmul .f32 1056964608 (fadd .f32 lo hi), ((40 - j : Nat) : Int))) (by simp only [sl05Store_l6_t, Tr.sem, hlt, r1, osome, oget, cond_true, hc, hw])).trans q1,
        (runL_in (s' := (lo, fmul .f32 1056964608 (fadd .f32 lo hi), ((40 - j : Nat) : Int))) (by simp only [ihalve_iStepLake_1_l2_t, iStepLake_1, iStepLake_1_t, Tr.sem, hlt, r2, osome, oget, cond_true, hc, hw])).trans q2, q3, q4⟩
    | false =>
      obtain ⟨q, q1, q2, q3, q4⟩ := R_store a b h g hv α β j (fmul .f32 1056964608 (fadd .f32 lo hi)) hi (by omega) hm h2 (inJ_lo h1 h2 hJ)
      exact ⟨q, (runL_in (s' := (fmul .f32 1056964608 (fadd .f32 lo hi), hi, ((40 - j : Nat) : Int))) (by simp only [sl05Store_l6_t, Tr.sem, hlt, r1, osome, oget, cond_true, cond_false, hc, hw])).trans q1,
        (runL_in (s' := (fmul .f32 1056964608 (fadd .f32 lo hi), hi, ((40 - j : Nat) : Int))) (by simp only [ihalve_iStepLake_1_l2_t, iStepLake_1, iStepLake_1_t, Tr.sem, hlt, r2, osome, oget, cond_true, cond_false, hc, hw])).trans q2, q3, q4⟩
def holdsB (a b : List Nat) (x : Nat) : Bool := lakeB a b && (fge .f32 x (a.getD 0 0) && fle .f32 x (a.getD (a.length - 1) 0))
theorem ends (a b : List Nat) (hv : lakeB a b = true) : (decide ((0 : Int) ≤ 0) && decide ((0 : Int) < (a.length : Int))) = true ∧ IntKind.wrap .i64 ((a.length : Int) - 1) = ((a.length - 1 : Nat) : Int) ∧ (decide ((0 : Int) ≤ ((a.length - 1 : Nat) : Int)) && decide (((a.length - 1 : Nat) : Int) < (a.length : Int))) = true := by
  obtain ⟨hn1, hn2, hb, hA, hB⟩ := lake_parts hv
  exact ⟨by simp; omega, prev (by omega) (by omega), inRange (by omega)⟩
theorem R_holds (a b : List Nat) (x : Nat) : sl05Holds a b x = some (holdsB a b x) := by
  unfold sl05Holds sl05Holds_t holdsB
  simp only [R_lake, Tr.sem, osome, oget, cond_true]
  cases hv : lakeB a b with
  | false => rfl
  | true =>
    obtain ⟨z1, z2, z3⟩ := ends a b hv
    simp only [z1, z2, z3, cond_true, Int.toNat_natCast, Bool.true_and, show Int.toNat 0 = 0 from rfl]
    cases fge .f32 x (a.getD 0 0) <;> rfl
theorem R_isStore (a b : List Nat) (x : Nat) (hb : b.length ≤ 9223372036854775807) : iLake_isStore a b x = some (holdsB a b x) := by
  unfold iLake_isStore iLake_isStore_t holdsB
  simp only [R_valid a b hb, Tr.sem, osome, oget, cond_true]
  cases hv : lakeB a b with
  | false => rfl
  | true =>
    obtain ⟨z1, z2, z3⟩ := ends a b hv
    simp only [z1, z2, z3, cond_true, Int.toNat_natCast, Bool.true_and, show Int.toNat 0 = 0 from rfl]
    cases fge .f32 x (a.getD 0 0) <;> rfl
theorem holds_num {a b : List Nat} {x : Nat} (h : holdsB a b x = true) : lakeB a b = true ∧ isN .f32 x = false := by
  simp only [holdsB, Bool.and_eq_true] at h
  exact ⟨h.1, (fle_num h.2.2).1⟩
theorem fin_mass {a : Nat} (h : isMass a = true) : mg .f32 a < FloatKind.f32.format.infRung := by
  unfold isMass at h
  rw [Bool.and_eq_true] at h
  have h1 := h.1
  rw [fin_iff] at h1
  exact of_decide_eq_true h1
/-- The order of numbers not below zero. -/
theorem nn_order {a b : Nat} (ha : nn a) (hb : nn b) (fa : mg .f32 a < FloatKind.f32.format.infRung) (fb : mg .f32 b < FloatKind.f32.format.infRung) : FloatKind.f32.format.order a b = some (compare (vl .f32 (mg .f32 a) : Int) (vl .f32 (mg .f32 b) : Int)) := by
  obtain ⟨s, m, i, ra, la, va, sa⟩ := nn_val ha fa
  obtain ⟨t, n, j, rb, lb, vb, sb⟩ := nn_val hb fb
  rw [order_fin .f32 ra rb la lb va vb, sa, sb]
theorem nn_fle {a b : Nat} (ha : nn a) (hb : nn b) (fa : mg .f32 a < FloatKind.f32.format.infRung) (fb : mg .f32 b < FloatKind.f32.format.infRung) (h : mg .f32 a ≤ mg .f32 b) : fle .f32 a b = true ∧ fge .f32 b a = true := by
  have hv := vl_le .f32 h
  unfold fle fge
  rw [nn_order ha hb fa fb, nn_order hb ha fb fa, cmp_int, cmp_int]
  rcases Nat.lt_or_ge (vl .f32 (mg .f32 a)) (vl .f32 (mg .f32 b)) with h1 | h1
  · rw [if_pos (by omega), if_neg (by omega), if_neg (by omega)]; exact ⟨rfl, rfl⟩
  · have e : vl .f32 (mg .f32 a) = vl .f32 (mg .f32 b) := by omega
    rw [e, if_neg (by omega), if_pos rfl]; exact ⟨rfl, rfl⟩
theorem nn_gt {a b : Nat} (ha : nn a) (hb : nn b) (fa : mg .f32 a < FloatKind.f32.format.infRung) (fb : mg .f32 b < FloatKind.f32.format.infRung) (h : fgt .f32 a b = true) : mg .f32 b ≤ mg .f32 a := by
  rcases Nat.lt_or_ge (mg .f32 a) (mg .f32 b) with h1 | h1
  · exfalso
    have hv := vl_lt .f32 h1
    unfold fgt at h
    rw [nn_order ha hb fa fb, cmp_int, if_pos (by omega)] at h
    cases h
  · exact h1
theorem lake_ends {a b : List Nat} (hv : lakeB a b = true) : mg .f32 (a.getD 0 0) ≤ mg .f32 (a.getD (a.length - 1) 0) := by
  obtain ⟨hn1, hn2, hb, hA, hB⟩ := lake_parts hv
  have hr : ∀ i, i < a.length → i ≠ 0 → rise a b i = true := by
    intro i hi h0
    simp only [lakeB, Bool.and_eq_true, List.all_eq_true, List.mem_range, Bool.or_eq_true, decide_eq_true_eq] at hv
    exact (hv.2.2 i hi).resolve_left h0
  have key : ∀ k, k < a.length → mg .f32 (a.getD 0 0) ≤ mg .f32 (a.getD k 0) := by
    intro k
    induction k with
    | zero => intro _; exact Nat.le_refl _
    | succ k ih =>
      intro hk
      have h1 := hr (k + 1) hk (by omega)
      simp only [rise, Bool.and_eq_true, Nat.add_sub_cancel] at h1
      have ma := mass_at hA (show k + 1 < a.length by omega)
      have mb := mass_at hA (show k < a.length by omega)
      have h2 := nn_gt (nn_mass ma) (nn_mass mb) (fin_mass ma) (fin_mass mb) h1.1
      have h3 := ih (by omega)
      omega
  exact key _ (by omega)
theorem R_later (a b : List Nat) (x i n t : Nat) (hv : lakeB a b = true) (hx : isN .f32 x = false) : ∃ o : Nat, ∃ p : Nat × Nat, sl05Store a b x i n t = some p.1 ∧ iLake_out a b x = some o ∧ sl05Out a b x = some o ∧
    ihalve_iStepLake_1 (a.getD (Int.toNat 0) 0) (a.getD (a.length - 1) 0) (fmul .f32 1056964608 t) a b (fadd .f32 (fsub .f32 x (fmul .f32 (fmul .f32 1056964608 t) o)) (fmul .f32 (fmul .f32 1056964608 t) (fadd .f32 i n))) = some p ∧ isN .f32 p.1 = false ∧ (isFin .f32 p.1 = true → holdsB a b p.1 = true) := by
  obtain ⟨o, o1, o2⟩ := R_out a b x hv hx
  obtain ⟨z1, z2, z3⟩ := ends a b hv
  obtain ⟨hn1, hn2, hb, hA, hB⟩ := lake_parts hv
  have m0 := mass_at hA (show 0 < a.length by omega)
  have m1 := mass_at hA (show a.length - 1 < a.length by omega)
  have hJ : inJ (mg .f32 (a.getD 0 0)) (mg .f32 (a.getD (a.length - 1) 0)) (a.getD 0 0) (a.getD (a.length - 1) 0) := ⟨fun _ => ⟨Nat.le_refl _, lake_ends hv⟩, fun _ => Nat.le_refl _, fun _ => lake_ends hv⟩
  obtain ⟨p, p1, p2, p3, p4⟩ := R_store a b (fmul .f32 1056964608 t) (fadd .f32 (fsub .f32 x (fmul .f32 (fmul .f32 1056964608 t) o)) (fmul .f32 (fmul .f32 1056964608 t) (fadd .f32 i n))) hv _ _ 40 (a.getD 0 0) (a.getD (a.length - 1) 0) (Nat.le_refl _) (nn_mass m0) (nn_mass m1) hJ
  have p1' : sl05Store_l6 a b (fmul .f32 1056964608 t) (fadd .f32 (fsub .f32 x (fmul .f32 (fmul .f32 1056964608 t) o)) (fmul .f32 (fmul .f32 1056964608 t) (fadd .f32 i n))) (a.getD (Int.toNat 0) 0) (a.getD (a.length - 1) 0) 0 = some p.1 := p1
  have p2' : ihalve_iStepLake_1_l2 (a.getD (Int.toNat 0) 0) (a.getD (a.length - 1) 0) (fmul .f32 1056964608 t) a b (fadd .f32 (fsub .f32 x (fmul .f32 (fmul .f32 1056964608 t) o)) (fmul .f32 (fmul .f32 1056964608 t) (fadd .f32 i n))) 0 = some p := p2
  refine ⟨o, p, ?_, o2, o1, ?_, nn_num p3, fun hf => ?_⟩
  · unfold sl05Store sl05Store_t
    simp only [o1, z1, z2, z3, p1', Int.toNat_natCast, Tr.sem, osome, oget, cond_true]
  · unfold ihalve_iStepLake_1 ihalve_iStepLake_1_t
    simp only [p2', Tr.sem, osome, oget, cond_true]
  · rw [fin_iff] at hf
    have hf := of_decide_eq_true hf
    have hr := p4.1 hf
    unfold holdsB
    rw [hv, (nn_fle (nn_mass m0) p3 (fin_mass m0) hf hr.1).2, (nn_fle p3 (nn_mass m1) hf (fin_mass m1) hr.2).1]; rfl
end Go.Proofs.Ytikmeahdcipanaa
