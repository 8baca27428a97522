/- Bounds by powers of two: how great what is written and read back is. -/
import Derived.Test.YtpglfnkkmafhbaaMa
set_option linter.unusedVariables false
set_option linter.unusedSimpArgs false
namespace Go.Proofs.Ytpglfnkkmafhbaa
open Go.RowKit
open Ieee

/-- Less than two to the power of K + 1 in magnitude, and a number. -/
def Small (K : Int) : Datum → Prop
  | .number _ m e => m = 0 ∨ (m.log2 : Int) + e ≤ K
  | _ => False
theorem Small.mono {K L : Int} {d : Datum} (h : Small K d) (hk : K ≤ L) : Small L d := by
  cases d with
  | number s m e => rcases h with h | h; exact .inl h; exact .inr (by omega)
  | infinity => exact h
  | nan => exact h
theorem val_mono {B r q : Nat} (hB : 0 < B) (h : r ≤ q) : val B r ≤ val B q := by
  by_cases hq : q < B
  · unfold val; rw [if_pos hq, if_pos (by omega)]; exact h
  · by_cases hr : r < B
    · have e : val B r = r := if_pos hr
      rw [e]; unfold val; rw [if_neg hq]
      have := Nat.le_mul_of_pos_right (B + q % B) (Nat.two_pow_pos (q / B - 1))
      have := Nat.le_add_right B (q % B)
      omega
    · unfold val; rw [if_neg hq, if_neg hr]
      have p1 : 1 ≤ r / B := (Nat.one_le_div_iff hB).2 (by omega)
      have hd : r / B ≤ q / B := Nat.div_le_div_right h
      rcases Nat.lt_or_ge (r / B) (q / B) with hlt | hge
      · have h1 : (B + r % B) * 2 ^ (r / B - 1) ≤ (2 * B) * 2 ^ (r / B - 1) := Nat.mul_le_mul_right _ (by have := Nat.mod_lt r hB; omega)
        have h2 : (2 * B) * 2 ^ (r / B - 1) = B * 2 ^ (r / B) := by
          rw [Nat.mul_comm 2 B, Nat.mul_assoc, show (2 : Nat) * 2 ^ (r / B - 1) = 2 ^ (r / B) from by rw [Nat.mul_comm, ← Nat.pow_succ]; congr 1; omega]
        have h3 : B * 2 ^ (r / B) ≤ B * 2 ^ (q / B - 1) := Nat.mul_le_mul_left _ (Nat.pow_le_pow_right (by omega) (by omega))
        have h4 : B * 2 ^ (q / B - 1) ≤ (B + q % B) * 2 ^ (q / B - 1) := Nat.mul_le_mul_right _ (by omega)
        omega
      · have e : r / B = q / B := by omega
        rw [e]
        refine Nat.mul_le_mul_right _ ?_
        have d1 := Nat.div_add_mod r B
        have d2 := Nat.div_add_mod q B
        rw [e] at d1
        omega
theorem cut_le (s : Bool) (n drop t : Nat) (h : n < 2 ^ (t + drop)) : Toward.even.cut s n drop ≤ 2 ^ t := by
  unfold Toward.cut
  dsimp only
  generalize hg : 1 <<< min drop (n.log2 + 2) = gap
  have hgap : gap = 2 ^ min drop (n.log2 + 2) := by rw [← hg, Nat.one_shiftLeft]
  have hlow : n / gap < 2 ^ t := by
    rw [hgap, Nat.div_lt_iff_lt_mul (Nat.two_pow_pos _), ← Nat.pow_add]
    rcases Nat.le_total drop (n.log2 + 2) with h' | h'
    · rw [Nat.min_eq_left h']; exact h
    · rw [Nat.min_eq_right h']
      exact Nat.lt_of_lt_of_le Nat.lt_log2_self (Nat.pow_le_pow_right (by omega) (by omega))
  have : ∀ b : Bool, b.toNat ≤ 1 := fun b => by cases b <;> decide
  have := this (decide (gap < 2 * (n % gap)) || gap == 2 * (n % gap) && n / gap % 2 == 1)
  omega
/-- The last place that is kept, and how much is kept there. -/
theorem kept_le (f : Format) (s : Bool) (m : Nat) (p : Int) (last : Int) (hlast : p + m.log2 - f.fractionBits ≤ last) : Toward.even.cut s (m <<< (p - last).toNat) (last - p).toNat ≤ 2 * f.binade := by
  have h2 : 2 * f.binade = 2 ^ (f.fractionBits + 1) := by unfold Format.binade; rw [Nat.pow_succ, Nat.mul_comm]
  rw [h2]
  apply cut_le
  rw [Nat.shiftLeft_eq]
  have h3 : m < 2 ^ (m.log2 + 1) := Nat.lt_log2_self
  rcases Int.le_total p last with hp | hp
  · rw [show (p - last).toNat = 0 from by omega, Nat.pow_zero, Nat.mul_one]
    exact Nat.lt_of_lt_of_le h3 (Nat.pow_le_pow_right (by omega) (by omega))
  · rw [show (last - p).toNat = 0 from by omega, Nat.add_zero]
    calc m * 2 ^ (p - last).toNat < 2 ^ (m.log2 + 1) * 2 ^ (p - last).toNat := Nat.mul_lt_mul_of_pos_right h3 (Nat.two_pow_pos _)
      _ = 2 ^ (m.log2 + 1 + (p - last).toNat) := (Nat.pow_add ..).symm
      _ ≤ 2 ^ (f.fractionBits + 1) := Nat.pow_le_pow_right (by omega) (by omega)
/-- The rung of what is written. -/
theorem rung_le (f : Format) (s : Bool) (m : Nat) (p K : Int) (h : m = 0 ∨ (m.log2 : Int) + p ≤ K) (hK : f.leastPlace ≤ K - f.fractionBits) :
    ∃ g, f.nearest s m p = f.word s (min g f.infRung) ∧ g ≤ ((K - f.fractionBits - f.leastPlace).toNat + 2) * f.binade := by
  unfold Format.nearest
  by_cases hm : m = 0
  · rw [if_pos hm]
    exact ⟨0, by rw [Nat.min_eq_left (Nat.zero_le _)], Nat.zero_le _⟩
  · rw [if_neg hm]
    refine ⟨_, rfl, ?_⟩
    have h := h.resolve_left hm
    generalize hl : max (p + m.log2 - f.fractionBits) f.leastPlace = last
    have hle : last ≤ K - f.fractionBits := by rw [← hl]; omega
    have hk := kept_le f s m p last (by rw [← hl]; omega)
    have h1 : (last - f.leastPlace).toNat ≤ (K - f.fractionBits - f.leastPlace).toNat := by omega
    have h2 := Nat.mul_le_mul_right f.binade h1
    rw [Nat.add_mul]
    omega
theorem word_mod (f : Format) (s : Bool) (g : Nat) (h : g < f.signWeight) : f.word s g % f.signWeight = g := by
  unfold Format.word; split
  · rw [Nat.add_mod_left]; exact Nat.mod_eq_of_lt h
  · exact Nat.mod_eq_of_lt h
theorem read_finite {f : Format} {c : Nat} (h : c % f.signWeight < f.infRung) : ∃ s m e, f.read c = .number s m e := by
  unfold Format.read
  dsimp only
  split
  · exact ⟨_, _, _, rfl⟩
  · first | exact ⟨_, _, _, rfl⟩ | (rw [if_pos h]; exact ⟨_, _, _, rfl⟩)
/-- A small number is written as a number that is not much greater. -/
theorem write_small (f : Format) (hb : f.binade ≤ f.infRung) (s : Bool) (m : Nat) (p K : Int) (h : m = 0 ∨ (m.log2 : Int) + p ≤ K) (hK : f.leastPlace ≤ K - f.fractionBits)
    (hfit : ((K - f.fractionBits - f.leastPlace).toNat + 2) * f.binade < f.infRung) : Small (K + 1) (f.read (f.nearest s m p)) := by
  obtain ⟨g, e, hg⟩ := rung_le f s m p K h hK
  have hi := f.infRung_lt
  have hBpos : 0 < f.binade := Nat.two_pow_pos _
  rw [e, Nat.min_eq_left (by omega)]
  have hmod := word_mod f s g (by omega)
  obtain ⟨s', m', e', hr⟩ := read_finite (f := f) (c := f.word s g) (by rw [hmod]; omega)
  obtain ⟨l1, v1, _⟩ := read_val hb hr
  rw [hr]
  by_cases hm0 : m' = 0
  · exact .inl hm0
  refine .inr ?_
  rw [hmod] at v1
  have hv := val_mono hBpos hg
  have hv2 : val f.binade (((K - f.fractionBits - f.leastPlace).toNat + 2) * f.binade) = f.binade * 2 ^ ((K - f.fractionBits - f.leastPlace).toNat + 1) := by
    unfold val
    rw [if_neg (by have := Nat.le_mul_of_pos_left f.binade (show 0 < (K - f.fractionBits - f.leastPlace).toNat + 2 by omega); omega), Nat.mul_mod_left, Nat.mul_div_cancel _ hBpos]
    congr 1
  have hlog : m' * 2 ^ (e' - f.leastPlace).toNat ≤ 2 ^ (f.fractionBits + ((K - f.fractionBits - f.leastPlace).toNat + 1)) := by
    rw [v1, Nat.pow_add]
    have : f.binade = 2 ^ f.fractionBits := rfl
    rw [← this, ← hv2]; exact hv
  have h3 : 2 ^ m'.log2 ≤ m' := Nat.log2_self_le hm0
  have h4 : 2 ^ (m'.log2 + (e' - f.leastPlace).toNat) ≤ 2 ^ (f.fractionBits + ((K - f.fractionBits - f.leastPlace).toNat + 1)) := by
    rw [Nat.pow_add]
    exact Nat.le_trans (Nat.mul_le_mul_right _ h3) hlog
  have h5 := (Nat.pow_le_pow_iff_right (by omega)).1 h4
  omega
theorem small_enc64 {d : Datum} {K : Int} (h : Small K d) (h1 : -1022 ≤ K) (h2 : K ≤ 1000) : Small (K + 1) (FloatKind.f64.decode (FloatKind.f64.encode d)) := by
  have e1 : Ieee.double.leastPlace = -1074 := by decide +kernel
  have e2 : Ieee.double.binade = 4503599627370496 := by decide +kernel
  have e3 : Ieee.double.infRung = 2047 * 4503599627370496 := by decide +kernel
  have e4 : (Ieee.double.fractionBits : Int) = 52 := by decide
  cases d with
  | number s m e =>
    refine write_small Ieee.double (by rw [e2, e3]; omega) s m e K h (by rw [e1, e4]; omega) ?_
    rw [e1, e2, e3, e4]
    exact Nat.mul_lt_mul_of_pos_right (by omega) (by omega)
  | infinity => exact h.elim
  | nan => exact h.elim
theorem small_enc32 {d : Datum} {K : Int} (h : Small K d) (h1 : -126 ≤ K) (h2 : K ≤ 126) : Small (K + 1) (FloatKind.f32.decode (FloatKind.f32.encode d)) := by
  have e1 : Ieee.single.leastPlace = -149 := by decide +kernel
  have e2 : Ieee.single.binade = 8388608 := by decide +kernel
  have e3 : Ieee.single.infRung = 255 * 8388608 := by decide +kernel
  have e4 : (Ieee.single.fractionBits : Int) = 23 := by decide
  cases d with
  | number s m e =>
    refine write_small Ieee.single (by rw [e2, e3]; omega) s m e K h (by rw [e1, e4]; omega) ?_
    rw [e1, e2, e3, e4]
    exact Nat.mul_lt_mul_of_pos_right (by omega) (by omega)
  | infinity => exact h.elim
  | nan => exact h.elim
theorem fover_small {c : Nat} (h : Small 126 (FloatKind.f64.decode c)) : fover c = false := by
  unfold fover
  cases hd : FloatKind.f64.decode c with
  | number s m e =>
    rw [hd] at h
    have := small_enc32 h (by omega) (by omega)
    simp only
    cases hr : FloatKind.f32.decode (FloatKind.f32.encode (.number s m e)) with
    | number => rfl
    | infinity => rw [hr] at this; exact this.elim
    | nan => rfl
  | infinity => rfl
  | nan => rfl
theorem fover_not {c : Nat} (h : isFin .f64 c = false) : fover c = false := by
  unfold isFin at h
  unfold fover
  show (match FloatKind.f64.format.read c with | .number s m e => _ | _ => false) = false
  cases hd : FloatKind.f64.format.read c with
  | number s m e => rw [hd] at h; cases h
  | infinity => rfl
  | nan => rfl
theorem read_small32 {c : Nat} {s : Bool} {m : Nat} {e : Int} (h : FloatKind.f32.format.read c = .number s m e) : Small 127 (.number s m e) := by
  unfold FloatKind.format Format.read at h
  simp only [show Ieee.single.signWeight = 2147483648 from by decide +kernel, show Ieee.single.binade = 8388608 from by decide +kernel, show Ieee.single.infRung = 2139095040 from by decide +kernel, show Ieee.single.leastPlace = -149 from by decide +kernel] at h
  by_cases hm : m = 0
  · exact .inl hm
  refine .inr ?_
  have hl : m < 2 ^ 24 := by
    split at h
    · injection h with h1 h2 h3; omega
    · split at h
      · injection h with h1 h2 h3; omega
      · split at h <;> cases h
  have hl2 := (Nat.log2_lt hm).2 hl
  split at h
  · injection h with h1 h2 h3; omega
  · split at h
    · injection h with h1 h2 h3; omega
    · split at h <;> cases h
theorem rootFrom_sq (n : Nat) : ∀ (t r : Nat), r * r ≤ n → Datum.rootFrom n t r * Datum.rootFrom n t r ≤ n
  | 0, r, h => h
  | t + 1, r, h => by
    unfold Datum.rootFrom
    dsimp only
    split
    · rename_i h'; exact rootFrom_sq n t _ h'
    · exact rootFrom_sq n t r h
theorem log2_le_of {a k : Nat} (h : a < 2 ^ (k + 1)) : a.log2 ≤ k := by
  by_cases ha : a = 0
  · subst ha; simp
  · have := (Nat.log2_lt ha).2 h; omega
theorem root_small {d r : Datum} {g : Nat} {K : Int} (h : Small K d) (hr : d.root g = some r) : Small (K / 2 + 1) r := by
  cases d with
  | infinity => exact h.elim
  | nan => exact h.elim
  | number s m i =>
    simp only [Datum.root] at hr
    split at hr
    · rename_i h0; cases hr; exact .inl h0
    · rename_i h0
      split at hr
      · cases hr
      · cases hr
        have h := h.resolve_left h0
        right
        generalize hmore : 2 * g - m.log2 + ((i - ((2 * g - m.log2 : Nat) : Int)) % 2).toNat = more
        have hev : (i - (more : Int)) % 2 = 0 := by rw [← hmore]; omega
        generalize hn : m <<< more = n
        generalize hw : Datum.rootFrom n (n.log2 / 2 + 1) 0 = whole
        have hsq : whole * whole ≤ n := by rw [← hw]; exact rootFrom_sq n _ 0 (Nat.zero_le _)
        have hnl : n < 2 ^ (m.log2 + more + 1) := by
          rw [← hn, Nat.shiftLeft_eq]
          calc m * 2 ^ more < 2 ^ (m.log2 + 1) * 2 ^ more := Nat.mul_lt_mul_of_pos_right Nat.lt_log2_self (Nat.two_pow_pos _)
            _ = 2 ^ (m.log2 + more + 1) := by rw [← Nat.pow_add]; congr 1; omega
        have hwl : whole < 2 ^ ((m.log2 + more) / 2 + 1) := by
          rcases Nat.lt_or_ge whole (2 ^ ((m.log2 + more) / 2 + 1)) with h' | h'
          · exact h'
          · exfalso
            have h1 : 2 ^ ((m.log2 + more) / 2 + 1) * 2 ^ ((m.log2 + more) / 2 + 1) ≤ whole * whole := Nat.mul_le_mul h' h'
            rw [← Nat.pow_add] at h1
            have h2 : 2 ^ (m.log2 + more + 1) ≤ 2 ^ ((m.log2 + more) / 2 + 1 + ((m.log2 + more) / 2 + 1)) := Nat.pow_le_pow_right (by omega) (by omega)
            omega
        have hb : ∀ b : Bool, b.toNat ≤ 1 := fun b => by cases b <;> decide
        have h2w : 2 * whole + (whole * whole != n).toNat < 2 ^ ((m.log2 + more) / 2 + 1 + 1) := by
          have := hb (whole * whole != n)
          rw [Nat.pow_succ]; omega
        have hlg := log2_le_of h2w
        have hlg' : ((2 * whole + (whole * whole != n).toNat).log2 : Int) ≤ ((m.log2 + more) / 2 + 1 : Nat) := by exact_mod_cast hlg
        omega
/-- The root of a 32-bit number can be narrowed. -/
theorem fover_root (c : Nat) : fover (fsqrt .f64 (fup c)) = false := by
  unfold fsqrt Format.sqrt
  cases hfin : isFin .f32 c with
  | false =>
    have h64 : isFin .f64 (fup c) = false := by rw [fin_up, hfin]
    unfold isFin at h64
    cases hd : FloatKind.f64.format.read (fup c) with
    | number => rw [hd] at h64; cases h64
    | nan s t => simp only [Datum.root, Option.map_none, Option.getD_none]; exact by decide +kernel
    | infinity s => cases s <;> simp only [Datum.root] <;> decide +kernel
  | true =>
    unfold isFin at hfin
    cases hd : FloatKind.f32.format.read c with
    | nan s t => rw [hd] at hfin; cases hfin
    | infinity s => rw [hd] at hfin; cases hfin
    | number s m e =>
      have hn : isN .f32 c = false := by unfold isN; rw [hd]; rfl
      have hup : fup c = FloatKind.f64.encode (.number s m e) := by
        unfold fup
        rw [if_neg (by rw [hn]; decide), show FloatKind.f32.decode c = .number s m e from hd]
      have h1 := small_enc64 (read_small32 hd) (by omega) (by omega)
      rw [hup]
      cases hr : (FloatKind.f64.format.read (FloatKind.f64.encode (.number s m e))).root (FloatKind.f64.format.fractionBits + 2) with
      | none => simp only [Option.map_none, Option.getD_none]; exact by decide +kernel
      | some r =>
        have h2 := root_small (show Small 128 (FloatKind.f64.format.read (FloatKind.f64.encode (.number s m e))) from h1) hr
        simp only [Option.map_some, Option.getD_some]
        exact fover_small ((small_enc64 h2 (by omega) (by omega)).mono (by omega))
/-- The root of a 32-bit number, narrowed. -/
def froot (c : Nat) : Nat := fdown (fsqrt .f64 (fup c))
end Go.Proofs.Ytpglfnkkmafhbaa
