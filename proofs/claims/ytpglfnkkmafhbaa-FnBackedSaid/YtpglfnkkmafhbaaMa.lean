/- Plain facts on words: finite ones, equal ones, the sign. No program is in sight. -/
import Derived.Test.YtpglfnkkmafhbaaRl
import Derived.Laws.BitsAllLaws
set_option linter.unusedVariables false
set_option linter.unusedSimpArgs false
namespace Go.Proofs.Ytpglfnkkmafhbaa
open Go.RowKit

def isFin (k : FloatKind) (c : Nat) : Bool := match k.format.read c with
  | .number .. => true
  | _ => false
def isInf (k : FloatKind) (c : Nat) : Bool := (k.format.read c).isInfinity
theorem fin_not (k : FloatKind) (c : Nat) : isFin k c = (!isN k c && !isInf k c) := by
  unfold isFin isN isInf
  cases k.format.read c <;> rfl
theorem signed_neg (s : Bool) (m u : Nat) : Ieee.signed s m u + Ieee.signed (!s) m u = 0 := by
  cases s <;> simp [Ieee.signed] <;> omega
theorem cmp_int (a b : Int) : compare a b = if a < b then .lt else if a = b then .eq else .gt := rfl
theorem cmp_self (a : Int) : compare a a = .eq := by rw [cmp_int, if_neg (by omega), if_pos rfl]
theorem sw_pos (f : Ieee.Format) : 0 < f.signWeight := Nat.two_pow_pos _
theorem order_self {d : Ieee.Datum} (h : d.isNaN = false) : d.order d = some .eq := by
  cases d with
  | nan => cases h
  | infinity s => simp only [Ieee.Datum.order]; cases s <;> rfl
  | number s m e => simp only [Ieee.Datum.order]; rw [cmp_self]
theorem feq_self (k : FloatKind) (c : Nat) : feq k c c = !isN k c := by
  unfold feq Ieee.Format.order isN
  cases h : (k.format.read c).isNaN with
  | true => rw [order_nan_l h]; rfl
  | false => rw [order_self h]; rfl
theorem write_zero (k : FloatKind) (e : Int) : k.format.write (.number false 0 e) = 0 := by
  show k.format.nearest false 0 e = 0
  unfold Ieee.Format.nearest; rw [if_pos rfl]; rfl
theorem feq_zero (k : FloatKind) : feq k 0 0 = true := by cases k <;> decide +kernel
theorem feq_nan_zero (k : FloatKind) : feq k (nanOf k) 0 = false := by cases k <;> decide +kernel
theorem fin_sub (k : FloatKind) (c : Nat) : feq k (fsub k c c) 0 = isFin k c := by
  unfold fsub Ieee.Format.sub isFin
  cases h : k.format.read c with
  | nan s t => simp only [Ieee.Datum.sum, Option.map_none, Option.getD_none]; exact feq_nan_zero k
  | infinity s =>
    simp only [Ieee.Datum.opposite, Ieee.Datum.sum]
    rw [if_neg (by cases s <;> decide)]
    exact feq_nan_zero k
  | number s m e =>
    simp only [Ieee.Datum.opposite, Ieee.Datum.sum, signed_neg, Option.map_some, Option.getD_some, if_true, Int.natAbs_zero]
    rw [show (s && !s) = false from by cases s <;> rfl, write_zero]
    exact feq_zero k
theorem isN_rung (k : FloatKind) (c : Nat) : isN k (c % k.format.signWeight) = isN k c := by
  have e : c % k.format.signWeight % k.format.signWeight = c % k.format.signWeight := Nat.mod_mod _ _
  unfold isN Ieee.Format.read
  simp only [e]
  split
  · rfl
  · split
    · rfl
    · split <;> rfl
theorem isInf_rung (k : FloatKind) (c : Nat) : isInf k (c % k.format.signWeight) = isInf k c := by
  have e : c % k.format.signWeight % k.format.signWeight = c % k.format.signWeight := Nat.mod_mod _ _
  unfold isInf Ieee.Format.read
  simp only [e]
  split
  · rfl
  · split
    · rfl
    · split <;> rfl
/-- The absolute value. -/
def fabs (k : FloatKind) (c : Nat) : Nat := cn k (c % k.format.signWeight)
theorem read_max64 : FloatKind.f64.format.read 9218868437227405311 = .number false 9007199254740991 971 := by decide +kernel
theorem read_bounds64 {c : Nat} {s : Bool} {m : Nat} {e : Int} (h : FloatKind.f64.format.read c = .number s m e) : m ≤ 9007199254740991 ∧ e ≤ 971 := by
  unfold FloatKind.format Ieee.Format.read at h
  simp only [show Ieee.double.signWeight = 9223372036854775808 from by decide +kernel, show Ieee.double.binade = 4503599627370496 from by decide +kernel, show Ieee.double.infRung = 9218868437227405312 from by decide +kernel, show Ieee.double.leastPlace = -1074 from by decide +kernel] at h
  split at h
  · injection h with h1 h2 h3; omega
  · split at h
    · injection h with h1 h2 h3; omega
    · split at h <;> cases h
theorem signed_le (s : Bool) (m u : Nat) : Ieee.signed s m u ≤ (m <<< u : Nat) := by
  unfold Ieee.signed; generalize m <<< u = x; split <;> omega
theorem fgt_max64 (c : Nat) (hp : c / FloatKind.f64.format.signWeight % 2 = 0) : fgt .f64 c 9218868437227405311 = isInf .f64 c := by
  unfold fgt Ieee.Format.order isInf
  rw [read_max64]
  cases h : FloatKind.f64.format.read c with
  | nan s t => rfl
  | infinity s =>
    have hs : s = false := by
      unfold Ieee.Format.read at h
      simp only [hp] at h
      split at h
      · cases h
      · split at h
        · cases h
        · split at h
          · injection h with h; rw [← h]; rfl
          · cases h
    subst hs; rfl
  | number s m e =>
    obtain ⟨h1, h2⟩ := read_bounds64 h
    simp only [Ieee.Datum.order]
    rw [show min e 971 = e from by omega, show (e - e).toNat = 0 from by omega]
    have h3 := signed_le s m 0
    have h4 : Ieee.signed false 9007199254740991 (971 - e).toNat = ((9007199254740991 <<< (971 - e).toNat : Nat) : Int) := rfl
    have h5 : 9007199254740991 ≤ 9007199254740991 <<< (971 - e).toNat := by rw [Nat.shiftLeft_eq]; exact Nat.le_mul_of_pos_right _ (Nat.two_pow_pos _)
    have h6 : m <<< 0 = m := rfl
    have h7 : Ieee.signed s m 0 ≤ Ieee.signed false 9007199254740991 (971 - e).toNat := by rw [h4]; omega
    show ((some (compare (Ieee.signed s m 0) (Ieee.signed false 9007199254740991 (971 - e).toNat)) == some Ordering.gt)) = false
    have h8 : compare (Ieee.signed s m 0) (Ieee.signed false 9007199254740991 (971 - e).toNat) ≠ .gt := by
      intro hg
      rw [cmp_int] at hg
      split at hg
      · cases hg
      · split at hg
        · cases hg
        · omega
    revert h8
    generalize compare (Ieee.signed s m 0) (Ieee.signed false 9007199254740991 (971 - e).toNat) = o
    cases o <;> simp <;> rfl
theorem rung_sign (k : FloatKind) (c : Nat) : c % k.format.signWeight / k.format.signWeight % 2 = 0 := by
  rw [Nat.div_eq_of_lt (Nat.mod_lt _ (sw_pos _))]
/-- What math.IsInf asks. -/
theorem fgt_abs (c : Nat) : fgt .f64 (fabs .f64 c) 9218868437227405311 = isInf .f64 c := by
  rw [← isInf_rung]
  have e : fgt .f64 (fabs .f64 c) (cn .f64 9218868437227405311) = fgt .f64 (c % FloatKind.f64.format.signWeight) 9218868437227405311 := fgt_cn ..
  rw [show cn .f64 9218868437227405311 = 9218868437227405311 from by decide +kernel] at e
  rw [e]
  exact fgt_max64 _ (rung_sign .f64 c)
theorem isN_encode (k : FloatKind) (d : Ieee.Datum) (h : d.isNaN = false) : isN k (k.encode d) = false := encode_num k d h
theorem isInf_word (f : Ieee.Format) (hb : f.binade ≤ f.infRung) (s : Bool) : f.read (f.word s f.infRung) = .infinity s := by
  have hi := f.infRung_lt
  have e : f.word s f.infRung % f.signWeight = f.infRung := by
    unfold Ieee.Format.word; split
    · rw [Nat.add_mod_left]; exact Nat.mod_eq_of_lt hi
    · exact Nat.mod_eq_of_lt hi
  have e2 : (f.word s f.infRung / f.signWeight % 2 == 1) = s := by
    have hp : 0 < f.signWeight := by omega
    unfold Ieee.Format.word
    cases s with
    | true => rw [if_pos rfl, Nat.add_div_left _ hp, Nat.div_eq_of_lt hi]; rfl
    | false => rw [if_neg (by decide), Nat.div_eq_of_lt hi]; rfl
  unfold Ieee.Format.read
  simp only [e, e2]
  rw [if_neg (by omega), if_neg (Nat.lt_irrefl _)]
  rfl
/-- A number that becomes wider stays as finite as it was. -/
theorem fin_up (c : Nat) : isFin .f64 (fup c) = isFin .f32 c := by
  unfold fup
  cases h : FloatKind.f32.format.read c with
  | nan s t =>
    have hn : isN .f32 c = true := by unfold isN; rw [h]; rfl
    rw [if_pos hn]
    rw [show isFin .f64 (nanOf .f64) = false from by decide +kernel]
    unfold isFin
    rw [h]
  | infinity s =>
    have hn : isN .f32 c = false := by unfold isN; rw [h]; rfl
    have e : FloatKind.f64.format.read (FloatKind.f64.encode (.infinity s)) = .infinity s := isInf_word _ (by decide +kernel) s
    rw [if_neg (by rw [hn]; decide), show FloatKind.f32.decode c = .infinity s from h]
    unfold isFin
    rw [e, h]
  | number s m e =>
    have hn : isN .f32 c = false := by unfold isN; rw [h]; rfl
    have h1 : isN .f64 (FloatKind.f64.encode (.number s m e)) = false := encode_num .f64 _ rfl
    have h2 : isInf .f64 (FloatKind.f64.encode (.number s m e)) = false := up_num s m e c h
    rw [if_neg (by rw [hn]; decide), show FloatKind.f32.decode c = .number s m e from h, fin_not, h1, h2]
    unfold isFin
    rw [h]; rfl
/-- A 64-bit word without its sign. -/
def rung63 (x : Nat) : Nat := x % 9223372036854775808
theorem abs_fl {x c : Nat} (h : Fl .f64 x c) : Fl .f64 (rung63 x) (fabs .f64 c) := by
  have hs : FloatKind.f64.format.signWeight = 9223372036854775808 := by decide +kernel
  unfold rung63
  refine ⟨?_, Nat.lt_trans (Nat.mod_lt _ (by omega)) (by decide)⟩
  unfold fabs
  rw [← h.out, hs]
  cases hn : isN .f64 x with
  | true =>
    have e1 : isN .f64 (x % 9223372036854775808) = true := by rw [← hs, isN_rung, hn]
    have e2 : isN .f64 (cn .f64 x % 9223372036854775808) = true := by rw [← hs, isN_rung, isN_cn, hn]
    rw [cn_nan e1, cn_nan e2]
  | false => rw [cn_num hn]
theorem andNot_sign (x : Nat) (h : x < 2 ^ FloatKind.f64.format.width) : bits .andNot .u64 (x : Int) 9223372036854775808 = ((rung63 x : Nat) : Int) := by
  have h' : x < 18446744073709551616 := h
  rw [u64_andNot x 9223372036854775808 (by omega) (by omega) (by omega) (by omega)]
  rw [Int.toNat_natCast, show (18446744073709551615 - (9223372036854775808 : Int).toNat) = 9223372036854775807 from by decide]
  unfold rung63
  rw [Nat.and_two_pow_sub_one_eq_mod x 63]
section
variable {P : Program} {ops : Array Oper} {rest : List Oper} {o : Oper} {a : Act} {w : World} {Q : Exit → Act → World → Prop}
/-- math.Abs takes the sign bit off. -/
theorem wpList_unsign (hg : Region.wanted o (yielded ops a.tmps) = true) (t ty : TypeId) (x : Operand) (z : Int) (ho : o.op = .binOp .andNot t x (.const (.int .u64 z)) ty) (u : Nat) (hx : a.eval x = .int .u64 (u : Int)) (hz : z = 9223372036854775808)
    (hu : u < 2 ^ FloatKind.f64.format.width) (h : wpList P ops Q rest (a.put o.dst (.int .u64 (rung63 u : Int))) w) : wpList P ops Q (o :: rest) a w := by
  refine wpList_val hg _ w ?_ h
  unfold execOp
  rw [ho]
  subst hz
  simp only [hx, show ∀ v, a.eval (.const v) = v from fun _ => rfl, eqGuard_andNot, binOp_andNot, intBits_andNot, andNot_sign u hu]
  rfl
end
theorem isN_fabs (k : FloatKind) (c : Nat) : isN k (fabs k c) = isN k c := by
  unfold fabs; rw [isN_cn, isN_rung]
/-- A length: finite, greater than 0. A mass: finite, at least 0. -/
def isLen (c : Nat) : Bool := isFin .f32 c && fgt .f32 c 0
def isMass (c : Nat) : Bool := isFin .f32 c && fge .f32 c 0
/-- A number, if it is finite. -/
def num32 (c : Nat) : Nat × Bool := if isFin .f32 c = true then (c, true) else (0, false)
theorem canon_nan {c x : Nat} (h : Fl .f32 x c) (hn : isN .f32 c = true) : c = 2143289344 := by
  have : isN .f32 x = true := by rw [← isN_cn, h.out, hn]
  rw [← h.out, cn_nan this]; rfl
theorem canon_num {k : FloatKind} {c x : Nat} (h : Fl k x c) (hn : isN k c = false) : x = c := by
  have : isN k x = false := by rw [← isN_cn, h.out, hn]
  rw [← h.out, cn_num this]
theorem fabs_nonan (k : FloatKind) (c : Nat) (h : isN k c = false) : fabs k c = c % k.format.signWeight := cn_num (by rw [isN_rung, h])

/-! ### Equal words -/
/-- The sign bit. -/
def sgn (k : FloatKind) (c : Nat) : Bool := c / k.format.signWeight % 2 == 1
theorem word_sgn (f : Ieee.Format) (s : Bool) (g : Nat) (hg : g < f.signWeight) : (f.word s g / f.signWeight % 2 == 1) = s := by
  have hp := sw_pos f
  unfold Ieee.Format.word
  cases s with
  | true => rw [if_pos rfl, Nat.add_div_left _ hp, Nat.div_eq_of_lt hg]; rfl
  | false => rw [if_neg (by decide), Nat.div_eq_of_lt hg]; rfl
theorem encode_sgn (k : FloatKind) (d : Ieee.Datum) (h : d.isNaN = false) : sgn k (k.encode d) = d.neg := by
  have hi := k.format.infRung_lt
  unfold sgn FloatKind.encode Ieee.Format.write
  cases d with
  | nan => cases h
  | infinity s => exact word_sgn _ s _ hi
  | number s m e =>
    simp only [Ieee.Datum.neg]
    unfold Ieee.Format.nearest
    split
    · exact word_sgn _ s _ (sw_pos _)
    · exact word_sgn _ s _ (Nat.lt_of_le_of_lt (Nat.min_le_right _ _) hi)
theorem read_neg (k : FloatKind) (c : Nat) (h : isN k c = false) : (k.format.read c).neg = sgn k c := by
  unfold isN at h
  unfold sgn
  revert h
  unfold Ieee.Format.read
  dsimp only
  split
  · intro _; rfl
  · split
    · intro _; rfl
    · split
      · intro _; rfl
      · intro h; cases h
theorem fup_sgn {c : Nat} (h : isN .f32 c = false) : sgn .f64 (fup c) = sgn .f32 c := by
  unfold fup
  rw [if_neg (by rw [h]; decide), encode_sgn _ _ (show (FloatKind.f32.decode c).isNaN = false from h)]
  exact read_neg .f32 c h
/-- How great the number with a rung is, in units of the last place of all. -/
def val (B r : Nat) : Nat := if r < B then r else (B + r % B) * 2 ^ (r / B - 1)
theorem val_inj {B r q : Nat} (hB : 0 < B) (h : val B r = val B q) : r = q := by
  have key : ∀ r, ¬ r < B → B * 2 ^ (r / B - 1) ≤ val B r ∧ val B r < B * 2 ^ (r / B - 1 + 1) := fun r hr => by
    unfold val
    rw [if_neg hr]
    have := Nat.mod_lt r hB
    have h2 := Nat.two_pow_pos (r / B - 1)
    refine ⟨Nat.mul_le_mul_right _ (by omega), ?_⟩
    rw [Nat.pow_succ, show B * (2 ^ (r / B - 1) * 2) = (B + B) * 2 ^ (r / B - 1) from by rw [Nat.mul_comm (2 ^ _) 2, ← Nat.mul_assoc]; congr 1; omega]
    exact Nat.mul_lt_mul_of_pos_right (by omega) h2
  by_cases hr : r < B
  · by_cases hq : q < B
    · unfold val at h; rw [if_pos hr, if_pos hq] at h; exact h
    · have := (key q hq).1
      rw [← h] at this
      have e : val B r = r := if_pos hr
      have h2 := Nat.le_mul_of_pos_right B (Nat.two_pow_pos (q / B - 1))
      omega
  · by_cases hq : q < B
    · have := (key r hr).1
      rw [h] at this
      have e : val B q = q := if_pos hq
      have h2 := Nat.le_mul_of_pos_right B (Nat.two_pow_pos (r / B - 1))
      omega
    · have kr := key r hr
      have kq := key q hq
      rw [h] at kr
      have e : r / B - 1 = q / B - 1 := by
        rcases Nat.lt_trichotomy (r / B - 1) (q / B - 1) with hlt | heq | hgt
        · exfalso
          have : B * 2 ^ (r / B - 1 + 1) ≤ B * 2 ^ (q / B - 1) := Nat.mul_le_mul_left _ (Nat.pow_le_pow_right (by omega) (by omega))
          omega
        · exact heq
        · exfalso
          have : B * 2 ^ (q / B - 1 + 1) ≤ B * 2 ^ (r / B - 1) := Nat.mul_le_mul_left _ (Nat.pow_le_pow_right (by omega) (by omega))
          omega
      have e2 : B + r % B = B + q % B := by
        have h' : (B + r % B) * 2 ^ (r / B - 1) = (B + q % B) * 2 ^ (q / B - 1) := by
          have h3 := h
          unfold val at h3; rw [if_neg hr, if_neg hq] at h3; exact h3
        rw [e] at h'
        exact Nat.eq_of_mul_eq_mul_right (Nat.two_pow_pos _) h'
      have d1 := Nat.div_add_mod r B
      have d2 := Nat.div_add_mod q B
      have p1 : 1 ≤ r / B := (Nat.one_le_div_iff hB).2 (by omega)
      have p2 : 1 ≤ q / B := (Nat.one_le_div_iff hB).2 (by omega)
      have e3 : r / B = q / B := by omega
      rw [e3] at d1
      omega
/-- The magnitude that is read is 'val' of the rung. -/
theorem read_val {f : Ieee.Format} (hb : f.binade ≤ f.infRung) {c : Nat} {s : Bool} {m : Nat} {e : Int} (h : f.read c = .number s m e) : f.leastPlace ≤ e ∧ m * 2 ^ (e - f.leastPlace).toNat = val f.binade (c % f.signWeight) ∧ c % f.signWeight < f.infRung := by
  unfold Ieee.Format.read at h
  dsimp only at h
  unfold val
  split at h
  · rename_i hr
    injection h with h1 h2 h3
    rw [if_pos hr, ← h2, ← h3]
    exact ⟨Int.le_refl _, by simp, by omega⟩
  · rename_i hr
    split at h
    · rename_i hi
      injection h with h1 h2 h3
      rw [if_neg hr, ← h2, ← h3]
      refine ⟨by omega, ?_, hi⟩
      congr 2
      omega
    · split at h <;> cases h

theorem binade_le (k : FloatKind) : k.format.binade ≤ k.format.infRung := by cases k <;> decide +kernel
theorem signed_mul (s : Bool) (m u : Nat) : Ieee.signed s m u = if s then -((m * 2 ^ u : Nat) : Int) else ((m * 2 ^ u : Nat) : Int) := by
  unfold Ieee.signed; rw [Nat.shiftLeft_eq]
theorem pow_split {m : Nat} {e b l : Int} (h1 : l ≤ b) (h2 : b ≤ e) : m * 2 ^ (e - l).toNat = m * 2 ^ (e - b).toNat * 2 ^ (b - l).toNat := by
  rw [Nat.mul_assoc, ← Nat.pow_add]
  congr 2
  omega
theorem word_of (k : FloatKind) {c : Nat} (h : c < 2 ^ k.format.width) : c = k.format.word (sgn k c) (c % k.format.signWeight) := by
  have hw : 2 ^ k.format.width = 2 * k.format.signWeight := by cases k <;> decide +kernel
  have hp := sw_pos k.format
  have hd := Nat.div_add_mod c k.format.signWeight
  have hq : c / k.format.signWeight < 2 := by rw [Nat.div_lt_iff_lt_mul hp]; omega
  unfold sgn Ieee.Format.word
  generalize hqq : c / k.format.signWeight = q at *
  have : q = 0 ∨ q = 1 := by omega
  rcases this with rfl | rfl
  · rw [if_neg (by decide)]; omega
  · rw [if_pos (by decide)]; omega
theorem read_inf {k : FloatKind} {c : Nat} {s : Bool} (h : k.format.read c = .infinity s) : c % k.format.signWeight = k.format.infRung := by
  unfold Ieee.Format.read at h
  dsimp only at h
  split at h
  · cases h
  · split at h
    · cases h
    · split at h
      · assumption
      · cases h
/-- Two words of one sign that compare as equal are one word. -/
theorem eq_of_feq {k : FloatKind} {c d : Nat} (hc : c < 2 ^ k.format.width) (hd : d < 2 ^ k.format.width) (hs : sgn k c = sgn k d) (h : feq k c d = true) : c = d := by
  have hr : c % k.format.signWeight = d % k.format.signWeight := by
    have nc : isN k c = false := by
      cases hn : isN k c with
      | false => rfl
      | true => unfold feq Ieee.Format.order at h; rw [order_nan_l hn] at h; cases h
    have nd : isN k d = false := by
      cases hn : isN k d with
      | false => rfl
      | true => unfold feq Ieee.Format.order at h; rw [order_nan_r hn] at h; cases h
    have sc := read_neg k c nc
    have sd := read_neg k d nd
    unfold feq Ieee.Format.order at h
    cases e1 : k.format.read c with
    | nan s t => rw [e1] at h; cases h
    | infinity s =>
      cases e2 : k.format.read d with
      | nan s t => rw [e1, e2] at h; cases h
      | infinity s' => rw [read_inf e1, read_inf e2]
      | number s' m e => rw [e1, e2] at h; cases s <;> cases h
    | number s m e =>
      cases e2 : k.format.read d with
      | nan s t => rw [e1, e2] at h; cases h
      | infinity s' => rw [e1, e2] at h; cases s' <;> cases h
      | number s' m' e' =>
        rw [e1] at sc h
        rw [e2] at sd h
        simp only [Ieee.Datum.neg] at sc sd
        have hss : s = s' := by rw [sc, sd, hs]
        subst hss
        obtain ⟨l1, v1, _⟩ := read_val (binade_le k) e1
        obtain ⟨l2, v2, _⟩ := read_val (binade_le k) e2
        simp only [Ieee.Datum.order] at h
        have hcmp : compare (Ieee.signed s m (e - min e e').toNat) (Ieee.signed s m' (e' - min e e').toNat) = .eq := by
          revert h
          generalize compare (Ieee.signed s m (e - min e e').toNat) (Ieee.signed s m' (e' - min e e').toNat) = o
          cases o <;> simp <;> first | (intro h; cases h) | skip
        rw [cmp_int] at hcmp
        have heq : Ieee.signed s m (e - min e e').toNat = Ieee.signed s m' (e' - min e e').toNat := by
          split at hcmp
          · cases hcmp
          · split at hcmp
            · assumption
            · cases hcmp
        rw [signed_mul, signed_mul] at heq
        have hm : m * 2 ^ (e - min e e').toNat = m' * 2 ^ (e' - min e e').toNat := by
          generalize m * 2 ^ (e - min e e').toNat = x at *
          generalize m' * 2 ^ (e' - min e e').toNat = y at *
          split at heq <;> omega
        apply val_inj (B := k.format.binade) (Nat.two_pow_pos _)
        rw [← v1, ← v2, pow_split (b := min e e') (by omega) (by omega), pow_split (m := m') (e := e') (b := min e e') (by omega) (by omega), hm]
  rw [word_of k hc, word_of k hd, hs, hr]
theorem canon_lt {k : FloatKind} {x c : Nat} (h : Fl k x c) : c < 2 ^ k.format.width := by
  cases hn : isN k x with
  | true => rw [← h.out, cn_nan hn]; cases k <;> decide +kernel
  | false => rw [← h.out, cn_num hn]; exact h.lt
/-- What SameNumber asks, of numbers. -/
theorem same_num {x y c d : Nat} (hx : Fl .f32 x c) (hy : Fl .f32 y d) (nc : isN .f32 c = false) (nd : isN .f32 d = false) : decide (c = d) = (feq .f32 c d && (sgn .f64 (fup c) == sgn .f64 (fup d))) := by
  rw [fup_sgn nc, fup_sgn nd]
  by_cases e : c = d
  · subst e; simp [feq_self, nc]
  · rw [decide_eq_false e]
    cases h : feq .f32 c d with
    | false => rfl
    | true =>
      cases h2 : (sgn .f32 c == sgn .f32 d) with
      | false => rfl
      | true => exact absurd (eq_of_feq (canon_lt hx) (canon_lt hy) (by simpa using h2) h) e
theorem nan_canon {k : FloatKind} {x c : Nat} (hx : Fl k x c) (hn : isN k c = true) : c = nanOf k := by
  have : isN k x = true := by rw [← isN_cn, hx.out, hn]
  rw [← hx.out, cn_nan this]

theorem wrap64_small {x : Nat} (h : x < 2 ^ FloatKind.f32.format.width) : wrap64 (x : Int) = (x : Int) := by
  have h' : x < 4294967296 := h
  unfold wrap64; omega
theorem sgn_wrap {x : Nat} (h : x < 2 ^ FloatKind.f64.format.width) : sgn .f64 x = decide (wrap64 (x : Int) < 0) := by
  have h' : x < 18446744073709551616 := h
  unfold sgn wrap64
  rw [show FloatKind.f64.format.signWeight = 9223372036854775808 from by decide +kernel]
  by_cases hx : x < 9223372036854775808
  · rw [Nat.div_eq_of_lt hx, decide_eq_false (by omega)]; rfl
  · rw [show x / 9223372036854775808 = 1 from by omega, decide_eq_true (by omega)]; rfl

theorem isN_up {c : Nat} (h : isN .f32 c = false) : isN .f64 (fup c) = false := by
  unfold fup
  rw [if_neg (by rw [h]; decide)]
  exact encode_num .f64 _ h

theorem beqInt (a b : Nat) : decide (a = b) = ((a : Int) == (b : Int)) := by
  by_cases h : a = b
  · subst h; simp
  · rw [decide_eq_false h]
    symm
    rw [beq_eq_false_iff_ne]
    omega
end Go.Proofs.Ytpglfnkkmafhbaa
