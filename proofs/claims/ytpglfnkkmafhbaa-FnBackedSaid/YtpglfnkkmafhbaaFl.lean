/- Floats up to the bits of a not-a-number: the canonical word, the operations on canonical words, and the walk's rules for them. -/
import Derived.WalkKit
import Derived.Deep.Draws
import Derived.Deep.QuietTactic
import Derived.BigQuiet
import Derived.KernelRfl
import Derived.Laws.FloatBits
import Derived.Lib.Hide
set_option linter.unusedVariables false
set_option linter.unusedSimpArgs false
namespace Go.Proofs.Ytpglfnkkmafhbaa
open Go.RowKit

@[go_sem] theorem run_store_float (P : Program) (w : World) (a : Addr) (m : Mode) (k : FloatKind) (b : Nat) : (store a (.float k b) m).run P w = stored P w a (.float k b) m := run_store P w a _ m rfl
@[go_sem] theorem run_store_complex (P : Program) (w : World) (a : Addr) (m : Mode) (k : FloatKind) (b c : Nat) : (store a (.complex k b c) m).run P w = stored P w a (.complex k b c) m := run_store P w a _ m rfl
/-- The one word that stands for all not-a-numbers of a kind. -/
def nanOf : FloatKind → Nat
  | .f32 => 2143289344
  | .f64 => 9221120237041090561
def isN (k : FloatKind) (x : Nat) : Bool := (k.format.read x).isNaN
def cn (k : FloatKind) (x : Nat) : Nat := if isN k x then nanOf k else x

theorem isN_nanOf (k : FloatKind) : isN k (nanOf k) = true := by cases k <;> decide +kernel
theorem isN_cn (k : FloatKind) (x : Nat) : isN k (cn k x) = isN k x := by
  cases h : isN k x with
  | true => rw [show cn k x = nanOf k from by simp [cn, h]]; exact isN_nanOf k
  | false => rw [show cn k x = x from by simp [cn, h]]; exact h
theorem cn_cn (k : FloatKind) (x : Nat) : cn k (cn k x) = cn k x := by
  cases h : isN k x with
  | true => rw [show cn k x = nanOf k from by simp [cn, h]]; simp [cn, isN_nanOf]
  | false => rw [show cn k x = x from by simp [cn, h]]; simp [cn, h]
theorem cn_nan {k : FloatKind} {x : Nat} (h : isN k x = true) : cn k x = nanOf k := by simp [cn, h]
theorem cn_num {k : FloatKind} {x : Nat} (h : isN k x = false) : cn k x = x := by simp [cn, h]

/-- 'r' is, up to the bits of a not-a-number, the word 'c'. -/
def Fl (k : FloatKind) (r c : Nat) : Prop := cn k r = c ∧ r < 2 ^ k.format.width
theorem Fl.out {k : FloatKind} {r c : Nat} (h : Fl k r c) : cn k r = c := h.1
theorem Fl.lt {k : FloatKind} {r c : Nat} (h : Fl k r c) : r < 2 ^ k.format.width := h.2

/-! ### The operations on words, a not-a-number being the one word -/
def fadd (k : FloatKind) (x y : Nat) : Nat := (k.format.add x y).getD (nanOf k)
def fsub (k : FloatKind) (x y : Nat) : Nat := (k.format.sub x y).getD (nanOf k)
def fmul (k : FloatKind) (x y : Nat) : Nat := (k.format.mul x y).getD (nanOf k)
def fdiv (k : FloatKind) (x y : Nat) : Nat := (k.format.div x y).getD (nanOf k)
def fsqrt (k : FloatKind) (x : Nat) : Nat := (k.format.sqrt x).getD (nanOf k)
def flt (k : FloatKind) (x y : Nat) : Bool := k.format.order x y == some .lt
def fgt (k : FloatKind) (x y : Nat) : Bool := k.format.order x y == some .gt
def feq (k : FloatKind) (x y : Nat) : Bool := k.format.order x y == some .eq
def fle (k : FloatKind) (x y : Nat) : Bool := k.format.order x y == some .lt || k.format.order x y == some .eq
def fge (k : FloatKind) (x y : Nat) : Bool := k.format.order x y == some .gt || k.format.order x y == some .eq

/-! ### Words of a kind that are written: not a not-a-number unless they say so -/
section
open Ieee
theorem read_nan_of {f : Format} {x : Nat} (h : (f.read x).isNaN = true) : ∃ s t, f.read x = .nan s t := by
  cases hr : f.read x with
  | nan s t => exact ⟨s, t, rfl⟩
  | number s m e => rw [hr] at h; cases h
  | infinity s => rw [hr] at h; cases h

theorem sum_nan_l {x y : Datum} (h : x.isNaN = true) : x.sum y = none := by cases x <;> first | rfl | cases h
theorem sum_nan_r {x y : Datum} (h : y.isNaN = true) : x.sum y = none := by cases x <;> cases y <;> first | rfl | cases h
theorem prod_nan_l {x y : Datum} (h : x.isNaN = true) : x.product y = none := by cases x <;> first | rfl | cases h
theorem prod_nan_r {x y : Datum} (h : y.isNaN = true) : x.product y = none := by cases x <;> cases y <;> first | rfl | cases h
theorem quot_nan_l {d : Nat} {x y : Datum} (h : x.isNaN = true) : x.quotient d y = none := by cases x <;> first | rfl | cases h
theorem quot_nan_r {d : Nat} {x y : Datum} (h : y.isNaN = true) : x.quotient d y = none := by cases x <;> cases y <;> first | rfl | cases h
theorem order_nan_l {x y : Datum} (h : x.isNaN = true) : x.order y = none := by cases x <;> first | rfl | cases h
theorem order_nan_r {x y : Datum} (h : y.isNaN = true) : x.order y = none := by cases x <;> cases y <;> first | rfl | cases h
theorem opp_nan {x : Datum} : x.opposite.isNaN = x.isNaN := by cases x <;> rfl
theorem root_nan {d : Nat} {x : Datum} (h : x.isNaN = true) : x.root d = none := by cases x <;> first | rfl | cases h
end

/-- A function of two words that answers alike for all not-a-numbers. -/
theorem two_cn {α : Type} {k : FloatKind} (f : Nat → Nat → α) (n : α) (hl : ∀ x y, isN k x = true → f x y = n) (hr : ∀ x y, isN k y = true → f x y = n) (x y : Nat) : f (cn k x) (cn k y) = f x y := by
  cases hx : isN k x with
  | true => rw [hl x y hx, hl _ _ (by rw [isN_cn, hx])]
  | false =>
    rw [cn_num hx]
    cases hy : isN k y with
    | true => rw [hr x y hy, hr _ _ (by rw [isN_cn, hy])]
    | false => rw [cn_num hy]

theorem add_cn (k : FloatKind) (x y : Nat) : k.format.add (cn k x) (cn k y) = k.format.add x y :=
  two_cn (k := k) (k.format.add) none (fun x y h => by unfold Ieee.Format.add; rw [sum_nan_l h]; rfl) (fun x y h => by unfold Ieee.Format.add; rw [sum_nan_r h]; rfl) x y
theorem sub_cn (k : FloatKind) (x y : Nat) : k.format.sub (cn k x) (cn k y) = k.format.sub x y :=
  two_cn (k := k) (k.format.sub) none (fun x y h => by unfold Ieee.Format.sub; rw [sum_nan_l h]; rfl) (fun x y h => by unfold Ieee.Format.sub; rw [sum_nan_r (by rw [opp_nan]; exact h)]; rfl) x y
theorem mul_cn (k : FloatKind) (x y : Nat) : k.format.mul (cn k x) (cn k y) = k.format.mul x y :=
  two_cn (k := k) (k.format.mul) none (fun x y h => by unfold Ieee.Format.mul; rw [prod_nan_l h]; rfl) (fun x y h => by unfold Ieee.Format.mul; rw [prod_nan_r h]; rfl) x y
theorem div_cn (k : FloatKind) (x y : Nat) : k.format.div (cn k x) (cn k y) = k.format.div x y :=
  two_cn (k := k) (k.format.div) none (fun x y h => by unfold Ieee.Format.div; rw [quot_nan_l h]; rfl) (fun x y h => by unfold Ieee.Format.div; rw [quot_nan_r h]; rfl) x y
theorem order_cn (k : FloatKind) (x y : Nat) : k.format.order (cn k x) (cn k y) = k.format.order x y :=
  two_cn (k := k) (k.format.order) none (fun x y h => by unfold Ieee.Format.order; exact order_nan_l h) (fun x y h => by unfold Ieee.Format.order; exact order_nan_r h) x y
theorem sqrt_cn (k : FloatKind) (x : Nat) : k.format.sqrt (cn k x) = k.format.sqrt x := by
  cases hx : isN k x with
  | false => rw [cn_num hx]
  | true =>
    unfold Ieee.Format.sqrt
    rw [root_nan (show (k.format.read x).isNaN = true from hx), root_nan (show (k.format.read (cn k x)).isNaN = true from by rw [← hx]; exact isN_cn k x)]

theorem fadd_cn (k : FloatKind) (x y : Nat) : fadd k (cn k x) (cn k y) = fadd k x y := by unfold fadd; rw [add_cn]
theorem fsub_cn (k : FloatKind) (x y : Nat) : fsub k (cn k x) (cn k y) = fsub k x y := by unfold fsub; rw [sub_cn]
theorem fmul_cn (k : FloatKind) (x y : Nat) : fmul k (cn k x) (cn k y) = fmul k x y := by unfold fmul; rw [mul_cn]
theorem fdiv_cn (k : FloatKind) (x y : Nat) : fdiv k (cn k x) (cn k y) = fdiv k x y := by unfold fdiv; rw [div_cn]
theorem fsqrt_cn (k : FloatKind) (x : Nat) : fsqrt k (cn k x) = fsqrt k x := by unfold fsqrt; rw [sqrt_cn]
theorem flt_cn (k : FloatKind) (x y : Nat) : flt k (cn k x) (cn k y) = flt k x y := by unfold flt; rw [order_cn]
theorem fgt_cn (k : FloatKind) (x y : Nat) : fgt k (cn k x) (cn k y) = fgt k x y := by unfold fgt; rw [order_cn]
theorem feq_cn (k : FloatKind) (x y : Nat) : feq k (cn k x) (cn k y) = feq k x y := by unfold feq; rw [order_cn]
theorem fle_cn (k : FloatKind) (x y : Nat) : fle k (cn k x) (cn k y) = fle k x y := by unfold fle; rw [order_cn]
theorem fge_cn (k : FloatKind) (x y : Nat) : fge k (cn k x) (cn k y) = fge k x y := by unfold fge; rw [order_cn]

/-- What a question about a not-a-number's bits is answered with is a not-a-number. -/
theorem isN_cut (k : FloatKind) (x y t : Nat) : isN k ((Question.nanBits k x y).cut t) = true := by
  cases k with
  | f32 =>
    have h : ∀ s q : Nat, s < 2 → q < 8388607 → isN .f32 (s * 2 ^ 31 + 0x7f800000 + 1 + q) = true := by
      intro s q hs hq
      have e1 : (s * 2 ^ 31 + 0x7f800000 + 1 + q) % Ieee.single.signWeight = 0x7f800001 + q := by
        rw [show Ieee.single.signWeight = 2147483648 from by decide +kernel]; omega
      unfold isN FloatKind.format Ieee.Format.read
      simp only [e1]
      rw [if_neg (by rw [show Ieee.single.binade = 8388608 from by decide +kernel]; omega), if_neg (by rw [show Ieee.single.infRung = 2139095040 from by decide +kernel]; omega), if_neg (by rw [show Ieee.single.infRung = 2139095040 from by decide +kernel]; omega)]
      rfl
    exact h (t % 2) (t / 2 % (2 ^ 23 - 1)) (Nat.mod_lt _ (by omega)) (Nat.mod_lt _ (by decide))
  | f64 =>
    have h : ∀ s q : Nat, s < 2 → q < 4503599627370495 → isN .f64 (s * 2 ^ 63 + 0x7ff0000000000000 + 1 + q) = true := by
      intro s q hs hq
      have e1 : (s * 2 ^ 63 + 0x7ff0000000000000 + 1 + q) % Ieee.double.signWeight = 0x7ff0000000000001 + q := by
        rw [show Ieee.double.signWeight = 9223372036854775808 from by decide +kernel]; omega
      unfold isN FloatKind.format Ieee.Format.read
      simp only [e1]
      rw [if_neg (by rw [show Ieee.double.binade = 4503599627370496 from by decide +kernel]; omega), if_neg (by rw [show Ieee.double.infRung = 9218868437227405312 from by decide +kernel]; omega), if_neg (by rw [show Ieee.double.infRung = 9218868437227405312 from by decide +kernel]; omega)]
      rfl
    exact h (t % 2) (t / 2 % (2 ^ 52 - 1)) (Nat.mod_lt _ (by omega)) (Nat.mod_lt _ (by decide))
theorem cut_lt (k : FloatKind) (x y t : Nat) : (Question.nanBits k x y).cut t < 2 ^ k.format.width := by
  cases k with
  | f32 =>
    show (t % 2) * 2 ^ 31 + 0x7f800000 + 1 + (t / 2) % (2 ^ 23 - 1) < 2 ^ 32
    have h1 := Nat.mod_lt t (show 0 < 2 by omega)
    have h2 := Nat.mod_lt (t / 2) (show 0 < 2 ^ 23 - 1 by decide)
    omega
  | f64 =>
    show (t % 2) * 2 ^ 63 + 0x7ff0000000000000 + 1 + (t / 2) % (2 ^ 52 - 1) < 2 ^ 64
    have h1 := Nat.mod_lt t (show 0 < 2 by omega)
    have h2 := Nat.mod_lt (t / 2) (show 0 < 2 ^ 52 - 1 by decide)
    omega
theorem cutConv_lt (k : FloatKind) (x t : Nat) : (Question.nanConv k x).cut t < 2 ^ k.format.width := by
  have h := cut_lt k 0 0 t
  cases k <;> exact h
theorem isN_cutConv (k : FloatKind) (x t : Nat) : isN k ((Question.nanConv k x).cut t) = true := by
  have h := isN_cut k 0 0 t
  cases k <;> exact h

/-- A written datum is no not-a-number, unless it is one. -/
theorem word_num {f : Ieee.Format} (s : Bool) {g : Nat} (h0 : 0 < f.signWeight) (h : g ≤ f.infRung) (hi : f.infRung < f.signWeight) : (f.read (f.word s g)).isNaN = false := by
  have e : f.word s g % f.signWeight = g := by
    unfold Ieee.Format.word; split
    · rw [Nat.add_mod_left]; exact Nat.mod_eq_of_lt (by omega)
    · exact Nat.mod_eq_of_lt (by omega)
  unfold Ieee.Format.read
  simp only [e]
  split
  · rfl
  · split
    · rfl
    · rw [if_pos (by omega)]; rfl
theorem write_num (f : Ieee.Format) (d : Ieee.Datum) (hd : d.isNaN = false) : (f.read (f.write d)).isNaN = false := by
  have hi := f.infRung_lt
  have h0 : 0 < f.signWeight := by omega
  cases d with
  | number s m e =>
    show (f.read (f.nearest s m e)).isNaN = false
    unfold Ieee.Format.nearest
    split
    · exact word_num s h0 (Nat.zero_le _) hi
    · exact word_num s h0 (Nat.min_le_right _ _) hi
  | infinity s => exact word_num s h0 (Nat.le_refl _) hi
  | nan s t => cases hd
theorem sum_num {x y d : Ieee.Datum} (h : x.sum y = some d) : d.isNaN = false := by
  cases x <;> cases y <;> simp only [Ieee.Datum.sum] at h <;> first | (cases h; done) | (cases h; rfl) | (split at h <;> cases h; rfl)
theorem prod_num {x y d : Ieee.Datum} (h : x.product y = some d) : d.isNaN = false := by
  cases x <;> cases y <;> simp only [Ieee.Datum.product] at h <;> first | (cases h; done) | (cases h; rfl) | (split at h <;> cases h; rfl)
theorem quot_num {g : Nat} {x y d : Ieee.Datum} (h : x.quotient g y = some d) : d.isNaN = false := by
  cases x <;> cases y <;> simp only [Ieee.Datum.quotient] at h <;> first | (cases h; done) | (cases h; rfl) | skip
  split at h
  · split at h <;> cases h; rfl
  · cases h; rfl
theorem root_num {g : Nat} {x d : Ieee.Datum} (h : x.root g = some d) : d.isNaN = false := by
  cases x <;> simp only [Ieee.Datum.root] at h
  · split at h
    · cases h; rfl
    · split at h <;> cases h; rfl
  · split at h <;> cases h; rfl
  · cases h
theorem map_num {f : Ieee.Format} {d : Option Ieee.Datum} {r : Nat} (hd : ∀ x, d = some x → x.isNaN = false) (h : d.map f.write = some r) : (f.read r).isNaN = false := by
  cases d with
  | none => cases h
  | some x => cases h; exact write_num f x (hd x rfl)

/-- Which function of words an arithmetic operation is. -/
def farith (k : FloatKind) : BinOp → Option (Nat → Nat → Option Nat)
  | .add => some k.format.add
  | .sub => some k.format.sub
  | .mul => some k.format.mul
  | .quo => some k.format.div
  | _ => none
def fop (k : FloatKind) : BinOp → Nat → Nat → Nat
  | .add => fadd k
  | .sub => fsub k
  | .mul => fmul k
  | _ => fdiv k
theorem fop_add (k : FloatKind) : fop k .add = fadd k := rfl
theorem fop_sub (k : FloatKind) : fop k .sub = fsub k := rfl
theorem fop_mul (k : FloatKind) : fop k .mul = fmul k := rfl
theorem fop_quo (k : FloatKind) : fop k .quo = fdiv k := rfl
def isArith : BinOp → Bool
  | .add | .sub | .mul | .quo => true
  | _ => false
theorem fop_cn (k : FloatKind) (op : BinOp) (x y : Nat) : fop k op (cn k x) (cn k y) = fop k op x y := by
  cases op <;> first | exact fadd_cn k x y | exact fsub_cn k x y | exact fmul_cn k x y | exact fdiv_cn k x y
def fraw (k : FloatKind) : BinOp → Nat → Nat → Option Nat
  | .add => k.format.add
  | .sub => k.format.sub
  | .mul => k.format.mul
  | _ => k.format.div
theorem fop_raw (k : FloatKind) (op : BinOp) (x y : Nat) : fop k op x y = (fraw k op x y).getD (nanOf k) := by cases op <;> rfl
theorem fraw_lt {k : FloatKind} {op : BinOp} {x y r : Nat} (h : fraw k op x y = some r) : r < 2 ^ k.format.width := by
  cases op <;> first
    | exact k.format.add_lt h
    | exact k.format.sub_lt h
    | exact k.format.mul_lt h
    | exact k.format.div_lt h
theorem fraw_num {k : FloatKind} {op : BinOp} {x y r : Nat} (h : fraw k op x y = some r) : isN k r = false := by
  cases op <;> first
    | exact map_num (fun _ e => sum_num e) h
    | exact map_num (fun _ e => prod_num e) h
    | exact map_num (fun _ e => quot_num e) h

section
variable {P : Program}
theorem run_fdraw (w : World) (k : FloatKind) (x y : Nat) (r : Option Nat) :
    ((do let result ← (pure r : Sem (Option Nat))
         match result with
         | some r => pure (.float k r)
         | none => pure (.float k (← choose (.nanBits k x y)))) : Sem Value).run P w = (match r with
      | some r => Result.ok (.float k r) w
      | none => Result.ok (.float k ((Question.nanBits k x y).cut (w.tape w.drawn (.nanBits k x y)))) (w.drewN 1)) := by
  cases r <;> simp [Sem.run, choose, Question.forced] <;> rfl
/-- WHAT AN ARITHMETIC OPERATION COMES TO: the word up to a not-a-number's bits; perhaps one draw. -/
theorem run_farith (w : World) (op : BinOp) (ho : isArith op = true) (t : TypeId) (k : FloatKind) (x y : Nat) :
    ∃ r n, (binOp op t (.float k x) (.float k y)).run P w = .ok (.float k r) (w.drewN n) ∧ Fl k r (fop k op (cn k x) (cn k y)) := by
  rw [fop_cn]
  have key : (binOp op t (.float k x) (.float k y)).run P w = (match fraw k op x y with
      | some r => Result.ok (.float k r) w
      | none => Result.ok (.float k ((Question.nanBits k x y).cut (w.tape w.drawn (.nanBits k x y)))) (w.drewN 1)) := by
    cases op <;> first | (cases ho; done) | skip
    all_goals
      simp only [fraw, binOp, Op.floatArith]
      split
      · rename_i hh; exact absurd rfl hh
      · exact run_fdraw w k x y _
  cases h : fraw k op x y with
  | some r => exact ⟨r, 0, by rw [key, h]; rfl, ⟨by rw [fop_raw, h, cn_num (fraw_num h)]; rfl, fraw_lt h⟩⟩
  | none => exact ⟨_, 1, by rw [key, h], ⟨by rw [fop_raw, h]; exact cn_nan (isN_cut ..), cut_lt ..⟩⟩
end
end Go.Proofs.Ytpglfnkkmafhbaa
