/- The greater of two floats. -/
import Derived.Test.YtpglfnkkmafhbaaMb
set_option linter.unusedVariables false
set_option linter.unusedSimpArgs false
namespace Go.Proofs.Ytpglfnkkmafhbaa
open Go.RowKit
def fmaxO (k : FloatKind) (o : Option Ordering) (x y : Nat) : Nat := match o with
  | none => nanOf k
  | some .lt => y
  | some .gt => x
  | some .eq => bif (k.decode x).neg then y else x
/-- The greater of two floats; of two zeros the one above. -/
def fmax (k : FloatKind) (x y : Nat) : Nat := fmaxO k (k.format.order x y) x y
def fminO (k : FloatKind) (o : Option Ordering) (x y : Nat) : Nat := match o with
  | none => nanOf k
  | some .lt => x
  | some .gt => y
  | some .eq => bif (k.decode x).neg then x else y
/-- The smaller of two floats; of two zeros the one below. -/
def fmin (k : FloatKind) (x y : Nat) : Nat := fminO k (k.format.order x y) x y
theorem isN_cutM (k : FloatKind) (b : Bool) (x y t : Nat) : isN k ((Question.nanMinMax k b x y).cut t) = true := by
  cases k
  · exact isN_cut .f32 x y t
  · exact isN_cut .f64 x y t
theorem cutM_lt (k : FloatKind) (b : Bool) (x y t : Nat) : (Question.nanMinMax k b x y).cut t < 2 ^ k.format.width := by
  cases k
  · exact cut_lt .f32 x y t
  · exact cut_lt .f64 x y t
theorem order_num {k : FloatKind} {x y : Nat} {o : Ordering} (h : k.format.order x y = some o) : isN k x = false ∧ isN k y = false := by
  refine ⟨?_, ?_⟩
  · cases hx : isN k x with
    | false => rfl
    | true => unfold Ieee.Format.order at h; rw [order_nan_l hx] at h; cases h
  · cases hy : isN k y with
    | false => rfl
    | true => unfold Ieee.Format.order at h; rw [order_nan_r hy] at h; cases h
theorem run_max2 {P : Program} (w : World) {k : FloatKind} {r s c d : Nat} (hr : Fl k r c) (hs : Fl k s d) :
    ∃ q n, (Builtin.max2 (.float k r) (.float k s)).run P w = .ok (.float k q) (w.drewN n) ∧ Fl k q (fmax k c d) := by
  obtain ⟨rfl, hr2⟩ := hr
  obtain ⟨rfl, hs2⟩ := hs
  unfold fmax
  rw [order_cn]
  cases ho : k.format.order r s with
  | none =>
    refine ⟨(Question.nanMinMax k true r s).cut (w.tape w.drawn (.nanMinMax k true r s)), 1, ?_, ?_⟩
    · simp only [Builtin.max2, ho]
      simp [Sem.run, choose, Question.forced] <;> rfl
    · exact ⟨cn_nan (isN_cutM ..), cutM_lt ..⟩
  | some o =>
    obtain ⟨h1, h2⟩ := order_num ho
    rw [cn_num h1, cn_num h2]
    cases o with
    | lt => exact ⟨s, 0, by simp only [Builtin.max2, ho]; rfl, cn_num h2, hs2⟩
    | gt => exact ⟨r, 0, by simp only [Builtin.max2, ho]; rfl, cn_num h1, hr2⟩
    | eq =>
      refine ⟨bif (k.decode r).neg then s else r, 0, ?_, ?_⟩
      · simp only [Builtin.max2, ho]
        cases (k.decode r).neg <;> rfl
      · unfold fmaxO
        cases (k.decode r).neg
        · exact ⟨cn_num h1, hr2⟩
        · exact ⟨cn_num h2, hs2⟩
theorem run_min2 {P : Program} (w : World) {k : FloatKind} {r s c d : Nat} (hr : Fl k r c) (hs : Fl k s d) :
    ∃ q n, (Builtin.min2 (.float k r) (.float k s)).run P w = .ok (.float k q) (w.drewN n) ∧ Fl k q (fmin k c d) := by
  obtain ⟨rfl, hr2⟩ := hr
  obtain ⟨rfl, hs2⟩ := hs
  unfold fmin
  rw [order_cn]
  cases ho : k.format.order r s with
  | none =>
    refine ⟨(Question.nanMinMax k false r s).cut (w.tape w.drawn (.nanMinMax k false r s)), 1, ?_, ?_⟩
    · simp only [Builtin.min2, ho]
      simp [Sem.run, choose, Question.forced] <;> rfl
    · exact ⟨cn_nan (isN_cutM ..), cutM_lt ..⟩
  | some o =>
    obtain ⟨h1, h2⟩ := order_num ho
    rw [cn_num h1, cn_num h2]
    cases o with
    | lt => exact ⟨r, 0, by simp only [Builtin.min2, ho]; rfl, cn_num h1, hr2⟩
    | gt => exact ⟨s, 0, by simp only [Builtin.min2, ho]; rfl, cn_num h2, hs2⟩
    | eq =>
      refine ⟨bif (k.decode r).neg then r else s, 0, ?_, ?_⟩
      · simp only [Builtin.min2, ho]
        cases (k.decode r).neg <;> rfl
      · unfold fminO
        cases (k.decode r).neg
        · exact ⟨cn_num h2, hs2⟩
        · exact ⟨cn_num h1, hr2⟩
end Go.Proofs.Ytpglfnkkmafhbaa
