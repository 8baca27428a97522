/- The functions without a body: the square root, the bits of a float. -/
import Derived.Test.YtpglfnkkmafhbaaRl
import Derived.Test.YtpglfnkkmafhbaaChecked
set_option linter.unusedVariables false
set_option linter.unusedSimpArgs false
namespace Go.Proofs.Ytpglfnkkmafhbaa
open Go.RowKit

theorem run_sqrt {P : Program} (w : World) (x c : Nat) (hx : Fl .f64 x c) : ∃ v n, (Extern.MathSqrt.sqrt #[.float .f64 x]).run P w = .ok v (w.drewN n) ∧ ∃ r, v = .float .f64 r ∧ Fl .f64 r (fsqrt .f64 c) := by
  rw [← hx.out, fsqrt_cn]
  have key : (Extern.MathSqrt.sqrt #[.float .f64 x]).run P w = (match FloatKind.f64.format.sqrt x with
      | some r => Result.ok (.float .f64 r) w
      | none => Result.ok (.float .f64 ((Question.nanBits .f64 x x).cut (w.tape w.drawn (.nanBits .f64 x x)))) (w.drewN 1)) := by
    change Sem.run P (match FloatKind.f64.format.sqrt x with
      | some r => pure (Value.float .f64 r)
      | none => do pure (Value.float .f64 (← choose (.nanBits .f64 x x)))) w = _
    cases FloatKind.f64.format.sqrt x <;> simp [Sem.run, choose, Question.forced] <;> rfl
  rw [key]
  unfold fsqrt
  cases h : FloatKind.f64.format.sqrt x with
  | some r => exact ⟨_, 0, rfl, r, rfl, cn_num (map_num (fun _ e => root_num e) h), FloatKind.f64.format.sqrt_lt h⟩
  | none => exact ⟨_, 1, rfl, _, rfl, cn_nan (isN_cut ..), cut_lt ..⟩
theorem ext_sqrt {x c : Nat} (hx : Fl .f64 x c) (w : World) : ∃ v n, (callFunc 130 #[.float .f64 x]).run Try.prog w = .ok (.value v) (w.drewN n) ∧ ∃ r, v = .float .f64 r ∧ Fl .f64 r (fsqrt .f64 c) := by
  rw [run_callFunc_extern Try.func130 (by kernel_rfl) (by kernel_rfl) (e := Extern.MathSqrt.sqrt) (by kernel_rfl) (by kernel_rfl)]
  obtain ⟨v, n, e, h⟩ := run_sqrt (P := Try.prog) w x c hx
  exact ⟨v, n, by rw [e]; rfl, h⟩
theorem ext_bits64 {x c : Nat} (hx : Fl .f64 x c) (w : World) : ∃ v n, (callFunc 133 #[.float .f64 x]).run Try.prog w = .ok (.value v) (w.drewN n) ∧ v = .int .u64 x := by
  rw [run_callFunc_extern Try.func133 (by kernel_rfl) (by kernel_rfl) (e := Extern.MathFloatBits.float64bits) (by kernel_rfl) (by kernel_rfl)]
  exact ⟨_, 0, rfl, rfl⟩
theorem ext_bits32 {x c : Nat} (hx : Fl .f32 x c) (w : World) : ∃ v n, (callFunc 127 #[.float .f32 x]).run Try.prog w = .ok (.value v) (w.drewN n) ∧ v = .int .u32 x := by
  rw [run_callFunc_extern Try.func127 (by kernel_rfl) (by kernel_rfl) (e := Extern.MathFloatBits.float32bits) (by kernel_rfl) (by kernel_rfl)]
  exact ⟨_, 0, rfl, rfl⟩
theorem ext_from64 (n : Int) (w : World) : ∃ v m, (callFunc 131 #[.int .u64 n]).run Try.prog w = .ok (.value v) (w.drewN m) ∧ v = .float .f64 n.toNat := by
  rw [run_callFunc_extern Try.func131 (by kernel_rfl) (by kernel_rfl) (e := Extern.MathFloatBits.float64frombits) (by kernel_rfl) (by kernel_rfl)]
  exact ⟨_, 0, rfl, rfl⟩
end Go.Proofs.Ytpglfnkkmafhbaa
