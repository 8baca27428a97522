/- A grid of powers: what is asked. -/
import Derived.Test.YtpglfnkkmafhbaaIt
import Derived.Test.YtpglfnkkmafhbaaIa
set_option linter.unusedVariables false
set_option linter.unusedSimpArgs false
set_option linter.constructorNameAsVariable false
namespace Go.Proofs.Ytpglfnkkmafhbaa
open Go.RowKit
set_option maxRecDepth 100000
/-- The four thirds' power of a word, by fuel. -/
def powF (g : Nat) : Option Nat := (lnF g).bind fun l => exF (fmul .f32 1068149419 l)
def ptB (p : Nat × Nat) : Bool := decide (powF p.1 = some p.2) && isFin .f32 p.1 && isFin .f32 p.2 && decide (1 / 50 ≤ rv .f32 p.1) && decide (rv .f32 p.1 ≤ 25) && decide (rv .f32 p.2 * rv .f32 p.2 * rv .f32 p.2 ≤ rv .f32 p.1 * rv .f32 p.1 * (rv .f32 p.1 * rv .f32 p.1) * (1 + 1 / 10000)) && decide (rv .f32 p.1 * rv .f32 p.1 * (rv .f32 p.1 * rv .f32 p.1) ≤ rv .f32 p.2 * rv .f32 p.2 * rv .f32 p.2 * (1 + 1 / 10000))
def gridB : List (Nat × Nat) → Bool
  | [] => true
  | [p] => ptB p
  | p :: q :: l => ptB p && decide (rv .f32 q.1 ≤ rv .f32 p.1 * (10201 / 10000)) && gridB (q :: l)
/-- A number between two neighbours. -/
structure Nb (m : Rat) (a b : Nat × Nat) : Prop where
  pa : ptB a = true
  pb : ptB b = true
  lo : rv .f32 a.1 ≤ m
  hi : m ≤ rv .f32 b.1
  ra : rv .f32 b.1 ≤ rv .f32 a.1 * (10201 / 10000)
theorem grid_find {m : Rat} : ∀ (l : List (Nat × Nat)) (p : Nat × Nat), gridB (p :: l) = true → rv .f32 p.1 ≤ m → m < rv .f32 ((p :: l).getLast (by simp)).1 → ∃ a b, Nb m a b
  | [], p, h, h1, h2 => by exfalso; simp only [List.getLast_singleton] at h2; grind
  | q :: l, p, h, h1, h2 => by
    simp only [gridB, Bool.and_eq_true, decide_eq_true_eq] at h
    obtain ⟨⟨a1, a2⟩, a3⟩ := h
    rcases Rat.le_total (a := rv .f32 q.1) (b := m) with g | g
    · exact grid_find l q a3 g (by simpa using h2)
    · have hq : ptB q = true := by
        cases l with
        | nil => exact a3
        | cons r l => simp only [gridB, Bool.and_eq_true] at a3; exact a3.1.1
      exact ⟨p, q, a1, hq, h1, g, a2⟩
end Go.Proofs.Ytpglfnkkmafhbaa
