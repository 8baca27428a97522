/- What the functions compute, on canonical words. No program is in sight. -/
import Derived.Test.YtihoaflcjkppnaaMb
set_option linter.unusedVariables false
namespace Go.Proofs.Ytihoaflcjkppnaa
open Go.RowKit

/-- A valid reach. -/
def vReach (d l : Nat) : Bool := isLen d && fge .f32 l 0 && fle .f32 l 1056964608
/-- What a reach holds. -/
def heldR (d l i o : Nat) : Nat × Bool := if (vReach d l && isFin .f32 i && isFin .f32 o) = true then num32 (fmul .f32 d (fadd .f32 (fmul .f32 l i) (fmul .f32 (fsub .f32 1065353216 l) o))) else (0, false)
/-- What flows through an area. -/
def wFlow (r a : Nat) : Nat := fmul .f32 (fmul .f32 r a) (froot a)
def waveF (r a : Nat) : Nat × Bool := if (isLen r && isMass a) = true then num32 (wFlow r a) else (0, false)
/-- A dam that breaks: the depth and the speed. -/
def brk (d p t : Nat) : Nat × Nat :=
  if fle .f32 (fdiv .f32 p t) (fneg .f32 (froot (fmul .f32 1092416963 d))) = true then (d, 0)
  else if fge .f32 (fdiv .f32 p t) (fmul .f32 1073741824 (froot (fmul .f32 1092416963 d))) = true then (0, 0)
  else (fdiv .f32 (fmul .f32 (fsub .f32 (fmul .f32 1073741824 (froot (fmul .f32 1092416963 d))) (fdiv .f32 p t)) (fsub .f32 (fmul .f32 1073741824 (froot (fmul .f32 1092416963 d))) (fdiv .f32 p t))) 1118868603,
    fdiv .f32 (fmul .f32 1073741824 (fadd .f32 (froot (fmul .f32 1092416963 d)) (fdiv .f32 p t))) 1077936128)
def brkDepth (d p t : Nat) : Nat × Bool := if (isLen d && isFin .f32 p && isLen t) = true then num32 (brk d p t).1 else (0, false)
def brkFlow (d p t : Nat) : Nat × Bool := if (isLen d && isFin .f32 p && isLen t) = true then num32 (fmul .f32 (brk d p t).1 (brk d p t).2) else (0, false)
/-- Two floats; some draws. -/
def RFF (k : FloatKind) (w : World) (c : Nat × Nat) : Ending → World → Prop := fun e w' => ∃ r s, Fl k r c.1 ∧ Fl k s c.2 ∧ e = .returned (.tuple #[.float k r, .float k s]) ∧ ∃ n, w' = w.drewN n
theorem RFF.mk {k : FloatKind} {w : World} {c : Nat × Nat} {d e r s n : Nat} (h : Fl k r d) (h' : Fl k s e) (hc : c = (d, e)) : RFF k w c (.returned (.tuple #[.float k r, .float k s])) (w.drewN n) := by subst hc; exact ⟨r, s, h, h', rfl, n, rfl⟩
/-- The shares of a reach. -/
def shK (d l : Nat) : Nat := fmul .f32 (fmul .f32 1073741824 d) l
def shM (d l : Nat) : Nat := fmul .f32 (fmul .f32 1073741824 d) (fsub .f32 1065353216 l)
structure Sh where
  a : Nat
  b : Nat
  c : Nat
  ok : Bool
/-- The shares, as they are reckoned. -/
def sh3 (d l t : Nat) : Nat × Nat × Nat :=
  (fdiv .f32 (fsub .f32 t (shK d l)) (fadd .f32 (shM d l) t), fdiv .f32 (fadd .f32 t (shK d l)) (fadd .f32 (shM d l) t), fdiv .f32 (fsub .f32 (shM d l) t) (fadd .f32 (shM d l) t))
/-- .. if they are finite. -/
def shares0 (d l t : Nat) : Sh :=
  if (isFin .f32 (sh3 d l t).1 && isFin .f32 (sh3 d l t).2.1 && isFin .f32 (sh3 d l t).2.2) = true then ⟨(sh3 d l t).1, (sh3 d l t).2.1, (sh3 d l t).2.2, true⟩ else ⟨0, 0, 0, false⟩
def shares (d l t : Nat) : Sh := if (vReach d l && isLen t) = true then shares0 d l t else ⟨0, 0, 0, false⟩
def RSh (w : World) (s : Sh) : Ending → World → Prop := fun e w' => ∃ x y z b, Fl .f32 x s.a ∧ Fl .f32 y s.b ∧ Fl .f32 z s.c ∧ s.ok = b ∧ e = .returned (.tuple #[.float .f32 x, .float .f32 y, .float .f32 z, .bool b]) ∧ ∃ n, w' = w.drewN n
def BSh (w : World) (s : Sh) : Ending → World → Prop := fun e w' => ∃ x y z b, Fl .f32 x s.a ∧ Fl .f32 y s.b ∧ Fl .f32 z s.c ∧ s.ok = b ∧ e = .returned (.tuple #[.float .f32 x, .float .f32 y, .float .f32 z, .bool b]) ∧ Below w.heap.size w w'
theorem RSh.mk {w : World} {s : Sh} {x y z cx cy cz n : Nat} {b : Bool} (hx : Fl .f32 x cx) (hy : Fl .f32 y cy) (hz : Fl .f32 z cz) (h : s = ⟨cx, cy, cz, b⟩) : RSh w s (.returned (.tuple #[.float .f32 x, .float .f32 y, .float .f32 z, .bool b])) (w.drewN n) := by
  subst h; exact ⟨x, y, z, b, hx, hy, hz, rfl, rfl, n, rfl⟩
theorem BSh.mk {w w' : World} {s : Sh} {x y z cx cy cz : Nat} {b : Bool} (hx : Fl .f32 x cx) (hy : Fl .f32 y cy) (hz : Fl .f32 z cz) (h : s = ⟨cx, cy, cz, b⟩) (hb : Below w.heap.size w w') : BSh w s (.returned (.tuple #[.float .f32 x, .float .f32 y, .float .f32 z, .bool b])) w' := by
  subst h; exact ⟨x, y, z, b, hx, hy, hz, rfl, rfl, hb⟩
theorem BSh.of {w w' : World} {s s0 : Sh} {x y z : Nat} {b : Bool} (h : s = s0) (hx : Fl .f32 x s0.a) (hy : Fl .f32 y s0.b) (hz : Fl .f32 z s0.c) (hok : s0.ok = b) (hb : Below w.heap.size w w') : BSh w s (.returned (.tuple #[.float .f32 x, .float .f32 y, .float .f32 z, .bool b])) w' := by
  subst h; exact ⟨x, y, z, b, hx, hy, hz, hok, rfl, hb⟩
theorem results_tmp4 {fn : Func} {t u v x : Tmp} (h : fn.results = #[.tmp t, .tmp u, .tmp v, .tmp x]) (tmps : Array Value) (P : Program) (w : World) :
    (results fn tmps).run P w = .ok (.tuple #[tmps.getD t undef, tmps.getD u undef, tmps.getD v undef, tmps.getD x undef]) w := by
  simp [results, h]
end Go.Proofs.Ytihoaflcjkppnaa
