/- Dams that break: depths and flows, as rational numbers. -/
import Derived.Test.YtpglfnkkmafhbaaMt
import Derived.Test.YtpglfnkkmafhbaaPa
import Derived.Test.YtpglfnkkmafhbaaGt1d
set_option linter.unusedVariables false
set_option linter.unusedSimpArgs false
set_option linter.constructorNameAsVariable false
namespace Go.Proofs.Ytpglfnkkmafhbaa
open Go.RowKit
set_option maxRecDepth 100000
def dW (d : Int) : Nat := fdiv .f32 (FloatKind.nearest .f32 (IntKind.wrap .i64 (1 + d))) 1082130432
def pW (p : Int) : Nat := fdiv .f32 (FloatKind.nearest .f32 (IntKind.wrap .i64 (p - 64))) 1082130432
abbrev cW (D : Nat) : Nat := froot (fmul .f32 1092416963 D)
theorem dW_ok0 : ∀ d : Fin 16, (isLen (dW d.val) = true ∧ isFin .f32 (dW d.val) = true) ∧ rv .f32 (dW d.val) = (1 + (d.val : Rat)) / 4 := by decide +kernel
theorem cW_ok0 : ∀ d : Fin 16, (isFin .f32 (cW (dW d.val)) = true ∧ isFin .f32 (fneg .f32 (cW (dW d.val))) = true ∧ isFin .f32 (fmul .f32 1073741824 (cW (dW d.val))) = true) ∧ rv .f32 (fneg .f32 (cW (dW d.val))) = - rv .f32 (cW (dW d.val)) ∧ rv .f32 (fmul .f32 1073741824 (cW (dW d.val))) = 2 * rv .f32 (cW (dW d.val)) ∧
    (1 ≤ rv .f32 (cW (dW d.val)) ∧ rv .f32 (cW (dW d.val)) ≤ 63 / 10) ∧ rv .f32 (cW (dW d.val)) * rv .f32 (cW (dW d.val)) ≤ rv .f32 (dW d.val) * (981001 / 100000) ∧ rv .f32 (dW d.val) * (980999 / 100000) ≤ rv .f32 (cW (dW d.val)) * rv .f32 (cW (dW d.val)) := by decide +kernel
theorem pW_ok0 : ∀ p : Fin 129, isFin .f32 (pW p.val) = true ∧ isFin .f32 (fadd .f32 (pW p.val) 1056964608) = true ∧ rv .f32 (pW p.val) = ((p.val : Rat) - 64) / 4 ∧ rv .f32 (fadd .f32 (pW p.val) 1056964608) = ((p.val : Rat) - 64) / 4 + 1 / 2 := by decide +kernel
theorem kW : isFin .f32 1118868603 = true ∧ 8828999 / 100000 ≤ rv .f32 1118868603 ∧ rv .f32 1118868603 ≤ 8829001 / 100000 := by decide +kernel
/-- What is known of a depth and of its speed of waves. -/
structure Deep (D c : Nat) (d C : Rat) : Prop where
  fD : isFin .f32 D = true
  fc : isFin .f32 c = true
  fn : isFin .f32 (fneg .f32 c) = true
  f2 : isFin .f32 (fmul .f32 1073741824 c) = true
  rD : rv .f32 D = d
  rc : rv .f32 c = C
  rn : rv .f32 (fneg .f32 c) = -C
  r2 : rv .f32 (fmul .f32 1073741824 c) = 2 * C
  d0 : 1 / 4 ≤ d
  d1 : d ≤ 4
  c0 : 1 ≤ C
  c1 : C ≤ 63 / 10
  q1 : C * C ≤ d * (981001 / 100000)
  q2 : d * (980999 / 100000) ≤ C * C
theorem fin_rat {n : Nat} (d : Fin n) : ((d.val : Nat) : Rat) ≤ (n : Rat) - 1 := by
  have : ((d.val + 1 : Nat) : Rat) ≤ (n : Rat) := by exact_mod_cast d.isLt
  rw [Rat.natCast_add] at this
  have e : ((1 : Nat) : Rat) = 1 := rfl
  grind
theorem deep_of (d : Int) (h0 : 0 ≤ d) (h1 : d < 16) : isLen (dW d) = true ∧ ∃ q C : Rat, Deep (dW d) (cW (dW d)) q C := by
  obtain ⟨k, hk⟩ : ∃ k : Fin 16, (k.val : Int) = d := ⟨⟨d.toNat, by omega⟩, by simp; omega⟩
  subst hk
  obtain ⟨⟨a1, a2⟩, a3⟩ := dW_ok0 k
  obtain ⟨⟨b1, b2, b3⟩, b4, b5, ⟨b6, b7⟩, b8, b9⟩ := cW_ok0 k
  have hk := fin_rat k
  have hk0 : (0 : Rat) ≤ ((k.val : Nat) : Rat) := by exact_mod_cast Nat.zero_le _
  have e16 : ((16 : Nat) : Rat) = 16 := rfl
  refine ⟨a1, rv .f32 (dW k.val), rv .f32 (cW (dW k.val)), ⟨a2, b1, b2, b3, rfl, rfl, b4, b5, ?_, ?_, b6, b7, b8, b9⟩⟩
  · rw [a3]; grind
  · rw [a3]; grind
def depB (D nc c2 u : Nat) : Nat := bif fle .f32 u nc then D else bif fge .f32 u c2 then 0 else fdiv .f32 (fmul .f32 (fsub .f32 c2 u) (fsub .f32 c2 u)) 1118868603
def spdB (c nc c2 u : Nat) : Nat := bif fle .f32 u nc then 0 else bif fge .f32 u c2 then 0 else fdiv .f32 (fmul .f32 1073741824 (fadd .f32 c u)) 1077936128
theorem zero_rv : isFin .f32 0 = true ∧ rv .f32 0 = 0 := by decide +kernel
theorem eps32 : eps .f32 = 1 / 8000000 := rfl
theorem eps64 : eps .f64 = 1 / 4000000000000000 := rfl
theorem sq_le {x y : Rat} (h0 : 0 ≤ x) (h : x ≤ y) : x * x ≤ y * y := by
  have h1 := Rat.mul_le_mul_of_nonneg_left h h0
  have h2 := Rat.mul_le_mul_of_nonneg_right h (Rat.le_trans h0 h)
  exact Rat.le_trans h1 h2
/-- The depth at a speed: three cases. -/
theorem dep_cases {D c : Nat} {d C : Rat} (h : Deep D c d C) {u : Nat} (fu : isFin .f32 u = true) (l : -5000 ≤ rv .f32 u) (g : rv .f32 u ≤ 5000) :
    isFin .f32 (depB D (fneg .f32 c) (fmul .f32 1073741824 c) u) = true ∧ 0 ≤ rv .f32 (depB D (fneg .f32 c) (fmul .f32 1073741824 c) u) ∧
    ((rv .f32 u ≤ -C ∧ depB D (fneg .f32 c) (fmul .f32 1073741824 c) u = D) ∨ (2 * C ≤ rv .f32 u ∧ depB D (fneg .f32 c) (fmul .f32 1073741824 c) u = 0) ∨
      (-C < rv .f32 u ∧ rv .f32 u < 2 * C ∧ (2 * C - rv .f32 u) * (2 * C - rv .f32 u) - 1 / 500 ≤ rv .f32 (depB D (fneg .f32 c) (fmul .f32 1073741824 c) u) * (8829 / 100) ∧ rv .f32 (depB D (fneg .f32 c) (fmul .f32 1073741824 c) u) * (8829 / 100) ≤ (2 * C - rv .f32 u) * (2 * C - rv .f32 u) + 1 / 500)) := by
  have e1 := fle_rv .f32 fu h.fn
  have e2 := fge_rv .f32 fu h.f2
  rw [h.rn] at e1
  rw [h.r2] at e2
  have c0 := h.c0
  have c1 := h.c1
  unfold depB
  cases h1 : fle .f32 u (fneg .f32 c) with
  | true => exact ⟨h.fD, by rw [cond_true, h.rD]; have := h.d0; grind, .inl ⟨e1.1 h1, rfl⟩⟩
  | false =>
    have n1 : ¬ rv .f32 u ≤ -C := fun hh => by rw [e1.2 hh] at h1; cases h1
    cases h2 : fge .f32 u (fmul .f32 1073741824 c) with
    | true => exact ⟨zero_rv.1, by rw [cond_false, cond_true, zero_rv.2]; exact Rat.le_refl, .inr (.inl ⟨e2.1 h2, rfl⟩)⟩
    | false =>
      have n2 : ¬ 2 * C ≤ rv .f32 u := fun hh => by rw [e2.2 hh] at h2; cases h2
      rw [cond_false, cond_false]
      -- the difference
      have s := sub_rv .f32 h.f2 fu 20 (by rw [h.r2]; grind) (by rw [h.r2]; grind) (by decide +kernel)
      rw [h.r2] at s
      have sl := s.lo
      have sh := s.hi
      have sp := s.pos (by grind)
      rw [eps32] at sl sh
      generalize hV : rv .f32 (fsub .f32 (fmul .f32 1073741824 c) u) = V at sl sh sp
      generalize hU : rv .f32 u = U at *
      have v1 : V ≤ 19 := by grind
      -- the square
      have vv1 : V * V ≤ 19 * 19 := sq_le sp v1
      have vv0 : 0 ≤ V * V := Rat.mul_nonneg sp sp
      have m := mul_rv .f32 s.fin s.fin 400 (by rw [hV]; grind) (by rw [hV]; grind) (by decide +kernel)
      rw [hV] at m
      have ml := m.lo
      have mh := m.hi
      have mp := m.pos vv0
      rw [eps32] at ml mh
      generalize hW : rv .f32 (fmul .f32 (fsub .f32 (fmul .f32 1073741824 c) u) (fsub .f32 (fmul .f32 1073741824 c) u)) = W at ml mh mp
      -- the quotient
      obtain ⟨k0, k1, k2⟩ := kW
      generalize hK : rv .f32 1118868603 = K at k1 k2
      have kp : 0 < K := by grind
      have xK : W / K * K = W := Rat.div_mul_cancel (by grind)
      have x0 : 0 ≤ W / K := by
        rcases Rat.le_total (a := 0) (b := W / K) with q | q
        · exact q
        · have := Rat.mul_le_mul_of_nonneg_right q (Rat.le_of_lt kp)
          have z : W = 0 := by grind
          rw [z, Rat.div_def, Rat.zero_mul]; exact Rat.le_refl
      have x5 : W / K ≤ 5 := by
        rcases Rat.le_total (a := W / K) (b := 5) with q | q
        · exact q
        · have := Rat.mul_le_mul_of_nonneg_right q (Rat.le_of_lt kp)
          exfalso; grind
      have q := div_rv .f32 m.fin k0 (by rw [hK]; exact kp) (W / K) 5 (by rw [hK, hW]; exact xK) (by grind) x5 (by decide +kernel)
      have ql := q.lo
      have qh := q.hi
      have qp := q.pos x0
      rw [eps32] at ql qh
      refine ⟨q.fin, qp, .inr (.inr ⟨by grind, by grind, ?_, ?_⟩)⟩
      · -- from below
        generalize rv .f32 (fdiv .f32 (fmul .f32 (fsub .f32 (fmul .f32 1073741824 c) u) (fsub .f32 (fmul .f32 1073741824 c) u)) 1118868603) = A at ql qh qp ⊢
        have b1 : W / K * K ≤ W / K * (8829001 / 100000) := Rat.mul_le_mul_of_nonneg_left k2 x0
        have b2 : (2 * C - U) * (2 * C - U) ≤ (V + 26 / 10000000) * (V + 26 / 10000000) := sq_le (by grind) (by grind)
        grind
      · generalize rv .f32 (fdiv .f32 (fmul .f32 (fsub .f32 (fmul .f32 1073741824 c) u) (fsub .f32 (fmul .f32 1073741824 c) u)) 1118868603) = A at ql qh qp ⊢
        have b1 : W / K * (8828999 / 100000) ≤ W / K * K := Rat.mul_le_mul_of_nonneg_left k1 x0
        have b2 : V * V ≤ (2 * C - U + 26 / 10000000) * (2 * C - U + 26 / 10000000) := sq_le sp (by grind)
        grind
theorem spd_ok {D c : Nat} {d C : Rat} (h : Deep D c d C) {u : Nat} (fu : isFin .f32 u = true) (l : -5000 ≤ rv .f32 u) (g : rv .f32 u ≤ 5000) :
    isFin .f32 (spdB c (fneg .f32 c) (fmul .f32 1073741824 c) u) = true ∧ 0 ≤ rv .f32 (spdB c (fneg .f32 c) (fmul .f32 1073741824 c) u) ∧ rv .f32 (spdB c (fneg .f32 c) (fmul .f32 1073741824 c) u) ≤ 100 := by
  have e1 := fle_rv .f32 fu h.fn
  have e2 := fge_rv .f32 fu h.f2
  rw [h.rn] at e1
  rw [h.r2] at e2
  have c0 := h.c0
  have c1 := h.c1
  unfold spdB
  cases h1 : fle .f32 u (fneg .f32 c) with
  | true => rw [cond_true, zero_rv.2]; exact ⟨zero_rv.1, by decide +kernel, by decide +kernel⟩
  | false =>
    have n1 : ¬ rv .f32 u ≤ -C := fun hh => by rw [e1.2 hh] at h1; cases h1
    cases h2 : fge .f32 u (fmul .f32 1073741824 c) with
    | true => rw [cond_false, cond_true, zero_rv.2]; exact ⟨zero_rv.1, by decide +kernel, by decide +kernel⟩
    | false =>
      have n2 : ¬ 2 * C ≤ rv .f32 u := fun hh => by rw [e2.2 hh] at h2; cases h2
      rw [cond_false, cond_false]
      have s := add_rv .f32 h.fc fu 20 (by rw [h.rc]; grind) (by rw [h.rc]; grind) (by decide +kernel)
      rw [h.rc] at s
      have sh := s.hi
      have sp := s.pos (by grind)
      rw [eps32] at sh
      have t2 : isFin .f32 1073741824 = true ∧ rv .f32 1073741824 = 2 := by decide +kernel
      have t3 : isFin .f32 1077936128 = true ∧ rv .f32 1077936128 = 3 := by decide +kernel
      have m := mul_rv .f32 t2.1 s.fin 50 (by rw [t2.2]; grind) (by rw [t2.2]; grind) (by decide +kernel)
      have mh := m.hi
      have mp := m.pos (by rw [t2.2]; grind)
      rw [eps32] at mh
      rw [t2.2] at mh
      generalize hW : rv .f32 (fmul .f32 1073741824 (fadd .f32 c u)) = W at mh mp
      have q := div_rv .f32 m.fin t3.1 (by rw [t3.2]; decide +kernel) (W * (1 / 3)) 60 (by rw [t3.2, hW]; grind) (by grind) (by grind) (by decide +kernel)
      have qh := q.hi
      rw [eps32] at qh
      exact ⟨q.fin, q.pos (by grind), by grind⟩
/-- A depth is not greater than the water's. -/
theorem dep_le {D c : Nat} {d C : Rat} (h : Deep D c d C) {u : Nat} (fu : isFin .f32 u = true) (l : -5000 ≤ rv .f32 u) (g : rv .f32 u ≤ 5000) : rv .f32 (depB D (fneg .f32 c) (fmul .f32 1073741824 c) u) ≤ d + 3 / 10000 ∧ rv .f32 (depB D (fneg .f32 c) (fmul .f32 1073741824 c) u) ≤ d * (10005 / 10000) := by
  obtain ⟨f, p, q⟩ := dep_cases h fu l g
  have d0 := h.d0
  have d1 := h.d1
  have c0 := h.c0
  have q1 := h.q1
  rcases q with ⟨q, e⟩ | ⟨q, e⟩ | ⟨r1, r2, r3, r4⟩
  · rw [e, h.rD]; exact ⟨by grind, by grind⟩
  · rw [e, zero_rv.2]; exact ⟨by grind, by grind⟩
  · have s : (2 * C - rv .f32 u) * (2 * C - rv .f32 u) ≤ (3 * C) * (3 * C) := sq_le (by grind) (by grind)
    exact ⟨by grind, by grind⟩
/-- Farther down it is not deeper. -/
theorem dep_down {D c : Nat} {d C : Rat} (h : Deep D c d C) {u u' : Nat} (fu : isFin .f32 u = true) (l : -5000 ≤ rv .f32 u) (g : rv .f32 u ≤ 5000) (fu' : isFin .f32 u' = true) (l' : -5000 ≤ rv .f32 u') (g' : rv .f32 u' ≤ 5000) (hu : rv .f32 u ≤ rv .f32 u') :
    rv .f32 (depB D (fneg .f32 c) (fmul .f32 1073741824 c) u') ≤ rv .f32 (depB D (fneg .f32 c) (fmul .f32 1073741824 c) u) + 9 / 10000 := by
  obtain ⟨f, p, q⟩ := dep_cases h fu l g
  obtain ⟨f', p', q'⟩ := dep_cases h fu' l' g'
  obtain ⟨m1, m2⟩ := dep_le h fu' l' g'
  have c0 := h.c0
  rcases q with ⟨q, e⟩ | ⟨q, e⟩ | ⟨r1, r2, r3, r4⟩
  · rw [e, h.rD]; grind
  · rcases q' with ⟨q', e'⟩ | ⟨q', e'⟩ | ⟨r1', r2', r3', r4'⟩
    · exfalso; grind
    · rw [e']; rw [e'] at p'; rw [zero_rv.2]; grind
    · exfalso; grind
  · rcases q' with ⟨q', e'⟩ | ⟨q', e'⟩ | ⟨r1', r2', r3', r4'⟩
    · exfalso; grind
    · rw [e', zero_rv.2]; grind
    · have s : (2 * C - rv .f32 u') * (2 * C - rv .f32 u') ≤ (2 * C - rv .f32 u) * (2 * C - rv .f32 u) := sq_le (by grind) (by grind)
      grind
end Go.Proofs.Ytpglfnkkmafhbaa
