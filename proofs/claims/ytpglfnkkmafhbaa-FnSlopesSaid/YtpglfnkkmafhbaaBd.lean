/- Waves down a slope: what a tick does to the water. -/
import Derived.Test.YtpglfnkkmafhbaaBc
set_option linter.unusedVariables false
set_option linter.unusedSimpArgs false
set_option linter.constructorNameAsVariable false
namespace Go.Proofs.Ytpglfnkkmafhbaa
open Go.RowKit
set_option maxRecDepth 100000
theorem eps32 : eps .f32 = 1 / 8000000 := rfl
theorem eps64 : eps .f64 = 1 / 4000000000000000 := rfl
abbrev sH : Nat := 1056964608
abbrev dX : Nat := 1082130432
theorem cst : (isFin .f32 sH = true ∧ rv .f32 sH = 1 / 2) ∧ (isFin .f32 dX = true ∧ rv .f32 dX = 4) ∧ (isFin .f32 (fdiv .f32 sH dX) = true ∧ rv .f32 (fdiv .f32 sH dX) = 1 / 8) ∧ (isFin .f32 (fmul .f32 1069547520 sH) = true ∧ rv .f32 (fmul .f32 1069547520 sH) = 3 / 4) ∧ (isFin .f32 0 = true ∧ rv .f32 0 = 0) ∧ isLen sH = true ∧ isLen dX = true := by decide +kernel
theorem mass_iff {c : Nat} : isMass c = true ↔ isFin .f32 c = true ∧ 0 ≤ rv .f32 c := by
  unfold isMass
  rw [Bool.and_eq_true]
  refine ⟨fun h => ⟨h.1, ?_⟩, fun h => ⟨h.1, ?_⟩⟩
  · have := (fge_rv .f32 h.1 cst.2.2.2.2.1.1).1 h.2
    rw [cst.2.2.2.2.1.2] at this; exact this
  · exact (fge_rv .f32 h.1 cst.2.2.2.2.1.1).2 (by rw [cst.2.2.2.2.1.2]; exact h.2)
/-- The flow of a cell. -/
theorem cell_flow {x : Nat} (hx : isMass x = true) (h20 : rv .f32 x ≤ 20) : fastW sH dX sH x = false ∧ isFin .f32 (flowW sH x) = true ∧ 0 ≤ rv .f32 (flowW sH x) ∧ rv .f32 (flowW sH x) ≤ 25 / 10 * rv .f32 x + 1 / 10 ^ 6 ∧ rv .f32 (flowW sH x) ≤ 51 := by
  obtain ⟨fx, px⟩ := mass_iff.1 hx
  obtain ⟨⟨c1, c2⟩, ⟨d1, d2⟩, ⟨r1, r2⟩, ⟨q1, q2⟩, ⟨z1, z2⟩, _, _⟩ := cst
  obtain ⟨sf, s0, s6, sq1, sq2⟩ := froot_rv fx px (by grind)
  have s45 : rv .f32 (froot x) ≤ 45 / 10 := sq_inv (by decide +kernel) (by grind)
  generalize hS : rv .f32 (froot x) = S at *
  generalize hX : rv .f32 x = X at *
  -- the test of speed
  have m1 := mul_rv .f32 q1 sf 4 (by rw [q2, hS]; grind) (by rw [q2, hS]; grind) (by decide +kernel)
  have a1 := m1.lo
  have a2 := m1.hi
  have a3 := m1.pos (by rw [q2, hS]; grind)
  rw [q2, hS, eps32] at a1 a2
  generalize hW : rv .f32 (fmul .f32 (fmul .f32 1069547520 sH) (froot x)) = W at a1 a2 a3
  have m2 := mul_rv .f32 m1.fin c1 4 (by rw [c2, hW]; grind) (by rw [c2, hW]; grind) (by decide +kernel)
  have b2 := m2.hi
  rw [c2, hW, eps32] at b2
  have hfast : fastW sH dX sH x = false := by
    unfold fastW
    cases h : fgt .f32 (fmul .f32 (fmul .f32 (fmul .f32 1069547520 sH) (froot x)) sH) dX with
    | false => rfl
    | true =>
      have := (fgt_rv .f32 m2.fin d1).1 h
      rw [d2] at this
      exfalso; grind
  -- the flow
  have n1 := mul_rv .f32 c1 fx (X / 2 + 1 / 1000000) (by rw [c2, hX]; grind) (by rw [c2, hX]; grind) (by
    have : (100 : Rat) ≤ 2 ^ 100 := by decide +kernel
    grind)
  have e2 := n1.hi
  have e3 := n1.pos (by rw [c2, hX]; grind)
  rw [c2, hX, eps32] at e2
  generalize hV : rv .f32 (fmul .f32 sH x) = V at e2 e3
  have vs : V * S ≤ V * (45 / 10) := Rat.mul_le_mul_of_nonneg_left s45 e3
  have vs0 : 0 ≤ V * S := Rat.mul_nonneg e3 s0
  have n2 := mul_rv .f32 n1.fin sf (V * (45 / 10) + 1 / 1000000) (by rw [hV, hS]; grind) (by rw [hV, hS]; grind) (by
    have : (1000 : Rat) ≤ 2 ^ 100 := by decide +kernel
    grind)
  have f2 := n2.hi
  have f3 := n2.pos (by rw [hV, hS]; exact vs0)
  rw [hV, hS, eps32] at f2
  change rv .f32 (flowW sH x) ≤ _ at f2
  change 0 ≤ rv .f32 (flowW sH x) at f3
  exact ⟨hfast, n2.fin, f3, by grind, by grind⟩
/-- The water of a cell behind a tick. -/
theorem cell_new {x q f : Nat} (fx : isFin .f32 x = true) (fq : isFin .f32 q = true) (ff : isFin .f32 f = true) (x0 : 0 ≤ rv .f32 x) (x20 : rv .f32 x ≤ 20) (q0 : 0 ≤ rv .f32 q) (q1 : rv .f32 q ≤ 51) (f0 : 0 ≤ rv .f32 f) (f1 : rv .f32 f ≤ 25 / 10 * rv .f32 x + 1 / 10 ^ 6) (f2 : rv .f32 f ≤ 51) :
    isMass (newW (fdiv .f32 sH dX) q x f) = true ∧ rv .f32 x + (rv .f32 q - rv .f32 f) / 8 - 8 / 10 ^ 6 ≤ rv .f32 (newW (fdiv .f32 sH dX) q x f) ∧ rv .f32 (newW (fdiv .f32 sH dX) q x f) ≤ rv .f32 x + (rv .f32 q - rv .f32 f) / 8 + 8 / 10 ^ 6 := by
  obtain ⟨_, _, ⟨r1, r2⟩, _, ⟨z1, z2⟩, _, _⟩ := cst
  generalize hX : rv .f32 x = X at *
  generalize hQ : rv .f32 q = Q at *
  generalize hF : rv .f32 f = F at *
  have s := sub_rv .f32 fq ff 51 (by rw [hQ, hF]; grind) (by rw [hQ, hF]; grind) (by decide +kernel)
  have s1 := s.lo
  have s2 := s.hi
  rw [hQ, hF, eps32] at s1 s2
  generalize hV : rv .f32 (fsub .f32 q f) = V at s1 s2
  have m := mul_rv .f32 r1 s.fin 7 (by rw [r2, hV]; grind) (by rw [r2, hV]; grind) (by decide +kernel)
  have m1 := m.lo
  have m2 := m.hi
  rw [r2, hV, eps32] at m1 m2
  generalize hM : rv .f32 (fmul .f32 (fdiv .f32 sH dX) (fsub .f32 q f)) = M at m1 m2
  have a := add_rv .f32 fx m.fin 28 (by rw [hX, hM]; grind) (by rw [hX, hM]; grind) (by decide +kernel)
  have a1 := a.lo
  have a2 := a.hi
  rw [hX, hM, eps32] at a1 a2
  have hl := flt_rv .f32 a.fin z1
  rw [z2] at hl
  unfold newW
  cases h : flt .f32 (fadd .f32 x (fmul .f32 (fdiv .f32 sH dX) (fsub .f32 q f))) 0 with
  | true =>
    have := hl.1 h
    rw [cond_true, z2]
    exact ⟨mass_iff.2 ⟨z1, by rw [z2]; exact Rat.le_refl⟩, by grind, by grind⟩
  | false =>
    have n : ¬ rv .f32 (fadd .f32 x (fmul .f32 (fdiv .f32 sH dX) (fsub .f32 q f))) < 0 := fun hh => by rw [hl.2 hh] at h; cases h
    rw [cond_false]
    exact ⟨mass_iff.2 ⟨a.fin, by grind⟩, by grind, by grind⟩
/-! ### A row of cells -/
def rs : List Nat → Rat
  | [] => 0
  | x :: l => rv .f32 x + rs l
theorem rs_append : ∀ (l m : List Nat), rs (l ++ m) = rs l + rs m
  | [], m => by simp only [List.nil_append, rs]; grind
  | x :: l, m => by simp only [List.cons_append, rs, rs_append l m]; grind
theorem rs_nn : ∀ {l : List Nat}, (∀ x ∈ l, isMass x = true) → 0 ≤ rs l
  | [], _ => Rat.le_refl
  | x :: l, h => by
    have h1 := (mass_iff.1 (h x List.mem_cons_self)).2
    have h2 := rs_nn (l := l) fun y hy => h y (List.mem_cons_of_mem _ hy)
    simp only [rs]; grind
theorem rs_mem : ∀ {l : List Nat}, (∀ x ∈ l, isMass x = true) → ∀ x ∈ l, rv .f32 x ≤ rs l
  | [], _, x, hx => by cases hx
  | y :: l, h, x, hx => by
    have h1 := (mass_iff.1 (h y List.mem_cons_self)).2
    have h2 := rs_nn (l := l) fun z hz => h z (List.mem_cons_of_mem _ hz)
    simp only [rs]
    rcases List.mem_cons.1 hx with rfl | hx
    · grind
    · have := rs_mem (l := l) (fun z hz => h z (List.mem_cons_of_mem _ hz)) x hx; grind
theorem rs_take {l : List Nat} {k : Nat} (h : k < l.length) : rs (l.take (k + 1)) = rs (l.take k) + rv .f32 (l.getD k 0) := by
  have e : l.take (k + 1) = l.take k ++ [l.getD k 0] := by
    rw [List.take_add_one, List.getD_eq_getElem?_getD, List.getElem?_eq_getElem h]; rfl
  rw [e, rs_append]; simp only [rs]; grind
theorem getD_memN {l : List Nat} {j : Nat} (h : j < l.length) : l.getD j 0 ∈ l := by
  rw [List.getD_eq_getElem?_getD, List.getElem?_eq_getElem h]; exact List.getElem_mem h
theorem lin1 {A Q I F X N S κ δ : Rat} (h1 : A + (Q - I) / 8 - κ * δ ≤ S) (h2 : X + (I - F) / 8 - δ ≤ N) : A + X + (Q - F) / 8 - (κ + 1) * δ ≤ S + (N + 0) := by grind
theorem lin2 {A Q I F X N S κ δ : Rat} (h1 : S ≤ A + (Q - I) / 8 + κ * δ) (h2 : N ≤ X + (I - F) / 8 + δ) : S + (N + 0) ≤ A + X + (Q - F) / 8 + (κ + 1) * δ := by grind
theorem row_new {xs : List Nat} {q : Nat} (hm : ∀ x ∈ xs, isMass x = true) (h20 : rs xs ≤ 20) (hq : isMass q = true) (hq1 : rv .f32 q ≤ 51) : ∀ k, k ≤ xs.length →
    (∀ x ∈ outW sH q (fdiv .f32 sH dX) xs k, isMass x = true) ∧ (isFin .f32 (inW sH q xs k) = true ∧ 0 ≤ rv .f32 (inW sH q xs k) ∧ rv .f32 (inW sH q xs k) ≤ 51) ∧
    rs (xs.take k) + (rv .f32 q - rv .f32 (inW sH q xs k)) / 8 - (k : Rat) * (8 / 10 ^ 6) ≤ rs (outW sH q (fdiv .f32 sH dX) xs k) ∧ rs (outW sH q (fdiv .f32 sH dX) xs k) ≤ rs (xs.take k) + (rv .f32 q - rv .f32 (inW sH q xs k)) / 8 + (k : Rat) * (8 / 10 ^ 6)
  | 0, _ => by
    obtain ⟨fq, q0⟩ := mass_iff.1 hq
    refine ⟨fun x hx => by simp [outW] at hx, ⟨fq, q0, hq1⟩, ?_, ?_⟩
    · simp only [outW, List.range_zero, List.map_nil, List.take_zero, rs, inW]
      have : ((0 : Nat) : Rat) = 0 := rfl
      rw [this]; grind
    · simp only [outW, List.range_zero, List.map_nil, List.take_zero, rs, inW]
      have : ((0 : Nat) : Rat) = 0 := rfl
      rw [this]; grind
  | k + 1, hk => by
    obtain ⟨i1, ⟨i2, i3, i4⟩, i5, i6⟩ := row_new hm h20 hq hq1 k (by omega)
    have hx := hm _ (getD_memN (show k < xs.length by omega))
    have hxl := rs_mem hm _ (getD_memN (show k < xs.length by omega))
    obtain ⟨fx, x0⟩ := mass_iff.1 hx
    obtain ⟨g1, g2, g3, g4, g5⟩ := cell_flow hx (by grind)
    obtain ⟨n1, n2, n3⟩ := cell_new fx i2 g2 x0 (by grind) i3 i4 g3 g4 g5
    rw [outW_succ, rs_append, rs_take (by omega)]
    have hc : ((k + 1 : Nat) : Rat) = (k : Rat) + 1 := by rw [Rat.natCast_add]; rfl
    rw [hc]
    refine ⟨fun x hx => ?_, ⟨g2, g3, g5⟩, ?_, ?_⟩
    · rcases List.mem_append.1 hx with h | h
      · exact i1 x h
      · rw [List.mem_singleton.1 h]; exact n1
    · exact lin1 i5 n2
    · exact lin2 i6 n3
end Go.Proofs.Ytpglfnkkmafhbaa
