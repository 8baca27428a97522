/- Reaches: what one reach answers, as words, and how far that is from the straight answer. -/
import Derived.Test.YtpglfnkkmafhbaaHu
set_option linter.unusedVariables false
set_option linter.unusedSimpArgs false
set_option linter.constructorNameAsVariable false
namespace Go.Proofs.Ytpglfnkkmafhbaa
open Go.RowKit
set_option maxRecDepth 100000
noncomputable def outW (a b c : Nat) (ins : List Nat) : Nat → Nat
  | 0 => ins.getD 0 0
  | k + 1 => fadd .f32 (fadd .f32 (fmul .f32 a (ins.getD (k + 1) 0)) (fmul .f32 b (ins.getD k 0))) (fmul .f32 c (outW a b c ins k))
noncomputable def oL (a b c : Nat) (ins : List Nat) : Nat → List Nat
  | 0 => []
  | k + 1 => oL a b c ins k ++ [outW a b c ins k]
theorem oL_len (a b c : Nat) (ins : List Nat) : ∀ k, (oL a b c ins k).length = k
  | 0 => rfl
  | k + 1 => by simp [oL, oL_len a b c ins k]
theorem oL_get (a b c : Nat) (ins : List Nat) : ∀ n k, k < n → (oL a b c ins n).getD k 0 = outW a b c ins k
  | 0, k, h => by omega
  | n + 1, k, h => by
    simp only [oL]
    by_cases e : k = n
    · subst e
      rw [List.getD_eq_getElem?_getD, List.getElem?_append_right (by rw [oL_len]; exact Nat.le_refl _), oL_len, Nat.sub_self]; rfl
    · rw [List.getD_eq_getElem?_getD, List.getElem?_append_left (by rw [oL_len]; omega), ← List.getD_eq_getElem?_getD]
      exact oL_get a b c ins n k (by omega)
theorem oL_all (a b c : Nat) (ins : List Nat) (p : Nat → Prop) : ∀ n, (∀ k, k < n → p (outW a b c ins k)) → ∀ x ∈ oL a b c ins n, p x
  | 0, h, x, hx => by simp [oL] at hx
  | n + 1, h, x, hx => by
    simp only [oL, List.mem_append, List.mem_singleton] at hx
    rcases hx with hx | hx
    · exact oL_all a b c ins p n (fun k hk => h k (by omega)) x hx
    · rw [hx]; exact h n (by omega)
theorem runL_steps {σ ρ : Type} {f : σ → Option (σ ⊕ ρ)} {r : ρ} : ∀ (n k : Nat) (s : Nat → σ), (∀ j, k ≤ j → j < k + n → f (s j) = some (.inl (s (j + 1)))) → f (s (k + n)) = some (.inr r) → runL f (s k) = some r
  | 0, k, s, h, he => runL_out he
  | n + 1, k, s, h, he => (runL_in (h k (Nat.le_refl _) (by omega))).trans (runL_steps n (k + 1) s (fun j h1 h2 => h j (by omega) (by omega)) (by rw [show k + 1 + n = k + (n + 1) by omega]; exact he))
theorem up1 {k : Nat} (h : k ≤ 1048576) : IntKind.wrap .i64 ((k : Int) + 1) = ((k + 1 : Nat) : Int) := by rw [wrap_id (by omega) (by omega)]; omega
theorem fits4 {a : Nat} (h : a ≤ 1048576) (x : Nat) : decide ((a + List.length [x]) * 4 ≤ 140737488355328) = true := by
  simp only [decide_eq_true_eq, List.length_singleton]; omega
theorem run_route (a b c : Nat) (ins : List Nat) (h1 : 1 ≤ ins.length) (hl : ins.length ≤ 128) : iRouteReach_l6 ins a b c 1 [ins.getD 0 0] = some (oL a b c ins ins.length) := by
  unfold iRouteReach_l6
  have := runL_steps (f := fun s : Int × List Nat => (iRouteReach_l6_t ins a b c s.1 s.2).sem) (r := oL a b c ins ins.length) (ins.length - 1) 1 (fun k => ((k : Int), oL a b c ins k)) (fun j h0 hj => by
    obtain ⟨i, rfl⟩ : ∃ i, j = i + 1 := ⟨j - 1, by omega⟩
    have hw : IntKind.wrap .i64 (((i + 1 : Nat) : Int) - 1) = (i : Int) := by rw [wrap_id (by omega) (by omega)]; omega
    simp only [iRouteReach_l6_t, Tr.sem, hw, ltRange (show i + 1 < ins.length by omega), zeroLe, Bool.and_self, cond_true, ltRange (show i < ins.length by omega), oL_len, ltRange (show i < i + 1 by omega), Int.toNat_natCast, oL_get a b c ins (i + 1) i (by omega), fits4 (show i + 1 ≤ 1048576 by omega), up1 (show i + 1 ≤ 1048576 by omega)]
    rfl) (by
    simp only [show 1 + (ins.length - 1) = ins.length by omega]
    simp only [iRouteReach_l6_t, Tr.sem, not_lt_self, cond_false])
  exact this
/-- Finite, and at most M. -/
def okW (M : Rat) (x : Nat) : Prop := isFin .f32 x = true ∧ -M ≤ rv .f32 x ∧ rv .f32 x ≤ M
theorem ok_at {M : Rat} {ins : List Nat} (h : ∀ x ∈ ins, okW M x) {k : Nat} (hk : k < ins.length) : okW M (ins.getD k 0) := by
  rw [List.getD_eq_getElem?_getD, List.getElem?_eq_getElem hk]; exact h _ (List.getElem_mem hk)
section
variable {a b c : Nat} {α β P h M : Rat} {ins : List Nat}
theorem outs_ok (fa : isFin .f32 a = true) (fb : isFin .f32 b = true) (fc : isFin .f32 c = true) (F : Fa (rv .f32 a) (rv .f32 b) (rv .f32 c) α β P h) (m1 : 1 ≤ M) (m2 : M ≤ 1000) (hi : ∀ x ∈ ins, okW M x) :
    ∀ k, k < ins.length → isFin .f32 (outW a b c ins k) = true ∧ (-(h * M + 69 / 8000000 * M) ≤ rv .f32 (outW a b c ins k) - rv .f32 a * rv .f32 (ins.getD k 0) ∧ rv .f32 (outW a b c ins k) - rv .f32 a * rv .f32 (ins.getD k 0) ≤ h * M + 69 / 8000000 * M)
  | 0, hk => by
    have g := ok_at hi hk
    have := mulB F.o g.2
    simp only [outW]
    exact ⟨g.1, by grind, by grind⟩
  | k + 1, hk => by
    obtain ⟨i1, i2⟩ := outs_ok fa fb fc F m1 m2 hi k (by omega)
    have g1 := ok_at hi hk
    have g0 := ok_at hi (show k < ins.length by omega)
    have st := out_step fa fb fc F g1.1 g0.1 i1 m1 m2 g1.2 g0.2 i2
    simp only [outW]
    exact ⟨st.1, st.2.2⟩
theorem outs_okW (fa : isFin .f32 a = true) (fb : isFin .f32 b = true) (fc : isFin .f32 c = true) (F : Fa (rv .f32 a) (rv .f32 b) (rv .f32 c) α β P h) (m1 : 1 ≤ M) (m2 : M ≤ 1000) (hi : ∀ x ∈ ins, okW M x) (k : Nat) (hk : k < ins.length) : okW (271 / 100 * M) (outW a b c ins k) := by
  obtain ⟨i1, i2⟩ := outs_ok fa fb fc F m1 m2 hi k hk
  have g := ok_at hi hk
  have b1 := mulB F.a g.2
  have n1 := Rat.mul_le_mul_of_nonneg_right F.g (show (0 : Rat) ≤ M by grind)
  exact ⟨i1, by grind, by grind⟩
theorem outs_err (fa : isFin .f32 a = true) (fb : isFin .f32 b = true) (fc : isFin .f32 c = true) (F : Fa (rv .f32 a) (rv .f32 b) (rv .f32 c) α β P h) (m1 : 1 ≤ M) (m2 : M ≤ 1000) (hi : ∀ x ∈ ins, okW M x) (k : Nat) (hk : k + 1 < ins.length) :
    ∃ d, rv .f32 (outW a b c ins (k + 1)) = rv .f32 a * rv .f32 (ins.getD (k + 1) 0) + rv .f32 b * rv .f32 (ins.getD k 0) + rv .f32 c * rv .f32 (outW a b c ins k) + d ∧ -(69 / 8000000 * M * (1 - P)) ≤ d ∧ d ≤ 69 / 8000000 * M * (1 - P) := by
  obtain ⟨i1, i2⟩ := outs_ok fa fb fc F m1 m2 hi k (by omega)
  have g1 := ok_at hi hk
  have g0 := ok_at hi (show k < ins.length by omega)
  have st := out_step fa fb fc F g1.1 g0.1 i1 m1 m2 g1.2 g0.2 i2
  exact ⟨_, by simp only [outW]; grind, st.2.1⟩
/-- A list that stays level stays level. -/
theorem flat_ok (fa : isFin .f32 a = true) (fb : isFin .f32 b = true) (fc : isFin .f32 c = true) (F : Fa (rv .f32 a) (rv .f32 b) (rv .f32 c) α β P h) (hi : ∀ x ∈ ins, isFin .f32 x = true ∧ rv .f32 x = 3) :
    ∀ k, k < ins.length → -(1 / 100) * (9 / 10) ≤ rv .f32 (outW a b c ins k) - 3 ∧ rv .f32 (outW a b c ins k) - 3 ≤ 1 / 100 * (9 / 10) := by
  have hi' : ∀ x ∈ ins, okW 3 x := fun x hx => ⟨(hi x hx).1, by rw [(hi x hx).2]; decide +kernel, by rw [(hi x hx).2]; exact Rat.le_refl⟩
  have at3 : ∀ k, k < ins.length → rv .f32 (ins.getD k 0) = 3 := fun k hk => by
    rw [List.getD_eq_getElem?_getD, List.getElem?_eq_getElem hk]; exact (hi _ (List.getElem_mem hk)).2
  have main : ∀ k, k < ins.length → -(1 / 200 + 69 / 8000000 * 3) ≤ rv .f32 (outW a b c ins k) - 3 ∧ rv .f32 (outW a b c ins k) - 3 ≤ 1 / 200 + 69 / 8000000 * 3 := by
    intro k
    induction k with
    | zero => intro hk; simp only [outW]; rw [at3 0 hk]; exact ⟨by decide +kernel, by decide +kernel⟩
    | succ k ih =>
      intro hk
      obtain ⟨d, e, d1, d2⟩ := outs_err fa fb fc F (by decide +kernel) (by decide +kernel) hi' k hk
      have i := ih (by omega)
      rw [at3 _ hk, at3 k (by omega)] at e
      have t := mulB F.c i
      have s := F.s
      have p := F.p
      rw [e]
      generalize rv .f32 (outW a b c ins k) = V at *
      generalize rv .f32 a = A at *
      generalize rv .f32 b = B at *
      generalize rv .f32 c = C at *
      exact ⟨by grind, by grind⟩
  intro k hk
  have := main k hk
  exact ⟨by grind, by grind⟩
/-- Three lists, the third the sum of the first two, nearly. -/
theorem sum_ok {p q : List Nat} {Mp Mq Mr E : Rat} (fa : isFin .f32 a = true) (fb : isFin .f32 b = true) (fc : isFin .f32 c = true) (F : Fa (rv .f32 a) (rv .f32 b) (rv .f32 c) α β P h) (mp1 : 1 ≤ Mp) (mp2 : Mp ≤ 1000) (mq1 : 1 ≤ Mq) (mq2 : Mq ≤ 1000) (mr1 : 1 ≤ Mr) (mr2 : Mr ≤ 1000) (hE : 0 ≤ E)
    (hp : ∀ x ∈ p, okW Mp x) (hq : ∀ x ∈ q, okW Mq x) (hr : ∀ x ∈ ins, okW Mr x) (lp : p.length = ins.length) (lq : q.length = ins.length)
    (he : ∀ k, k < ins.length → -E ≤ rv .f32 (ins.getD k 0) - rv .f32 (p.getD k 0) - rv .f32 (q.getD k 0) ∧ rv .f32 (ins.getD k 0) - rv .f32 (p.getD k 0) - rv .f32 (q.getD k 0) ≤ E) :
    ∀ k, k < ins.length → -(27 / 10 * E + 69 / 8000000 * (Mp + Mq + Mr)) ≤ rv .f32 (outW a b c ins k) - rv .f32 (outW a b c p k) - rv .f32 (outW a b c q k) ∧ rv .f32 (outW a b c ins k) - rv .f32 (outW a b c p k) - rv .f32 (outW a b c q k) ≤ 27 / 10 * E + 69 / 8000000 * (Mp + Mq + Mr) := by
  have main : ∀ k, k < ins.length → -(h * E + 69 / 8000000 * (Mp + Mq + Mr)) ≤ rv .f32 (outW a b c ins k) - rv .f32 (outW a b c p k) - rv .f32 (outW a b c q k) - rv .f32 a * (rv .f32 (ins.getD k 0) - rv .f32 (p.getD k 0) - rv .f32 (q.getD k 0)) ∧ rv .f32 (outW a b c ins k) - rv .f32 (outW a b c p k) - rv .f32 (outW a b c q k) - rv .f32 a * (rv .f32 (ins.getD k 0) - rv .f32 (p.getD k 0) - rv .f32 (q.getD k 0)) ≤ h * E + 69 / 8000000 * (Mp + Mq + Mr) := by
    intro k
    induction k with
    | zero =>
      intro hk
      have g := mulB F.o (he 0 hk)
      simp only [outW]
      generalize rv .f32 (ins.getD 0 0) = R at *
      generalize rv .f32 (p.getD 0 0) = S at *
      generalize rv .f32 (q.getD 0 0) = T at *
      generalize rv .f32 a = A at *
      exact ⟨by grind, by grind⟩
    | succ k ih =>
      intro hk
      obtain ⟨d, e, d1, d2⟩ := outs_err fa fb fc F mr1 mr2 hr k hk
      obtain ⟨d', e', d1', d2'⟩ := outs_err fa fb fc F mp1 mp2 hp k (by omega)
      obtain ⟨d'', e'', d1'', d2''⟩ := outs_err fa fb fc F mq1 mq2 hq k (by omega)
      have i := ih (by omega)
      have t := mulB F.c i
      have w := mulB F.e (he k (by omega))
      rw [e, e', e'']
      generalize rv .f32 (outW a b c ins k) = V at *
      generalize rv .f32 (outW a b c p k) = V' at *
      generalize rv .f32 (outW a b c q k) = V'' at *
      generalize rv .f32 (ins.getD k 0) = R at *
      generalize rv .f32 (p.getD k 0) = S at *
      generalize rv .f32 (q.getD k 0) = T at *
      generalize rv .f32 (ins.getD (k + 1) 0) = R1 at *
      generalize rv .f32 (p.getD (k + 1) 0) = S1 at *
      generalize rv .f32 (q.getD (k + 1) 0) = T1 at *
      generalize rv .f32 a = A at *
      generalize rv .f32 b = B at *
      generalize rv .f32 c = C at *
      exact ⟨by grind, by grind⟩
  intro k hk
  have i := main k hk
  have g := mulB F.a (he k hk)
  have n1 := Rat.mul_le_mul_of_nonneg_right F.g hE
  generalize rv .f32 (outW a b c ins k) = V at *
  generalize rv .f32 (outW a b c p k) = V' at *
  generalize rv .f32 (outW a b c q k) = V'' at *
  generalize rv .f32 (ins.getD k 0) = R at *
  generalize rv .f32 (p.getD k 0) = S at *
  generalize rv .f32 (q.getD k 0) = T at *
  generalize rv .f32 a = A at *
  exact ⟨by grind, by grind⟩
end
end Go.Proofs.Ytpglfnkkmafhbaa
