/- Halving: what forty halvings leave. Words that are near a number, measured by shares. Logarithms and exponentials, as sums of few terms. Exponentials, and words of logarithms. Sections: areas, widths, heads and pushes, as words near numbers. Depths: plain inequalities between areas, heads and pushes. -/
import Derived.Test.YtpglfnkkmafhbaaMu
import Derived.Test.YtpglfnkkmafhbaaPa
set_option linter.unusedVariables false
set_option linter.unusedSimpArgs false
set_option linter.constructorNameAsVariable false
namespace Go.Proofs.Ytpglfnkkmafhbaa
open Go.RowKit
set_option maxRecDepth 100000
theorem eps32 : eps .f32 = 1 / 8000000 := rfl
theorem eps64 : eps .f64 = 1 / 4000000000000000 := rfl
theorem mulB {x y m n : Rat} (h : -m ≤ x ∧ x ≤ m) (g : -n ≤ y ∧ y ≤ n) : -(m * n) ≤ x * y ∧ x * y ≤ m * n := by
  have h1 := Rat.mul_nonneg (show (0 : Rat) ≤ m - x by grind) (show (0 : Rat) ≤ n + y by grind)
  have h2 := Rat.mul_nonneg (show (0 : Rat) ≤ m + x by grind) (show (0 : Rat) ≤ n - y by grind)
  have h3 := Rat.mul_nonneg (show (0 : Rat) ≤ m - x by grind) (show (0 : Rat) ≤ n - y by grind)
  have h4 := Rat.mul_nonneg (show (0 : Rat) ≤ m + x by grind) (show (0 : Rat) ≤ n + y by grind)
  exact ⟨by grind, by grind⟩
/-- The middle, as a word. -/
def mid (a b : Nat) : Nat := fmul .f32 1056964608 (fadd .f32 a b)
theorem half32 : isFin .f32 1056964608 = true ∧ rv .f32 1056964608 = 1 / 2 := by decide +kernel
theorem mid_ok {a b : Nat} (fa : isFin .f32 a = true) (fb : isFin .f32 b = true) (a0 : 0 ≤ rv .f32 a) (b0 : 0 ≤ rv .f32 b) (a1 : rv .f32 a ≤ 2000) (b1 : rv .f32 b ≤ 2000) :
    isFin .f32 (mid a b) = true ∧ 0 ≤ rv .f32 (mid a b) ∧ (rv .f32 a + rv .f32 b) / 2 - 131 / 1000000000 * (rv .f32 a + rv .f32 b) - 1 / 10 ^ 30 ≤ rv .f32 (mid a b) ∧ rv .f32 (mid a b) ≤ (rv .f32 a + rv .f32 b) / 2 + 131 / 1000000000 * (rv .f32 a + rv .f32 b) + 1 / 10 ^ 30 := by
  obtain ⟨hf, hv⟩ := half32
  have s := add_rv .f32 fa fb (rv .f32 a + rv .f32 b) (by grind) (by grind) (by grind)
  obtain ⟨s1, s2, s3, s4, -⟩ := s
  have s0 := s4 (by grind)
  rw [eps32] at s2 s3
  have m := mul_rv .f32 hf s1 (rv .f32 (fadd .f32 a b) / 2) (by rw [hv]; grind) (by rw [hv]; grind) (by grind)
  obtain ⟨m1, m2, m3, m4, -⟩ := m
  rw [hv] at m2 m3 m4
  rw [eps32] at m2 m3
  unfold mid
  exact ⟨m1, m4 (by grind), by grind, by grind⟩
/-- How wide the gap may be after k halvings. -/
def gapD (k : Nat) : Rat := 1001 * (50001 / 100000) ^ k
theorem gapD_succ (k : Nat) : gapD (k + 1) = 50001 / 100000 * gapD k := by unfold gapD; rw [Rat.pow_succ]; grind
theorem gapD_nn : ∀ k, 0 ≤ gapD k
  | 0 => by decide +kernel
  | k + 1 => by rw [gapD_succ]; have := gapD_nn k; grind
theorem gapD_tab : ∀ k : Fin 41, 1 / 10 ^ 12 ≤ gapD k.val := by decide +kernel
theorem gapD_zero : gapD 0 = 1001 := by decide +kernel
theorem gapD_end : gapD 40 ≤ 1 / 900000000 := by decide +kernel
theorem mul_rngK {L K : Rat} (p0 : 0 ≤ L) (k0 : 0 ≤ K) (k1 : K ≤ 39) : 0 ≤ L * K ∧ L * K ≤ L * 39 := ⟨Rat.mul_nonneg p0 k0, Rat.mul_le_mul_of_nonneg_left k1 p0⟩
/-- What holds while halving. -/
structure Hv (L0 H0 : Rat) (k : Nat) (l h : Rat) : Prop where
  l0 : 0 ≤ l
  ll : L0 * (1 - (k : Rat) / 1000000) ≤ l
  hl : L0 * (1 - (k : Rat) / 1000000) ≤ h
  l1 : l ≤ H0 * (1 + (k : Rat) / 1000000)
  h1 : h ≤ H0 * (1 + (k : Rat) / 1000000)
  w1 : h - l ≤ gapD k + 6 / 10000000 * h
  w2 : l - h ≤ gapD k + 6 / 10000000 * h
theorem hv_step {k : Nat} {l h c L0 H0 : Rat} (hk : k < 40) (H : Hv L0 H0 k l h) (h0 : 0 ≤ h) (c0 : 0 ≤ c) (hh : 1 / 200 ≤ h) (p0 : 0 ≤ L0) (p1 : 1 / 200 ≤ H0) (c1 : (l + h) / 2 - 131 / 1000000000 * (l + h) - 1 / 10 ^ 30 ≤ c) (c2 : c ≤ (l + h) / 2 + 131 / 1000000000 * (l + h) + 1 / 10 ^ 30) : Hv L0 H0 (k + 1) l c ∧ Hv L0 H0 (k + 1) c h := by
  obtain ⟨a1, al, ah, a2, a3, a4, a5⟩ := H
  have e := gapD_succ k
  have n := gapD_tab ⟨k, by omega⟩
  simp only at n
  have hk' : (k : Rat) ≤ 39 := by
    have : ((k : Nat) : Rat) ≤ ((39 : Nat) : Rat) := by exact_mod_cast (show k ≤ 39 by omega)
    exact this
  have k0 : (0 : Rat) ≤ (k : Rat) := by exact_mod_cast Nat.zero_le k
  have kc : ((k + 1 : Nat) : Rat) = (k : Rat) + 1 := by rw [Rat.natCast_add]; rfl
  have t1 := mul_rngK p0 k0 hk'
  have t2 := mul_rngK (show 0 ≤ H0 by grind) k0 hk'
  generalize (k : Rat) = K at *
  generalize gapD k = D at *
  have q1 : L0 * (1 - (K + 1) / 1000000) ≤ l := by grind
  have q2 : L0 * (1 - (K + 1) / 1000000) ≤ h := by grind
  have q3 : L0 * (1 - (K + 1) / 1000000) ≤ c := by grind
  have q4 : l ≤ H0 * (1 + (K + 1) / 1000000) := by grind
  have q5 : h ≤ H0 * (1 + (K + 1) / 1000000) := by grind
  have q6 : c ≤ H0 * (1 + (K + 1) / 1000000) := by grind
  refine ⟨⟨a1, by rw [kc]; exact q1, by rw [kc]; exact q3, by rw [kc]; exact q4, by rw [kc]; exact q6, by rw [e]; grind, by rw [e]; grind⟩, ⟨c0, by rw [kc]; exact q3, by rw [kc]; exact q2, by rw [kc]; exact q6, by rw [kc]; exact q5, by rw [e]; grind, by rw [e]; grind⟩⟩
/-- The words that halving may meet. -/
structure Met (θ L0 H0 : Rat) (c : Nat) : Prop where
  fin : isFin .f32 c = true
  t : θ / 3 ≤ rv .f32 c
  lo : L0 * (1 - 1 / 20000) ≤ rv .f32 c
  hi : rv .f32 c ≤ H0 * (1 + 1 / 20000)
/-- **HALVING.** Forty halvings of a gap leave two numbers next to each other, the test failing at one and holding at the other. -/
theorem bisect {f : Nat × Nat × Int → Option ((Nat × Nat × Int) ⊕ ((Nat × Nat) ⊕ (Nat × Nat)))} (p : Nat → Bool) (lo0 hi0 : Nat) (θ Θ L0 H0 : Rat) (t1 : 1 / 200 ≤ θ)
    (fl : isFin .f32 lo0 = true) (fh : isFin .f32 hi0 = true) (vl : rv .f32 lo0 = L0) (vh : rv .f32 hi0 = H0) (l0 : 0 ≤ L0) (l1 : L0 + 1 / 500000000 < θ * (99999 / 100000)) (h0 : Θ ≤ H0) (h1 : H0 ≤ 1000) (ht : θ ≤ Θ)
    (hstep : ∀ lo hi (k : Nat), k < 40 → Met θ L0 H0 (mid lo hi) → f (lo, hi, (k : Int)) = some (.inl (bif p (mid lo hi) then (lo, mid lo hi, ((k + 1 : Nat) : Int)) else (mid lo hi, hi, ((k + 1 : Nat) : Int)))))
    (hend : ∀ lo hi, f (lo, hi, 40) = some (.inr (.inr (lo, hi))))
    (hlow : ∀ c, Met θ L0 H0 c → rv .f32 c ≤ θ → p c = false)
    (hhigh : ∀ c, Met θ L0 H0 c → Θ ≤ rv .f32 c → p c = true) :
    ∃ lo hi, runL f (lo0, hi0, 0) = some (.inr (lo, hi)) ∧ Met θ L0 H0 lo ∧ Met θ L0 H0 hi ∧ p lo = false ∧ p hi = true ∧ rv .f32 lo ≤ Θ ∧ θ ≤ rv .f32 hi ∧ rv .f32 hi - rv .f32 lo ≤ 1 / 1000000 * rv .f32 hi ∧ rv .f32 lo - rv .f32 hi ≤ 1 / 1000000 * rv .f32 hi := by
  have I0 : Hv L0 H0 0 (rv .f32 lo0) (rv .f32 hi0) := by
    have z : ((0 : Nat) : Rat) = 0 := rfl
    have zg := gapD_zero
    rw [vl, vh]
    exact ⟨l0, by rw [z]; grind, by rw [z]; grind, by rw [z]; grind, by rw [z]; grind, by rw [zg]; grind, by rw [zg]; grind⟩
  have Mh : Met θ L0 H0 hi0 := ⟨fh, by rw [vh]; grind, by rw [vh]; grind, by rw [vh]; grind⟩
  obtain ⟨R, r1, lo, hi, e, g1, g2, g3, g4, g5, g6⟩ := runL_ex0 (f := f) 40
    (fun k s => ∃ lo hi, s = (lo, hi, (k : Int)) ∧ isFin .f32 lo = true ∧ Met θ L0 H0 hi ∧ Hv L0 H0 k (rv .f32 lo) (rv .f32 hi) ∧ (lo = lo0 ∨ (p lo = false ∧ Met θ L0 H0 lo ∧ rv .f32 lo ≤ Θ)) ∧ p hi = true ∧ θ ≤ rv .f32 hi)
    (fun r => ∃ lo hi, r = .inr (lo, hi) ∧ isFin .f32 lo = true ∧ Met θ L0 H0 hi ∧ Hv L0 H0 40 (rv .f32 lo) (rv .f32 hi) ∧ (lo = lo0 ∨ (p lo = false ∧ Met θ L0 H0 lo ∧ rv .f32 lo ≤ Θ)) ∧ p hi = true ∧ θ ≤ rv .f32 hi)
    (lo0, hi0, 0) ⟨lo0, hi0, rfl, fl, Mh, I0, .inl rfl, hhigh hi0 Mh (by rw [vh]; exact h0), by rw [vh]; grind⟩
    (fun k s hk ⟨lo, hi, e, g1, g2, g3, g4, g5, g6⟩ => by
      subst e
      have hk' : (k : Rat) ≤ 39 := by
        have : ((k : Nat) : Rat) ≤ ((39 : Nat) : Rat) := by exact_mod_cast (show k ≤ 39 by omega)
        exact this
      have k0 : (0 : Rat) ≤ (k : Rat) := by exact_mod_cast Nat.zero_le k
      have u1 := mul_rngK l0 k0 hk'
      have u2 := mul_rngK (show 0 ≤ H0 by grind) k0 hk'
      have b1 := g3.l1
      have b2 := g3.h1
      have b3 := g3.ll
      have b4 := g3.hl
      obtain ⟨m1, m0, m2, m3⟩ := mid_ok g1 g2.fin g3.l0 (by grind) (by grind) (by grind)
      have c1 : Met θ L0 H0 (mid lo hi) := by
        have := g3.l0
        exact ⟨m1, by grind, by grind, by grind⟩
      have st := hv_step hk g3 (by grind) m0 (by grind) l0 (by grind) m2 m3
      refine ⟨_, hstep lo hi k hk c1, ?_⟩
      cases hp : p (mid lo hi) with
      | true =>
        refine ⟨lo, mid lo hi, rfl, g1, c1, st.1, g4, hp, ?_⟩
        rcases Rat.le_total (a := rv .f32 (mid lo hi)) (b := θ) with h | h
        · rw [hlow _ c1 h] at hp; cases hp
        · exact h
      | false =>
        refine ⟨mid lo hi, hi, rfl, m1, g2, st.2, .inr ⟨hp, c1, ?_⟩, g5, g6⟩
        rcases Rat.le_total (a := rv .f32 (mid lo hi)) (b := Θ) with h | h
        · exact h
        · rw [hhigh _ c1 h] at hp; cases hp)
    (fun s ⟨lo, hi, e, g1, g2, g3, g4, g5, g6⟩ => by
      subst e
      exact ⟨_, hend lo hi, lo, hi, rfl, g1, g2, g3, g4, g5, g6⟩)
  subst e
  have w1 := g3.w1
  have w2 := g3.w2
  have ge := gapD_end
  refine ⟨lo, hi, r1, ?_⟩
  rcases g4 with g4 | ⟨g7, g8, g9⟩
  · exfalso
    subst g4
    rw [vl] at w1
    generalize gapD 40 = D at *
    grind
  · generalize gapD 40 = D at *
    refine ⟨g8, g2, g7, g5, g9, g6, by grind, by grind⟩
/-- The word c is within a share a of X. -/
structure Re (a : Rat) (c : Nat) (X : Rat) : Prop where
  fin : isFin .f32 c = true
  lo : X * (1 - a) ≤ rv .f32 c
  hi : rv .f32 c ≤ X * (1 + a)
theorem re_weak {a d X : Rat} {c : Nat} (h : Re a c X) (x0 : 0 ≤ X) (hd : a ≤ d) : Re d c X := by
  have h1 := Rat.mul_le_mul_of_nonneg_left (show 1 + a ≤ 1 + d by grind) x0
  have h2 := Rat.mul_le_mul_of_nonneg_left (show 1 - d ≤ 1 - a by grind) x0
  exact ⟨h.fin, Rat.le_trans h2 h.lo, Rat.le_trans h.hi h1⟩
theorem re_self {c : Nat} (h : isFin .f32 c = true) : Re 0 c (rv .f32 c) := ⟨h, by grind, by grind⟩
theorem mul_rng {x y a b c d : Rat} (h1 : a ≤ x) (h2 : x ≤ b) (h3 : c ≤ y) (h4 : y ≤ d) (ha : 0 ≤ a) (hc : 0 ≤ c) : a * c ≤ x * y ∧ x * y ≤ b * d := by
  have g1 := Rat.mul_le_mul_of_nonneg_right h1 hc
  have g2 := Rat.mul_le_mul_of_nonneg_left h3 (show 0 ≤ x by grind)
  have g3 := Rat.mul_le_mul_of_nonneg_right h2 (show 0 ≤ y by grind)
  have g4 := Rat.mul_le_mul_of_nonneg_left h4 (show 0 ≤ b by grind)
  exact ⟨by grind, by grind⟩
/-- Two shares, one after the other. -/
theorem share_up {P a b e : Rat} (p0 : 0 ≤ P) (a0 : 0 ≤ a) (b0 : 0 ≤ b) (a1 : a ≤ 1 / 10000) (b1 : b ≤ 1 / 10000) (h : a + b + 1 / 100000000 ≤ e) : P * (1 + a) * (1 + b) ≤ P * (1 + e) := by
  have h1 := mul_rng a0 a1 b0 b1 (by decide +kernel) (by decide +kernel)
  have h2 := Rat.mul_le_mul_of_nonneg_left (show (1 + a) * (1 + b) ≤ 1 + e by grind) p0
  grind
theorem share_dn {P a b e : Rat} (p0 : 0 ≤ P) (a0 : 0 ≤ a) (b0 : 0 ≤ b) (h : a + b ≤ e) : P * (1 - e) ≤ P * (1 - a) * (1 - b) := by
  have h1 := Rat.mul_nonneg a0 b0
  have h2 := Rat.mul_le_mul_of_nonneg_left (show 1 - e ≤ (1 - a) * (1 - b) by grind) p0
  grind
/-- The last step: rounding. -/
theorem re_round {c : Nat} {x P e d : Rat} (h : Near .f32 c x (P * (1 + e))) (h0 : P = 0 → rv .f32 c = 0) (p : P = 0 ∨ 1 / 10 ^ 30 ≤ P) (l : P * (1 - e) ≤ x) (u : x ≤ P * (1 + e)) (e0 : 0 ≤ e) (e1 : e ≤ 1 / 1000) (hd : e + 19 / 100000000 ≤ d) : Re d c P := by
  have hl := h.lo
  have hu := h.hi
  rw [eps32] at hl hu
  rcases p with p | p
  · have z := h0 p
    refine ⟨h.fin, ?_, ?_⟩ <;> rw [z, p] <;> grind
  · have h1 := Rat.mul_le_mul_of_nonneg_left (c := P) e1 (by grind)
    have h2 := Rat.mul_le_mul_of_nonneg_left (c := P) hd (by grind)
    have h3 := Rat.mul_le_mul_of_nonneg_left (c := P) e0 (by grind)
    exact ⟨h.fin, by grind, by grind⟩
theorem re_mul {a b d A B : Rat} {x y : Nat} (hx : Re a x A) (hy : Re b y B) (hd : a + b + 1 / 5000000 ≤ d) (a0 : 0 ≤ a) (b0 : 0 ≤ b) (a1 : a ≤ 1 / 10000) (b1 : b ≤ 1 / 10000) (A0 : 0 ≤ A) (B0 : 0 ≤ B) (p : A * B = 0 ∨ 1 / 10 ^ 30 ≤ A * B) (hb : A * B ≤ 10 ^ 28) : Re d (fmul .f32 x y) (A * B) := by
  obtain ⟨f1, l1, u1⟩ := hx
  obtain ⟨f2, l2, u2⟩ := hy
  have P0 := Rat.mul_nonneg A0 B0
  have na := Rat.mul_nonneg A0 (show 0 ≤ 1 - a by grind)
  have nb := Rat.mul_nonneg B0 (show 0 ≤ 1 - b by grind)
  have r := mul_rng l1 u1 l2 u2 na nb
  have s1 := share_up P0 a0 b0 a1 b1 (Rat.le_refl (a := a + b + 1 / 100000000))
  have s2 := share_dn P0 a0 b0 (show a + b ≤ a + b + 1 / 100000000 by grind)
  have l : A * B * (1 - (a + b + 1 / 100000000)) ≤ rv .f32 x * rv .f32 y := by grind
  have u : rv .f32 x * rv .f32 y ≤ A * B * (1 + (a + b + 1 / 100000000)) := by grind
  have big : (10 : Rat) ^ 28 * 2 ≤ 2 ^ 100 := by decide +kernel
  have e2 := Rat.mul_le_mul_of_nonneg_left (c := A * B) (show 1 + (a + b + 1 / 100000000) ≤ 2 by grind) P0
  have m := mul_rv .f32 f1 f2 (A * B * (1 + (a + b + 1 / 100000000))) (by grind) u (by grind)
  refine re_round m (fun h => ?_) p l u (by grind) (by grind) (by grind)
  have g1 := m.pos (by grind)
  have g2 := m.neg (by rw [h] at u; grind)
  grind
theorem re_div {a b d A B Z : Rat} {x y : Nat} (hx : Re a x A) (hy : Re b y B) (hz : Z * B = A) (hd : a + b + 1 / 4000000 ≤ d) (a0 : 0 ≤ a) (b0 : 0 ≤ b) (a1 : a ≤ 1 / 10000) (b1 : b ≤ 1 / 10000) (Z0 : 0 ≤ Z) (B0 : 0 < B) (p : Z = 0 ∨ 1 / 10 ^ 30 ≤ Z) (hb : Z ≤ 10 ^ 28) : Re d (fdiv .f32 x y) Z := by
  obtain ⟨f1, l1, u1⟩ := hx
  obtain ⟨f2, l2, u2⟩ := hy
  have nb := Rat.mul_pos B0 (show 0 < 1 - b by grind)
  have y0 : 0 < rv .f32 y := by grind
  have q := Rat.div_mul_cancel (a := rv .f32 x) (b := rv .f32 y) (by grind)
  generalize hq : rv .f32 x / rv .f32 y = Q at q
  have ab := mul_rng a0 a1 b0 b1 (by decide +kernel) (by decide +kernel)
  have bb := mul_rng b0 b1 b0 b1 (by decide +kernel) (by decide +kernel)
  -- the quotient lies near Z
  have u : Q ≤ Z * (1 + (a + b + 3 / 100000000)) := by
    have h1 : Z * B * (1 + a) ≤ Z * (1 + (a + b + 3 / 100000000)) * (B * (1 - b)) := by
      have := Rat.mul_le_mul_of_nonneg_left (c := Z * B) (show 1 + a ≤ (1 + (a + b + 3 / 100000000)) * (1 - b) by grind) (Rat.mul_nonneg Z0 (Rat.le_of_lt B0))
      grind
    have h2 := Rat.mul_le_mul_of_nonneg_left l2 (Rat.mul_nonneg Z0 (show 0 ≤ 1 + (a + b + 3 / 100000000) by grind))
    have h3 : Q * rv .f32 y ≤ Z * (1 + (a + b + 3 / 100000000)) * rv .f32 y := by rw [q]; subst hz; grind
    exact Rat.le_of_mul_le_mul_right h3 y0
  have l : Z * (1 - (a + b + 3 / 100000000)) ≤ Q := by
    have h1 : Z * (1 - (a + b + 3 / 100000000)) * (B * (1 + b)) ≤ Z * B * (1 - a) := by
      have := Rat.mul_le_mul_of_nonneg_left (c := Z * B) (show (1 - (a + b + 3 / 100000000)) * (1 + b) ≤ 1 - a by grind) (Rat.mul_nonneg Z0 (Rat.le_of_lt B0))
      grind
    have h2 := Rat.mul_le_mul_of_nonneg_left u2 (Rat.mul_nonneg Z0 (show 0 ≤ 1 - (a + b + 3 / 100000000) by grind))
    have h3 : Z * (1 - (a + b + 3 / 100000000)) * rv .f32 y ≤ Q * rv .f32 y := by rw [q]; subst hz; grind
    exact Rat.le_of_mul_le_mul_right h3 y0
  have big : (10 : Rat) ^ 28 * 2 ≤ 2 ^ 100 := by decide +kernel
  have e2 := Rat.mul_le_mul_of_nonneg_left (c := Z) (show 1 + (a + b + 3 / 100000000) ≤ 2 by grind) Z0
  have e3 := Rat.mul_nonneg Z0 (show 0 ≤ 1 - (a + b + 3 / 100000000) by grind)
  have m := div_rv .f32 f1 f2 y0 Q (Z * (1 + (a + b + 3 / 100000000))) q (by grind) u (by grind)
  refine re_round m (fun h => ?_) p l u (by grind) (by grind) (by grind)
  have g1 := m.pos (by grind)
  have g2 := m.neg (by rw [h] at u; grind)
  grind
theorem re_add {a d A B : Rat} {x y : Nat} (hx : Re a x A) (hy : Re a y B) (hd : a + 1 / 5000000 ≤ d) (a0 : 0 ≤ a) (a1 : a ≤ 1 / 10000) (A0 : 0 ≤ A) (B0 : 0 ≤ B) (p : 1 / 10 ^ 30 ≤ A + B) (hb : A + B ≤ 10 ^ 28) : Re d (fadd .f32 x y) (A + B) := by
  obtain ⟨f1, l1, u1⟩ := hx
  obtain ⟨f2, l2, u2⟩ := hy
  have l : (A + B) * (1 - a) ≤ rv .f32 x + rv .f32 y := by grind
  have u : rv .f32 x + rv .f32 y ≤ (A + B) * (1 + a) := by grind
  have big : (10 : Rat) ^ 28 * 2 ≤ 2 ^ 100 := by decide +kernel
  have e2 := Rat.mul_le_mul_of_nonneg_left (c := A + B) (show 1 + a ≤ 2 by grind) (by grind)
  have e3 := Rat.mul_nonneg (show 0 ≤ A + B by grind) (show 0 ≤ 1 - a by grind)
  have m := add_rv .f32 f1 f2 ((A + B) * (1 + a)) (by grind) u (by grind)
  exact re_round m (fun h => by exfalso; grind) (.inr p) l u a0 (by grind) (by grind)
/-- Roots, by their squares. -/
theorem root_sq {a A : Rat} {x : Nat} (hx : Re a x A) (a0 : 0 ≤ a) (a1 : a ≤ 1 / 100000) (A0 : 1 / 10 ^ 10 ≤ A) (A1 : A ≤ 10 ^ 11) : isFin .f32 (froot x) = true ∧ 0 ≤ rv .f32 (froot x) ∧ A * (1 - 3 / 100000) ≤ rv .f32 (froot x) * rv .f32 (froot x) ∧ rv .f32 (froot x) * rv .f32 (froot x) ≤ A * (1 + 3 / 100000) := by
  obtain ⟨f1, l1, u1⟩ := hx
  have h1 := Rat.mul_le_mul_of_nonneg_left (c := A) a1 (by grind)
  obtain ⟨r1, r0, -, r3, r4⟩ := froot_rv f1 (by grind) (by grind)
  refine ⟨r1, r0, ?_, ?_⟩
  · generalize rv .f32 (froot x) * rv .f32 (froot x) = R at *
    grind
  · generalize rv .f32 (froot x) * rv .f32 (froot x) = R at *
    grind
/-! ### The sum of a logarithm -/
def kW (n : Nat) : Nat := fdiv .f64 4607182418800017408 (FloatKind.nearest .f64 (25 - 2 * (n : Int)))
def kR (n : Nat) : Rat := 1 / (25 - 2 * (n : Rat))
theorem k_tab : ∀ n : Fin 13, isFin .f64 (kW n.val) = true ∧ rv .f64 (kW n.val) - kR n.val ≤ 1 / 10 ^ 15 ∧ kR n.val - rv .f64 (kW n.val) ≤ 1 / 10 ^ 15 ∧ 0 ≤ kR n.val ∧ (n.val < 12 → kR n.val ≤ 1 / 3) := by decide +kernel
theorem k_end : kR 12 = 1 := by decide +kernel
def qW (u : Nat) : Nat → Nat
  | 0 => 0
  | n + 1 => fadd .f64 (kW n) (fmul .f64 u (qW u n))
def qR (u : Rat) : Nat → Rat
  | 0 => 0
  | n + 1 => kR n + u * qR u n
theorem zero64 : isFin .f64 0 = true ∧ rv .f64 0 = 0 := by decide +kernel
theorem qR_rng {u : Rat} (u0 : 0 ≤ u) (u1 : u ≤ 1 / 20) : ∀ n, n ≤ 12 → 0 ≤ qR u n ∧ qR u n ≤ 36 / 100
  | 0, _ => by simp only [qR]; exact ⟨by decide +kernel, by decide +kernel⟩
  | n + 1, h => by
    obtain ⟨i1, i2⟩ := qR_rng u0 u1 n (by omega)
    obtain ⟨-, -, -, k1, k2⟩ := k_tab ⟨n, by omega⟩
    have k2 := k2 (by simp only; omega)
    have m := mul_rng u0 u1 i1 i2 (by decide +kernel) (by decide +kernel)
    simp only [qR] at *
    exact ⟨by grind, by grind⟩
theorem qR_end {u : Rat} (u0 : 0 ≤ u) (u1 : u ≤ 1 / 20) : 1 ≤ qR u 13 ∧ qR u 13 ≤ 102 / 100 := by
  obtain ⟨i1, i2⟩ := qR_rng u0 u1 12 (Nat.le_refl _)
  have m := mul_rng u0 u1 i1 i2 (by decide +kernel) (by decide +kernel)
  have e := k_end
  show 1 ≤ kR 12 + u * qR u 12 ∧ kR 12 + u * qR u 12 ≤ 102 / 100
  exact ⟨by grind, by grind⟩
theorem qR_lip {u v : Rat} (u0 : 0 ≤ u) (uv : u ≤ v) (v1 : v ≤ 1 / 20) : ∀ n, n ≤ 13 → 0 ≤ qR v n - qR u n ∧ qR v n - qR u n ≤ 4 / 10 * (v - u)
  | 0, _ => by simp only [qR]; exact ⟨by grind, by grind⟩
  | n + 1, h => by
    obtain ⟨i1, i2⟩ := qR_lip u0 uv v1 n (by omega)
    obtain ⟨j1, j2⟩ := qR_rng (u := v) (by grind) v1 n (by omega)
    have m1 := mul_rng (show 0 ≤ v - u by grind) (Rat.le_refl) j1 j2 (by decide +kernel) (by decide +kernel)
    have m2 := mul_rng u0 (show u ≤ 1 / 20 by grind) i1 i2 (by decide +kernel) (by decide +kernel)
    simp only [qR]
    exact ⟨by grind, by grind⟩
theorem q_word {u : Nat} (fu : isFin .f64 u = true) (u0 : 0 ≤ rv .f64 u) (u1 : rv .f64 u ≤ 1 / 20) : ∀ n, n ≤ 13 → isFin .f64 (qW u n) = true ∧ rv .f64 (qW u n) - qR (rv .f64 u) n ≤ 4 / 10 ^ 15 ∧ qR (rv .f64 u) n - rv .f64 (qW u n) ≤ 4 / 10 ^ 15
  | 0, _ => by
    obtain ⟨z1, z2⟩ := zero64
    simp only [qW, qR]; rw [z2]; exact ⟨z1, by decide +kernel, by decide +kernel⟩
  | n + 1, h => by
    obtain ⟨i1, i2, i3⟩ := q_word fu u0 u1 n (by omega)
    obtain ⟨j1, j2⟩ := qR_rng u0 u1 n (by omega)
    obtain ⟨k1, k2, k3, k4, -⟩ := k_tab ⟨n, by omega⟩
    simp only at k1 k2 k3 k4
    have k5 : kR n ≤ 1 := by
      by_cases hn : n < 12
      · have := (k_tab ⟨n, by omega⟩).2.2.2.2 hn; simp only at this; grind
      · have : n = 12 := by omega
        subst this; rw [k_end]; exact Rat.le_refl
    have m := mulB (x := rv .f64 u) (y := rv .f64 (qW u n)) (m := 1 / 20) (n := 1 / 2) ⟨by grind, u1⟩ ⟨by grind, by grind⟩
    have m2 := mulB (x := rv .f64 u) (y := rv .f64 (qW u n) - qR (rv .f64 u) n) (m := 1 / 20) (n := 4 / 10 ^ 15) ⟨by grind, u1⟩ ⟨by grind, by grind⟩
    have p := mul_rv .f64 fu i1 1 (by grind) (by grind) (by decide +kernel)
    obtain ⟨p1, p2, p3, -, -⟩ := p
    rw [eps64] at p2 p3
    have s := add_rv .f64 k1 p1 2 (by grind) (by grind) (by decide +kernel)
    obtain ⟨s1, s2, s3, -, -⟩ := s
    rw [eps64] at s2 s3
    simp only [qW, qR]
    exact ⟨s1, by grind, by grind⟩
/-- The sum, at y. -/
def sR (y : Rat) : Rat := (y - 1) / (y + 1)
theorem sR_mul {y : Rat} (h : 0 < y + 1) : sR y * (y + 1) = y - 1 := Rat.div_mul_cancel (by grind)
def fR (y : Rat) : Rat := 2 * (sR y * qR (sR y * sR y) 13)
theorem sR_rng {y : Rat} (h1 : 7 / 10 ≤ y) (h2 : y ≤ 151 / 100) : -(1 / 5) ≤ sR y ∧ sR y ≤ 21 / 100 := by
  have e := sR_mul (y := y) (by grind)
  generalize sR y = s at *
  constructor
  · refine Rat.le_of_mul_le_mul_right (c := y + 1) ?_ (by grind)
    grind
  · refine Rat.le_of_mul_le_mul_right (c := y + 1) ?_ (by grind)
    grind
theorem sR_mono {y z : Rat} (h1 : 7 / 10 ≤ y) (h2 : y ≤ z) (h3 : z ≤ 151 / 100) : 0 ≤ sR z - sR y ∧ sR z - sR y ≤ 7 / 10 * (z - y) := by
  have e := sR_mul (y := y) (by grind)
  have e' := sR_mul (y := z) (by grind)
  generalize sR y = s at *
  generalize sR z = t at *
  have d0 : 0 < (y + 1) * (z + 1) := Rat.mul_pos (by grind) (by grind)
  have key : (t - s) * ((y + 1) * (z + 1)) = 2 * (z - y) := by grind
  have d1 := mul_rng (show 17 / 10 ≤ y + 1 by grind) (Rat.le_refl) (show 17 / 10 ≤ z + 1 by grind) (Rat.le_refl) (by decide +kernel) (by decide +kernel)
  constructor
  · refine Rat.le_of_mul_le_mul_right (c := (y + 1) * (z + 1)) ?_ d0
    rw [key]; grind
  · refine Rat.le_of_mul_le_mul_right (c := (y + 1) * (z + 1)) ?_ d0
    rw [key]
    have := Rat.mul_le_mul_of_nonneg_left (c := 7 / 10 * (z - y)) d1.1 (by grind)
    grind
/-- The sum grows with s, at a rate near 2. -/
theorem f_core {s t : Rat} (h1 : -(21 / 100) ≤ s) (h2 : s ≤ t) (h3 : t ≤ 21 / 100) : 0 ≤ 2 * (t * qR (t * t) 13) - 2 * (s * qR (s * s) 13) ∧ 2 * (t * qR (t * t) 13) - 2 * (s * qR (s * s) 13) ≤ 22 / 10 * (t - s) := by
  have a := mulB (x := s) (y := s) (m := 21 / 100) (n := 21 / 100) ⟨by grind, by grind⟩ ⟨by grind, by grind⟩
  have b := mulB (x := t) (y := t) (m := 21 / 100) (n := 21 / 100) ⟨by grind, by grind⟩ ⟨by grind, by grind⟩
  have a0 : 0 ≤ s * s := by
    rcases Rat.le_total (a := 0) (b := s) with g | g
    · exact Rat.mul_nonneg g g
    · have := Rat.mul_nonneg (show 0 ≤ -s by grind) (show 0 ≤ -s by grind); grind
  have b0 : 0 ≤ t * t := by
    rcases Rat.le_total (a := 0) (b := t) with g | g
    · exact Rat.mul_nonneg g g
    · have := Rat.mul_nonneg (show 0 ≤ -t by grind) (show 0 ≤ -t by grind); grind
  have qs := qR_end a0 (by grind)
  have qt := qR_end b0 (by grind)
  have d := mulB (x := t - s) (y := t + s) (m := t - s) (n := 42 / 100) ⟨by grind, Rat.le_refl⟩ ⟨by grind, by grind⟩
  have sq : t * t - s * s = (t - s) * (t + s) := by grind
  have dq : -(17 / 100 * (t - s)) ≤ qR (t * t) 13 - qR (s * s) 13 ∧ qR (t * t) 13 - qR (s * s) 13 ≤ 17 / 100 * (t - s) := by
    rcases Rat.le_total (a := s * s) (b := t * t) with g | g
    · have l := qR_lip a0 g (by grind) 13 (Nat.le_refl _); exact ⟨by grind, by grind⟩
    · have l := qR_lip b0 g (by grind) 13 (Nat.le_refl _); exact ⟨by grind, by grind⟩
  generalize qR (t * t) 13 = Q at *
  generalize qR (s * s) 13 = P at *
  have m1 := mul_rng (show 0 ≤ t - s by grind) (Rat.le_refl) qt.1 qt.2 (by decide +kernel) (by decide +kernel)
  have m2 := mulB (x := s) (y := Q - P) (m := 21 / 100) (n := 17 / 100 * (t - s)) ⟨by grind, by grind⟩ dq
  have m3 := Rat.mul_le_mul_of_nonneg_left (c := t - s) qt.1 (by grind)
  exact ⟨by grind, by grind⟩
theorem fR_mono {y z : Rat} (h1 : 7 / 10 ≤ y) (h2 : y ≤ z) (h3 : z ≤ 151 / 100) : 0 ≤ fR z - fR y ∧ fR z - fR y ≤ 16 / 10 * (z - y) := by
  have s := sR_mono h1 h2 h3
  have r1 := sR_rng h1 (by grind)
  have r2 := sR_rng (y := z) (by grind) h3
  have c := f_core (s := sR y) (t := sR z) (by grind) (by grind) (by grind)
  unfold fR
  exact ⟨c.1, by grind⟩
/-- The constant: the logarithm of two. -/
def lam : Rat := rv .f64 4604418534313441775
theorem lam_tab : isFin .f64 4604418534313441775 = true ∧ 69 / 100 ≤ lam ∧ lam ≤ 7 / 10 := by decide +kernel
theorem f_tab : fR (3 / 2) - fR (3 / 4) - lam ≤ 1 / 10 ^ 10 ∧ lam + fR (3 / 4) - fR (3 / 2) ≤ 1 / 10 ^ 10 := by decide +kernel
theorem f_one : fR 1 = 0 := by decide +kernel
theorem pow_pos2 (e : Int) : (0 : Rat) < (2 : Rat) ^ e := Rat.zpow_pos (by decide +kernel)
theorem pow_add1 (e : Int) : (2 : Rat) ^ (e + 1) = 2 * (2 : Rat) ^ e := by
  rw [Rat.zpow_add_one (by decide +kernel)]; grind
/-- **LOGARITHMS GROW**, nearly, and no faster than they should. -/
theorem log_mono {y z δ : Rat} {e g : Int} (y1 : 3 / 4 ≤ y) (y2 : y ≤ 3 / 2 + 1 / 10 ^ 9) (z1 : 3 / 4 ≤ z) (z2 : z ≤ 3 / 2 + 1 / 10 ^ 9) (d0 : 0 ≤ δ) (d1 : δ ≤ 1 / 1000) (h : z * (2 : Rat) ^ g ≤ y * (2 : Rat) ^ e * (1 + δ)) :
    fR z + (g : Rat) * lam ≤ fR y + (e : Rat) * lam + 4 * δ + 1 / 10 ^ 7 := by
  obtain ⟨-, l1, l2⟩ := lam_tab
  obtain ⟨t1, t2⟩ := f_tab
  have pe := pow_pos2 e
  have pg := pow_pos2 g
  have yd := mul_rng (show 0 ≤ y by grind) y2 d0 (Rat.le_refl (a := δ)) (by decide +kernel) (by decide +kernel)
  rcases Int.lt_trichotomy g e with c | c | c
  · -- a lower rung
    have m := fR_mono (y := 3 / 2) (z := 3 / 2 + 1 / 10 ^ 9) (by decide +kernel) (by decide +kernel) (by decide +kernel)
    have m1 := fR_mono (y := z) (z := 3 / 2 + 1 / 10 ^ 9) (by grind) z2 (by decide +kernel)
    have m2 := fR_mono (y := 3 / 4) (z := y) (by decide +kernel) y1 (by grind)
    have ge : (g : Rat) ≤ (e : Rat) - 1 := by
      have : ((g : Int) : Rat) ≤ ((e - 1 : Int) : Rat) := by exact_mod_cast (show g ≤ e - 1 by omega)
      rw [Rat.intCast_sub] at this
      exact this
    have := Rat.mul_le_mul_of_nonneg_right ge (show 0 ≤ lam by grind)
    grind
  · subst c
    have hz : z ≤ y * (1 + δ) := by
      refine Rat.le_of_mul_le_mul_right (c := (2 : Rat) ^ g) ?_ pg
      grind
    rcases Rat.le_total (a := z) (b := y) with w | w
    · have m := fR_mono (y := z) (z := y) (by grind) w (by grind)
      grind
    · have m := fR_mono (y := y) (z := z) (by grind) w (by grind)
      grind
  · -- a higher rung
    obtain ⟨d, rfl⟩ : ∃ d : Nat, g = e + 1 + d := ⟨(g - e - 1).toNat, by omega⟩
    have two : (2 : Rat) ^ (e + 1 + (d : Int)) = 2 * (2 : Rat) ^ e * ((2 ^ d : Nat) : Rat) := by
      rw [Rat.zpow_add (by decide +kernel), pow_add1, Rat.zpow_natCast, Rat.natCast_pow]; rfl
    rw [two] at h
    have hd : (1 : Rat) ≤ ((2 ^ d : Nat) : Rat) := by exact_mod_cast Nat.one_le_two_pow
    have key : 2 * z * ((2 ^ d : Nat) : Rat) ≤ y * (1 + δ) := by
      refine Rat.le_of_mul_le_mul_right (c := (2 : Rat) ^ e) ?_ pe
      grind
    cases d with
    | succ d =>
      exfalso
      have h2 : (2 : Rat) ≤ ((2 ^ (d + 1) : Nat) : Rat) := by
        exact_mod_cast (show 2 ≤ 2 ^ (d + 1) by rw [Nat.pow_succ]; have := Nat.one_le_two_pow (n := d); omega)
      have := mul_rng (show 3 / 2 ≤ 2 * z by grind) (Rat.le_refl) h2 (Rat.le_refl) (by decide +kernel) (by decide +kernel)
      grind
    | zero =>
      have e1 : ((2 ^ 0 : Nat) : Rat) = 1 := rfl
      rw [e1] at key
      have m1 := fR_mono (y := 3 / 4) (z := z) (by decide +kernel) z1 (by grind)
      have ec : ((e + 1 + ((0 : Nat) : Int) : Int) : Rat) = (e : Rat) + 1 := by
        rw [show e + 1 + ((0 : Nat) : Int) = e + 1 by omega, Rat.intCast_add]; rfl
      rw [ec]
      rcases Rat.le_total (a := y) (b := 3 / 2) with w | w
      · have m2 := fR_mono (y := y) (z := 3 / 2) (by grind) w (by decide +kernel)
        grind
      · have m2 := fR_mono (y := 3 / 2) (z := y) (by decide +kernel) w (by grind)
        grind
/-! ### The words of a logarithm -/
def sW (y : Nat) : Nat := fdiv .f64 (fsub .f64 y 4607182418800017408) (fadd .f64 y 4607182418800017408)
def logW (y e : Nat) : Nat := fadd .f64 (fmul .f64 4611686018427387904 (fmul .f64 (sW y) (qW (fmul .f64 (sW y) (sW y)) 13))) (fmul .f64 e 4604418534313441775)
theorem cst64 : isFin .f64 4607182418800017408 = true ∧ rv .f64 4607182418800017408 = 1 ∧ isFin .f64 4611686018427387904 = true ∧ rv .f64 4611686018427387904 = 2 := by decide +kernel
theorem fR_bound {y : Rat} (h1 : 7 / 10 ≤ y) (h2 : y ≤ 151 / 100) : -(1 / 2) ≤ fR y ∧ fR y ≤ 1 / 2 := by
  have r := sR_rng h1 h2
  generalize hs : sR y = s at r
  have a := mulB (x := s) (y := s) (m := 21 / 100) (n := 21 / 100) ⟨by grind, by grind⟩ ⟨by grind, by grind⟩
  have a0 : 0 ≤ s * s := by
    rcases Rat.le_total (a := 0) (b := s) with g | g
    · exact Rat.mul_nonneg g g
    · have := Rat.mul_nonneg (show 0 ≤ -s by grind) (show 0 ≤ -s by grind); grind
  have q := qR_end a0 (by grind)
  have m := mulB (x := s) (y := qR (s * s) 13) (m := 21 / 100) (n := 102 / 100) ⟨by grind, by grind⟩ ⟨by grind, q.2⟩
  unfold fR
  rw [hs]
  exact ⟨by grind, by grind⟩
theorem log_word {y e : Nat} {E : Int} (fy : isFin .f64 y = true) (fe : isFin .f64 e = true) (y1 : 3 / 4 ≤ rv .f64 y) (y2 : rv .f64 y ≤ 3 / 2 + 1 / 10 ^ 9) (e1 : rv .f64 e - E ≤ 1 / 10 ^ 12) (e2 : (E : Rat) - rv .f64 e ≤ 1 / 10 ^ 12) (e3 : -30 ≤ E) (e4 : E ≤ 30) :
    isFin .f64 (logW y e) = true ∧ rv .f64 (logW y e) - (fR (rv .f64 y) + (E : Rat) * lam) ≤ 1 / 10 ^ 10 ∧ fR (rv .f64 y) + (E : Rat) * lam - rv .f64 (logW y e) ≤ 1 / 10 ^ 10 := by
  obtain ⟨c1, c2, c3, c4⟩ := cst64
  obtain ⟨l1, l2, l3⟩ := lam_tab
  have E3 := Rat.intCast_le_intCast.2 e3
  rw [show ((-30 : Int) : Rat) = -30 from by decide +kernel] at E3
  have E4 : (E : Rat) ≤ 30 := by exact_mod_cast e4
  have a := sub_rv .f64 fy c1 1 (by rw [c2]; grind) (by rw [c2]; grind) (by decide +kernel)
  have b := add_rv .f64 fy c1 3 (by rw [c2]; grind) (by rw [c2]; grind) (by decide +kernel)
  obtain ⟨a1, a2, a3, -, -⟩ := a
  obtain ⟨b1, b2, b3, -, -⟩ := b
  rw [c2, eps64] at a2 a3 b2 b3
  have b0 : 0 < rv .f64 (fadd .f64 y 4607182418800017408) := by grind
  have sm := sR_mul (y := rv .f64 y) (by grind)
  have sr := sR_rng (y := rv .f64 y) (by grind) (by grind)
  have sd : isFin .f64 (sW y) = true ∧ rv .f64 (sW y) - sR (rv .f64 y) ≤ 1 / 10 ^ 14 ∧ sR (rv .f64 y) - rv .f64 (sW y) ≤ 1 / 10 ^ 14 := by
    have q := Rat.div_mul_cancel (a := rv .f64 (fsub .f64 y 4607182418800017408)) (b := rv .f64 (fadd .f64 y 4607182418800017408)) (by grind)
    generalize rv .f64 (fsub .f64 y 4607182418800017408) / rv .f64 (fadd .f64 y 4607182418800017408) = Q at q
    have m := mulB (x := sR (rv .f64 y)) (y := rv .f64 (fadd .f64 y 4607182418800017408) - (rv .f64 y + 1)) (m := 1 / 4) (n := 1 / 10 ^ 15) ⟨by grind, by grind⟩ ⟨by grind, by grind⟩
    have u : Q ≤ sR (rv .f64 y) + 1 / 10 ^ 15 * 5 := by
      refine Rat.le_of_mul_le_mul_right (c := rv .f64 (fadd .f64 y 4607182418800017408)) ?_ b0
      rw [q]; grind
    have l : sR (rv .f64 y) - 1 / 10 ^ 15 * 5 ≤ Q := by
      refine Rat.le_of_mul_le_mul_right (c := rv .f64 (fadd .f64 y 4607182418800017408)) ?_ b0
      rw [q]; grind
    have d := div_rv .f64 a1 b1 b0 Q 1 q (by grind) (by grind) (by decide +kernel)
    obtain ⟨d1, d2, d3, -, -⟩ := d
    rw [eps64] at d2 d3
    unfold sW
    exact ⟨d1, by grind, by grind⟩
  obtain ⟨s1, s2, s3⟩ := sd
  unfold logW fR
  have fb := fR_bound (y := rv .f64 y) (by grind) (by grind)
  unfold fR at fb
  generalize sW y = s at *
  generalize sR (rv .f64 y) = S at *
  have ss := mulB (x := rv .f64 s) (y := rv .f64 s) (m := 211 / 1000) (n := 211 / 1000) ⟨by grind, by grind⟩ ⟨by grind, by grind⟩
  have SS := mulB (x := S) (y := S) (m := 21 / 100) (n := 21 / 100) ⟨by grind, by grind⟩ ⟨by grind, by grind⟩
  have sS := mulB (x := rv .f64 s - S) (y := rv .f64 s + S) (m := 1 / 10 ^ 14) (n := 1 / 2) ⟨by grind, by grind⟩ ⟨by grind, by grind⟩
  have SS0 : 0 ≤ S * S := by
    rcases Rat.le_total (a := 0) (b := S) with g | g
    · exact Rat.mul_nonneg g g
    · have := Rat.mul_nonneg (show 0 ≤ -S by grind) (show 0 ≤ -S by grind); grind
  have ss0 : 0 ≤ rv .f64 s * rv .f64 s := by
    rcases Rat.le_total (a := 0) (b := rv .f64 s) with g | g
    · exact Rat.mul_nonneg g g
    · have := Rat.mul_nonneg (show 0 ≤ -rv .f64 s by grind) (show 0 ≤ -rv .f64 s by grind); grind
  have u := mul_rv .f64 s1 s1 1 (by grind) (by grind) (by decide +kernel)
  obtain ⟨u1, u2, u3, u4, -⟩ := u
  have u4 := u4 ss0
  rw [eps64] at u2 u3
  obtain ⟨q1, q2, q3⟩ := q_word u1 u4 (by grind) 13 (Nat.le_refl _)
  generalize fmul .f64 s s = u at *
  have qe := qR_end SS0 (by grind)
  have ql : -(1 / 10 ^ 14) ≤ qR (rv .f64 u) 13 - qR (S * S) 13 ∧ qR (rv .f64 u) 13 - qR (S * S) 13 ≤ 1 / 10 ^ 14 := by
    rcases Rat.le_total (a := S * S) (b := rv .f64 u) with g | g
    · have l := qR_lip SS0 g (by grind) 13 (Nat.le_refl _); exact ⟨by grind, by grind⟩
    · have l := qR_lip u4 g (by grind) 13 (Nat.le_refl _); exact ⟨by grind, by grind⟩
  generalize qR (rv .f64 u) 13 = Q at *
  generalize qR (S * S) 13 = Q' at *
  generalize qW u 13 = qw at *
  have m1 := mulB (x := rv .f64 s) (y := rv .f64 qw) (m := 211 / 1000) (n := 11 / 10) ⟨by grind, by grind⟩ ⟨by grind, by grind⟩
  have m2 := mulB (x := rv .f64 s) (y := rv .f64 qw - Q') (m := 211 / 1000) (n := 3 / 10 ^ 14) ⟨by grind, by grind⟩ ⟨by grind, by grind⟩
  have m3 := mulB (x := rv .f64 s - S) (y := Q') (m := 1 / 10 ^ 14) (n := 11 / 10) ⟨by grind, by grind⟩ ⟨by grind, by grind⟩
  have p := mul_rv .f64 s1 q1 1 (by grind) (by grind) (by decide +kernel)
  obtain ⟨p1, p2, p3, -, -⟩ := p
  rw [eps64] at p2 p3
  have p' := mul_rv .f64 c3 p1 1 (by rw [c4]; grind) (by rw [c4]; grind) (by decide +kernel)
  obtain ⟨r1, r2, r3, -, -⟩ := p'
  rw [c4, eps64] at r2 r3
  have m4 := mulB (x := rv .f64 e) (y := lam) (m := 31) (n := 1) ⟨by grind, by grind⟩ ⟨by grind, by grind⟩
  have m5 := mulB (x := rv .f64 e - (E : Rat)) (y := lam) (m := 1 / 10 ^ 12) (n := 1) ⟨by grind, by grind⟩ ⟨by grind, by grind⟩
  have m6 := mulB (x := (E : Rat)) (y := lam) (m := 30) (n := 1) ⟨by grind, by grind⟩ ⟨by grind, by grind⟩
  have t := mul_rv .f64 fe l1 31 (by unfold lam at m4; grind) (by unfold lam at m4; grind) (by decide +kernel)
  obtain ⟨t1, t2, t3, -, -⟩ := t
  change rv .f64 e * lam - _ ≤ _ at t2
  change _ ≤ rv .f64 e * lam + _ at t3
  rw [eps64] at t2 t3
  have z := add_rv .f64 r1 t1 40 (by grind) (by grind) (by decide +kernel)
  obtain ⟨z1, z2, z3, -, -⟩ := z
  rw [eps64] at z2 z3
  exact ⟨z1, by grind, by grind⟩
/-! ### Exponentials -/
def jR (n : Nat) : Rat := 1 / (12 - (n : Rat))
theorem j_tab : ∀ n : Fin 12, isFin .f64 (FloatKind.nearest .f64 (12 - (n.val : Int))) = true ∧ 0 < rv .f64 (FloatKind.nearest .f64 (12 - (n.val : Int))) ∧ jR n.val * rv .f64 (FloatKind.nearest .f64 (12 - (n.val : Int))) = 1 ∧ 0 ≤ jR n.val ∧ jR n.val ≤ 1 := by decide +kernel
def pW (t : Nat) : Nat → Nat
  | 0 => 4607182418800017408
  | n + 1 => fadd .f64 4607182418800017408 (fdiv .f64 (fmul .f64 t (pW t n)) (FloatKind.nearest .f64 (12 - (n : Int))))
def pR (t : Rat) : Nat → Rat
  | 0 => 1
  | n + 1 => 1 + t * pR t n * jR n
theorem pR_rng {t : Rat} (t0 : -(1 / 25) ≤ t) (t1 : t ≤ 1 / 25) : ∀ n, n ≤ 12 → 95 / 100 ≤ pR t n ∧ pR t n ≤ 105 / 100
  | 0, _ => by simp only [pR]; exact ⟨by decide +kernel, by decide +kernel⟩
  | n + 1, h => by
    obtain ⟨i1, i2⟩ := pR_rng t0 t1 n (by omega)
    obtain ⟨-, -, -, j1, j2⟩ := j_tab ⟨n, by omega⟩
    simp only at j1 j2
    have m := mulB (x := t) (y := pR t n) (m := 1 / 25) (n := 105 / 100) ⟨t0, t1⟩ ⟨by grind, i2⟩
    have m2 := mulB (x := t * pR t n) (y := jR n) (m := 1 / 25 * (105 / 100)) (n := 1) m ⟨by grind, j2⟩
    simp only [pR]
    exact ⟨by grind, by grind⟩
theorem pR_lip {t u : Rat} (t0 : -(1 / 25) ≤ t) (tu : t ≤ u) (u1 : u ≤ 1 / 25) : ∀ n, n ≤ 12 → 0 ≤ pR u n - pR t n ∧ pR u n - pR t n ≤ 11 / 10 * (u - t)
  | 0, _ => by simp only [pR]; exact ⟨by grind, by grind⟩
  | n + 1, h => by
    obtain ⟨i1, i2⟩ := pR_lip t0 tu u1 n (by omega)
    obtain ⟨k1, k2⟩ := pR_rng (t := u) (by grind) u1 n (by omega)
    obtain ⟨-, -, -, j1, j2⟩ := j_tab ⟨n, by omega⟩
    simp only at j1 j2
    have m1 := mul_rng (show 0 ≤ u - t by grind) Rat.le_refl k1 k2 (by decide +kernel) (by decide +kernel)
    have m1' := Rat.mul_le_mul_of_nonneg_left (c := u - t) k1 (by grind)
    have m2 := mulB (x := t) (y := pR u n - pR t n) (m := 1 / 25) (n := 11 / 10 * (u - t)) ⟨t0, by grind⟩ ⟨by grind, i2⟩
    have e : pR u (n + 1) - pR t (n + 1) = ((u - t) * pR u n + t * (pR u n - pR t n)) * jR n := by simp only [pR]; grind
    have c1 : 0 ≤ (u - t) * pR u n + t * (pR u n - pR t n) := by grind
    have c2 : (u - t) * pR u n + t * (pR u n - pR t n) ≤ 11 / 10 * (u - t) := by grind
    rw [e]
    have m3 := mul_rng c1 c2 j1 j2 (by decide +kernel) (by decide +kernel)
    exact ⟨by grind, by grind⟩
theorem p_word {t : Nat} (ft : isFin .f64 t = true) (t0 : -(1 / 25) ≤ rv .f64 t) (t1 : rv .f64 t ≤ 1 / 25) : ∀ n, n ≤ 12 → isFin .f64 (pW t n) = true ∧ rv .f64 (pW t n) - pR (rv .f64 t) n ≤ 2 / 10 ^ 15 ∧ pR (rv .f64 t) n - rv .f64 (pW t n) ≤ 2 / 10 ^ 15
  | 0, _ => by
    obtain ⟨c1, c2, -⟩ := cst64
    simp only [pW, pR]; rw [c2]; exact ⟨c1, by decide +kernel, by decide +kernel⟩
  | n + 1, h => by
    obtain ⟨c1, c2, -⟩ := cst64
    obtain ⟨i1, i2, i3⟩ := p_word ft t0 t1 n (by omega)
    obtain ⟨k1, k2⟩ := pR_rng t0 t1 n (by omega)
    obtain ⟨j1, j2, j3, j4, j5⟩ := j_tab ⟨n, by omega⟩
    simp only at j1 j2 j3 j4 j5
    simp only [pW, pR]
    have m := mulB (x := rv .f64 t) (y := rv .f64 (pW t n)) (m := 1 / 25) (n := 11 / 10) ⟨t0, t1⟩ ⟨by grind, by grind⟩
    have m' := mulB (x := rv .f64 t) (y := rv .f64 (pW t n) - pR (rv .f64 t) n) (m := 1 / 25) (n := 2 / 10 ^ 15) ⟨t0, t1⟩ ⟨by grind, by grind⟩
    have p := mul_rv .f64 ft i1 (1 / 20) (by grind) (by grind) (by decide +kernel)
    obtain ⟨p1, p2, p3, -, -⟩ := p
    rw [eps64] at p2 p3
    generalize fmul .f64 t (pW t n) = w at *
    generalize FloatKind.nearest .f64 (12 - (n : Int)) = J at *
    have q : rv .f64 w * jR n * rv .f64 J = rv .f64 w := by
      have : rv .f64 w * jR n * rv .f64 J = rv .f64 w * (jR n * rv .f64 J) := by grind
      rw [this, j3]; grind
    have b := mulB (x := rv .f64 w) (y := jR n) (m := 1 / 10) (n := 1) ⟨by grind, by grind⟩ ⟨by grind, j5⟩
    have b' := mulB (x := rv .f64 w - rv .f64 t * pR (rv .f64 t) n) (y := jR n) (m := 1 / 10 ^ 15 * (2 / 10)) (n := 1) ⟨by grind, by grind⟩ ⟨by grind, j5⟩
    have d := div_rv .f64 p1 j1 j2 (rv .f64 w * jR n) (1 / 10) q (by grind) (by grind) (by decide +kernel)
    obtain ⟨d1, d2, d3, -, -⟩ := d
    rw [eps64] at d2 d3
    have s := add_rv .f64 c1 d1 2 (by rw [c2]; grind) (by rw [c2]; grind) (by decide +kernel)
    obtain ⟨s1, s2, s3, -, -⟩ := s
    rw [c2, eps64] at s2 s3
    exact ⟨s1, by grind, by grind⟩
def sqW (p : Nat) : Nat → Nat
  | 0 => p
  | n + 1 => fmul .f64 (sqW p n) (sqW p n)
def loB : Nat → Rat
  | 0 => 94 / 100
  | n + 1 => loB n * loB n * (999 / 1000)
def hiB : Nat → Rat
  | 0 => 106 / 100
  | n + 1 => hiB n * hiB n * (1001 / 1000)
theorem b_tab : ∀ n : Fin 9, 1 / 10 ^ 12 ≤ loB n.val ∧ hiB n.val ≤ 10 ^ 9 ∧ 0 ≤ hiB n.val := by decide +kernel
theorem sq_rng {p : Nat} (fp : isFin .f64 p = true) (p0 : 94 / 100 ≤ rv .f64 p) (p1 : rv .f64 p ≤ 106 / 100) : ∀ n, n ≤ 8 → isFin .f64 (sqW p n) = true ∧ loB n ≤ rv .f64 (sqW p n) ∧ rv .f64 (sqW p n) ≤ hiB n
  | 0, _ => ⟨fp, p0, p1⟩
  | n + 1, h => by
    obtain ⟨i1, i2, i3⟩ := sq_rng fp p0 p1 n (by omega)
    obtain ⟨b1, b2, b3⟩ := b_tab ⟨n, by omega⟩
    simp only at b1 b2 b3
    have l0 : (0 : Rat) ≤ loB n := by grind
    have r := mul_rng i2 i3 i2 i3 l0 l0
    have bl := mul_rng b1 Rat.le_refl b1 Rat.le_refl (by decide +kernel) (by decide +kernel)
    have bh := mul_rng b3 b2 b3 b2 (by decide +kernel) (by decide +kernel)
    have big : (10 : Rat) ^ 9 * 10 ^ 9 ≤ 2 ^ 100 := by decide +kernel
    have p := mul_rv .f64 i1 i1 (rv .f64 (sqW p n) * rv .f64 (sqW p n)) (by grind) Rat.le_refl (by grind)
    obtain ⟨p1, p2, p3, -, -⟩ := p
    rw [eps64] at p2 p3
    simp only [sqW, loB, hiB]
    exact ⟨p1, by grind, by grind⟩
/-- How two towers of squares stand to each other. -/
def aB (a : Rat) : Nat → Rat
  | 0 => a
  | n + 1 => 2001 / 1000 * aB a n + 1 / 10 ^ 14
theorem aB_end (a : Rat) (a0 : 0 ≤ a) : aB a 8 ≤ 258 * a + 1 / 10 ^ 11 := by simp only [aB]; grind
theorem aB_rng {a : Rat} (a0 : 0 ≤ a) (a1 : a ≤ 1 / 1000000) : ∀ n, n ≤ 8 → 0 ≤ aB a n ∧ aB a n ≤ 1 / 2000
  | 0, _ => by simp only [aB]; exact ⟨by grind, by grind⟩
  | 1, _ => by simp only [aB]; exact ⟨by grind, by grind⟩
  | 2, _ => by simp only [aB]; exact ⟨by grind, by grind⟩
  | 3, _ => by simp only [aB]; exact ⟨by grind, by grind⟩
  | 4, _ => by simp only [aB]; exact ⟨by grind, by grind⟩
  | 5, _ => by simp only [aB]; exact ⟨by grind, by grind⟩
  | 6, _ => by simp only [aB]; exact ⟨by grind, by grind⟩
  | 7, _ => by simp only [aB]; exact ⟨by grind, by grind⟩
  | 8, _ => by simp only [aB]; exact ⟨by grind, by grind⟩
  | n + 9, h => by omega
theorem sq_two {p q : Nat} {a : Rat} (fp : isFin .f64 p = true) (p0 : 94 / 100 ≤ rv .f64 p) (p1 : rv .f64 p ≤ 106 / 100) (fq : isFin .f64 q = true) (q0 : 94 / 100 ≤ rv .f64 q) (q1 : rv .f64 q ≤ 106 / 100) (a0 : 0 ≤ a) (a1 : a ≤ 1 / 1000000) (h : rv .f64 q ≤ rv .f64 p * (1 + a)) : ∀ n, n ≤ 8 → rv .f64 (sqW q n) ≤ rv .f64 (sqW p n) * (1 + aB a n)
  | 0, _ => by simp only [sqW, aB]; exact h
  | n + 1, hn => by
    have ih := sq_two fp p0 p1 fq q0 q1 a0 a1 h n (by omega)
    obtain ⟨i1, i2, i3⟩ := sq_rng fp p0 p1 n (by omega)
    obtain ⟨j1, j2, j3⟩ := sq_rng fq q0 q1 n (by omega)
    obtain ⟨b1, b2, b3⟩ := b_tab ⟨n, by omega⟩
    obtain ⟨r1, r2⟩ := aB_rng a0 a1 n (by omega)
    simp only at b1 b2 b3
    have big : (10 : Rat) ^ 9 * 10 ^ 9 ≤ 2 ^ 100 := by decide +kernel
    have bh := mul_rng b3 b2 b3 b2 (by decide +kernel) (by decide +kernel)
    have bl := mul_rng b1 Rat.le_refl b1 Rat.le_refl (by decide +kernel) (by decide +kernel)
    have ri := mul_rng i2 i3 i2 i3 (by grind) (by grind)
    have rj := mul_rng j2 j3 j2 j3 (by grind) (by grind)
    have cross := mul_rng (show 0 ≤ rv .f64 (sqW q n) by grind) ih (show 0 ≤ rv .f64 (sqW q n) by grind) ih (by decide +kernel) (by decide +kernel)
    have p := mul_rv .f64 i1 i1 (rv .f64 (sqW p n) * rv .f64 (sqW p n)) (by grind) Rat.le_refl (by grind)
    obtain ⟨p1, p2, p3, -, -⟩ := p
    have p' := mul_rv .f64 j1 j1 (rv .f64 (sqW q n) * rv .f64 (sqW q n)) (by grind) Rat.le_refl (by grind)
    obtain ⟨s1, s2, s3, -, -⟩ := p'
    rw [eps64] at p2 p3 s2 s3
    simp only [sqW, aB]
    have e : rv .f64 (sqW p n) * (1 + aB a n) * (rv .f64 (sqW p n) * (1 + aB a n)) = rv .f64 (sqW p n) * rv .f64 (sqW p n) * ((1 + aB a n) * (1 + aB a n)) := by grind
    rw [e] at cross
    have al := mul_rng r1 r2 r1 r2 (by decide +kernel) (by decide +kernel)
    have al2 := Rat.mul_le_mul_of_nonneg_left (c := aB a n) r2 r1
    generalize rv .f64 (sqW p n) * rv .f64 (sqW p n) = V at *
    generalize rv .f64 (sqW q n) * rv .f64 (sqW q n) = U at *
    generalize aB a n = α at *
    have V0 : 1 / 10 ^ 24 ≤ V := by grind
    have t1 := Rat.mul_le_mul_of_nonneg_left (c := V) (show (1 + α) * (1 + α) ≤ 1 + 20009 / 10000 * α by grind) (by grind)
    have t2 := Rat.mul_nonneg (show 0 ≤ V by grind) r1
    have t3 := Rat.mul_le_mul_of_nonneg_left (c := V) r2 (by grind)
    have w := Rat.mul_le_mul_of_nonneg_right p2 (show 0 ≤ 1 + (2001 / 1000 * α + 1 / 10 ^ 14) by grind)
    refine Rat.le_trans ?_ w
    grind
theorem fover_fin {x : Nat} (hx : isFin .f64 x = true) (h : isFin .f32 (fdown x) = true) : fover x = false := by
  obtain ⟨s, m, e, hd, l, v⟩ := fin_mg .f64 ((fin_iff .f64 x).1 hx)
  have h1 := (fin_iff .f32 _).1 h
  rw [fdown_num' hd] at h1
  obtain ⟨s', m', e', hr', _, _⟩ := fin_mg .f32 h1
  unfold fover
  show (match FloatKind.f64.format.read x with | .number s m e => _ | _ => false) = false
  rw [hd]
  show (FloatKind.f32.format.read (FloatKind.f32.format.nearest s m e)).isInfinity = false
  rw [hr']; rfl
/-- **EXPONENTIALS.** -/
def wideE (x : Nat) : Nat := sqW (pW (fdiv .f64 (fup x) 4643211215818981376) 12) 8
def expW (x : Nat) : Nat := fdown (wideE x)
theorem c256 : isFin .f64 4643211215818981376 = true ∧ rv .f64 4643211215818981376 = 256 := by decide +kernel
theorem exp_t {x : Nat} (fx : isFin .f32 x = true) (x0 : -10 ≤ rv .f32 x) (x1 : rv .f32 x ≤ 10) : isFin .f64 (fdiv .f64 (fup x) 4643211215818981376) = true ∧ rv .f64 (fdiv .f64 (fup x) 4643211215818981376) - rv .f32 x / 256 ≤ 1 / 10 ^ 15 ∧ rv .f32 x / 256 - rv .f64 (fdiv .f64 (fup x) 4643211215818981376) ≤ 1 / 10 ^ 15 := by
  obtain ⟨c1, c2⟩ := c256
  obtain ⟨u1, u2⟩ := fup_rv fx
  have d := div_rv .f64 u1 c1 (by rw [c2]; decide +kernel) (rv .f32 x / 256) 1 (by rw [c2, u2]; grind) (by grind) (by grind) (by decide +kernel)
  obtain ⟨d1, d2, d3, -, -⟩ := d
  rw [eps64] at d2 d3
  exact ⟨d1, by grind, by grind⟩
theorem exp_p {x : Nat} (fx : isFin .f32 x = true) (x0 : -10 ≤ rv .f32 x) (x1 : rv .f32 x ≤ 10) : isFin .f64 (pW (fdiv .f64 (fup x) 4643211215818981376) 12) = true ∧ 94 / 100 ≤ rv .f64 (pW (fdiv .f64 (fup x) 4643211215818981376) 12) ∧ rv .f64 (pW (fdiv .f64 (fup x) 4643211215818981376) 12) ≤ 106 / 100 := by
  obtain ⟨t1, t2, t3⟩ := exp_t fx x0 x1
  obtain ⟨p1, p2, p3⟩ := p_word t1 (by grind) (by grind) 12 (Nat.le_refl _)
  obtain ⟨r1, r2⟩ := pR_rng (t := rv .f64 (fdiv .f64 (fup x) 4643211215818981376)) (by grind) (by grind) 12 (Nat.le_refl _)
  exact ⟨p1, by grind, by grind⟩
theorem exp_ok {x : Nat} (fx : isFin .f32 x = true) (x0 : -10 ≤ rv .f32 x) (x1 : rv .f32 x ≤ 10) : isFin .f32 (expW x) = true ∧ fover (wideE x) = false ∧ 1 / 10 ^ 13 ≤ rv .f32 (expW x) ∧ rv .f32 (expW x) ≤ 10 ^ 10 ∧ rv .f64 (wideE x) * (1 - 13 / 100000000) ≤ rv .f32 (expW x) ∧ rv .f32 (expW x) ≤ rv .f64 (wideE x) * (1 + 13 / 100000000) := by
  obtain ⟨p1, p2, p3⟩ := exp_p fx x0 x1
  obtain ⟨s1, s2, s3⟩ := sq_rng p1 p2 p3 8 (Nat.le_refl _)
  obtain ⟨b1, b2, b3⟩ := b_tab ⟨8, by omega⟩
  simp only at b1 b2 b3
  have big : (10 : Rat) ^ 9 ≤ 2 ^ 100 := by decide +kernel
  have d := fdown_rv s1 (rv .f64 (sqW (pW (fdiv .f64 (fup x) 4643211215818981376) 12) 8)) (by grind) Rat.le_refl (by grind)
  obtain ⟨d1, d2, d3, -, -⟩ := d
  rw [eps32] at d2 d3
  unfold expW wideE
  exact ⟨d1, fover_fin s1 d1, by grind, by grind, by grind, by grind⟩
/-- Exponentials grow, nearly, and no faster than they should. -/
theorem exp_mono {x z : Nat} {η : Rat} (fx : isFin .f32 x = true) (x0 : -10 ≤ rv .f32 x) (x1 : rv .f32 x ≤ 10) (fz : isFin .f32 z = true) (z0 : -10 ≤ rv .f32 z) (z1 : rv .f32 z ≤ 10) (e0 : 0 ≤ η) (e1 : η ≤ 1 / 10000) (h : rv .f32 z ≤ rv .f32 x + η) :
    rv .f32 (expW z) ≤ rv .f32 (expW x) * (1 + 13 / 10 * η + 1 / 1000000) := by
  obtain ⟨t1, t2, t3⟩ := exp_t fx x0 x1
  obtain ⟨u1, u2, u3⟩ := exp_t fz z0 z1
  obtain ⟨p1, p2, p3⟩ := exp_p fx x0 x1
  obtain ⟨q1, q2, q3⟩ := exp_p fz z0 z1
  have pw := p_word t1 (by grind) (by grind) 12 (Nat.le_refl _)
  have qw := p_word u1 (by grind) (by grind) 12 (Nat.le_refl _)
  have st : rv .f64 (pW (fdiv .f64 (fup z) 4643211215818981376) 12) ≤ rv .f64 (pW (fdiv .f64 (fup x) 4643211215818981376) 12) + 11 / 10 * (η / 256) + 1 / 10 ^ 14 := by
    rcases Rat.le_total (a := rv .f64 (fdiv .f64 (fup x) 4643211215818981376)) (b := rv .f64 (fdiv .f64 (fup z) 4643211215818981376)) with g | g
    · have l := pR_lip (by grind) g (by grind) 12 (Nat.le_refl _); grind
    · have l := pR_lip (by grind) g (by grind) 12 (Nat.le_refl _); grind
  have s := sq_two p1 p2 p3 q1 q2 q3 (a := 118 / 100 * (η / 256) + 1 / 10 ^ 13) (by grind) (by grind) (by
    have := Rat.mul_le_mul_of_nonneg_right p2 (show 0 ≤ 118 / 100 * (η / 256) + 1 / 10 ^ 13 by grind)
    grind) 8 (Nat.le_refl _)
  have ae := aB_end (118 / 100 * (η / 256) + 1 / 10 ^ 13) (by grind)
  obtain ⟨-, -, g1, g2, g3, g4⟩ := exp_ok fx x0 x1
  obtain ⟨-, -, k1, k2, k3, k4⟩ := exp_ok fz z0 z1
  change rv .f64 (wideE z) ≤ rv .f64 (wideE x) * _ at s
  have w0 : 0 ≤ rv .f64 (wideE x) := by
    rcases Rat.le_total (a := 0) (b := rv .f64 (wideE x)) with g | g
    · exact g
    · exfalso; grind
  have s' := Rat.mul_le_mul_of_nonneg_left (c := rv .f64 (wideE x)) (show 1 + aB (118 / 100 * (η / 256) + 1 / 10 ^ 13) 8 ≤ 1 + 12 / 10 * η + 1 / 10 ^ 9 by grind) w0
  generalize rv .f64 (wideE x) = X at *
  generalize rv .f64 (wideE z) = Z at *
  have m := Rat.mul_le_mul_of_nonneg_right g3 (show 0 ≤ 1 + 13 / 10 * η + 1 / 1000000 by grind)
  have xe := Rat.mul_le_mul_of_nonneg_left (c := X) e1 w0
  have xe0 := Rat.mul_nonneg w0 e0
  grind
def areaW (w b x : Nat) : Nat := fmul .f32 x (fadd .f32 w (fmul .f32 b x))
def topW (w b x : Nat) : Nat := fadd .f32 w (fmul .f32 (fmul .f32 1073741824 b) x)
def sigW (b : Nat) : Nat := froot (fadd .f32 1065353216 (fmul .f32 b b))
def wetW (w b x : Nat) : Nat := fadd .f32 w (fmul .f32 (fmul .f32 1073741824 x) (sigW b))
def midW (w b x : Nat) : Nat := fdiv .f32 (areaW w b x) (wetW w b x)
def speedW (w b x q : Nat) : Nat := fdiv .f32 q (areaW w b x)
def headW (w b x q : Nat) : Nat := fadd .f32 x (fdiv .f32 (fmul .f32 (speedW w b x q) (speedW w b x q)) 1100805571)
def pushW (w b x q : Nat) : Nat := fadd .f32 (fmul .f32 1092416963 (fmul .f32 (fmul .f32 x x) (fadd .f32 (fdiv .f32 w 1073741824) (fdiv .f32 (fmul .f32 b x) 1077936128)))) (fmul .f32 q (speedW w b x q))
def crL (w b x : Nat) : Nat := fmul .f32 1092416963 (fmul .f32 (fmul .f32 (areaW w b x) (areaW w b x)) (areaW w b x))
def crR (w b x q : Nat) : Nat := fmul .f32 (fmul .f32 q q) (topW w b x)
/-- The pull of the earth, as the program has it. -/
def gg : Rat := rv .f32 1092416963
theorem c_tab : isFin .f32 1092416963 = true ∧ 981 / 100 - 1 / 1000000 ≤ gg ∧ gg ≤ 981 / 100 + 1 / 1000000 ∧ isFin .f32 1100805571 = true ∧ rv .f32 1100805571 = 2 * gg ∧ isFin .f32 1073741824 = true ∧ rv .f32 1073741824 = 2 ∧ isFin .f32 1077936128 = true ∧ rv .f32 1077936128 = 3 ∧ isFin .f32 1065353216 = true ∧ rv .f32 1065353216 = 1 := by decide +kernel
/-- A section in order. -/
structure Sec (w b : Nat) (W B σ : Rat) : Prop where
  fw : isFin .f32 w = true
  fb : isFin .f32 b = true
  vw : rv .f32 w = W
  vb : rv .f32 b = B
  W1 : 1 / 2 ≤ W
  W2 : W ≤ 6
  B0 : B = 0 ∨ 1 / 2 ≤ B
  B2 : B ≤ 2
  fs : isFin .f32 (sigW b) = true
  vs : rv .f32 (sigW b) = σ
  s1 : 999 / 1000 ≤ σ
  s2 : σ ≤ 1 + B + 1 / 1000
  s3 : B + 1 / 10 ≤ σ
theorem Sec.Bn {w b : Nat} {W B σ : Rat} (h : Sec w b W B σ) : 0 ≤ B := by rcases h.B0 with g | g <;> grind
section
variable {w b x q : Nat} {W B σ X Q : Rat} (h : Sec w b W B σ) (fx : isFin .f32 x = true) (vx : rv .f32 x = X) (X1 : 1 / 1000 ≤ X) (X2 : X ≤ 1100)
include h fx vx X1 X2
theorem bx_re : Re (1 / 5000000) (fmul .f32 b x) (B * X) := by
  have Bn := h.Bn
  have m := mul_rng Bn h.B2 X1 X2 (by decide +kernel) (by decide +kernel)
  have r1 := re_self h.fb
  have r2 := re_self fx
  rw [h.vb] at r1
  rw [vx] at r2
  refine re_mul r1 r2 (by decide +kernel) (by decide +kernel) (by decide +kernel) (by decide +kernel) (by decide +kernel) Bn (by grind) ?_ (by grind)
  rcases h.B0 with g | g
  · left; rw [g]; grind
  · right
    have := mul_rng g h.B2 X1 X2 (by decide +kernel) (by decide +kernel)
    grind
omit fx vx in
theorem ar_bd : X * (1 / 2) ≤ X * (W + B * X) ∧ X * (W + B * X) ≤ 3000000 ∧ 1 / 2000 ≤ X * (W + B * X) ∧ 0 ≤ B * X ∧ B * X ≤ 2200 := by
  have Bn := h.Bn
  have W1 := h.W1
  have W2 := h.W2
  have m := mul_rng Bn h.B2 X1 X2 (by decide +kernel) (by decide +kernel)
  have m2 := mul_rng X1 X2 (show 1 / 2 ≤ W + B * X by grind) (show W + B * X ≤ 2206 by grind) (by decide +kernel) (by decide +kernel)
  have m3 := Rat.mul_le_mul_of_nonneg_left (c := X) (show 1 / 2 ≤ W + B * X by grind) (by grind)
  exact ⟨m3, by grind, by grind, by grind, by grind⟩
theorem area_re : Re (6 / 10000000) (areaW w b x) (X * (W + B * X)) := by
  have r := bx_re h fx vx X1 X2
  obtain ⟨a1, a2, a3, a4, a5⟩ := ar_bd h X1 X2
  have W1 := h.W1
  have W2 := h.W2
  have rw' := re_self h.fw
  have rx := re_self fx
  rw [h.vw] at rw'
  rw [vx] at rx
  have s := re_add (d := 4 / 10000000) (re_weak rw' (by grind) (show (0 : Rat) ≤ 1 / 5000000 by decide +kernel)) r (by decide +kernel) (by decide +kernel) (by decide +kernel) (by grind) a4 (by grind) (by grind)
  unfold areaW
  exact re_mul rx s (by decide +kernel) (by decide +kernel) (by decide +kernel) (by decide +kernel) (by decide +kernel) (by grind) (by grind) (by right; grind) (by grind)
theorem top_re : Re (6 / 10000000) (topW w b x) (W + 2 * B * X) := by
  have Bn := h.Bn
  have B2 := h.B2
  have W1 := h.W1
  have W2 := h.W2
  obtain ⟨-, -, -, -, -, c6, c7, -⟩ := c_tab
  obtain ⟨a1, a2, a3, a4, a5⟩ := ar_bd h X1 X2
  have r1 := re_self h.fb
  rw [h.vb] at r1
  have r2 := re_self c6
  rw [c7] at r2
  have rx := re_self fx
  rw [vx] at rx
  have rw' := re_self h.fw
  rw [h.vw] at rw'
  have p0 : 2 * B = 0 ∨ 1 / 10 ^ 30 ≤ 2 * B := by
    rcases h.B0 with g | g
    · left; rw [g]; grind
    · right; grind
  have s := re_mul (d := 2 / 10000000) r2 r1 (by decide +kernel) (by decide +kernel) (by decide +kernel) (by decide +kernel) (by decide +kernel) (by decide +kernel) Bn p0 (by grind)
  have e2 : 2 * B * X = 2 * (B * X) := by grind
  have p1 : 2 * B * X = 0 ∨ 1 / 10 ^ 30 ≤ 2 * B * X := by
    rcases h.B0 with g | g
    · left; rw [g]; grind
    · right
      have := mul_rng g B2 X1 X2 (by decide +kernel) (by decide +kernel)
      grind
  have s2 := re_mul (d := 4 / 10000000) s rx (by decide +kernel) (by decide +kernel) (by decide +kernel) (by decide +kernel) (by decide +kernel) (by grind) (by grind) p1 (by grind)
  unfold topW
  exact re_add (re_weak rw' (by grind) (show (0 : Rat) ≤ 4 / 10000000 by decide +kernel)) s2 (by decide +kernel) (by decide +kernel) (by decide +kernel) (by grind) (by grind) (by grind) (by grind)
omit fx vx in
theorem wet_bd : 1 / 2 ≤ W + 2 * X * σ ∧ W + 2 * X * σ ≤ 8000 ∧ 0 ≤ 2 * X * σ := by
  have s1 := h.s1
  have s2 := h.s2
  have B2 := h.B2
  have W1 := h.W1
  have W2 := h.W2
  have m := mul_rng X1 X2 s1 (show σ ≤ 301 / 100 by grind) (by decide +kernel) (by decide +kernel)
  exact ⟨by grind, by grind, by grind⟩
theorem wet_re : Re (6 / 10000000) (wetW w b x) (W + 2 * X * σ) := by
  have W1 := h.W1
  have W2 := h.W2
  have s1 := h.s1
  have s2 := h.s2
  have B2 := h.B2
  obtain ⟨-, -, -, -, -, c6, c7, -⟩ := c_tab
  obtain ⟨b1, b2, b3⟩ := wet_bd h X1 X2
  have rs := re_self h.fs
  rw [h.vs] at rs
  have r2 := re_self c6
  rw [c7] at r2
  have rx := re_self fx
  rw [vx] at rx
  have rw' := re_self h.fw
  rw [h.vw] at rw'
  have m := mul_rng X1 X2 s1 (show σ ≤ 301 / 100 by grind) (by decide +kernel) (by decide +kernel)
  have s := re_mul (d := 2 / 10000000) r2 rx (by decide +kernel) (by decide +kernel) (by decide +kernel) (by decide +kernel) (by decide +kernel) (by decide +kernel) (by grind) (by right; grind) (by grind)
  have s' := re_mul (d := 4 / 10000000) s rs (by decide +kernel) (by decide +kernel) (by decide +kernel) (by decide +kernel) (by decide +kernel) (by grind) (by grind) (by right; grind) (by grind)
  unfold wetW
  exact re_add (re_weak rw' (by grind) (show (0 : Rat) ≤ 4 / 10000000 by decide +kernel)) s' (by decide +kernel) (by decide +kernel) (by decide +kernel) (by grind) (by grind) (by grind) (by grind)
theorem mid_re {Z : Rat} (hz : Z * (W + 2 * X * σ) = X * (W + B * X)) : Re (2 / 1000000) (midW w b x) Z ∧ 1 / 20000000 ≤ Z ∧ Z ≤ 6000000 := by
  obtain ⟨b1, b2, b3⟩ := wet_bd h X1 X2
  obtain ⟨a1, a2, a3, a4, a5⟩ := ar_bd h X1 X2
  have z1 : 1 / 20000000 ≤ Z := by
    refine Rat.le_of_mul_le_mul_right (c := W + 2 * X * σ) ?_ (by grind)
    rw [hz]; grind
  have z2 : Z ≤ 6000000 := by
    refine Rat.le_of_mul_le_mul_right (c := W + 2 * X * σ) ?_ (by grind)
    rw [hz]; grind
  unfold midW
  exact ⟨re_div (area_re h fx vx X1 X2) (wet_re h fx vx X1 X2) hz (by decide +kernel) (by decide +kernel) (by decide +kernel) (by decide +kernel) (by decide +kernel) (by grind) (by grind) (by right; grind) (by grind), z1, z2⟩
variable (fq : isFin .f32 q = true) (vq : rv .f32 q = Q) (Q1 : 1 / 4 ≤ Q) (Q2 : Q ≤ 8)
include fq vq Q1 Q2
theorem speed_re {V : Rat} (hv : V * (X * (W + B * X)) = Q) : Re (1 / 1000000) (speedW w b x q) V ∧ 1 / 12000000 ≤ V ∧ V ≤ 16000 := by
  obtain ⟨a1, a2, a3, a4, a5⟩ := ar_bd h X1 X2
  have z1 : 1 / 12000000 ≤ V := by
    refine Rat.le_of_mul_le_mul_right (c := X * (W + B * X)) ?_ (by grind)
    rw [hv]; grind
  have z2 : V ≤ 16000 := by
    refine Rat.le_of_mul_le_mul_right (c := X * (W + B * X)) ?_ (by grind)
    rw [hv]; grind
  have rq := re_self fq
  rw [vq] at rq
  unfold speedW
  exact ⟨re_div rq (area_re h fx vx X1 X2) hv (by decide +kernel) (by decide +kernel) (by decide +kernel) (by decide +kernel) (by decide +kernel) (by grind) (by grind) (by right; grind) (by grind), z1, z2⟩
theorem head_re {V D : Rat} (hv : V * (X * (W + B * X)) = Q) (hd : D * (2 * gg) = V * V) : Re (3 / 1000000) (headW w b x q) (X + D) ∧ 0 ≤ D ∧ D ≤ 20000000 := by
  obtain ⟨r, v1, v2⟩ := speed_re h fx vx X1 X2 fq vq Q1 Q2 hv
  obtain ⟨c1, c2, c3, c4, c5, -⟩ := c_tab
  have vv := mul_rng v1 v2 v1 v2 (by decide +kernel) (by decide +kernel)
  have d1 : 1 / 10 ^ 18 ≤ D := by
    refine Rat.le_of_mul_le_mul_right (c := 2 * gg) ?_ (by grind)
    rw [hd]; grind
  have d2 : D ≤ 20000000 := by
    refine Rat.le_of_mul_le_mul_right (c := 2 * gg) ?_ (by grind)
    rw [hd]; grind
  have rg := re_self c4
  rw [c5] at rg
  have rx := re_self fx
  rw [vx] at rx
  have m := re_mul (d := 22 / 10000000) r r (by decide +kernel) (by decide +kernel) (by decide +kernel) (by decide +kernel) (by decide +kernel) (by grind) (by grind) (by right; grind) (by grind)
  have dd := re_div (d := 25 / 10000000) m rg hd (by decide +kernel) (by decide +kernel) (by decide +kernel) (by decide +kernel) (by decide +kernel) (by grind) (by grind) (by right; grind) (by grind)
  unfold headW
  exact ⟨re_add (re_weak rx (by grind) (show (0 : Rat) ≤ 25 / 10000000 by decide +kernel)) dd (by decide +kernel) (by decide +kernel) (by decide +kernel) (by grind) (by grind) (by grind) (by grind), by grind, d2⟩
theorem push_re {V : Rat} (hv : V * (X * (W + B * X)) = Q) : Re (2 / 1000000) (pushW w b x q) (gg * (X * X * (W / 2 + B * X / 3)) + Q * V) := by
  obtain ⟨r, v1, v2⟩ := speed_re h fx vx X1 X2 fq vq Q1 Q2 hv
  obtain ⟨c1, c2, c3, c4, c5, c6, c7, c8, c9, -⟩ := c_tab
  obtain ⟨a1, a2, a3, a4, a5⟩ := ar_bd h X1 X2
  have W1 := h.W1
  have W2 := h.W2
  have rg : Re 0 1092416963 gg := re_self c1
  have r2 := re_self c6
  rw [c7] at r2
  have r3 := re_self c8
  rw [c9] at r3
  have rx := re_self fx
  rw [vx] at rx
  have rq := re_self fq
  rw [vq] at rq
  have rw' := re_self h.fw
  rw [h.vw] at rw'
  have xx := mul_rng X1 X2 X1 X2 (by decide +kernel) (by decide +kernel)
  have m1 := re_mul (d := 2 / 10000000) rx rx (by decide +kernel) (by decide +kernel) (by decide +kernel) (by decide +kernel) (by decide +kernel) (by grind) (by grind) (by right; grind) (by grind)
  have m2 := re_div (Z := W / 2) (d := 45 / 100000000) rw' r2 (by grind) (by decide +kernel) (by decide +kernel) (by decide +kernel) (by decide +kernel) (by decide +kernel) (by grind) (by decide +kernel) (by right; grind) (by grind)
  have m3 := re_div (Z := B * X / 3) (d := 45 / 100000000) (bx_re h fx vx X1 X2) r3 (by grind) (by decide +kernel) (by decide +kernel) (by decide +kernel) (by decide +kernel) (by decide +kernel) (by grind) (by decide +kernel) (by
    rcases h.B0 with g | g
    · left; rw [g]; grind
    · right
      have := mul_rng g h.B2 X1 X2 (by decide +kernel) (by decide +kernel)
      grind) (by grind)
  have m4 := re_add (d := 65 / 100000000) m2 m3 (by decide +kernel) (by decide +kernel) (by decide +kernel) (by grind) (by grind) (by grind) (by grind)
  have z1 := mul_rng xx.1 xx.2 (show 1 / 4 ≤ W / 2 + B * X / 3 by grind) (show W / 2 + B * X / 3 ≤ 1000 by grind) (by decide +kernel) (by decide +kernel)
  have m5 := re_mul (d := 11 / 10000000) m1 m4 (by decide +kernel) (by decide +kernel) (by decide +kernel) (by decide +kernel) (by decide +kernel) (by grind) (by grind) (by right; grind) (by grind)
  have z2 := mul_rng (show 9 ≤ gg by grind) (show gg ≤ 10 by grind) z1.1 z1.2 (by decide +kernel) (by decide +kernel)
  have m6 := re_mul (d := 14 / 10000000) rg m5 (by decide +kernel) (by decide +kernel) (by decide +kernel) (by decide +kernel) (by decide +kernel) (by grind) (by grind) (by right; grind) (by grind)
  have z3 := mul_rng Q1 Q2 v1 v2 (by decide +kernel) (by decide +kernel)
  have m7 := re_mul (d := 14 / 10000000) rq r (by decide +kernel) (by decide +kernel) (by decide +kernel) (by decide +kernel) (by decide +kernel) (by grind) (by grind) (by right; grind) (by grind)
  unfold pushW
  exact re_add m6 m7 (by decide +kernel) (by decide +kernel) (by decide +kernel) (by grind) (by grind) (by grind) (by grind)
theorem cr_re : Re (3 / 1000000) (crL w b x) (gg * (X * (W + B * X) * (X * (W + B * X)) * (X * (W + B * X)))) ∧ Re (1 / 1000000) (crR w b x q) (Q * Q * (W + 2 * B * X)) := by
  obtain ⟨c1, c2, c3, -⟩ := c_tab
  obtain ⟨a1, a2, a3, a4, a5⟩ := ar_bd h X1 X2
  have W1 := h.W1
  have W2 := h.W2
  have ra := area_re h fx vx X1 X2
  have rt := top_re h fx vx X1 X2
  have rg : Re 0 1092416963 gg := re_self c1
  have rq := re_self fq
  rw [vq] at rq
  have e2 : 2 * B * X = 2 * (B * X) := by grind
  generalize X * (W + B * X) = A at *
  have aa := mul_rng a3 a2 a3 a2 (by decide +kernel) (by decide +kernel)
  have aaa := mul_rng aa.1 aa.2 a3 a2 (by decide +kernel) (by decide +kernel)
  have m1 := re_mul (d := 14 / 10000000) ra ra (by decide +kernel) (by decide +kernel) (by decide +kernel) (by decide +kernel) (by decide +kernel) (by grind) (by grind) (by right; grind) (by grind)
  have m2 := re_mul (d := 22 / 10000000) m1 ra (by decide +kernel) (by decide +kernel) (by decide +kernel) (by decide +kernel) (by decide +kernel) (by grind) (by grind) (by right; grind) (by grind)
  have z := mul_rng (show 9 ≤ gg by grind) (show gg ≤ 10 by grind) aaa.1 aaa.2 (by decide +kernel) (by decide +kernel)
  have m3 := re_mul (d := 3 / 1000000) rg m2 (by decide +kernel) (by decide +kernel) (by decide +kernel) (by decide +kernel) (by decide +kernel) (by grind) (by grind) (by right; grind) (by grind)
  have qq := mul_rng Q1 Q2 Q1 Q2 (by decide +kernel) (by decide +kernel)
  have m4 := re_mul (d := 2 / 10000000) rq rq (by decide +kernel) (by decide +kernel) (by decide +kernel) (by decide +kernel) (by decide +kernel) (by grind) (by grind) (by right; grind) (by grind)
  have z4 := mul_rng qq.1 qq.2 (show 1 / 2 ≤ W + 2 * B * X by grind) (show W + 2 * B * X ≤ 5000 by grind) (by decide +kernel) (by decide +kernel)
  have m5 := re_mul (d := 1 / 1000000) m4 rt (by decide +kernel) (by decide +kernel) (by decide +kernel) (by decide +kernel) (by decide +kernel) (by grind) (by grind) (by right; grind) (by grind)
  unfold crL crR
  exact ⟨m3, m5⟩
end
def ar (W B x : Rat) : Rat := x * (W + B * x)
def tp (W B x : Rat) : Rat := W + 2 * B * x
def zz (W B x : Rat) : Rat := x * x * (W / 2 + B * x / 3)
theorem cancel_le {a b c : Rat} (h : a * c ≤ b * c) (hc : 0 < c) : a ≤ b := Rat.le_of_mul_le_mul_right h hc
/-- The larger area has the smaller head of speed. -/
theorem dd_le {a b D E s : Rat} (a0 : 0 < a) (b0 : 0 < b) (D0 : 0 ≤ D) (h : D * (a * a) = E * (b * b)) (s0 : 0 ≤ s) (hs : s * b ≤ a) : D * (s * s) ≤ E := by
  have m := mul_rng hs (Rat.le_refl) hs Rat.le_refl (Rat.mul_nonneg s0 (Rat.le_of_lt b0)) (Rat.mul_nonneg s0 (Rat.le_of_lt b0))
  have m2 := Rat.mul_le_mul_of_nonneg_left m.1 D0
  refine cancel_le (c := b * b) ?_ (Rat.mul_pos b0 b0)
  rw [← h]
  have e : D * (s * s) * (b * b) = D * (s * b * (s * b)) := by grind
  rw [e]
  exact m2
section
variable {W B : Rat} (W0 : 0 < W) (B0 : 0 ≤ B)
include W0 B0
theorem ar_pos {x : Rat} (hx : 0 < x) : 0 < ar W B x := by
  unfold ar
  have := Rat.mul_nonneg B0 (Rat.le_of_lt hx)
  exact Rat.mul_pos hx (by grind)
theorem tp_pos {x : Rat} (hx : 0 < x) : 0 < tp W B x := by
  unfold tp
  have := Rat.mul_nonneg B0 (Rat.le_of_lt hx)
  have e : 2 * B * x = 2 * (B * x) := by grind
  grind
theorem ar_scale {x y r : Rat} (x0 : 0 ≤ x) (y0 : 0 ≤ y) (r1 : 1 ≤ r) (h : x ≤ r * y) : ar W B x ≤ r * r * ar W B y := by
  have b := Rat.mul_le_mul_of_nonneg_left h B0
  have bx := Rat.mul_nonneg B0 x0
  have b2 := Rat.mul_nonneg B0 y0
  have w := Rat.mul_le_mul_of_nonneg_left r1 (Rat.le_of_lt W0)
  have m := mul_rng x0 h (show 0 ≤ W + B * x by grind) (show W + B * x ≤ r * (W + B * y) by grind) (by decide +kernel) (by decide +kernel)
  unfold ar
  grind
theorem ar_shrink {x y r : Rat} (x0 : 0 ≤ x) (y0 : 0 ≤ y) (r0 : 0 ≤ r) (r1 : r ≤ 1) (h : r * y ≤ x) : r * r * ar W B y ≤ ar W B x := by
  have b := Rat.mul_le_mul_of_nonneg_left h B0
  have b2 := Rat.mul_nonneg B0 y0
  have b3 := Rat.mul_nonneg r0 b2
  have w := Rat.mul_le_mul_of_nonneg_left r1 (Rat.le_of_lt W0)
  have w2 := Rat.mul_nonneg r0 (Rat.le_of_lt W0)
  have rr := Rat.mul_nonneg r0 y0
  have m := mul_rng h (Rat.le_refl (a := x)) (show r * (W + B * y) ≤ W + B * x by grind) (Rat.le_refl) rr (by grind)
  unfold ar
  grind
theorem ar_grow {x y r : Rat} (y0 : 0 ≤ y) (r1 : 1 ≤ r) (h : r * y ≤ x) : r * ar W B y ≤ ar W B x := by
  have ry := Rat.mul_le_mul_of_nonneg_right r1 y0
  have x0 : 0 ≤ x := by grind
  have b := Rat.mul_le_mul_of_nonneg_left (show y ≤ x by grind) B0
  have b2 := Rat.mul_nonneg B0 y0
  have m := mul_rng h (Rat.le_refl (a := x)) (show W + B * y ≤ W + B * x by grind) (Rat.le_refl) (by grind) (by grind)
  unfold ar
  grind
theorem ar_le_tp {x : Rat} (x0 : 0 < x) : ar W B x ≤ x * tp W B x ∧ x * tp W B x ≤ 2 * ar W B x := by
  have bx := Rat.mul_nonneg B0 (Rat.le_of_lt x0)
  have h := Rat.mul_nonneg (Rat.le_of_lt x0) bx
  have w := Rat.mul_pos x0 W0
  unfold ar tp
  exact ⟨by grind, by grind⟩

omit W0 B0 in
theorem dd_of {x y V U D E Q g : Rat} (g0 : 0 < g) (hv : V * ar W B x = Q) (hu : U * ar W B y = Q) (hd : D * (2 * g) = V * V) (he : E * (2 * g) = U * U) : D * (ar W B x * ar W B x) = E * (ar W B y * ar W B y) := by
  generalize ar W B x = a at *
  generalize ar W B y = b at *
  have k : D * (a * a) * (2 * g) = E * (b * b) * (2 * g) := by
    have e1 : D * (a * a) * (2 * g) = (V * a) * (V * a) := by
      have : D * (a * a) * (2 * g) = D * (2 * g) * (a * a) := by grind
      rw [this, hd]; grind
    have e2 : E * (b * b) * (2 * g) = (U * b) * (U * b) := by
      have : E * (b * b) * (2 * g) = E * (2 * g) * (b * b) := by grind
      rw [this, he]; grind
    rw [e1, e2, hv, hu]
  have g2 : 0 < 2 * g := by grind
  have h1 := cancel_le (a := D * (a * a)) (b := E * (b * b)) (c := 2 * g) (by rw [k]; exact Rat.le_refl) g2
  have h2 := cancel_le (a := E * (b * b)) (b := D * (a * a)) (c := 2 * g) (by rw [k]; exact Rat.le_refl) g2
  grind
end
/-- At the critical depth. -/
structure Cr (W B c D : Rat) : Prop where
  lo : 2 * D * tp W B c * (1 - 1 / 40000) ≤ ar W B c
  hi : ar W B c ≤ 2 * D * tp W B c * (1 + 1 / 40000)
theorem cr_of {W B c D V Q g κ : Rat} (W0 : 0 < W) (B0 : 0 ≤ B) (c0 : 0 < c) (g0 : 0 < g) (hv : V * ar W B c = Q) (hd : D * (2 * g) = V * V) (k1 : κ = 1 / 40000)
    (h1 : Q * Q * tp W B c * (1 - κ) ≤ g * (ar W B c * ar W B c * ar W B c)) (h2 : g * (ar W B c * ar W B c * ar W B c) ≤ Q * Q * tp W B c * (1 + κ)) : Cr W B c D := by
  have a0 := ar_pos W0 B0 c0
  subst k1
  suffices h : 2 * D * tp W B c * (1 - 1 / 40000) ≤ ar W B c ∧ ar W B c ≤ 2 * D * tp W B c * (1 + 1 / 40000) from ⟨h.1, h.2⟩
  generalize ar W B c = a at *
  generalize tp W B c = t at *
  have aa := Rat.mul_pos a0 a0
  have e : Q * Q = D * (2 * g) * (a * a) := by rw [hd, ← hv]; grind
  rw [e] at h1 h2
  have ga := Rat.mul_pos g0 aa
  constructor
  · refine cancel_le (c := g * (a * a)) ?_ ga
    grind
  · refine cancel_le (c := g * (a * a)) ?_ ga
    grind
theorem cr_bd {W B c D : Rat} (W0 : 0 < W) (B0 : 0 ≤ B) (c0 : 0 < c) (h : Cr W B c D) : 2 * D * (1 - 1 / 40000) ≤ c ∧ c ≤ 4 * D * (1 + 1 / 40000) := by
  obtain ⟨l, u⟩ := h
  have t0 := tp_pos W0 B0 c0
  obtain ⟨p1, p2⟩ := ar_le_tp W0 B0 c0
  generalize ar W B c = a at *
  generalize tp W B c = t at *
  constructor
  · refine cancel_le (c := t) ?_ t0
    grind
  · refine cancel_le (c := t) ?_ t0
    grind
section
variable {W B c x d Dc Dx Dd : Rat} (W0 : 0 < W) (B0 : 0 ≤ B) (c0 : 0 < c) (hC : Cr W B c Dc)
include W0 B0 c0 hC
/-- Far below the critical depth, the head is great. -/
theorem head_low (x0 : 0 < x) (h : 6 * x ≤ c) (nn : 0 ≤ Dx) (e : Dc * (ar W B c * ar W B c) = Dx * (ar W B x * ar W B x)) : 36 * Dc ≤ Dx := by
  have b := cr_bd W0 B0 c0 hC
  have g := ar_grow W0 B0 (y := x) (x := c) (r := 6) (Rat.le_of_lt x0) (by decide +kernel) (by grind)
  have r := dd_le (ar_pos W0 B0 c0) (ar_pos W0 B0 x0) (by grind) e (show (0 : Rat) ≤ 6 by decide +kernel) g
  grind
/-- Near the critical depth the head is less than at deep water. -/
theorem head_near (h1 : 99 / 100 * c ≤ x) (h2 : x ≤ 10001 / 10000 * c) (nx : 0 ≤ Dx) (nd : 0 ≤ Dd) (ex : Dx * (ar W B x * ar W B x) = Dc * (ar W B c * ar W B c)) (ed : Dd * (ar W B d * ar W B d) = Dc * (ar W B c * ar W B c))
    (hd : 174 / 100 * c ≤ d ∨ (14999 / 10000 * c ≤ d ∧ d ≤ 15001 / 10000 * c)) : x + Dx + 5 / 100 * c ≤ d + Dd := by
  have b := cr_bd W0 B0 c0 hC
  have x0 : 0 < x := by grind
  have s := ar_shrink W0 B0 (x := x) (y := c) (r := 99 / 100) (by grind) (by grind) (by decide +kernel) (by decide +kernel) h1
  have r := dd_le (ar_pos W0 B0 x0) (ar_pos W0 B0 c0) nx ex (show (0 : Rat) ≤ 99 / 100 * (99 / 100) by decide +kernel) s
  rcases hd with hd | ⟨hd1, hd2⟩
  · grind
  · have g := ar_scale W0 B0 (x := d) (y := c) (r := 15001 / 10000) (by grind) (by grind) (by decide +kernel) hd2
    have s2 : 100 / 226 * ar W B d ≤ ar W B c := by
      have := ar_pos W0 B0 c0
      grind
    have d0 : 0 < d := by grind
    have r2 := dd_le (ar_pos W0 B0 c0) (ar_pos W0 B0 d0) (by grind) ed.symm (show (0 : Rat) ≤ 100 / 226 by decide +kernel) s2
    grind
/-- Deep water has a small head of speed. -/
theorem head_deep (h1 : 14999 / 10000 * c ≤ d) (nd : 0 ≤ Dd) (ed : Dd * (ar W B d * ar W B d) = Dc * (ar W B c * ar W B c)) : Dd ≤ 45 / 100 * Dc := by
  have b := cr_bd W0 B0 c0 hC
  have d0 : 0 < d := by grind
  have g := ar_grow W0 B0 (y := c) (x := d) (r := 14999 / 10000) (by grind) (by decide +kernel) h1
  have r := dd_le (ar_pos W0 B0 d0) (ar_pos W0 B0 c0) nd ed (show (0 : Rat) ≤ 14999 / 10000 by decide +kernel) g
  grind
end
/-! ### Pushes -/
theorem zz_up {W B x y r : Rat} (W0 : 0 < W) (B0 : 0 ≤ B) (x0 : 0 ≤ x) (y0 : 0 ≤ y) (r1 : 1 ≤ r) (h : x ≤ r * y) : zz W B x ≤ r * r * r * zz W B y := by
  have b := Rat.mul_le_mul_of_nonneg_left h B0
  have bx := Rat.mul_nonneg B0 x0
  have bby := Rat.mul_nonneg B0 y0
  have w := Rat.mul_le_mul_of_nonneg_left r1 (Rat.le_of_lt W0)
  have m := mul_rng x0 h x0 h (by decide +kernel) (by decide +kernel)
  have m2 := mul_rng (Rat.mul_nonneg x0 x0) m.2 (show 0 ≤ W / 2 + B * x / 3 by grind) (show W / 2 + B * x / 3 ≤ r * (W / 2 + B * y / 3) by grind) (by decide +kernel) (by decide +kernel)
  unfold zz
  grind
theorem zz_dn {W B x y r : Rat} (W0 : 0 < W) (B0 : 0 ≤ B) (y0 : 0 ≤ y) (r1 : 1 ≤ r) (h : r * y ≤ x) : r * r * (y * y * (W / 2 + r * (B * y) / 3)) ≤ zz W B x := by
  have ry : 0 ≤ r * y := Rat.mul_nonneg (by grind) y0
  have b := Rat.mul_le_mul_of_nonneg_left h B0
  have by0 := Rat.mul_nonneg B0 y0
  have bry := Rat.mul_nonneg B0 ry
  have m := mul_rng h (Rat.le_refl (a := x)) h Rat.le_refl ry ry
  have m2 := mul_rng m.1 (Rat.le_refl) (show W / 2 + r * (B * y) / 3 ≤ W / 2 + B * x / 3 by grind) Rat.le_refl (Rat.mul_nonneg ry ry) (by grind)
  unfold zz
  grind
/-- Monomials. -/
theorem mono3 {u v : Rat} (u0 : 0 ≤ u) (v0 : 0 ≤ v) : 0 ≤ u * u * u ∧ 0 ≤ u * u * v ∧ 0 ≤ u * v * v ∧ 0 ≤ v * v * v :=
  ⟨Rat.mul_nonneg (Rat.mul_nonneg u0 u0) u0, Rat.mul_nonneg (Rat.mul_nonneg u0 u0) v0, Rat.mul_nonneg (Rat.mul_nonneg u0 v0) v0, Rat.mul_nonneg (Rat.mul_nonneg v0 v0) v0⟩
theorem tau_bd {τ u v : Rat} (k1 : 7499 / 10000 ≤ τ) (k2 : τ ≤ 7501 / 10000) (u0 : 0 ≤ u) (v0 : 0 ≤ v) : 7499 / 10000 * u + 5623 / 10000 * v ≤ τ * (u + τ * v) ∧ τ * (u + τ * v) ≤ 7501 / 10000 * u + 5627 / 10000 * v ∧ 28117 / 100000 * u + 14056 / 100000 * v ≤ τ * τ * (u / 2 + τ * v / 3) ∧ τ * τ * (u / 2 + τ * v / 3) ≤ 28134 / 100000 * u + 14071 / 100000 * v := by
  have t2 := mul_rng k1 k2 k1 k2 (by decide +kernel) (by decide +kernel)
  have t3 := mul_rng t2.1 t2.2 k1 k2 (by decide +kernel) (by decide +kernel)
  have a1 := mul_rng k1 k2 u0 (Rat.le_refl (a := u)) (by decide +kernel) (by decide +kernel)
  have a1' := Rat.mul_le_mul_of_nonneg_right k1 u0
  have b1 := Rat.mul_le_mul_of_nonneg_right t2.1 v0
  have b2 := Rat.mul_le_mul_of_nonneg_right t2.2 v0
  have c1 := Rat.mul_le_mul_of_nonneg_right t2.1 u0
  have c2 := Rat.mul_le_mul_of_nonneg_right t2.2 u0
  have d1 := Rat.mul_le_mul_of_nonneg_right t3.1 v0
  have d2 := Rat.mul_le_mul_of_nonneg_right t3.2 v0
  exact ⟨by grind, by grind, by grind, by grind⟩
/-- The push over the critical depth, less than that at thin water; and far above it, more. -/
theorem push_uv {u v a z : Rat} (u0 : 0 ≤ u) (v0 : 0 ≤ v) (a1 : 7499 / 10000 * u + 5623 / 10000 * v ≤ a) (a2 : a ≤ 7501 / 10000 * u + 5627 / 10000 * v) (z1 : 28117 / 100000 * u + 14056 / 100000 * v ≤ z) (z2 : z ≤ 28134 / 100000 * u + 14071 / 100000 * v) :
    (u + v) * (u + v) * (10003 / 10000) * a + 10405 / 10000 * ((u / 2 + v / 3) * (u + 2 * v)) * a ≤ z * (u + 2 * v) * a + (u + v) * (u + v) * (u + v) * (9998 / 10000) ∧
    z * (u + 2 * v) * a + (u + v) * (u + v) * (u + v) * (1001 / 1000) ≤ 99 / 100 * (2 * u + 8 / 3 * v) * (u + 2 * v) * a := by
  obtain ⟨m1, m2, m3, m4⟩ := mono3 u0 v0
  have uv := Rat.mul_nonneg u0 v0
  have uu := Rat.mul_nonneg u0 u0
  have vv := Rat.mul_nonneg v0 v0
  have p1 := Rat.mul_le_mul_of_nonneg_left (c := (u + v) * (u + v) * (10003 / 10000) + 10405 / 10000 * ((u / 2 + v / 3) * (u + 2 * v))) a2 (by grind)
  have q1 := mul_rng (show (28117 / 100000 * u + 14056 / 100000 * v) * (u + 2 * v) ≤ z * (u + 2 * v) from Rat.mul_le_mul_of_nonneg_right z1 (by grind)) Rat.le_refl a1 a2 (by grind) (by grind)
  have q2 := Rat.mul_le_mul_of_nonneg_right (show z * (u + 2 * v) ≤ (28134 / 100000 * u + 14071 / 100000 * v) * (u + 2 * v) from Rat.mul_le_mul_of_nonneg_right z2 (by grind)) (show 0 ≤ a by grind)
  have q3 := Rat.mul_le_mul_of_nonneg_left (c := (169 / 100 * u + 249 / 100 * v) * (u + 2 * v)) a1 (by grind)
  have q4 := Rat.mul_nonneg uu (show 0 ≤ a by grind)
  have q5 := Rat.mul_nonneg uv (show 0 ≤ a by grind)
  have q6 := Rat.mul_nonneg vv (show 0 ≤ a by grind)
  exact ⟨by grind, by grind⟩
theorem push_thin {W B c t : Rat} (W0 : 0 < W) (B0 : 0 ≤ B) (c0 : 0 < c) (t1 : 7499 / 10000 * c ≤ t) (t2 : t ≤ 7501 / 10000 * c) :
    ar W B c * ar W B c * (10003 / 10000) * ar W B t + 10405 / 10000 * (zz W B c * tp W B c) * ar W B t ≤ zz W B t * tp W B c * ar W B t + ar W B c * ar W B c * ar W B c * (9998 / 10000) ∧
    zz W B t * tp W B c * ar W B t + ar W B c * ar W B c * ar W B c * (1001 / 1000) ≤ 99 / 100 * (4 * (c * c * (W / 2 + 2 * (B * c) / 3))) * tp W B c * ar W B t := by
  obtain ⟨τ, rfl⟩ : ∃ τ, t = τ * c := ⟨t / c, by rw [Rat.div_mul_cancel (by grind)]⟩
  have k1 : 7499 / 10000 ≤ τ := cancel_le t1 c0
  have k2 : τ ≤ 7501 / 10000 := cancel_le t2 c0
  have v0 := Rat.mul_nonneg B0 (Rat.le_of_lt c0)
  obtain ⟨a1, a2, z1, z2⟩ := tau_bd (u := W) (v := B * c) k1 k2 (Rat.le_of_lt W0) v0
  obtain ⟨h1, h2⟩ := push_uv (Rat.le_of_lt W0) v0 a1 a2 z1 z2
  have c3 := Rat.le_of_lt (Rat.mul_pos (Rat.mul_pos c0 c0) c0)
  have g1 := Rat.mul_le_mul_of_nonneg_left h1 c3
  have g2 := Rat.mul_le_mul_of_nonneg_left h2 c3
  unfold ar zz tp
  have e1 : τ * c * (W + B * (τ * c)) = c * (τ * (W + τ * (B * c))) := by grind
  have e2 : τ * c * (τ * c) * (W / 2 + B * (τ * c) / 3) = c * c * (τ * τ * (W / 2 + τ * (B * c) / 3)) := by grind
  have e3 : W + 2 * B * c = W + 2 * (B * c) := by grind
  rw [e1, e2, e3]
  generalize τ * (W + τ * (B * c)) = a at *
  generalize τ * τ * (W / 2 + τ * (B * c) / 3) = z at *
  generalize B * c = v at *
  exact ⟨by grind, by grind⟩
/-- Jumps lose. -/
theorem loss_uv {W B t b : Rat} (W0 : 0 ≤ W) (B0 : 0 ≤ B) (t0 : 0 ≤ t) (h : t ≤ b) : 2 * (ar W B t * ar W B b) * (b - t) ≤ (zz W B b - zz W B t) * (ar W B b + ar W B t) := by
  have WW := Rat.mul_nonneg W0 W0
  have WB := Rat.mul_nonneg W0 B0
  have BB := Rat.mul_nonneg B0 B0
  have d := show 0 ≤ b - t by grind
  have d3 := Rat.mul_nonneg (Rat.mul_nonneg d d) d
  have tb := Rat.mul_nonneg t0 (show 0 ≤ b by grind)
  have tt := Rat.mul_nonneg t0 t0
  have bb := Rat.mul_nonneg (show 0 ≤ b by grind) (show 0 ≤ b by grind)
  have n1 := Rat.mul_nonneg d3 WW
  have n2 := Rat.mul_nonneg d3 (Rat.mul_nonneg WB (show 0 ≤ t + b by grind))
  have n3 := Rat.mul_nonneg d3 (Rat.mul_nonneg BB (show 0 ≤ t * t + b * b + 3 * (t * b) by grind))
  have e : (zz W B b - zz W B t) * (ar W B b + ar W B t) - 2 * (ar W B t * ar W B b) * (b - t) = (b - t) * (b - t) * (b - t) * (W * W) / 2 + 5 / 6 * ((b - t) * (b - t) * (b - t) * (W * B * (t + b))) + (b - t) * (b - t) * (b - t) * (B * B * (t * t + b * b + 3 * (t * b))) / 3 := by
    unfold zz ar; grind
  grind
theorem loss_le {W B t b Dt Db Pt Pb η : Rat} (W0 : 0 < W) (B0 : 0 ≤ B) (t0 : 0 < t) (h : t ≤ b) (ht : Dt * ar W B t = Pt) (hb : Db * ar W B b = Pb) (hP : Pt * ar W B t = Pb * ar W B b) (n0 : 0 ≤ η) (hM : zz W B b + 2 * Pb ≤ zz W B t + 2 * Pt + η) : (b + Db - t - Dt) * ar W B t ≤ η := by
  have l := loss_uv (Rat.le_of_lt W0) B0 (Rat.le_of_lt t0) h
  have a0 := ar_pos W0 B0 t0
  have b0 := ar_pos W0 B0 (show 0 < b by grind)
  have g := ar_grow W0 B0 (y := t) (x := b) (r := 1) (Rat.le_of_lt t0) (by decide +kernel) (by grind)
  generalize ar W B t = a at *
  generalize ar W B b = c at *
  generalize zz W B t = y at *
  generalize zz W B b = z at *
  refine cancel_le (c := 2 * c) ?_ (by grind)
  have m := Rat.mul_le_mul_of_nonneg_right hM (show 0 ≤ c + a by grind)
  have n := Rat.mul_le_mul_of_nonneg_left (c := η) (show c + a ≤ 2 * c by grind) n0
  have e : (b + Db - t - Dt) * a * (2 * c) = 2 * (a * c) * (b - t) + 2 * (Pb * a) - 2 * (Pt * c) := by subst ht hb; grind
  rw [e]
  grind
end Go.Proofs.Ytpglfnkkmafhbaa
