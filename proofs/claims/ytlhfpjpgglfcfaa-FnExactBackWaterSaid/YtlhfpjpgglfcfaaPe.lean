/- The logarithm and the exponential function: the program's and the reference's are the same, and they are not too great. -/
import Derived.Test.YtlhfpjpgglfcfaaMf
import Derived.Test.YtlhfpjpgglfcfaaPd
set_option linter.unusedVariables false
set_option linter.unusedSimpArgs false
set_option linter.constructorNameAsVariable false
namespace Go.Proofs.Ytlhfpjpgglfcfaa
open Go.RowKit
set_option maxRecDepth 100000

theorem runL_steps {σ ρ : Type} {f : σ → Option (σ ⊕ ρ)} {r : ρ} : ∀ (n k : Nat) (s : Nat → σ), (∀ j, k ≤ j → j < k + n → f (s j) = some (.inl (s (j + 1)))) → f (s (k + n)) = some (.inr r) → runL f (s k) = some r
  | 0, k, s, h, he => runL_out he
  | n + 1, k, s, h, he => (runL_in (h k (Nat.le_refl _) (by omega))).trans (runL_steps n (k + 1) s (fun j h1 h2 => h j (by omega) (by omega)) (by rw [show k + 1 + n = k + (n + 1) by omega]; exact he))
/-! ### Wider and narrower words -/
theorem least64 : FloatKind.f64.format.leastPlace = -1074 := by decide +kernel
theorem least32 : FloatKind.f32.format.leastPlace = -149 := by decide +kernel
theorem inf64 : FloatKind.f64.format.infRung = 9218868437227405312 := by decide +kernel
theorem inf32 : FloatKind.f32.format.infRung = 2139095040 := by decide +kernel
theorem unit64 : (-FloatKind.f64.format.leastPlace).toNat = 1074 := by decide +kernel
theorem unit32 : (-FloatKind.f32.format.leastPlace).toNat = 149 := by decide +kernel
theorem fup_num {x : Nat} {s : Bool} {m : Nat} {e : Int} (h : FloatKind.f32.format.read x = .number s m e) : fup x = FloatKind.f64.format.nearest s m e := by
  unfold fup
  have hn : isN .f32 x = false := by unfold isN; rw [h]; rfl
  rw [if_neg (by rw [hn]; decide)]
  show FloatKind.f64.format.write (FloatKind.f32.format.read x) = _
  rw [h]; rfl
theorem fdown_num {x : Nat} {s : Bool} {m : Nat} {e : Int} (h : FloatKind.f64.format.read x = .number s m e) : fdown x = FloatKind.f32.format.nearest s m e := by
  unfold fdown
  have hn : isN .f64 x = false := by unfold isN; rw [h]; rfl
  rw [if_neg (by rw [hn]; decide)]
  show FloatKind.f32.format.write (FloatKind.f64.format.read x) = _
  rw [h]; rfl
theorem fup_le {x r : Nat} (hx : mg .f32 x < FloatKind.f32.format.infRung) (h : vl .f32 (mg .f32 x) * 2 ^ 925 ≤ vl .f64 r) : mg .f64 (fup x) ≤ r := by
  obtain ⟨s, m, e, hr, l, v⟩ := fin_mg .f32 hx
  rw [least32] at l v
  rw [fup_num hr]
  refine near_le0 .f64 (by rw [least64]; omega) ?_
  rw [least64, show (e - -1074).toNat = (e - -149).toNat + 925 by omega, Nat.pow_add, ← Nat.mul_assoc, v]
  exact h
theorem fup_ge {x r : Nat} (hx : mg .f32 x < FloatKind.f32.format.infRung) (hr : r ≤ FloatKind.f64.format.infRung) (h : vl .f64 r ≤ vl .f32 (mg .f32 x) * 2 ^ 925) : r ≤ mg .f64 (fup x) := by
  obtain ⟨s, m, e, hr', l, v⟩ := fin_mg .f32 hx
  rw [least32] at l v
  rw [fup_num hr']
  refine near_ge0 .f64 (by rw [least64]; omega) hr ?_
  rw [least64, show (e - -1074).toNat = (e - -149).toNat + 925 by omega, Nat.pow_add, ← Nat.mul_assoc, v]
  exact h
theorem fdown_le {x r : Nat} (hx : mg .f64 x < FloatKind.f64.format.infRung) (h : vl .f64 (mg .f64 x) ≤ vl .f32 r * 2 ^ 925) : mg .f32 (fdown x) ≤ r := by
  obtain ⟨s, m, e, hr, l, v⟩ := fin_mg .f64 hx
  rw [least64] at l v
  rw [fdown_num hr]
  refine near_le FloatKind.f32.format s m e (-1074) l (by rw [least32]; omega) r ?_
  rw [v, least32, show (-149 - -1074 : Int).toNat = 925 from rfl]
  exact h
theorem le_mul1 {a v w : Nat} (h1 : a ≤ w) (h : 0 < v) : a ≤ v * w := Nat.le_trans h1 (Nat.le_mul_of_pos_left w h)
theorem zero_mul_le {a w r : Nat} (h : a = 0) : a * w ≤ r := by
  subst h; rw [Nat.zero_mul]; exact Nat.zero_le _
theorem fover_le {x r : Nat} (hx : mg .f64 x < FloatKind.f64.format.infRung) (hr : r < FloatKind.f32.format.infRung) (h : vl .f64 (mg .f64 x) ≤ vl .f32 r * 2 ^ 925) : fover x = false := by
  have h1 := fdown_le hx h
  obtain ⟨s, m, e, hd, l, v⟩ := fin_mg .f64 hx
  rw [fdown_num hd] at h1
  obtain ⟨s', m', e', hr', _, _⟩ := fin_mg .f32 (c := FloatKind.f32.format.nearest s m e) (by omega)
  unfold fover
  show (match FloatKind.f64.format.read x with | .number s m e => _ | _ => false) = false
  rw [hd]
  show (FloatKind.f32.format.read (FloatKind.f32.format.nearest s m e)).isInfinity = false
  rw [hr']; rfl
/-! ### Constants -/
abbrev one : Nat := 4607182418800017408
abbrev two : Nat := 4611686018427387904
theorem vone : vl .f64 one = 2 ^ 1074 := by decide +kernel
theorem vtwo : vl .f64 two = 2 * 2 ^ 1074 := by decide +kernel
theorem vhalf : vl .f64 4602678819172646912 = 2 ^ 1073 := by decide +kernel
theorem mone : mg .f64 one = one := by decide +kernel
theorem mtwo : mg .f64 two = two := by decide +kernel
theorem one_inf : one < FloatKind.f64.format.infRung := by decide +kernel
theorem two_inf : two < FloatKind.f64.format.infRung := by decide +kernel
theorem vl_up (c : Nat) (h : 4503599627370496 ≤ c) : vl .f64 (c + 4503599627370496) = 2 * vl .f64 c := by
  have hB : FloatKind.f64.format.binade = 4503599627370496 := by decide +kernel
  have e := val_shift (B := 4503599627370496) (by decide) 1 c h
  rw [Nat.one_mul, Nat.add_comm 4503599627370496 c] at e
  unfold vl
  rw [hB, e]; omega
theorem halve (c : Nat) (h1 : 2 * 4503599627370496 ≤ c) (h2 : c < FloatKind.f64.format.infRung) : fdiv .f64 c two = c - 4503599627370496 := by
  have hc := pos_sgn .f64 h2
  have e := vl_up (c - 4503599627370496) (by omega)
  rw [show c - 4503599627370496 + 4503599627370496 = c by omega] at e
  have hv0 : vl .f64 c ≠ 0 := fun h => by have := vl_zero .f64 h; omega
  have ht0 : vl .f64 two ≠ 0 := by rw [vtwo]; have := Nat.two_pow_pos 1074; omega
  rw [← div_pos .f64 h2 two_inf ht0]
  refine Nat.le_antisymm (div_le .f64 (by rw [hc]; exact h2) (by rw [mtwo]; exact two_inf) (by rw [mtwo]; exact ht0) ?_) (div_ge .f64 (by rw [hc]; exact h2) (by rw [mtwo]; exact two_inf) (by rw [mtwo]; exact ht0) (by omega) (by rw [hc]; exact hv0) ?_)
  · rw [hc, mtwo, vtwo, unit64, e]; generalize (2 : Nat) ^ 1074 = w; generalize vl FloatKind.f64 _ = v; exact Nat.le_of_eq (by ac_rfl)
  · rw [hc, mtwo, vtwo, unit64, e]; generalize (2 : Nat) ^ 1074 = w; generalize vl FloatKind.f64 _ = v; exact Nat.le_of_eq (by ac_rfl)
theorem double (c : Nat) (h1 : 4503599627370496 ≤ c) (h2 : c + 4503599627370496 < FloatKind.f64.format.infRung) : fmul .f64 c two = c + 4503599627370496 := by
  have h2' : c < FloatKind.f64.format.infRung := by omega
  have hc := pos_sgn .f64 h2'
  have e := vl_up c h1
  rw [← mul_pos .f64 h2' two_inf]
  refine Nat.le_antisymm (mul_le .f64 (by rw [hc]; exact h2') (by rw [mtwo]; exact two_inf) ?_) (mul_ge .f64 (by rw [hc]; exact h2') (by rw [mtwo]; exact two_inf) (by omega) ?_)
  · rw [hc, mtwo, vtwo, unit64, e]; generalize (2 : Nat) ^ 1074 = w; generalize vl FloatKind.f64 _ = v; exact Nat.le_of_eq (by ac_rfl)
  · rw [hc, mtwo, vtwo, unit64, e]; generalize (2 : Nat) ^ 1074 = w; generalize vl FloatKind.f64 _ = v; exact Nat.le_of_eq (by ac_rfl)
/-! ### Rounds that count -/
noncomputable def nr (k : Int) : Nat := FloatKind.nearest .f64 k
theorem nr_up0 : ∀ j : Fin 601, fadd .f64 (FloatKind.nearest .f64 ((j.val : Int) - 300)) one = FloatKind.nearest .f64 ((j.val : Int) - 299) := by decide +kernel
theorem nr_dn0 : ∀ j : Fin 601, fsub .f64 (FloatKind.nearest .f64 ((j.val : Int) - 300)) one = FloatKind.nearest .f64 ((j.val : Int) - 301) := by decide +kernel
theorem nr_up (k : Int) (h1 : -300 ≤ k) (h2 : k ≤ 300) : fadd .f64 (nr k) one = nr (k + 1) := by
  have := nr_up0 ⟨(k + 300).toNat, by omega⟩
  simp only at this
  rw [show (((k + 300).toNat : Nat) : Int) - 300 = k by omega, show (((k + 300).toNat : Nat) : Int) - 299 = k + 1 by omega] at this
  exact this
theorem nr_dn (k : Int) (h1 : -300 ≤ k) (h2 : k ≤ 300) : fsub .f64 (nr k) one = nr (k - 1) := by
  have := nr_dn0 ⟨(k + 300).toNat, by omega⟩
  simp only at this
  rw [show (((k + 300).toNat : Nat) : Int) - 300 = k by omega, show (((k + 300).toNat : Nat) : Int) - 301 = k - 1 by omega] at this
  exact this
theorem nr_le0 : ∀ j : Fin 301, mg .f64 (FloatKind.nearest .f64 ((j.val : Int) - 150)) ≤ 4639481672377565184 := by decide +kernel
theorem nr_le (k : Int) (h1 : -150 ≤ k) (h2 : k ≤ 150) : mg .f64 (nr k) ≤ 4639481672377565184 := by
  have := nr_le0 ⟨(k + 150).toNat, by omega⟩
  simp only at this
  rw [show (((k + 150).toNat : Nat) : Int) - 150 = k by omega] at this
  exact this
theorem red_down (n : Nat) : ∀ (c : Nat) (k : Int), c < 4609434218613702656 + n * 4503599627370496 → c < FloatKind.f64.format.infRung → 0 ≤ k → k + n ≤ 250 →
    ∃ (c' : Nat) (k' : Int), runL (fun s : Nat × Int => (sl01LogWide_l8_t s.1 s.2).sem) (c, k) = some (c', k') ∧ runL (fun s : Nat × Nat => (inaturalLog_l2_t s.1 s.2).sem) (c, nr k) = some (c', nr k') ∧ c' < 4609434218613702656 ∧ (c < 4604930618986332160 → c' = c) ∧ (4604930618986332160 ≤ c → 4604930618986332160 ≤ c') ∧ k ≤ k' ∧ k' ≤ k + n ∧ (c < 4609434218613702656 → k' = k) := by
  have hr : 4609434218613702656 < FloatKind.f64.format.infRung := by decide +kernel
  have stop : ∀ (n c : Nat) (k : Int), c < 4609434218613702656 → c < FloatKind.f64.format.infRung → ∃ (c' : Nat) (k' : Int), runL (fun s : Nat × Int => (sl01LogWide_l8_t s.1 s.2).sem) (c, k) = some (c', k') ∧ runL (fun s : Nat × Nat => (inaturalLog_l2_t s.1 s.2).sem) (c, nr k) = some (c', nr k') ∧ c' < 4609434218613702656 ∧ (c < 4604930618986332160 → c' = c) ∧ (4604930618986332160 ≤ c → 4604930618986332160 ≤ c') ∧ k ≤ k' ∧ k' ≤ k + n ∧ (c < 4609434218613702656 → k' = k) := by
    intro n c k hc h2
    have hg : fge .f64 c 4609434218613702656 = false := by rw [fge_pos .f64 h2 hr]; exact decide_eq_false (by omega)
    refine ⟨c, k, runL_out ?_, runL_out ?_, hc, fun _ => rfl, fun h => h, Int.le_refl _, by omega, fun _ => rfl⟩
    · simp only [sl01LogWide_l8_t, Tr.sem, hg, cond_false]
    · simp only [inaturalLog_l2_t, Tr.sem, hg, cond_false]
  induction n with
  | zero => intro c k h1 h2 h3 h4; exact stop 0 c k (by omega) h2
  | succ n ih =>
    intro c k h1 h2 h3 h4
    by_cases hc : c < 4609434218613702656
    · exact stop (n + 1) c k hc h2
    · have hg : fge .f64 c 4609434218613702656 = true := by rw [fge_pos .f64 h2 hr]; exact decide_eq_true (by omega)
      have hh := halve c (by omega) h2
      obtain ⟨c', k', e1, e2, e3, e4, e5, e6, e7, e8⟩ := ih (c - 4503599627370496) (k + 1) (by omega) (by omega) (by omega) (by omega)
      refine ⟨c', k', (runL_in (s' := (c - 4503599627370496, k + 1)) ?_).trans e1, (runL_in (s' := (c - 4503599627370496, nr (k + 1))) ?_).trans e2, e3, fun h => by omega, fun _ => e5 (by omega), by omega, by omega, fun h => by omega⟩
      · simp only [sl01LogWide_l8_t, Tr.sem, hg, cond_true, hh]
        rw [wrap_id (by omega) (by omega)]
      · simp only [inaturalLog_l2_t, Tr.sem, hg, cond_true, hh]
        rw [nr_up k (by omega) (by omega)]
theorem red_up (n : Nat) : ∀ (c : Nat) (k : Int), c < 4609434218613702656 → 4503599627370496 ≤ c → 4604930618986332160 ≤ c + n * 4503599627370496 → k ≤ 250 → -250 ≤ k - n →
    ∃ (c' : Nat) (k' : Int), runL (fun s : Nat × Int => (sl01LogWide_l11_t s.1 s.2).sem) (c, k) = some (c', k') ∧ runL (fun s : Nat × Nat => (inaturalLog_l4_t s.1 s.2).sem) (c, nr k) = some (c', nr k') ∧ c' < 4609434218613702656 ∧ 4604930618986332160 ≤ c' ∧ k' ≤ k ∧ k - n ≤ k' ∧ (4604930618986332160 ≤ c → k' = k) := by
  have hr : 4604930618986332160 < FloatKind.f64.format.infRung := by decide +kernel
  have hI := inf64
  have stop : ∀ (n c : Nat) (k : Int), c < 4609434218613702656 → 4604930618986332160 ≤ c → ∃ (c' : Nat) (k' : Int), runL (fun s : Nat × Int => (sl01LogWide_l11_t s.1 s.2).sem) (c, k) = some (c', k') ∧ runL (fun s : Nat × Nat => (inaturalLog_l4_t s.1 s.2).sem) (c, nr k) = some (c', nr k') ∧ c' < 4609434218613702656 ∧ 4604930618986332160 ≤ c' ∧ k' ≤ k ∧ k - n ≤ k' ∧ (4604930618986332160 ≤ c → k' = k) := by
    intro n c k h1 hc
    have hg : flt .f64 c 4604930618986332160 = false := by rw [flt_pos .f64 (by omega) hr]; exact decide_eq_false (by omega)
    refine ⟨c, k, runL_out ?_, runL_out ?_, h1, hc, Int.le_refl _, by omega, fun _ => rfl⟩
    · simp only [sl01LogWide_l11_t, Tr.sem, hg, cond_false]
    · simp only [inaturalLog_l4_t, Tr.sem, hg, cond_false]
  induction n with
  | zero => intro c k h1 h2 h3 h4 h5; exact stop 0 c k h1 (by omega)
  | succ n ih =>
    intro c k h1 h2 h3 h4 h5
    by_cases hc : 4604930618986332160 ≤ c
    · exact stop (n + 1) c k h1 hc
    · have hg : flt .f64 c 4604930618986332160 = true := by rw [flt_pos .f64 (by omega) hr]; exact decide_eq_true (by omega)
      have hh := double c h2 (by omega)
      obtain ⟨c', k', e1, e2, e3, e4, e5, e6, e7⟩ := ih (c + 4503599627370496) (k - 1) (by omega) (by omega) (by omega) (by omega) (by omega)
      refine ⟨c', k', (runL_in (s' := (c + 4503599627370496, k - 1)) ?_).trans e1, (runL_in (s' := (c + 4503599627370496, nr (k - 1))) ?_).trans e2, e3, e4, by omega, by omega, fun h => by omega⟩
      · simp only [sl01LogWide_l11_t, Tr.sem, hg, cond_true, hh]
        rw [wrap_id (by omega) (by omega)]
      · simp only [inaturalLog_l4_t, Tr.sem, hg, cond_true, hh]
        rw [nr_dn k (by omega) (by omega)]
/-! ### The sum -/
def Yq (u : Nat) : Nat → Nat
  | 0 => 0
  | n + 1 => fadd .f64 (fdiv .f64 one (FloatKind.nearest .f64 (25 - 2 * (n : Int)))) (fmul .f64 u (Yq u n))
theorem yq_one : ∀ j : Fin 13, mg .f64 (fdiv .f64 one (FloatKind.nearest .f64 (25 - 2 * ((j.val : Nat) : Int)))) ≤ one := by decide +kernel
theorem quarter_mul (a b : Nat) (ha : mg .f64 a ≤ 4598175219545276416) (hb : mg .f64 b ≤ two) : mg .f64 (fmul .f64 a b) ≤ 4602678819172646912 := by
  refine mul_le .f64 (Nat.lt_of_le_of_lt ha (by decide +kernel)) (Nat.lt_of_le_of_lt hb two_inf) ?_
  refine Nat.le_trans (Nat.mul_le_mul (vl_le .f64 ha) (vl_le .f64 hb)) ?_
  decide +kernel
theorem Yq_le (u : Nat) (hu : mg .f64 u ≤ 4598175219545276416) : ∀ n, n ≤ 13 → mg .f64 (Yq u n) ≤ two
  | 0, _ => by show mg .f64 0 ≤ two; decide +kernel
  | n + 1, h => by
    have h1 := Yq_le u hu n (by omega)
    have h2 := quarter_mul u (Yq u n) hu h1
    have h3 := yq_one ⟨n, by omega⟩
    show mg .f64 (fadd .f64 (fdiv .f64 one (FloatKind.nearest .f64 (25 - 2 * (n : Int)))) (fmul .f64 u (Yq u n))) ≤ two
    refine add_le .f64 (Nat.lt_of_le_of_lt h3 one_inf) (Nat.lt_of_le_of_lt h2 (by decide +kernel)) ?_
    refine Nat.le_trans (Nat.add_le_add (vl_le .f64 h3) (vl_le .f64 h2)) ?_
    decide +kernel
theorem P_l18 (y0 : Int) (y1 u : Nat) : sl01LogWide_l18 y0 y1 u 0 25 = some (y0, y1, Yq u 13) := by
  refine runL_steps (f := fun s : Nat × Int => (sl01LogWide_l18_t y0 y1 u s.1 s.2).sem) 13 0 (fun j => (Yq u j, 25 - 2 * (j : Int))) (fun j _ hj => ?_) ?_
  · simp only [sl01LogWide_l18_t, Tr.sem, decide_eq_true (show (25 - 2 * (j : Int)) ≥ 1 by omega), cond_true]
    rw [wrap_id (by omega) (by omega), show (25 - 2 * (j : Int)) - 2 = 25 - 2 * ((j + 1 : Nat) : Int) by omega]; rfl
  · rfl
theorem P_l9 (y0 y1 u : Nat) : inaturalLog_l9 y0 y1 u 0 25 = some (y0, y1, Yq u 13) := by
  refine runL_steps (f := fun s : Nat × Int => (inaturalLog_l9_t y0 y1 u s.1 s.2).sem) 13 0 (fun j => (Yq u j, 25 - 2 * (j : Int))) (fun j _ hj => ?_) ?_
  · simp only [inaturalLog_l9_t, Tr.sem, decide_eq_true (show (25 - 2 * (j : Int)) ≥ 1 by omega), cond_true]
    rw [wrap_id (by omega) (by omega), show (25 - 2 * (j : Int)) - 2 = 25 - 2 * ((j + 1 : Nat) : Int) by omega]; rfl
  · rfl
/-! ### The logarithm of a number that is above zero -/
noncomputable def sW (c : Nat) : Nat := fdiv .f64 (fsub .f64 c one) (fadd .f64 c one)
noncomputable def logW (c : Nat) (k : Int) : Nat := fadd .f64 (fmul .f64 two (fmul .f64 (sW c) (Yq (fmul .f64 (sW c) (sW c)) 13))) (fmul .f64 (nr k) 4604418534313441775)
theorem sW_le (c : Nat) (h1 : 4604930618986332160 ≤ c) (h2 : c < 4609434218613702656) : mg .f64 (sW c) ≤ 4602678819172646912 := by
  have hI : 4609434218613702656 < FloatKind.f64.format.infRung := by decide +kernel
  have hc : c < FloatKind.f64.format.infRung := by omega
  have hn : mg .f64 (fsub .f64 c one) ≤ 4602678819172646912 := by
    refine sub_le_pos .f64 hc one_inf ?_ ?_
    · exact Nat.le_trans (vl_le .f64 (Nat.le_of_lt h2)) (by decide +kernel)
    · exact Nat.le_trans (show vl .f64 one ≤ vl .f64 4604930618986332160 + vl .f64 4602678819172646912 by decide +kernel) (Nat.add_le_add_right (vl_le .f64 h1) _)
  have hd1 : one ≤ mg .f64 (fadd .f64 c one) := add_ge .f64 hc one_inf (Nat.le_of_lt one_inf) (Nat.le_add_left _ _)
  have hd2 : mg .f64 (fadd .f64 c one) ≤ 4616189618054758400 := by
    refine add_le .f64 (by rw [pos_sgn .f64 hc]; exact hc) (by rw [mone]; exact one_inf) ?_
    rw [pos_sgn .f64 hc, mone]
    exact Nat.le_trans (Nat.add_le_add_right (vl_le .f64 (Nat.le_of_lt h2)) _) (by decide +kernel)
  have hv : vl .f64 one ≤ vl .f64 (mg .f64 (fadd .f64 c one)) := vl_le .f64 hd1
  refine div_le .f64 (Nat.lt_of_le_of_lt hn (by decide +kernel)) (Nat.lt_of_le_of_lt hd2 (by decide +kernel)) (fun h => by rw [h, vone] at hv; have := Nat.two_pow_pos 1074; omega) ?_
  rw [unit64, ← vone]
  exact Nat.mul_le_mul (vl_le .f64 hn) hv
theorem logW_le (c : Nat) (k : Int) (h1 : 4604930618986332160 ≤ c) (h2 : c < 4609434218613702656) (h3 : -150 ≤ k) (h4 : k ≤ 150) : mg .f64 (logW c k) ≤ 4637159503819702272 := by
  have hs := sW_le c h1 h2
  have hu : mg .f64 (fmul .f64 (sW c) (sW c)) ≤ 4598175219545276416 := by
    refine mul_le .f64 (Nat.lt_of_le_of_lt hs (by decide +kernel)) (Nat.lt_of_le_of_lt hs (by decide +kernel)) ?_
    exact Nat.le_trans (Nat.mul_le_mul (vl_le .f64 hs) (vl_le .f64 hs)) (by decide +kernel)
  have hy := Yq_le _ hu 13 (Nat.le_refl _)
  have hsy : mg .f64 (fmul .f64 (sW c) (Yq (fmul .f64 (sW c) (sW c)) 13)) ≤ one := by
    refine mul_le .f64 (Nat.lt_of_le_of_lt hs (by decide +kernel)) (Nat.lt_of_le_of_lt hy two_inf) ?_
    exact Nat.le_trans (Nat.mul_le_mul (vl_le .f64 hs) (vl_le .f64 hy)) (by decide +kernel)
  have h2s : mg .f64 (fmul .f64 two (fmul .f64 (sW c) (Yq (fmul .f64 (sW c) (sW c)) 13))) ≤ two := by
    refine mul_le .f64 (by rw [mtwo]; exact two_inf) (Nat.lt_of_le_of_lt hsy one_inf) ?_
    rw [mtwo]
    exact Nat.le_trans (Nat.mul_le_mul_left _ (vl_le .f64 hsy)) (by decide +kernel)
  have hk := nr_le k h3 h4
  have hkl : mg .f64 (fmul .f64 (nr k) 4604418534313441775) ≤ 4637018766331346944 := by
    refine mul_le .f64 (Nat.lt_of_le_of_lt hk (by decide +kernel)) (by decide +kernel) ?_
    exact Nat.le_trans (Nat.mul_le_mul_right _ (vl_le .f64 hk)) (by decide +kernel)
  refine add_le .f64 (Nat.lt_of_le_of_lt h2s two_inf) (Nat.lt_of_le_of_lt hkl (by decide +kernel)) ?_
  exact Nat.le_trans (Nat.add_le_add (vl_le .f64 h2s) (vl_le .f64 hkl)) (by decide +kernel)
end Go.Proofs.Ytlhfpjpgglfcfaa
