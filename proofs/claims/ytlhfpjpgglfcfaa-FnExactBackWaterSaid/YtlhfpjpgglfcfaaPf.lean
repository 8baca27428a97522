/- Powers by logarithms; flows at depths. -/
import Derived.Test.YtlhfpjpgglfcfaaPe
set_option linter.unusedVariables false
set_option linter.unusedSimpArgs false
set_option linter.constructorNameAsVariable false
namespace Go.Proofs.Ytlhfpjpgglfcfaa
open Go.RowKit
set_option maxRecDepth 100000

/-! ### Order beside constants -/
theorem fgt_pos (k : FloatKind) {a b : Nat} (ha : a < k.format.infRung) (hb : b < k.format.infRung) : fgt k a b = decide (b < a) := by
  unfold fgt
  rw [order_pos k ha hb, cmp_int]
  rcases Nat.lt_trichotomy a b with h | h | h
  · have := vl_lt k h
    rw [if_pos (by omega), decide_eq_false (by omega)]; rfl
  · subst h; rw [if_neg (by omega), if_pos rfl, decide_eq_false (by omega)]; rfl
  · have := vl_lt k h
    rw [if_neg (by omega), if_neg (by omega), decide_eq_true (by omega)]; rfl
theorem feq_zero_pos (k : FloatKind) {a : Nat} (ha : a < k.format.infRung) (h0 : 0 < a) : feq k a 0 = false := by
  have := vl_lt k h0
  unfold feq
  rw [order_pos k ha (by omega), cmp_int, if_neg (by omega), if_neg (by omega)]; rfl
theorem not_above (k : FloatKind) {a r b : Nat} (ha : mg k a ≤ r) (hr : r < b) (hb : b < k.format.infRung) : fgt k a b = false := by
  obtain ⟨s, m, i, ra, la, va⟩ := fin_mg k (c := a) (by omega)
  obtain ⟨n, j, rb, lb, vb⟩ := pos_read k hb
  have h1 := vl_le k ha
  have h2 := vl_lt k hr
  unfold fgt
  rw [order_fin k ra rb la lb va (by rw [vb, pos_sgn k hb]), pos_sgn k hb, cmp_int]
  rw [if_pos (by unfold sv; cases s <;> simp <;> omega)]; rfl
theorem not_below (k : FloatKind) {a r b : Nat} (ha : mg k a ≤ r) (hr : r < mg k b) (hb : mg k b < k.format.infRung) (hs : sgn k b = true) : flt k a b = false := by
  obtain ⟨s, m, i, ra, la, va⟩ := fin_mg k (c := a) (by omega)
  obtain ⟨t, n, j, rb, lb, vb⟩ := fin_mg k hb
  have h1 := vl_le k ha
  have h2 := vl_lt k hr
  have ht : t = true := by
    have hn : isN k b = false := by unfold isN; rw [rb]; rfl
    have := read_neg k b hn
    rw [rb, hs] at this; exact this
  subst ht
  unfold flt
  rw [order_fin k ra rb la lb va vb, cmp_int]
  rw [if_neg (by unfold sv; cases s <;> simp <;> omega)]
  split <;> rfl
theorem zero_read (k : FloatKind) : ∃ e, k.format.read 0 = .number false 0 e ∧ k.format.leastPlace ≤ e := by
  cases k
  · exact ⟨-149, by decide +kernel, by decide +kernel⟩
  · exact ⟨-1074, by decide +kernel, by decide +kernel⟩
theorem zero_order (k : FloatKind) {c : Nat} {s : Bool} {m : Nat} {i : Int} (rc : k.format.read c = .number s m i) (lc : k.format.leastPlace ≤ i) (vc : m * 2 ^ (i - k.format.leastPlace).toNat = vl k (mg k c)) :
    flt k c 0 = (s && decide (vl k (mg k c) ≠ 0)) ∧ feq k c 0 = decide (vl k (mg k c) = 0) := by
  obtain ⟨e, rz, lz⟩ := zero_read k
  have hz : vl k (mg k 0) = 0 := by cases k <;> decide +kernel
  unfold flt feq
  rw [order_fin k rc rz lc lz vc (by rw [hz, Nat.zero_mul]), hz, cmp_int]
  generalize vl k (mg k c) = v
  unfold sv
  rcases Nat.eq_zero_or_pos v with h | h
  · subst h; cases s <;> simp
  · cases s
    · simp only [Bool.false_eq_true, if_false, Bool.false_and]
      rw [if_neg (by omega), if_neg (by omega), decide_eq_false (by omega)]
      exact ⟨rfl, rfl⟩
    · simp only [Bool.false_eq_true, if_false, if_true, Bool.true_and]
      rw [if_pos (by omega), decide_eq_true (by omega), decide_eq_false (by omega)]
      exact ⟨rfl, rfl⟩
theorem fup_zero (x : Nat) (hx : mg .f32 x < FloatKind.f32.format.infRung) : (vl .f64 (mg .f64 (fup x)) = 0 ↔ vl .f32 (mg .f32 x) = 0) ∧ mg .f64 (fup x) ≤ 5183643171103440896 := by
  have hB := fup_le (r := 5183643171103440896) hx (Nat.le_trans (Nat.mul_le_mul_right _ (vl_le .f32 (Nat.le_of_lt hx))) (by decide +kernel))
  refine ⟨⟨fun h => ?_, fun h => ?_⟩, hB⟩
  · rcases Nat.eq_zero_or_pos (vl .f32 (mg .f32 x)) with h0 | h0
    · exact h0
    · exfalso
      have h1 := fup_ge (r := 3936146074321813504) hx (by rw [inf64]; omega) (le_mul1 (by decide +kernel) h0)
      have h2 := vl_zero .f64 h
      omega
  · have h1 := fup_le (r := 0) hx (zero_mul_le h)
    rw [show mg .f64 (fup x) = 0 by omega]; decide +kernel
/-! ### Logarithms -/
theorem nr_zero : nr 0 = 0 := by decide +kernel
theorem P_logpos (x : Nat) (hx : mg .f32 x < FloatKind.f32.format.infRung) {m : Nat} {e : Int} (hr : FloatKind.f32.format.read x = .number false m e) (h0 : vl .f32 (mg .f32 x) ≠ 0) :
    ∃ l, sl01LogWide (fup x) = some l ∧ inaturalLog (fup x) = some l ∧ mg .f64 l ≤ 4637159503819702272 := by
  have hp : mg .f64 (fup x) = fup x := by rw [fup_num hr]; exact near_pos _ _ _
  have h1 := (fup_zero x hx).2
  have h2 := fup_ge (r := 3936146074321813504) hx (by rw [inf64]; omega) (le_mul1 (by decide +kernel) (Nat.pos_of_ne_zero h0))
  rw [hp] at h1 h2
  have hn : isN .f64 (fup x) = false := by
    have hnx : isN .f32 x = false := by unfold isN; rw [hr]; rfl
    exact isN_up hnx
  generalize fup x = c at *
  have hi := inf64
  obtain ⟨c1, k1, e1, e2, e3, e4, e5, e6, e7, e8⟩ := red_down 128 c 0 (by omega) (by omega) (by omega) (by omega)
  have hc1 : 4503599627370496 ≤ c1 ∧ 4604930618986332160 ≤ c1 + 149 * 4503599627370496 := by
    by_cases hc : c < 4604930618986332160
    · rw [e4 hc]; omega
    · have := e5 (by omega); omega
  obtain ⟨c2, k2, g1, g2, g3, g4, g5, g6, g7⟩ := red_up 149 c1 k1 e3 hc1.1 hc1.2 (by omega) (by omega)
  rw [nr_zero] at e2
  have e1' : sl01LogWide_l8 c 0 = some (c1, k1) := e1
  have e2' : inaturalLog_l2 c 0 = some (c1, nr k1) := e2
  have g1' : sl01LogWide_l11 c1 k1 = some (c2, k2) := g1
  have g2' : inaturalLog_l4 c1 (nr k1) = some (c2, nr k2) := g2
  refine ⟨logW c2 k2, ?_, ?_, logW_le c2 k2 g4 g3 (by omega) (by omega)⟩
  · have q1 : feq .f64 c c = true := by rw [feq_self, hn]; rfl
    have q2 : flt .f64 c 0 = false := by rw [flt_pos .f64 (by omega) (by omega)]; exact decide_eq_false (by omega)
    have q3 : feq .f64 c 0 = false := feq_zero_pos .f64 (by omega) (by omega)
    have q4 : mIsInf c 1 = false := by
      unfold mIsInf mIsInf_t
      simp only [Tr.val, show ((1 : Int) == 0) = false from rfl, show decide ((1 : Int) < 0) = false from rfl, cond_false]
      rw [fgt_pos .f64 (by omega) (by omega)]
      exact decide_eq_false (by omega)
    unfold sl01LogWide sl01LogWide_t
    simp only [q1, q2, q3, q4, e1', g1', P_l18, Tr.sem, osome, oget, cond_true, cond_false, Bool.not_true]
    rfl
  · unfold inaturalLog inaturalLog_t
    simp only [e2', g2', P_l9, Tr.sem, osome, oget, cond_true]
    rfl
abbrev nan32 : Nat := 2143289344
abbrev minf32 : Nat := 4286578688
theorem P_log (x : Nat) (hx : mg .f32 x < FloatKind.f32.format.infRung) : ∃ l, sl01Log x = some l ∧ iLogNumber x = some l ∧ (mg .f32 l ≤ 1121189888 ∨ l = nan32 ∨ l = minf32) := by
  obtain ⟨s, m, e, hr, la, va⟩ := fin_mg .f32 hx
  have hup := fup_zero x hx
  have hxf : mg .f64 (fup x) < FloatKind.f64.format.infRung := by rw [inf64]; omega
  obtain ⟨s', m', e', hr', la', va'⟩ := fin_mg .f64 hxf
  have hn : isN .f32 x = false := by unfold isN; rw [hr]; rfl
  have hn' : isN .f64 (fup x) = false := isN_up hn
  have hs : s' = s := by
    have h1 := read_neg .f64 (fup x) hn'
    have h2 := read_neg .f32 x hn
    rw [fup_sgn hn, ← h2, hr, hr'] at h1
    exact h1
  subst hs
  obtain ⟨o1, o2⟩ := zero_order .f32 hr la va
  obtain ⟨p1, p2⟩ := zero_order .f64 hr' la' va'
  have hfin : isFin .f32 x = true := by unfold isFin; rw [hr]
  have q0 : feq .f32 x x = true := by rw [feq_self, hn]; rfl
  have q1 : feq .f64 (fup x) (fup x) = true := by rw [feq_self, hn']; rfl
  by_cases hz : vl .f32 (mg .f32 x) = 0
  · have hz' := hup.1.2 hz
    have t1 : flt .f32 x 0 = false := by rw [o1, hz]; simp
    have t2 : feq .f32 x 0 = true := by rw [o2, hz]; rfl
    have t3 : flt .f64 (fup x) 0 = false := by rw [p1, hz']; simp
    have t4 : feq .f64 (fup x) 0 = true := by rw [p2, hz']; rfl
    have c1 : mInf (-1) = 18442240474082181120 := rfl
    have c2 : fover 18442240474082181120 = false := by decide +kernel
    have c3 : fdown 18442240474082181120 = minf32 := by decide +kernel
    have w1 : sl01LogWide (fup x) = some 18442240474082181120 := by
      unfold sl01LogWide sl01LogWide_t
      simp only [q1, t3, t4, c1, Tr.sem, Bool.not_true, cond_false, cond_true]
    have w2 : sl01Narrow 18442240474082181120 = some minf32 := by
      unfold sl01Narrow sl01Narrow_t
      simp only [c2, c3, Tr.sem, Bool.not_false, cond_true]
    refine ⟨minf32, ?_, ?_, .inr (.inr rfl)⟩
    · unfold sl01Log sl01Log_t
      simp only [w1, w2, Tr.sem, osome, oget, cond_true]
    · unfold iLogNumber iLogNumber_t
      simp only [q0, t1, t2, c1, c2, c3, Tr.sem, Bool.not_true, Bool.not_false, cond_false, cond_true]
  · have hz' : vl .f64 (mg .f64 (fup x)) ≠ 0 := fun h => hz (hup.1.1 h)
    cases s' with
    | true =>
      have t1 : flt .f32 x 0 = true := by rw [o1, decide_eq_true hz]; rfl
      have t3 : flt .f64 (fup x) 0 = true := by rw [p1, decide_eq_true hz']; rfl
      have c1 : mNaN = 9221120237041090561 := rfl
      have c2 : fover 9221120237041090561 = false := by decide +kernel
      have c3 : fdown 9221120237041090561 = nan32 := by decide +kernel
      have w1 : sl01LogWide (fup x) = some 9221120237041090561 := by
        unfold sl01LogWide sl01LogWide_t
        simp only [q1, t3, c1, Tr.sem, Bool.not_true, cond_false, cond_true]
      have w2 : sl01Narrow 9221120237041090561 = some nan32 := by
        unfold sl01Narrow sl01Narrow_t
        simp only [c2, c3, Tr.sem, Bool.not_false, cond_true]
      refine ⟨nan32, ?_, ?_, .inr (.inl rfl)⟩
      · unfold sl01Log sl01Log_t
        simp only [w1, w2, Tr.sem, osome, oget, cond_true]
      · unfold iLogNumber iLogNumber_t
        simp only [q0, t1, c1, c2, c3, Tr.sem, Bool.not_true, Bool.not_false, cond_false, cond_true]
    | false =>
      have t1 : flt .f32 x 0 = false := by rw [o1]; rfl
      have t2 : feq .f32 x 0 = false := by rw [o2]; exact decide_eq_false hz
      obtain ⟨l, l1, l2, l3⟩ := P_logpos x hx hr hz
      have hl : mg .f64 l < FloatKind.f64.format.infRung := by rw [inf64]; omega
      have hv : vl .f64 (mg .f64 l) ≤ vl .f32 1121189888 * 2 ^ 925 := Nat.le_trans (vl_le .f64 l3) (by decide +kernel)
      have c2 : fover l = false := fover_le (r := 1121189888) hl (by rw [inf32]; omega) hv
      have c3 := fdown_le (r := 1121189888) hl hv
      have w2 : sl01Narrow l = some (fdown l) := by
        unfold sl01Narrow sl01Narrow_t
        simp only [c2, Tr.sem, Bool.not_false, cond_true]
      have w3 : ilogarithm x = some l := by
        unfold ilogarithm ilogarithm_t
        simp only [l2, Tr.sem, osome, oget, cond_true]
      refine ⟨fdown l, ?_, ?_, .inl c3⟩
      · unfold sl01Log sl01Log_t
        simp only [l1, w2, Tr.sem, osome, oget, cond_true]
      · unfold iLogNumber iLogNumber_t
        simp only [q0, t1, t2, hfin, w3, c2, Tr.sem, osome, oget, Bool.not_true, Bool.not_false, cond_false, cond_true]
/-! ### Exponentials -/
def Pq (t : Nat) : Nat → Nat
  | 0 => one
  | n + 1 => fadd .f64 one (fdiv .f64 (fmul .f64 t (Pq t n)) (FloatKind.nearest .f64 (12 - (n : Int))))
def Sq (p : Nat) : Nat → Nat
  | 0 => p
  | n + 1 => fmul .f64 (Sq p n) (Sq p n)
theorem P_l10 (t : Nat) : sl01ExpWide_l10 t one 12 = some (Pq t 12) := by
  refine runL_steps (f := fun s : Nat × Int => (sl01ExpWide_l10_t t s.1 s.2).sem) 12 0 (fun j => (Pq t j, 12 - (j : Int))) (fun j _ hj => ?_) ?_
  · simp only [sl01ExpWide_l10_t, Tr.sem, decide_eq_true (show (12 - (j : Int)) ≥ 1 by omega), cond_true]
    rw [wrap_id (by omega) (by omega), show (12 - (j : Int)) - 1 = 12 - ((j + 1 : Nat) : Int) by omega]; rfl
  · simp only [sl01ExpWide_l10_t, Tr.sem]; rfl
theorem P_l7 (t : Nat) : iExpNumber_l7 t one 12 = some (Pq t 12) := by
  refine runL_steps (f := fun s : Nat × Int => (iExpNumber_l7_t t s.1 s.2).sem) 12 0 (fun j => (Pq t j, 12 - (j : Int))) (fun j _ hj => ?_) ?_
  · simp only [iExpNumber_l7_t, Tr.sem, decide_eq_true (show (12 - (j : Int)) ≥ 1 by omega), cond_true]
    rw [wrap_id (by omega) (by omega), show (12 - (j : Int)) - 1 = 12 - ((j + 1 : Nat) : Int) by omega]; rfl
  · simp only [iExpNumber_l7_t, Tr.sem]; rfl
theorem P_l14 (p : Nat) : sl01ExpWide_l14 p 0 = some (Sq p 8) := by
  refine runL_steps (f := fun s : Nat × Int => (sl01ExpWide_l14_t s.1 s.2).sem) 8 0 (fun j => (Sq p j, (j : Int))) (fun j _ hj => ?_) ?_
  · simp only [sl01ExpWide_l14_t, Tr.sem, decide_eq_true (show (j : Int) < 8 by omega), cond_true]
    rw [wrap_id (by omega) (by omega)]; rfl
  · simp only [sl01ExpWide_l14_t, Tr.sem]; rfl
theorem P_l11 (p : Nat) : iExpNumber_l11 p 0 = some (Sq p 8) := by
  refine runL_steps (f := fun s : Nat × Int => (iExpNumber_l11_t s.1 s.2).sem) 8 0 (fun j => (Sq p j, (j : Int))) (fun j _ hj => ?_) ?_
  · simp only [iExpNumber_l11_t, Tr.sem, decide_eq_true (show (j : Int) < 8 by omega), cond_true]
    rw [wrap_id (by omega) (by omega)]; rfl
  · simp only [iExpNumber_l11_t, Tr.sem]; rfl
/-- Both functions, when the argument is neither too great nor too small. -/
theorem P_exps (x : Nat) (q1 : feq .f64 (fup x) (fup x) = true) (q2 : fgt .f64 (fup x) 4641240890982006784 = false) (q3 : flt .f64 (fup x) 13864612927836782592 = false) (q4 : fgt .f32 x 1128792064 = false) (q5 : flt .f32 x 3276275712 = false)
    (q6 : fover (Sq (Pq (fdiv .f64 (fup x) 4643211215818981376) 12) 8) = false) : ∃ w, sl01Exp x = some w ∧ iExpNumber x = some w := by
  have w1 : sl01ExpWide (fup x) = some (Sq (Pq (fdiv .f64 (fup x) 4643211215818981376) 12) 8) := by
    unfold sl01ExpWide sl01ExpWide_t
    simp only [q1, q2, q3, P_l10, P_l14, Tr.sem, osome, oget, Bool.not_true, cond_false, cond_true]
  have w2 : sl01Narrow (Sq (Pq (fdiv .f64 (fup x) 4643211215818981376) 12) 8) = some (fdown (Sq (Pq (fdiv .f64 (fup x) 4643211215818981376) 12) 8)) := by
    unfold sl01Narrow sl01Narrow_t
    simp only [q6, Tr.sem, Bool.not_false, cond_true]
  refine ⟨fdown (Sq (Pq (fdiv .f64 (fup x) 4643211215818981376) 12) 8), ?_, ?_⟩
  · unfold sl01Exp sl01Exp_t
    simp only [w1, w2, Tr.sem, osome, oget, cond_true]
  · unfold iExpNumber iExpNumber_t
    simp only [q4, q5, q6, P_l7, P_l11, Tr.sem, osome, oget, Bool.not_false, cond_false, cond_true]
abbrev rT : Nat := 4598667800754520064
abbrev r12 : Nat := 4608083138725491507
abbrev r333 : Nat := 4599670414621563421
abbrev r167 : Nat := 4595174020753596717
abbrev r1334 : Nat := 4608686621075559154
theorem near_ge2 : ∀ j : Fin 11, two ≤ mg .f64 (FloatKind.nearest .f64 (12 - ((j.val : Nat) : Int))) ∧ mg .f64 (FloatKind.nearest .f64 (12 - ((j.val : Nat) : Int))) < 9218868437227405312 := by decide +kernel
theorem Pq_mul (t p : Nat) (ht : mg .f64 t ≤ rT) (hp : mg .f64 p ≤ r12) : mg .f64 (fmul .f64 t p) ≤ r333 := by
  refine mul_le .f64 (Nat.lt_of_le_of_lt ht (by decide +kernel)) (Nat.lt_of_le_of_lt hp (by decide +kernel)) ?_
  exact Nat.le_trans (Nat.mul_le_mul (vl_le .f64 ht) (vl_le .f64 hp)) (by decide +kernel)
theorem Pq_le (t : Nat) (ht : mg .f64 t ≤ rT) : ∀ n, n ≤ 11 → mg .f64 (Pq t n) ≤ r12
  | 0, _ => by show mg .f64 one ≤ r12; decide +kernel
  | n + 1, h => by
    have h1 := Pq_mul t (Pq t n) ht (Pq_le t ht n (by omega))
    obtain ⟨h2, h3⟩ := near_ge2 ⟨n, by omega⟩
    simp only at h2 h3
    have hv : vl .f64 two ≤ vl .f64 (mg .f64 (FloatKind.nearest .f64 (12 - (n : Int)))) := vl_le .f64 h2
    have h4 : mg .f64 (fdiv .f64 (fmul .f64 t (Pq t n)) (FloatKind.nearest .f64 (12 - (n : Int)))) ≤ r167 := by
      refine div_le .f64 (Nat.lt_of_le_of_lt h1 (by decide +kernel)) (by rw [inf64]; exact h3) (fun h => by rw [h, vtwo] at hv; have := Nat.two_pow_pos 1074; omega) ?_
      refine Nat.le_trans (Nat.mul_le_mul_right _ (vl_le .f64 h1)) (Nat.le_trans ?_ (Nat.mul_le_mul_left _ hv))
      decide +kernel
    show mg .f64 (fadd .f64 one (fdiv .f64 (fmul .f64 t (Pq t n)) (FloatKind.nearest .f64 (12 - (n : Int))))) ≤ r12
    refine add_le .f64 (by rw [mone]; exact one_inf) (Nat.lt_of_le_of_lt h4 (by decide +kernel)) ?_
    rw [mone]
    exact Nat.le_trans (Nat.add_le_add_left (vl_le .f64 h4) _) (by decide +kernel)
theorem Pq_last (t : Nat) (ht : mg .f64 t ≤ rT) : mg .f64 (Pq t 12) ≤ r1334 := by
  have h1 := Pq_mul t (Pq t 11) ht (Pq_le t ht 11 (Nat.le_refl _))
  have e1 : FloatKind.nearest .f64 (12 - ((11 : Nat) : Int)) = one := by decide +kernel
  have h4 : mg .f64 (fdiv .f64 (fmul .f64 t (Pq t 11)) one) ≤ r333 := by
    refine div_le .f64 (Nat.lt_of_le_of_lt h1 (by decide +kernel)) (by rw [mone]; exact one_inf) (by rw [mone, vone]; have := Nat.two_pow_pos 1074; omega) ?_
    rw [mone, vone, unit64]
    exact Nat.mul_le_mul_right _ (vl_le .f64 h1)
  show mg .f64 (fadd .f64 one (fdiv .f64 (fmul .f64 t (Pq t 11)) (FloatKind.nearest .f64 (12 - ((11 : Nat) : Int))))) ≤ r1334
  rw [e1]
  refine add_le .f64 (by rw [mone]; exact one_inf) (Nat.lt_of_le_of_lt h4 (by decide +kernel)) ?_
  rw [mone]
  exact Nat.le_trans (Nat.add_le_add_left (vl_le .f64 h4) _) (by decide +kernel)
theorem sq_le (a r q : Nat) (ha : mg .f64 a ≤ r) (hr : r < FloatKind.f64.format.infRung) (h : vl .f64 r * vl .f64 r ≤ vl .f64 q * 2 ^ (-FloatKind.f64.format.leastPlace).toNat) : mg .f64 (fmul .f64 a a) ≤ q :=
  mul_le .f64 (by omega) (by omega) (Nat.le_trans (Nat.mul_le_mul (vl_le .f64 ha) (vl_le .f64 ha)) h)
theorem Sq_le (p : Nat) (hp : mg .f64 p ≤ r1334) : mg .f64 (Sq p 8) ≤ 5086145549701730368 := by
  have h1 := sq_le (Sq p 0) _ 4610693226919146251 hp (by decide +kernel) (by decide +kernel)
  have h2 := sq_le (Sq p 1) _ 4614313462510144185 h1 (by decide +kernel) (by decide +kernel)
  have h3 := sq_le (Sq p 2) _ 4621835300248346415 h2 (by decide +kernel) (by decide +kernel)
  have h4 := sq_le (Sq p 3) _ 4636777806158851091 h3 (by decide +kernel) (by decide +kernel)
  have h5 := sq_le (Sq p 4) _ 4666786659091977420 h4 (by decide +kernel) (by decide +kernel)
  have h6 := sq_le (Sq p 5) _ 4726639187495536681 h5 (by decide +kernel) (by decide +kernel)
  have h7 := sq_le (Sq p 6) _ 4846604594116912795 h6 (by decide +kernel) (by decide +kernel)
  exact sq_le (Sq p 7) _ 5086145549701730368 h7 (by decide +kernel) (by decide +kernel)
theorem P_exp (x : Nat) (hx : mg .f32 x ≤ 1116602368) : ∃ w, sl01Exp x = some w ∧ iExpNumber x = some w := by
  have hf : mg .f32 x < FloatKind.f32.format.infRung := by rw [inf32]; omega
  have hu : mg .f64 (fup x) ≤ 4634696597773484032 := fup_le hf (Nat.le_trans (Nat.mul_le_mul_right _ (vl_le .f32 hx)) (by decide +kernel))
  have hn : isN .f32 x = false := by
    obtain ⟨s, m, e, hr, la, va⟩ := fin_mg .f32 hf
    unfold isN; rw [hr]; rfl
  have ht : mg .f64 (fdiv .f64 (fup x) 4643211215818981376) ≤ rT := by
    refine div_le .f64 (Nat.lt_of_le_of_lt hu (by decide +kernel)) (by decide +kernel) (by decide +kernel) ?_
    exact Nat.le_trans (Nat.mul_le_mul_right _ (vl_le .f64 hu)) (by decide +kernel)
  have hS := Sq_le _ (Pq_last _ ht)
  refine P_exps x (by rw [feq_self, isN_up hn]; rfl) (not_above .f64 hu (by omega) (by rw [inf64]; omega)) (not_below .f64 hu (by decide +kernel) (by decide +kernel) (by decide +kernel)) (not_above .f32 hx (by omega) (by rw [inf32]; omega)) (not_below .f32 hx (by decide +kernel) (by decide +kernel) (by decide +kernel)) ?_
  exact fover_le (r := 2130706432) (Nat.lt_of_le_of_lt hS (by decide +kernel)) (by rw [inf32]; omega) (Nat.le_trans (vl_le .f64 hS) (by decide +kernel))
theorem P_expnan : ∃ w, sl01Exp nan32 = some w ∧ iExpNumber nan32 = some w := by
  have hu : fup nan32 = 9221120237041090561 := by decide +kernel
  have q1 : feq .f64 9221120237041090561 9221120237041090561 = false := by decide +kernel
  have q4 : fgt .f32 nan32 1128792064 = false := by decide +kernel
  have q5 : flt .f32 nan32 3276275712 = false := by decide +kernel
  have qt : fdiv .f64 9221120237041090561 4643211215818981376 = 9221120237041090561 := by decide +kernel
  have qp : Pq 9221120237041090561 12 = 9221120237041090561 := by decide +kernel
  have qs : Sq 9221120237041090561 8 = 9221120237041090561 := by decide +kernel
  have c2 : fover 9221120237041090561 = false := by decide +kernel
  have w1 : sl01ExpWide 9221120237041090561 = some 9221120237041090561 := by
    unfold sl01ExpWide sl01ExpWide_t
    simp only [q1, Tr.sem, Bool.not_false, cond_true]
  have w2 : sl01Narrow 9221120237041090561 = some (fdown 9221120237041090561) := by
    unfold sl01Narrow sl01Narrow_t
    simp only [c2, Tr.sem, Bool.not_false, cond_true]
  refine ⟨fdown 9221120237041090561, ?_, ?_⟩
  · unfold sl01Exp sl01Exp_t
    simp only [hu, w1, w2, Tr.sem, osome, oget, cond_true]
  · unfold iExpNumber iExpNumber_t
    simp only [hu, q4, q5, qt, P_l7, qp, P_l11, qs, c2, Tr.sem, osome, oget, Bool.not_false, cond_false, cond_true]
theorem P_expinf : ∃ w, sl01Exp minf32 = some w ∧ iExpNumber minf32 = some w := by
  have hu : fup minf32 = 18442240474082181120 := by decide +kernel
  have q1 : feq .f64 18442240474082181120 18442240474082181120 = true := by decide +kernel
  have q2 : fgt .f64 18442240474082181120 4641240890982006784 = false := by decide +kernel
  have q3 : flt .f64 18442240474082181120 13864612927836782592 = true := by decide +kernel
  have q4 : fgt .f32 minf32 1128792064 = false := by decide +kernel
  have q5 : flt .f32 minf32 3276275712 = true := by decide +kernel
  have c2 : fover 0 = false := by decide +kernel
  have c3 : fdown 0 = 0 := by decide +kernel
  have w1 : sl01ExpWide 18442240474082181120 = some 0 := by
    unfold sl01ExpWide sl01ExpWide_t
    simp only [q1, q2, q3, Tr.sem, Bool.not_true, cond_false, cond_true]
  have w2 : sl01Narrow 0 = some 0 := by
    unfold sl01Narrow sl01Narrow_t
    simp only [c2, c3, Tr.sem, Bool.not_false, cond_true]
  refine ⟨0, ?_, ?_⟩
  · unfold sl01Exp sl01Exp_t
    simp only [hu, w1, w2, Tr.sem, osome, oget, cond_true]
  · unfold iExpNumber iExpNumber_t
    simp only [q4, q5, Tr.sem, cond_false, cond_true]
/-- The power with the exponent 2/3. -/
theorem P_pow23 (x : Nat) (hx : mg .f32 x < FloatKind.f32.format.infRung) : ∃ l w, sl01Log x = some l ∧ iLogNumber x = some l ∧ sl01Exp (fmul .f32 1059760811 l) = some w ∧ iExpNumber (fmul .f32 1059760811 l) = some w := by
  obtain ⟨l, l1, l2, l3⟩ := P_log x hx
  have he : ∃ w, sl01Exp (fmul .f32 1059760811 l) = some w ∧ iExpNumber (fmul .f32 1059760811 l) = some w := by
    rcases l3 with h | h | h
    · refine P_exp _ (mul_le .f32 (by decide +kernel) (Nat.lt_of_le_of_lt h (by decide +kernel)) ?_)
      exact Nat.le_trans (Nat.mul_le_mul_left _ (vl_le .f32 h)) (by decide +kernel)
    · rw [h, show fmul .f32 1059760811 nan32 = nan32 by decide +kernel]; exact P_expnan
    · rw [h, show fmul .f32 1059760811 minf32 = minf32 by decide +kernel]; exact P_expinf
  obtain ⟨w, w1, w2⟩ := he
  exact ⟨l, w, l1, l2, w1, w2⟩
end Go.Proofs.Ytlhfpjpgglfcfaa
