/- Reaches: the law. -/
import Derived.Test.YtpglfnkkmafhbaaHx
set_option linter.unusedVariables false
set_option linter.unusedSimpArgs false
set_option linter.constructorNameAsVariable false
namespace Go.Proofs.Ytpglfnkkmafhbaa
open Go.RowKit
set_option maxRecDepth 100000
theorem fmax_rv {a b : Nat} (ha : isFin .f64 a = true) (hb : isFin .f64 b = true) : isFin .f64 (fmax .f64 a b) = true ∧ rv .f64 a ≤ rv .f64 (fmax .f64 a b) ∧ ∀ m : Rat, rv .f64 a ≤ m → rv .f64 b ≤ m → rv .f64 (fmax .f64 a b) ≤ m := by
  have ho := order_int .f64 ha hb
  unfold fmax
  rw [ho]
  rcases h : compare (sgv .f64 a) (sgv .f64 b) with _ | _ | _
  · have h1 := cmp_lt.1 h
    have h2 := (rv_le_iff .f64 a b).2 (by omega)
    exact ⟨hb, h2, fun m _ h => h⟩
  · have h1 := cmp_eq.1 h
    have h2 := (rv_le_iff .f64 a b).2 (by omega)
    unfold fmaxO
    simp only
    cases (FloatKind.f64.decode a).neg with
    | true => exact ⟨hb, h2, fun m _ h => h⟩
    | false => exact ⟨ha, Rat.le_refl, fun m h _ => h⟩
  · exact ⟨ha, Rat.le_refl, fun m h _ => h⟩
theorem c64 : isFin .f64 0 = true ∧ rv .f64 0 = 0 ∧ isFin .f64 4607182418800017408 = true ∧ rv .f64 4607182418800017408 = 1 := by decide +kernel
/-- A size that stays between 1 and 2000. -/
def sizeOk (z : Nat) : Prop := isFin .f64 z = true ∧ 1 ≤ rv .f64 z ∧ rv .f64 z ≤ 2000
theorem size_step {z x : Nat} (hz : sizeOk z) (hx : okW 1000 x) : sizeOk (fmax .f64 z (wb10Gap (fup x) 0)) := by
  obtain ⟨z1, z2, z3⟩ := hz
  obtain ⟨x1, x2, x3⟩ := hx
  obtain ⟨c1, c2, -⟩ := c64
  obtain ⟨u1, u2⟩ := fup_rv x1
  obtain ⟨g1, g2⟩ := gap_rv u1 c1 1000 (by rw [u2, c2]; grind) (by rw [u2, c2]; grind) (by decide +kernel)
  have := g2 1000 (by rw [u2, c2]; grind) (by rw [u2, c2]; grind)
  rw [eps64] at this
  obtain ⟨f1, f2, f3⟩ := fmax_rv z1 g1
  exact ⟨f1, by grind, f3 _ z3 (by grind)⟩
theorem l48_ok {a p q r w : List Nat} (hp : ∀ x ∈ p, okW 1000 x) (hq : ∀ x ∈ q, okW 1000 x) (lp : p.length = a.length) (lq : q.length = a.length) (hn : a.length ≤ 128) : ∃ z, sizeOk z ∧ wFnReaches_l48 (.inr (4607182418800017408, (a.length : Int), 0, a, p, q, r, w)) = some (.inr (z, a, p, q, r, w)) := by
  obtain ⟨-, -, c3, c4⟩ := c64
  obtain ⟨R, h1, h2⟩ := runL_ex0 (f := wFnReaches_l48_s) a.length (fun k s => ∃ z, sizeOk z ∧ s = .inr (z, (a.length : Int), (k : Int), a, p, q, r, w)) (fun R => ∃ z, sizeOk z ∧ R = .inr (z, a, p, q, r, w)) (.inr (4607182418800017408, (a.length : Int), ((0 : Nat) : Int), a, p, q, r, w)) ⟨_, ⟨c3, by rw [c4]; exact Rat.le_refl, by rw [c4]; decide +kernel⟩, rfl⟩ (fun k s hk ⟨z, hz, e⟩ => by
    subst e
    have g1 := ok_at hp (show k < p.length by omega)
    have g2 := ok_at hq (show k < q.length by omega)
    refine ⟨_, ?_, _, size_step (size_step hz g1) g2, rfl⟩
    show (wFnReaches_l48_t1 z (a.length : Int) (k : Int) a p q r w).sem = _
    simp only [wFnReaches_l48_t1, Tr.sem, ltRange hk, ltRange (show k < p.length by omega), ltRange (show k < q.length by omega), zeroLe, Bool.and_self, cond_true, Int.toNat_natCast, up1 (show k ≤ 1048576 by omega)]) (fun s ⟨z, hz, e⟩ => by
    subst e
    refine ⟨_, ?_, z, hz, rfl⟩
    show (wFnReaches_l48_t1 z (a.length : Int) (a.length : Int) a p q r w).sem = _
    simp only [wFnReaches_l48_t1, Tr.sem, not_lt_self, cond_false])
  obtain ⟨z, hz, e⟩ := h2
  subst e
  exact ⟨z, hz, h1⟩
theorem near_sum {z p q r : Nat} (hz : sizeOk z) (hp : okW 1000 p) (hq : okW 1000 q) (hr : okW 1000 r) (h1 : -(7 / 1000) ≤ rv .f32 r - rv .f32 p - rv .f32 q) (h2 : rv .f32 r - rv .f32 p - rv .f32 q ≤ 7 / 1000) :
    fgt .f64 (wb10Gap (fup r) (fadd .f64 (fup p) (fup q))) (fmul .f64 4576918229304087675 z) = false := by
  obtain ⟨z1, z2, z3⟩ := hz
  obtain ⟨p1, p2, p3⟩ := hp
  obtain ⟨q1, q2, q3⟩ := hq
  obtain ⟨r1, r2, r3⟩ := hr
  obtain ⟨-, -, -, -, c5, c6, c7⟩ := c3
  obtain ⟨u1, u2⟩ := fup_rv p1
  obtain ⟨u3, u4⟩ := fup_rv q1
  obtain ⟨u5, u6⟩ := fup_rv r1
  have s := add_rv .f64 u1 u3 2000 (by rw [u2, u4]; grind) (by rw [u2, u4]; grind) (by decide +kernel)
  obtain ⟨s1, s2, s3, -, -⟩ := s
  rw [u2, u4, eps64] at s2 s3
  obtain ⟨g1, g2⟩ := gap_rv u5 s1 1 (by rw [u6]; grind) (by rw [u6]; grind) (by decide +kernel)
  have g := g2 (71 / 10000) (by rw [u6]; grind) (by rw [u6]; grind)
  have w1 := Rat.mul_le_mul_of_nonneg_left (c := rv .f64 4576918229304087675) z2 (by grind)
  have w2 := mulB (x := rv .f64 4576918229304087675) (y := rv .f64 z) (m := 1) (n := 2000) ⟨by grind, c7⟩ ⟨by grind, z3⟩
  have m := mul_rv .f64 c5 z1 2000 (by grind) (by grind) (by decide +kernel)
  obtain ⟨m1, m2, m3, -, -⟩ := m
  rw [eps64] at m2 g
  cases hh : fgt .f64 (wb10Gap (fup r) (fadd .f64 (fup p) (fup q))) (fmul .f64 4576918229304087675 z) with
  | false => rfl
  | true =>
    have k := (fgt_rv .f64 g1 m1).1 hh
    exfalso; grind
theorem l53_ok {p q r w : List Nat} {z : Nat} (n : Nat) (hz : sizeOk z) (hp : ∀ x ∈ p, okW 1000 x) (hq : ∀ x ∈ q, okW 1000 x) (hr : ∀ x ∈ r, okW 1000 x) (lp : p.length = n) (lq : q.length = n) (lr : r.length = n) (hn : n ≤ 128)
    (hs : ∀ k, k < n → -(7 / 1000) ≤ rv .f32 (r.getD k 0) - rv .f32 (p.getD k 0) - rv .f32 (q.getD k 0) ∧ rv .f32 (r.getD k 0) - rv .f32 (p.getD k 0) - rv .f32 (q.getD k 0) ≤ 7 / 1000) : wFnReaches_l53 (.inr (z, (n : Int), 0, p, q, r, w)) = some (.inr (.inr (p, w))) := by
  unfold wFnReaches_l53
  refine runL_steps (f := wFnReaches_l53_s) n 0 (fun k => .inr (z, (n : Int), (k : Int), p, q, r, w)) (fun k h0 hk => ?_) ?_
  · have hk : k < n := by omega
    have g := near_sum hz (ok_at hp (show k < p.length by omega)) (ok_at hq (show k < q.length by omega)) (ok_at hr (show k < r.length by omega)) (hs k hk).1 (hs k hk).2
    show (wFnReaches_l53_t1 z (n : Int) (k : Int) p q r w).sem = _
    simp only [wFnReaches_l53_t1, Tr.sem, ltRange hk, ltRange (show k < p.length by omega), ltRange (show k < q.length by omega), ltRange (show k < r.length by omega), zeroLe, Bool.and_self, cond_true, Int.toNat_natCast, g, cond_false, up1 (show k ≤ 1048576 by omega)]
  · rw [Nat.zero_add]
    show (wFnReaches_l53_t1 z (n : Int) (n : Int) p q r w).sem = _
    simp only [wFnReaches_l53_t1, Tr.sem, not_lt_self, cond_false]
theorem same_list (l : List Nat) (hl : l.length ≤ 1048576) : wb10List l l = some true := by
  have h1 : wb10List_l4 l l (l.length : Nat) 0 = some (.inr ()) := by
    unfold wb10List_l4
    exact runL_steps (f := fun s : Int => (wb10List_l4_t l l (l.length : Nat) s).sem) l.length 0 (fun k => (k : Int)) (fun j _ hj => by
      simp only [wb10List_l4_t, Tr.sem, ltRange (show j < l.length by omega), zeroLe, Bool.and_self, cond_true, Int.toNat_natCast, sSameNumber, sSameNumber_t, Tr.val, natEq_self, Bool.not_true, cond_false, up1 (show j ≤ 1048576 by omega)]) (by
      rw [Nat.zero_add]; simp only [wb10List_l4_t, Tr.sem, not_lt_self, cond_false])
  unfold wb10List wb10List_t
  simp only [h1, Tr.sem, osome, oget, isL, bne_self_eq_false, cond_true, cond_false]
theorem long_parts {c m : List Int} (h : wb10Long c m = false) : c.length ≤ 1048576 ∧ m.length ≤ 1048576 := by
  unfold wb10Long wb10Long_t at h
  by_cases h1 : ((c.length : Nat) : Int) > 1048576
  · simp [Tr.val, h1] at h
  · simp [Tr.val, h1] at h; omega
section
variable {l : List (Nat × Nat)} {a : List Nat}
theorem l39_ok {M : Rat} (hl : drawnL l) (τ : Fin 8) (p q r : List Nat) (m1 : 1 ≤ M) (m2 : M ≤ 5) (hi : ∀ x ∈ a, okW M x) (n1 : 1 ≤ a.length) (n2 : a.length ≤ 128) :
    wFnReaches_l39 (.inl (rdW τ.val, (l.length : Int), 0, l, a, p, q, r)) = some (.inr (.inr (a, p, q, r, chK l (rdW τ.val) a l.length))) := by
  have h4 := hl.2.1
  have st := fun {k : Nat} (hk : k < l.length) => chK_step hl τ m1 m2 hi n1 n2 hk
  have e0 := st (k := 0) hl.1
  have z0 : (decide ((0 : Int) ≤ 0) && decide ((0 : Int) < (a.length : Int))) = true := by simp; omega
  have nb : ∀ k, ((((chK l (rdW τ.val) a k).length : Nat) : Int) != ((a.length : Nat) : Int)) = false := fun k => by rw [chK_len]; simp
  have n0 := nb 1
  simp only [chK] at e0 n0
  unfold wFnReaches_l39
  refine (runL_in (s' := .inr (rdW τ.val, (l.length : Int), ((1 : Nat) : Int), l, a, p, q, r, chK l (rdW τ.val) a 1)) ?_).trans ?_
  · show (wFnReaches_l39_t0 (rdW τ.val) (l.length : Int) ((0 : Nat) : Int) l a p q r).sem = _
    simp only [wFnReaches_l39_t0, Tr.sem, ltRange (show 0 < l.length by have := hl.1; omega), zeroLe, Bool.and_self, cond_true, z0, Int.toNat_natCast, show Int.toNat 0 = 0 from rfl, e0, osome, oget, isL, unR, cond_false, n0, up1 (show 0 ≤ 1048576 by omega), chK]
  · exact runL_steps (f := wFnReaches_l39_s) (l.length - 1) 1 (fun k => .inr (rdW τ.val, (l.length : Int), (k : Int), l, a, p, q, r, chK l (rdW τ.val) a k)) (fun j h0 hj => by
      have e := st (k := j) (by omega)
      have zj : (decide ((0 : Int) ≤ 0) && decide ((0 : Int) < ((chK l (rdW τ.val) a j).length : Int))) = true := by rw [chK_len]; exact z0
      show (wFnReaches_l39_t1 (rdW τ.val) (l.length : Int) (j : Int) l a p q r (chK l (rdW τ.val) a j)).sem = _
      simp only [wFnReaches_l39_t1, Tr.sem, ltRange (show j < l.length by omega), zeroLe, Bool.and_self, cond_true, zj, Int.toNat_natCast, show Int.toNat 0 = 0 from rfl, e, osome, oget, isL, unR, cond_false, nb, up1 (show j ≤ 1048576 by omega)]) (by
      rw [show 1 + (l.length - 1) = l.length by have := hl.1; omega]
      show (wFnReaches_l39_t1 (rdW τ.val) (l.length : Int) (l.length : Int) l a p q r (chK l (rdW τ.val) a l.length)).sem = _
      simp only [wFnReaches_l39_t1, Tr.sem, not_lt_self, cond_false])
theorem shared_ok (hl : drawnL l) (τ : Fin 8) {a b c : List Nat} {M : Rat} (m1 : 1 ≤ M) (m2 : M ≤ 5) (ha : ∀ x ∈ a, okW M x) (hb : ∀ x ∈ b, okW M x) (hc : ∀ x ∈ c, okW M x) (a1 : 1 ≤ a.length) (a2 : a.length ≤ 128) (b1 : 1 ≤ b.length) (b2 : b.length ≤ 128) (c1 : 1 ≤ c.length) (c2 : c.length ≤ 128) {n : Int} (n1 : 1 ≤ n) (n2 : n ≤ 8) :
    iRouteShared l [a, b, c] (rdW τ.val) n = some (.inr [chK l (rdW τ.val) a l.length, chK l (rdW τ.val) b l.length, chK l (rdW τ.val) c l.length]) := by
  have h4 := hl.2.1
  have hL : listB l = true := by
    simp only [listB, win, Bool.and_eq_true, decide_eq_true_eq, List.all_eq_true]
    refine ⟨⟨by have := hl.1; omega, by omega⟩, fun x hx => ?_⟩
    exact (drawn_ok (hl.2.2 x hx) τ).1
  have ht := tab_tick τ
  have hw : iwithin n 1 8 = true := by rw [R_within]; simp only [win, Bool.and_eq_true, decide_eq_true_eq]; omega
  have r1 := chain_ok hl τ m1 m2 ha a1 a2
  have r2 := chain_ok hl τ m1 m2 hb b1 b2
  have r3 := chain_ok hl τ m1 m2 hc c1 c2
  have hr : iRouteShared_l5 l (rdW τ.val) [a, b, c] ((([a, b, c].length : Nat) : Int)) 0 [] = some (.inr [chK l (rdW τ.val) a l.length, chK l (rdW τ.val) b l.length, chK l (rdW τ.val) c l.length]) := by
    unfold iRouteShared_l5
    refine (runL_in (s' := (1, [chK l (rdW τ.val) a l.length])) ?_).trans ((runL_in (s' := (2, [chK l (rdW τ.val) a l.length, chK l (rdW τ.val) b l.length])) ?_).trans ((runL_in (s' := (3, [chK l (rdW τ.val) a l.length, chK l (rdW τ.val) b l.length, chK l (rdW τ.val) c l.length])) ?_).trans (runL_out ?_)))
    · simp only [iRouteShared_l5_t, Tr.sem, show [a, b, c].getD (Int.toNat 0) [] = a from rfl, r1, osome, oget, isL, unR]; rfl
    · simp only [iRouteShared_l5_t, Tr.sem, show [a, b, c].getD (Int.toNat 1) [] = b from rfl, r2, osome, oget, isL, unR]; rfl
    · simp only [iRouteShared_l5_t, Tr.sem, show [a, b, c].getD (Int.toNat 2) [] = c from rfl, r3, osome, oget, isL, unR]; rfl
    · rfl
  unfold iRouteShared iRouteShared_t
  simp only [R_iList l (by omega), hL, ht, hw, hr, show decide ((([a, b, c].length : Nat) : Int) > 12) = false from rfl, Tr.sem, osome, oget, isL, unR, Bool.not_true, cond_true, cond_false]
end
theorem ok_up {M N : Rat} (h : M ≤ N) {x : Nat} (hx : okW M x) : okW N x := ⟨hx.1, by have := hx.2; grind, by have := hx.2; grind⟩
/-- **REACHES.** -/
theorem pureFnReaches (x0 x1 : List Int) (h0 : List.length x0 ≤ 9223372036854775807 ∧ ∀ x : Int, List.Mem x x0 → (Lit.int .u8 x).wf = true) (h1 : List.length x1 ≤ 9223372036854775807 ∧ ∀ x : Int, List.Mem x x1 → (Lit.int .u8 x).wf = true) : wFnReaches x0 x1 = some true := by
  unfold wFnReaches
  simp only [wFnReaches_t, Tr.sem]
  cases hL : wb10Long x0 x1 with
  | true => rfl
  | false =>
  obtain ⟨la, lb⟩ := long_parts hL
  have hc := bytes_of la h0.2
  have hm := bytes_of lb h1.2
  obtain ⟨l, l1, hl⟩ := list_ok hc
  have h4 := hl.2.1
  obtain ⟨v0, a1, a2, a3⟩ := A_at hm 0 (by omega) 8 (by omega) (by omega)
  obtain ⟨v1, b1, b2, b3⟩ := A_at hm 1 (by omega) 12 (by omega) (by omega)
  obtain ⟨v2, g1, g2, g3⟩ := A_at hm 2 (by omega) 8 (by omega) (by omega)
  have a1' : wb10At x1 0 8 = some v0 := a1
  have b1' : wb10At x1 1 12 = some v1 := b1
  have g1' : wb10At x1 2 8 = some v2 := g1
  obtain ⟨τ, hτ⟩ : ∃ τ : Fin 8, (τ.val : Int) = v0 := ⟨⟨v0.toNat, by omega⟩, by simp; omega⟩
  obtain ⟨n, hn⟩ : ∃ n : Nat, (n : Int) = 1 + v1 := ⟨(1 + v1).toNat, by omega⟩
  have w0 : fdiv .f32 (FloatKind.nearest .f32 (IntKind.wrap .i64 (1 + v0))) 1082130432 = rdW τ.val := by rw [wrap_id (by omega) (by omega), hτ]; rfl
  have w1 : IntKind.wrap .i64 (1 + v1) = (n : Int) := by rw [wrap_id (by omega) (by omega)]; omega
  have w2 : IntKind.wrap .i64 (1 + v2) = 1 + v2 := wrap_id (by omega) (by omega)
  obtain ⟨a, r1, r2, r3⟩ := rain hm n (by omega)
  obtain ⟨b, q1, q2, q3⟩ := rain hc n (by omega)
  have lab : b.length = a.length := by omega
  have d2 : (1 : Rat) ≤ 2 ∧ (2 : Rat) ≤ 5 ∧ (1 : Rat) ≤ 401 / 100 ∧ (401 / 100 : Rat) ≤ 5 ∧ (2 : Rat) ≤ 401 / 100 := by decide +kernel
  have hs := smL_ok r3 q3 lab a.length (Nat.le_refl _)
  have ls := smL_len a b a.length
  have t11 := l11_ok x1 (rdW τ.val) l a b lab (by omega)
  have t17 := l17_ok x1 hl τ a b (smL a b a.length) a.length (by omega) (by omega)
  have c1 := chain_ok hl τ d2.1 d2.2.1 r3 (by omega) (by omega)
  have c2 := chain_ok hl τ d2.1 d2.2.1 q3 (by omega) (by omega)
  have c3 := chain_ok hl τ d2.2.2.1 d2.2.2.2.1 hs (by omega) (by omega)
  have csh := shared_ok hl τ d2.2.2.1 d2.2.2.2.1 (fun x hx => ok_up d2.2.2.2.2 (r3 x hx)) (fun x hx => ok_up d2.2.2.2.2 (q3 x hx)) hs (by omega) (by omega) (by omega) (by omega) (by omega) (by omega) (show 1 ≤ 1 + v2 by omega) (by omega)
  have kp := chK_len l (rdW τ.val) a l.length
  have kq := chK_len l (rdW τ.val) b l.length
  have kr := chK_len l (rdW τ.val) (smL a b a.length) l.length
  have op := fun x hx => ok_up (mB_ok d2.1 d2.2.1 l.length h4).2 (chK_ok hl τ d2.1 d2.2.1 r3 l.length (Nat.le_refl _) x hx)
  have oq := fun x hx => ok_up (mB_ok d2.1 d2.2.1 l.length h4).2 (chK_ok hl τ d2.1 d2.2.1 q3 l.length (Nat.le_refl _) x hx)
  have or' := fun x hx => ok_up (mB_ok d2.2.2.1 d2.2.2.2.1 l.length h4).2 (chK_ok hl τ d2.2.2.1 d2.2.2.2.1 hs l.length (Nat.le_refl _) x hx)
  have sm := chain_sum hl τ r3 q3 hs (by omega) (by omega) (fun k hk => by
    rw [smL_get a b a.length k (by omega)]
    exact (sum_near r3 q3 (by omega) (by omega)).2) l.length (Nat.le_refl _)
  have e7 := (eB_tab ⟨l.length, by omega⟩).2
  have t39 := l39_ok hl τ (chK l (rdW τ.val) a l.length) (chK l (rdW τ.val) b l.length) (chK l (rdW τ.val) (smL a b a.length) l.length) d2.1 d2.2.1 r3 (by omega) (by omega)
  obtain ⟨z, z1, t48⟩ := l48_ok (a := a) (r := chK l (rdW τ.val) (smL a b a.length) l.length) (w := chK l (rdW τ.val) a l.length) op oq (by omega) (by omega) (by omega)
  have t53 := l53_ok (w := chK l (rdW τ.val) a l.length) a.length z1 op oq or' (by omega) (by omega) (by omega) (by omega) (fun k hk => by
    have := sm k (by omega)
    exact ⟨by grind, by grind⟩)
  have s1 := same_list (chK l (rdW τ.val) a l.length) (by omega)
  have s2 := same_list (chK l (rdW τ.val) b l.length) (by omega)
  have s3 := same_list (chK l (rdW τ.val) (smL a b a.length) l.length) (by omega)
  have k1 : ((((chK l (rdW τ.val) a l.length).length : Nat) : Int) != ((a.length : Nat) : Int)) = false := by rw [kp]; simp
  have k2 : ((((chK l (rdW τ.val) b l.length).length : Nat) : Int) != ((a.length : Nat) : Int)) = false := by rw [kq, lab]; simp
  have k3 : ((((chK l (rdW τ.val) (smL a b a.length) l.length).length : Nat) : Int) != ((a.length : Nat) : Int)) = false := by rw [kr, ls]; simp
  generalize chK l (rdW τ.val) a l.length = p at *
  generalize chK l (rdW τ.val) b l.length = q at *
  generalize chK l (rdW τ.val) (smL a b a.length) l.length = r at *
  have i3 : ((([p, q, r].length : Nat) : Int) != 3) = false := rfl
  have x0' : (decide ((0 : Int) ≤ 0) && decide ((0 : Int) < (([p, q, r].length : Nat) : Int))) = true := rfl
  have x1' : (decide ((0 : Int) ≤ 1) && decide ((1 : Int) < (([p, q, r].length : Nat) : Int))) = true := rfl
  have x2' : (decide ((0 : Int) ≤ 2) && decide ((2 : Int) < (([p, q, r].length : Nat) : Int))) = true := rfl
  have y0 : [p, q, r].getD (Int.toNat 0) [] = p := rfl
  have y1 : [p, q, r].getD (Int.toNat 1) [] = q := rfl
  have y2 : [p, q, r].getD (Int.toNat 2) [] = r := rfl
  simp only [l1, cond_false, osome, oget, cond_true, wFnReaches_o48, wFnReaches_o47, wFnReaches_o46, wFnReaches_o45, wFnReaches_o44, wFnReaches_o43, Tr.sem, a1', b1', w1, r1, q1, w0, t11, t17]
  simp only [wFnReaches_o42, wFnReaches_o41, wFnReaches_o40, wFnReaches_o39, wFnReaches_o38, wFnReaches_o37, wFnReaches_o36, wFnReaches_o35, wFnReaches_o34, isL, unR, Tr.sem, osome, oget, cond_true, cond_false, c1, c2, c3, g1', w2, csh, i3, x0', x1', x2', y0, y1, y2, s1, s2, s3, k1, k2, k3, Bool.not_true, t39]
  simp only [wFnReaches_o33, wFnReaches_o32, wFnReaches_o31, wFnReaches_o30, isL, unR, Tr.sem, osome, oget, cond_true, cond_false, t48, t53, s1]
end Go.Proofs.Ytpglfnkkmafhbaa
