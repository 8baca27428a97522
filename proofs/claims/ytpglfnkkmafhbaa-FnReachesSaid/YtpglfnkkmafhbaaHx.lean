/- Reaches: what the law draws, and its loops. -/
import Derived.Test.YtpglfnkkmafhbaaHw
import Derived.Test.YtpglfnkkmafhbaaHs
set_option linter.unusedVariables false
set_option linter.unusedSimpArgs false
set_option linter.constructorNameAsVariable false
namespace Go.Proofs.Ytpglfnkkmafhbaa
open Go.RowKit
set_option maxRecDepth 100000
theorem eps64 : eps .f64 = 1 / 4000000000000000 := rfl
theorem A_at {c : List Int} (hc : bytesL c) (k : Nat) (hk : k ≤ 1048576) (n : Int) (hn : 2 ≤ n) (hn2 : n ≤ 1000000) : ∃ v, wb10At c k n = some v ∧ 0 ≤ v ∧ v < n := by
  unfold wb10At wb10At_t
  have hne : decide (n ≠ (0 : Int)) = true := by simp only [decide_eq_true_eq]; omega
  simp only [decide_eq_false (show ¬ n ≤ 1 by omega), Tr.sem, cond_false, hne, cond_true]
  by_cases h1 : k < c.length
  · obtain ⟨b0, b1⟩ := byte_at hc h1
    have hb : IntKind.wrap .i64 (c.getD k 0) = c.getD k 0 := wrap_id (by omega) (by omega)
    simp only [ltRange h1, zeroLe, Bool.and_self, cond_true, Int.toNat_natCast, hb]
    exact ⟨_, rfl, Int.tmod_nonneg _ b0, Int.tmod_lt_of_pos _ (by omega)⟩
  · have hw1 : IntKind.wrap .i64 ((k : Int) * 37) = (k : Int) * 37 := wrap_id (by omega) (by omega)
    have hw2 : IntKind.wrap .i64 ((k : Int) * 37 + 11) = (k : Int) * 37 + 11 := wrap_id (by omega) (by omega)
    simp only [decide_eq_false (show ¬ ((k : Int) < (c.length : Int)) by omega), cond_false, hw1, hw2]
    exact ⟨_, rfl, Int.tmod_nonneg _ (by omega), Int.tmod_lt_of_pos _ (by omega)⟩
theorem gap_rv {a b : Nat} (ha : isFin .f64 a = true) (hb : isFin .f64 b = true) (E : Rat) (l1 : -E ≤ rv .f64 a - rv .f64 b) (u1 : rv .f64 a - rv .f64 b ≤ E) (hE : E ≤ 2 ^ 100) :
    isFin .f64 (wb10Gap a b) = true ∧ ∀ e : Rat, rv .f64 a - rv .f64 b ≤ e → rv .f64 b - rv .f64 a ≤ e → rv .f64 (wb10Gap a b) ≤ e + (E * eps .f64 + 1 / 10 ^ 40) := by
  unfold wb10Gap wb10Gap_t
  cases h : flt .f64 a b with
  | true =>
    have s := sub_rv .f64 hb ha E (by grind) (by grind) hE
    have sh := s.hi
    simp only [Tr.val, h, cond_true]
    exact ⟨s.fin, fun e h1 h2 => by grind⟩
  | false =>
    have s := sub_rv .f64 ha hb E l1 u1 hE
    have sh := s.hi
    simp only [Tr.val, h, cond_false]
    exact ⟨s.fin, fun e h1 h2 => by grind⟩
theorem rain9 : ∀ b : Fin 9, isFin .f32 (fdiv .f32 (FloatKind.nearest .f32 (b.val : Int)) 1082130432) = true ∧ -2 ≤ rv .f32 (fdiv .f32 (FloatKind.nearest .f32 (b.val : Int)) 1082130432) ∧ rv .f32 (fdiv .f32 (FloatKind.nearest .f32 (b.val : Int)) 1082130432) ≤ 2 := by decide +kernel
theorem rain_loop {c : List Int} (hc : bytesL c) : ∀ (m : Nat) (k : Nat) (s : Int) (l : List Nat), k + 2 * m ≤ 100 → l.length + m ≤ 12 → (∀ x ∈ l, okW 2 x) → ∃ r, sB10Rain_l3 (m : Int) c (k : Int) s l = some r ∧ r.length = l.length + m ∧ ∀ x ∈ r, okW 2 x
  | 0, k, s, l, hk, hl, hx => ⟨l, runL_out (by simp only [sB10Rain_l3_t, Tr.sem, decide_eq_false (show ¬ (((0 : Nat) : Int) > 0) by omega), cond_false]), rfl, hx⟩
  | m + 1, k, s, l, hk, hl, hx => by
    obtain ⟨b, k', s', e1, b0, b1, hk'⟩ := D_pick hc 9 (by omega) (by omega) k (by omega) s
    obtain ⟨f, hf⟩ : ∃ f : Fin 9, (f.val : Int) = b := ⟨⟨b.toNat, by omega⟩, by simp; omega⟩
    have hr := rain9 f
    rw [hf] at hr
    obtain ⟨r, r1, r2, r3⟩ := rain_loop hc m k' s' (l ++ [fdiv .f32 (FloatKind.nearest .f32 b) 1082130432]) (by omega) (by simp; omega) (fun x hx' => by
      rcases List.mem_append.1 hx' with h | h
      · exact hx x h
      · rw [List.mem_singleton.1 h]; exact hr)
    have hw : IntKind.wrap .i64 (((m + 1 : Nat) : Int) - 1) = (m : Int) := by rw [wrap_id (by omega) (by omega)]; omega
    refine ⟨r, (runL_in (s' := ((m : Int), c, (k' : Int), s', l ++ [fdiv .f32 (FloatKind.nearest .f32 b) 1082130432])) ?_).trans r1, by rw [r2]; simp; omega, r3⟩
    simp only [sB10Rain_l3_t, Tr.sem, decide_eq_true (show (((m + 1 : Nat) : Int) > 0) by omega), e1, osome, oget, cond_true, fits4 (show l.length ≤ 1048576 by omega), hw]
theorem rain {c : List Int} (hc : bytesL c) (n : Nat) (hn : n ≤ 12) : ∃ r, sB10Rain c (n : Int) = some r ∧ r.length = n ∧ ∀ x ∈ r, okW 2 x := by
  obtain ⟨r, r1, r2, r3⟩ := rain_loop hc n 0 0 [] (by omega) (by simp; omega) (fun x hx => by simp at hx)
  have r1' : sB10Rain_l3 (n : Int) c 0 0 [] = some r := r1
  refine ⟨r, ?_, by simpa using r2, r3⟩
  unfold sB10Rain sB10Rain_t
  simp only [D_from, r1', Tr.sem, osome, oget, cond_true]
/-! ### The reaches drawn -/
theorem list_loop {c : List Int} (hc : bytesL c) : ∀ (m : Nat) (k : Nat) (s : Int) (l : List (Nat × Nat)), k + 4 * m ≤ 100 → l.length + m ≤ 4 → (∀ x ∈ l, drawn x) → ∃ r, sB10Reaches_l4 (m : Int) c (k : Int) s l = some r ∧ r.length = l.length + m ∧ ∀ x ∈ r, drawn x
  | 0, k, s, l, hk, hl, hx => ⟨l, runL_out (by simp only [sB10Reaches_l4_t, Tr.sem, decide_eq_false (show ¬ (((0 : Nat) : Int) > 0) by omega), cond_false]), rfl, hx⟩
  | m + 1, k, s, l, hk, hl, hx => by
    obtain ⟨b, k', s', e1, b0, b1, hk'⟩ := D_pick hc 12 (by omega) (by omega) k (by omega) s
    obtain ⟨d, k'', s'', e2, d0, d1, hk''⟩ := D_pick hc 5 (by omega) (by omega) k' (by omega) s'
    obtain ⟨f, hf⟩ : ∃ f : Fin 12, (f.val : Int) = b := ⟨⟨b.toNat, by omega⟩, by simp; omega⟩
    obtain ⟨g, hg⟩ : ∃ g : Fin 5, (g.val : Int) = d := ⟨⟨d.toNat, by omega⟩, by simp; omega⟩
    have hw0 : IntKind.wrap .i64 (1 + b) = 1 + b := wrap_id (by omega) (by omega)
    obtain ⟨r, r1, r2, r3⟩ := list_loop hc m k'' s'' (l ++ [(rdW b, rlW d)]) (by omega) (by simp; omega) (fun x hx' => by
      rcases List.mem_append.1 hx' with h | h
      · exact hx x h
      · rw [List.mem_singleton.1 h]; exact ⟨f, g, by rw [hf, hg]⟩)
    have hw : IntKind.wrap .i64 (((m + 1 : Nat) : Int) - 1) = (m : Int) := by rw [wrap_id (by omega) (by omega)]; omega
    have hf8 : decide ((l.length + List.length [(rdW b, rlW d)]) * 8 ≤ 140737488355328) = true := by
      simp only [decide_eq_true_eq, List.length_singleton]; omega
    unfold rdW rlW at r1 hf8
    refine ⟨r, (runL_in (s' := ((m : Int), c, (k'' : Int), s'', l ++ [(rdW b, rlW d)])) ?_).trans r1, by rw [r2]; simp; omega, r3⟩
    simp only [sB10Reaches_l4_t, Tr.sem, decide_eq_true (show (((m + 1 : Nat) : Int) > 0) by omega), e1, e2, osome, oget, cond_true, hf8, hw, hw0, rdW, rlW]
theorem list_ok {c : List Int} (hc : bytesL c) : ∃ r, sB10Reaches c = some r ∧ drawnL r := by
  obtain ⟨b, k', s', e1, b0, b1, hk'⟩ := D_pick hc 4 (by omega) (by omega) 0 (by omega) 0
  obtain ⟨n, hn⟩ : ∃ n : Nat, (n : Int) = 1 + b := ⟨(1 + b).toNat, by omega⟩
  have hw : IntKind.wrap .i64 (1 + b) = (n : Int) := by rw [wrap_id (by omega) (by omega)]; omega
  obtain ⟨r, r1, r2, r3⟩ := list_loop hc n k' s' [] (by omega) (by simp; omega) (fun x hx => by simp at hx)
  have e1' : sl00Src_pick 4 c 0 0 = some (b, c, (k' : Int), s') := e1
  refine ⟨r, ?_, by simp at r2; omega, by simp at r2; omega, r3⟩
  unfold sB10Reaches sB10Reaches_t
  simp only [D_from, e1', hw, r1, Tr.sem, osome, oget, cond_true]
/-! ### The sum and the level list -/
noncomputable def smL (a b : List Nat) : Nat → List Nat
  | 0 => []
  | k + 1 => smL a b k ++ [fadd .f32 (a.getD k 0) (b.getD k 0)]
theorem smL_len (a b : List Nat) : ∀ k, (smL a b k).length = k
  | 0 => rfl
  | k + 1 => by simp [smL, smL_len a b k]
theorem smL_get (a b : List Nat) : ∀ n k, k < n → (smL a b n).getD k 0 = fadd .f32 (a.getD k 0) (b.getD k 0)
  | 0, k, h => by omega
  | n + 1, k, h => by
    simp only [smL]
    by_cases e : k = n
    · subst e
      rw [List.getD_eq_getElem?_getD, List.getElem?_append_right (by rw [smL_len]; exact Nat.le_refl _), smL_len, Nat.sub_self]; rfl
    · rw [List.getD_eq_getElem?_getD, List.getElem?_append_left (by rw [smL_len]; omega), ← List.getD_eq_getElem?_getD]
      exact smL_get a b n k (by omega)
def evL : Nat → List Nat
  | 0 => []
  | k + 1 => evL k ++ [1077936128]
theorem evL_len : ∀ k, (evL k).length = k
  | 0 => rfl
  | k + 1 => by simp [evL, evL_len k]
theorem evL_mem : ∀ k, ∀ x ∈ evL k, x = 1077936128
  | 0, x, h => by simp [evL] at h
  | k + 1, x, h => by
    simp only [evL, List.mem_append, List.mem_singleton] at h
    rcases h with h | h
    · exact evL_mem k x h
    · exact h
theorem sum_near {a b : List Nat} (ha : ∀ x ∈ a, okW 2 x) (hb : ∀ x ∈ b, okW 2 x) {k : Nat} (h1 : k < a.length) (h2 : k < b.length) : okW (401 / 100) (fadd .f32 (a.getD k 0) (b.getD k 0)) ∧ -(1 / 1000000) ≤ rv .f32 (fadd .f32 (a.getD k 0) (b.getD k 0)) - rv .f32 (a.getD k 0) - rv .f32 (b.getD k 0) ∧ rv .f32 (fadd .f32 (a.getD k 0) (b.getD k 0)) - rv .f32 (a.getD k 0) - rv .f32 (b.getD k 0) ≤ 1 / 1000000 := by
  have g := ok_at ha h1
  have g' := ok_at hb h2
  obtain ⟨g1, g2, g3⟩ := g
  obtain ⟨g4, g5, g6⟩ := g'
  have s := add_rv .f32 g1 g4 4 (by grind) (by grind) (by decide +kernel)
  have s1 := s.lo
  have s2 := s.hi
  rw [eps32] at s1 s2
  exact ⟨⟨s.fin, by grind, by grind⟩, by grind, by grind⟩
theorem smL_ok {a b : List Nat} (ha : ∀ x ∈ a, okW 2 x) (hb : ∀ x ∈ b, okW 2 x) (h : b.length = a.length) : ∀ n, n ≤ a.length → ∀ x ∈ smL a b n, okW (401 / 100) x
  | 0, _, x, hx => by simp [smL] at hx
  | n + 1, hn, x, hx => by
    simp only [smL, List.mem_append, List.mem_singleton] at hx
    rcases hx with hx | hx
    · exact smL_ok ha hb h n (by omega) x hx
    · rw [hx]; exact (sum_near ha hb (by omega) (by omega)).1
theorem l11_ok (x1 : List Int) (t : Nat) (l : List (Nat × Nat)) (a b : List Nat) (h : b.length = a.length) (hn : a.length ≤ 128) : wFnReaches_l11 x1 t (a.length : Int) 0 l a b [] [] = some (x1, t, l, a, b, smL a b a.length, evL a.length) := by
  unfold wFnReaches_l11
  exact runL_steps (f := fun s : Int × List Nat × List Nat => (wFnReaches_l11_t x1 t (a.length : Int) l a b s.1 s.2.1 s.2.2).sem) a.length 0 (fun k => ((k : Int), smL a b k, evL k)) (fun j h0 hj => by
    simp only [wFnReaches_l11_t, Tr.sem, ltRange (show j < a.length by omega), ltRange (show j < b.length by omega), zeroLe, Bool.and_self, cond_true, smL_len, evL_len, fits4 (show j ≤ 1048576 by omega), Int.toNat_natCast, up1 (show j ≤ 1048576 by omega)]; rfl) (by
    rw [Nat.zero_add]; simp only [wFnReaches_l11_t, Tr.sem, not_lt_self, cond_false])
/-! ### One reach in the law -/
theorem c3 : isFin .f32 1077936128 = true ∧ rv .f32 1077936128 = 3 ∧ isFin .f64 4613937818241073152 = true ∧ rv .f64 4613937818241073152 = 3 ∧ isFin .f64 4576918229304087675 = true ∧ 99 / 10000 ≤ rv .f64 4576918229304087675 ∧ rv .f64 4576918229304087675 ≤ 1 := by decide +kernel
theorem level_ok {x : Nat} (h : isFin .f32 x = true) (h1 : -(1 / 100) * (9 / 10) ≤ rv .f32 x - 3) (h2 : rv .f32 x - 3 ≤ 1 / 100 * (9 / 10)) : fgt .f64 (wb10Gap (fup x) 4613937818241073152) 4576918229304087675 = false := by
  obtain ⟨-, -, c1, c2, c4, c5, -⟩ := c3
  obtain ⟨u1, u2⟩ := fup_rv h
  obtain ⟨g1, g2⟩ := gap_rv u1 c1 1 (by rw [u2, c2]; grind) (by rw [u2, c2]; grind) (by decide +kernel)
  have := g2 (9 / 1000) (by rw [u2, c2]; grind) (by rw [u2, c2]; grind)
  rw [eps64] at this
  cases hh : fgt .f64 (wb10Gap (fup x) 4613937818241073152) 4576918229304087675 with
  | false => rfl
  | true =>
    have k := (fgt_rv .f64 g1 c4).1 hh
    exfalso; grind
theorem l25_ok (x1 : List Int) (t : Nat) (n i : Int) (l : List (Nat × Nat)) (a b s e f : List Nat) (hn : f.length ≤ 128) (hf : ∀ k, k < f.length → fgt .f64 (wb10Gap (fup (f.getD k 0)) 4613937818241073152) 4576918229304087675 = false) :
    wFnReaches_l25 x1 t n i (f.length : Int) 0 l a b s e f = some (.inr (x1, t, n, i, l, a, b, s, e)) := by
  unfold wFnReaches_l25
  exact runL_steps (f := fun j : Int => (wFnReaches_l25_t x1 t n i (f.length : Int) l a b s e f j).sem) f.length 0 (fun k => (k : Int)) (fun j h0 hj => by
    simp only [wFnReaches_l25_t, Tr.sem, ltRange (show j < f.length by omega), zeroLe, Bool.and_self, cond_true, Int.toNat_natCast, hf j (by omega), cond_false, up1 (show j ≤ 1048576 by omega)]) (by
    rw [Nat.zero_add]; simp only [wFnReaches_l25_t, Tr.sem, not_lt_self, cond_false])
theorem l17_ok (x1 : List Int) {l : List (Nat × Nat)} (hl : drawnL l) (τ : Fin 8) (a b s : List Nat) (m : Nat) (hm1 : 1 ≤ m) (hm2 : m ≤ 128) : wFnReaches_l17 x1 (rdW τ.val) (l.length : Int) 0 l a b s (evL m) = some (.inr (x1, rdW τ.val, l, a, b, s)) := by
  have h4 := hl.2.1
  unfold wFnReaches_l17
  refine runL_steps (f := fun s : List Int × Nat × Int × Int × (List (Nat × Nat)) × List Nat × List Nat × List Nat × List Nat => (wFnReaches_l17_t s.1 s.2.1 s.2.2.1 s.2.2.2.1 s.2.2.2.2.1 s.2.2.2.2.2.1 s.2.2.2.2.2.2.1 s.2.2.2.2.2.2.2.1 s.2.2.2.2.2.2.2.2).sem) l.length 0 (fun k => (x1, rdW τ.val, (l.length : Int), (k : Int), l, a, b, s, evL m)) (fun j h0 hj => ?_) ?_
  · have hx := drawn_at hl (show j < l.length by omega)
    obtain ⟨d1, d2, d3, d4, ⟨α, β, P, h, F⟩, d6, d7, d8⟩ := drawn_ok hx τ
    have hs := shares_ok hx τ
    have e3 : ∀ x ∈ evL m, isFin .f32 x = true ∧ rv .f32 x = 3 := fun x hx => by rw [evL_mem m x hx]; exact ⟨c3.1, c3.2.1⟩
    have eo : ∀ x ∈ evL m, okW 3 x := fun x hx => ⟨(e3 x hx).1, by rw [(e3 x hx).2]; decide +kernel, by rw [(e3 x hx).2]; exact Rat.le_refl⟩
    have r0 : (evL m).getD 0 0 = 1077936128 := by
      have hz : 0 < (evL m).length := by rw [evL_len]; omega
      rw [List.getD_eq_getElem?_getD, List.getElem?_eq_getElem hz]
      exact evL_mem m _ (List.getElem_mem hz)
    have hr := route_ok hx τ (show (1 : Rat) ≤ 3 by decide +kernel) (by decide +kernel) eo (by rw [evL_len]; omega) (by rw [evL_len]; omega)
    rw [r0] at hr
    have fl := flat_ok d2 d3 d4 F e3
    have fo := roW_ok hx τ (show (1 : Rat) ≤ 3 by decide +kernel) (by decide +kernel) eo
    have ll := roW_len (l.getD j (0, 0)) (rdW τ.val) (evL m)
    have h25 := l25_ok x1 (rdW τ.val) (l.length : Int) (j : Int) l a b s (evL m) (roW (l.getD j (0, 0)) (rdW τ.val) (evL m)) (by rw [ll, evL_len]; omega) (fun k hk => by
      have hk' : k < (evL m).length := by rw [ll] at hk; exact hk
      have q := fl k hk'
      have g := (ok_at fo hk).1
      have e : (roW (l.getD j (0, 0)) (rdW τ.val) (evL m)).getD k 0 = outW (shA (l.getD j (0, 0)).1 (l.getD j (0, 0)).2 (rdW τ.val)) (shB (l.getD j (0, 0)).1 (l.getD j (0, 0)).2 (rdW τ.val)) (shC (l.getD j (0, 0)).1 (l.getD j (0, 0)).2 (rdW τ.val)) (evL m) k := oL_get _ _ _ _ _ k hk'
      rw [e] at g ⊢
      exact level_ok g q.1 q.2)
    have hne : (((((roW (l.getD j (0, 0)) (rdW τ.val) (evL m)).length : Nat) : Int) : Int) != (((evL m).length : Nat) : Int)) = false := by rw [ll]; simp
    simp only [wFnReaches_l17_t, wFnReaches_l17_o5, wFnReaches_l17_o4, wFnReaches_l17_o3, wFnReaches_l17_o2, Tr.sem, ltRange (show j < l.length by omega), zeroLe, Bool.and_self, cond_true, Int.toNat_natCast, hs, hr, d1, d6, d7, d8, hne, h25, osome, oget, isL, unR, Bool.not_true, cond_false, up1 (show j ≤ 1048576 by omega)]
  · simp only [Nat.zero_add, wFnReaches_l17_t, Tr.sem, not_lt_self, cond_false]
end Go.Proofs.Ytpglfnkkmafhbaa
