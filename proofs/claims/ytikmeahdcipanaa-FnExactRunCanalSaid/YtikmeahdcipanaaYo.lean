/- Canals a tick later, and runs of them: the program's and the reference's are the same. -/
import Derived.Test.YtikmeahdcipanaaYn
set_option linter.unusedVariables false
set_option linter.unusedSimpArgs false
set_option linter.constructorNameAsVariable false
namespace Go.Proofs.Ytikmeahdcipanaa
open Go.RowKit
set_option maxRecDepth 100000
/-- What flows a tick later, and how high the water stands. -/
noncomputable def flC (s d g sea t : Nat) (h f : List Nat) (k : Nat) : Nat := fdiv .f32 (fsub .f32 (f.getD k 0) (fmul .f32 (fmul .f32 (fmul .f32 t 1092416963) d) (fdiv .f32 (fsub .f32 (h.getD k 0) (match k with | 0 => sea | j + 1 => h.getD j 0)) s))) (fadd .f32 1065353216 (fmul .f32 t g))
noncomputable def hiC (s t : Nat) (h fl : List Nat) (k : Nat) : Nat := fadd .f32 (h.getD k 0) (fmul .f32 t (fdiv .f32 (fsub .f32 (fl.getD k 0) (if k + 1 < fl.length then fl.getD (k + 1) 0 else 0)) s))
noncomputable def flsC (s d g sea t : Nat) (h f : List Nat) : List Nat := (List.range f.length).map (flC s d g sea t h f)
noncomputable def hisC (s t : Nat) (h fl : List Nat) : List Nat := (List.range h.length).map (hiC s t h fl)
theorem flsC_len (s d g sea t : Nat) (h f : List Nat) : (flsC s d g sea t h f).length = f.length := by simp [flsC]
theorem hisC_len (s t : Nat) (h fl : List Nat) : (hisC s t h fl).length = h.length := by simp [hisC]
theorem upC {k : Nat} (h : k ≤ 48) : IntKind.wrap .i64 ((k : Int) + 1) = ((k + 1 : Nat) : Int) := by rw [wrap_id (by omega) (by omega)]; omega
theorem downC {k : Nat} (h : k ≤ 48) : IntKind.wrap .i64 (((k + 1 : Nat) : Int) - 1) = (k : Int) := by rw [wrap_id (by omega) (by omega)]; omega
theorem S_l4 (s d g sea t : Nat) (h f : List Nat) (y10 y11 y12 y13 y14 y15 : Nat) (y16 : List Nat) (hn : h.length ≤ 48) (hl : f.length = h.length) :
    sl05Tick_l4 s d g h f sea t (fmul .f32 (fmul .f32 t 1092416963) d) (f.length : Nat) 0 y10 y11 y12 y13 y14 y15 y16 f = some (s, d, g, h, f, t, y10, y11, y12, y13, y14, y15, y16, flsC s d g sea t h f) := by
  have key := runL_steps (f := fun q : Int × List Nat => (sl05Tick_l4_t s d g h f sea t (fmul .f32 (fmul .f32 t 1092416963) d) (f.length : Nat) y10 y11 y12 y13 y14 y15 y16 q.1 q.2).sem) (r := (s, d, g, h, f, t, y10, y11, y12, y13, y14, y15, y16, flsC s d g sea t h f)) f.length 0 (fun k => ((k : Int), wr (flC s d g sea t h f) f k)) (fun j _ hj => by
    have hj : j < f.length := by omega
    rw [← wr_set _ f j hj]
    cases j with
    | zero =>
      simp only [sl05Tick_l4_t, Tr.sem, ltRange hj, inRange hj, inRange (show 0 < h.length by omega), inRange (show 0 < (wr (flC s d g sea t h f) f 0).length by rw [wr_len _ _ _ (by omega)]; exact hj), show decide (((0 : Nat) : Int) > 0) = false from rfl, cond_true, cond_false, upC (show 0 ≤ 48 by omega), Int.toNat_natCast]
      rfl
    | succ j =>
      simp only [sl05Tick_l4_t, Tr.sem, ltRange hj, inRange hj, inRange (show j + 1 < h.length by omega), inRange (show j < h.length by omega), inRange (show j + 1 < (wr (flC s d g sea t h f) f (j + 1)).length by rw [wr_len _ _ _ (by omega)]; exact hj), decide_eq_true (show (((j + 1 : Nat) : Int)) > 0 by omega), cond_true, downC (show j ≤ 48 by omega), upC (show j + 1 ≤ 48 by omega), Int.toNat_natCast]
      rfl) (by
    rw [Nat.zero_add, wr_end]; simp only [sl05Tick_l4_t, Tr.sem, not_lt_self, cond_false]; rfl)
  rw [wr_zero] at key
  exact key
theorem S_l13 (s d g t : Nat) (h f : List Nat) (y8 y9 y10 y11 y12 y13 : Nat) (fl : List Nat) (hn : h.length ≤ 48) (hl : fl.length = h.length) :
    sl05Tick_l13 s d g h f t (h.length : Nat) 0 y8 y9 y10 y11 y12 y13 h fl = some (y8, y9, y10, y11, y12, y13, hisC s t h fl, fl) := by
  have key := runL_steps (f := fun q : Int × List Nat => (sl05Tick_l13_t s d g h f t (h.length : Nat) y8 y9 y10 y11 y12 y13 fl q.1 q.2).sem) (r := (y8, y9, y10, y11, y12, y13, hisC s t h fl, fl)) h.length 0 (fun k => ((k : Int), wr (hiC s t h fl) h k)) (fun j _ hj => by
    have hj : j < h.length := by omega
    rw [← wr_set _ h j hj]
    have e : hiC s t h fl j = fadd .f32 (h.getD j 0) (fmul .f32 t (fdiv .f32 (fsub .f32 (fl.getD j 0) (if j + 1 < fl.length then fl.getD (j + 1) 0 else 0)) s)) := rfl
    by_cases hc : j + 1 < fl.length
    · rw [e, if_pos hc]
      simp only [sl05Tick_l13_t, Tr.sem, zeroLe, Bool.and_self, ltRange hj, ltRange hj, ltRange hc, ltRange hc, ltRange (show j < fl.length by omega), ltRange (show j < (wr (hiC s t h fl) h j).length by rw [wr_len _ _ _ (by omega)]; exact hj), cond_true, upC (show j ≤ 48 by omega), Int.toNat_natCast]
    · rw [e, if_neg hc]
      simp only [sl05Tick_l13_t, Tr.sem, zeroLe, Bool.and_self, ltRange hj, ltRange hj, decide_eq_false (show ¬ (((j + 1 : Nat) : Int) < (fl.length : Int)) by omega), ltRange (show j < fl.length by omega), ltRange (show j < (wr (hiC s t h fl) h j).length by rw [wr_len _ _ _ (by omega)]; exact hj), cond_true, cond_false, upC (show j ≤ 48 by omega), Int.toNat_natCast]) (by
    rw [Nat.zero_add, wr_end]; simp only [sl05Tick_l13_t, Tr.sem, not_lt_self, cond_false]; rfl)
  rw [wr_zero] at key
  exact key
theorem I_l5 (s d g sea t : Nat) (h f : List Nat) (y10 y11 y12 y13 y14 y15 : Nat) (y16 : List Nat) (hn : h.length ≤ 48) (hl : f.length = h.length) :
    iStepCanal_l5 t sea f (f.length : Nat) 0 s d g h f y10 y11 y12 y13 y14 y15 y16 f = some (t, s, d, g, h, f, y10, y11, y12, y13, y14, y15, y16, flsC s d g sea t h f) := by
  have key := runL_steps (f := fun q : Nat × Int × List Nat => (iStepCanal_l5_t t f (f.length : Nat) s d g h f y10 y11 y12 y13 y14 y15 y16 q.1 q.2.1 q.2.2).sem) (r := (t, s, d, g, h, f, y10, y11, y12, y13, y14, y15, y16, flsC s d g sea t h f)) f.length 0 (fun k => ((match k with | 0 => sea | j + 1 => h.getD j 0), (k : Int), wr (flC s d g sea t h f) f k)) (fun j _ hj => by
    have hj : j < f.length := by omega
    rw [← wr_set _ f j hj]
    cases j with
    | zero =>
      simp only [iStepCanal_l5_t, Tr.sem, ltRange hj, inRange hj, inRange (show 0 < h.length by omega), inRange (show 0 < (wr (flC s d g sea t h f) f 0).length by rw [wr_len _ _ _ (by omega)]; exact hj), cond_true, upC (show 0 ≤ 48 by omega), Int.toNat_natCast]
      rfl
    | succ j =>
      simp only [iStepCanal_l5_t, Tr.sem, ltRange hj, inRange hj, inRange (show j + 1 < h.length by omega), inRange (show j + 1 < (wr (flC s d g sea t h f) f (j + 1)).length by rw [wr_len _ _ _ (by omega)]; exact hj), cond_true, upC (show j + 1 ≤ 48 by omega), Int.toNat_natCast]
      rfl) (by
    rw [Nat.zero_add, wr_end]; simp only [iStepCanal_l5_t, Tr.sem, not_lt_self, cond_false]; rfl)
  rw [wr_zero] at key
  exact key
theorem I_l12 (s d g t : Nat) (h f : List Nat) (y9 y10 y11 y12 y13 y14 : Nat) (fl : List Nat) (hn : h.length ≤ 48) (hl : fl.length = h.length) :
    iStepCanal_l12 t h (h.length : Nat) 0 s d g h f y9 y10 y11 y12 y13 y14 h fl = some (y9, y10, y11, y12, y13, y14, hisC s t h fl, fl) := by
  have key := runL_steps (f := fun q : Int × List Nat => (iStepCanal_l12_t t h (h.length : Nat) s d g h f y9 y10 y11 y12 y13 y14 fl q.1 q.2).sem) (r := (y9, y10, y11, y12, y13, y14, hisC s t h fl, fl)) h.length 0 (fun k => ((k : Int), wr (hiC s t h fl) h k)) (fun j _ hj => by
    have hj : j < h.length := by omega
    rw [← wr_set _ h j hj]
    have e : hiC s t h fl j = fadd .f32 (h.getD j 0) (fmul .f32 t (fdiv .f32 (fsub .f32 (fl.getD j 0) (if j + 1 < fl.length then fl.getD (j + 1) 0 else 0)) s)) := rfl
    by_cases hc : j + 1 < fl.length
    · rw [e, if_pos hc]
      simp only [iStepCanal_l12_t, Tr.sem, zeroLe, Bool.and_self, ltRange hj, ltRange hj, ltRange hc, ltRange hc, ltRange (show j < fl.length by omega), ltRange (show j < (wr (hiC s t h fl) h j).length by rw [wr_len _ _ _ (by omega)]; exact hj), cond_true, upC (show j ≤ 48 by omega), Int.toNat_natCast]
    · rw [e, if_neg hc]
      simp only [iStepCanal_l12_t, Tr.sem, zeroLe, Bool.and_self, ltRange hj, ltRange hj, decide_eq_false (show ¬ (((j + 1 : Nat) : Int) < (fl.length : Int)) by omega), ltRange (show j < fl.length by omega), ltRange (show j < (wr (hiC s t h fl) h j).length by rw [wr_len _ _ _ (by omega)]; exact hj), cond_true, cond_false, upC (show j ≤ 48 by omega), Int.toNat_natCast]) (by
    rw [Nat.zero_add, wr_end]; simp only [iStepCanal_l12_t, Tr.sem, not_lt_self, cond_false]; rfl)
  rw [wr_zero] at key
  exact key
theorem C_clone (xs : List Nat) (h1 : 1 ≤ xs.length) (h2 : xs.length ≤ 48) : lClone xs = some xs := by
  unfold lClone lClone_t
  have e1 : List.isEmpty xs = false := by cases xs with | nil => simp at h1 | cons _ _ => rfl
  have e2 : decide ((List.length ([] : List Nat) + xs.length) * 4 ≤ 140737488355328) = true := by simp only [List.length_nil, decide_eq_true_eq]; omega
  simp only [e1, e2, Tr.sem, Bool.not_false, cond_true, cond_false, List.nil_append]
/-- What a tick yields. -/
noncomputable def tickC (s d g sea t : Nat) (h f : List Nat) : (Nat × Nat × Nat) ⊕ (Nat × Nat × Nat × List Nat × List Nat) :=
  bif canalB s d g (hisC s t h (flsC s d g sea t h f)) (flsC s d g sea t h f) then .inr (s, d, g, hisC s t h (flsC s d g sea t h f), flsC s d g sea t h f) else .inl (0, 0, 0)
theorem C_tick (s d g sea t : Nat) (h f : List Nat) (hn1 : 1 ≤ h.length) (hn : h.length ≤ 48) (hl : f.length = h.length) : sl05Tick s d g h f sea t = some (tickC s d g sea t h f) := by
  have e2 : decide ((List.length ([] : List Nat) + h.length) * 4 ≤ 140737488355328) = true := by simp only [List.length_nil, decide_eq_true_eq]; omega
  have e3 : decide ((List.length ([] : List Nat) + f.length) * 4 ≤ 140737488355328) = true := by simp only [List.length_nil, decide_eq_true_eq]; omega
  have h1 : sl05Own s d g h f = some (s, d, g, h, f) := by
    unfold sl05Own sl05Own_t
    simp only [e2, e3, Tr.sem, cond_true, List.nil_append]
  have hF := flsC_len s d g sea t h f
  unfold sl05Tick sl05Tick_t sl05Tick_o4 sl05Tick_o3 sl05Tick_o2 sl05Tick_o1 tickC
  simp only [h1, S_l4 s d g sea t h f _ _ _ _ _ _ _ hn hl, S_l13 s d g t h f _ _ _ _ _ _ _ hn (hF.trans hl), R_sCanal s d g _ _ (show (flsC s d g sea t h f).length ≤ 9223372036854775807 by omega), Tr.sem, osome, oget, cond_true]
  cases canalB s d g (hisC s t h (flsC s d g sea t h f)) (flsC s d g sea t h f) <;> rfl
theorem C_step (s d g sea t : Nat) (h f : List Nat) (hc : canalB s d g h f = true) (hs : isFin .f32 sea = true) (ht : isLen t = true) : iStepCanal s d g h f sea t = some (tickC s d g sea t h f) := by
  obtain ⟨hn1, hn, hl⟩ := canal_parts hc
  have h1 : iCanal_cloned s d g h f = some (s, d, g, h, f) := by
    unfold iCanal_cloned iCanal_cloned_t
    simp only [C_clone h hn1 hn, C_clone f (by omega) (by omega), Tr.sem, osome, oget, cond_true]
  have hF := flsC_len s d g sea t h f
  unfold iStepCanal iStepCanal_t iStepCanal_o5 iStepCanal_o4 iStepCanal_o3 iStepCanal_o2 iStepCanal_o1 tickC itoldCanal itoldCanal_t
  simp only [R_iCanal s d g h f (by omega), hc, hs, ht, h1, I_l5 s d g sea t h f _ _ _ _ _ _ _ hn hl, I_l12 s d g t h f _ _ _ _ _ _ _ hn (hF.trans hl), R_iCanal s d g _ _ (show (flsC s d g sea t h f).length ≤ 9223372036854775807 by omega), Tr.sem, osome, oget, cond_true, Bool.not_true, cond_false]
  cases canalB s d g (hisC s t h (flsC s d g sea t h f)) (flsC s d g sea t h f) <;> rfl
theorem tickC_ok {s d g sea t : Nat} {h f : List Nat} {u : Nat × Nat × Nat × List Nat × List Nat} (e : tickC s d g sea t h f = .inr u) : canalB u.1 u.2.1 u.2.2.1 u.2.2.2.1 u.2.2.2.2 = true := by
  unfold tickC at e
  cases hc : canalB s d g (hisC s t h (flsC s d g sea t h f)) (flsC s d g sea t h f) with
  | false => rw [hc] at e; cases e
  | true => rw [hc] at e; cases e; exact hc
theorem tickC_no {s d g sea t : Nat} {h f : List Nat} {u : Nat × Nat × Nat} (e : tickC s d g sea t h f = .inl u) : u = (0, 0, 0) := by
  unfold tickC at e
  cases hc : canalB s d g (hisC s t h (flsC s d g sea t h f)) (flsC s d g sea t h f) with
  | false => rw [hc] at e; cases e; rfl
  | true => rw [hc] at e; cases e
theorem R_stepCanal (s d g : Nat) (h f : List Nat) (sea t : Nat) (hf : f.length ≤ 9223372036854775807) : ∃ r, sStepCanal s d g h f sea t = some r ∧ iStepCanal s d g h f sea t = some r ∧ (∀ u, r = .inl u → u = (0, 0, 0)) ∧ ∀ u, r = .inr u → u.2.2.2.1.length ≤ 48 ∧ u.2.2.2.2.length ≤ 48 := by
  cases hc : canalB s d g h f with
  | false =>
    refine ⟨.inl (0, 0, 0), ?_, ?_, (fun u h => by cases h; rfl), (fun u h => by cases h)⟩
    · unfold sStepCanal sStepCanal_t
      simp only [R_sCanal s d g h f hf, hc, Tr.sem, osome, oget, cond_true, Bool.not_false]
    · unfold iStepCanal iStepCanal_t iStepCanal_o5
      simp only [R_iCanal s d g h f hf, hc, Tr.sem, osome, oget, cond_true, Bool.not_false]
  | true =>
    obtain ⟨hn1, hn, hl⟩ := canal_parts hc
    cases hs : isFin .f32 sea with
    | false =>
      refine ⟨.inl (0, 0, 0), ?_, ?_, (fun u h => by cases h; rfl), (fun u h => by cases h)⟩
      · unfold sStepCanal sStepCanal_t
        simp only [R_sCanal s d g h f hf, hc, hs, Tr.sem, osome, oget, cond_true, Bool.not_false, Bool.not_true, cond_false]
      · unfold iStepCanal iStepCanal_t iStepCanal_o5
        simp only [R_iCanal s d g h f hf, hc, hs, Tr.sem, osome, oget, cond_true, Bool.not_false, Bool.not_true, cond_false]
    | true =>
      cases ht : isLen t with
      | false =>
        refine ⟨.inl (0, 0, 0), ?_, ?_, (fun u h => by cases h; rfl), (fun u h => by cases h)⟩
        · unfold sStepCanal sStepCanal_t
          simp only [R_sCanal s d g h f hf, hc, hs, ht, Tr.sem, osome, oget, cond_true, Bool.not_false, Bool.not_true, cond_false]
        · unfold iStepCanal iStepCanal_t iStepCanal_o5
          simp only [R_iCanal s d g h f hf, hc, hs, ht, Tr.sem, osome, oget, cond_true, Bool.not_false, Bool.not_true, cond_false]
      | true =>
        refine ⟨tickC s d g sea t h f, ?_, C_step s d g sea t h f hc hs ht, fun u e => tickC_no e, fun u e => ?_⟩
        · unfold sStepCanal sStepCanal_t
          simp only [R_sCanal s d g h f hf, hc, hs, ht, C_tick s d g sea t h f hn1 hn hl, Tr.sem, osome, oget, cond_true, Bool.not_false, Bool.not_true, cond_false]
          cases tickC s d g sea t h f <;> rfl
        · obtain ⟨a, b, c⟩ := canal_parts (tickC_ok e)
          omega
theorem Z_held (n : Nat) (h : n ≤ 1048576) : decide (1 + (n : Int) < 0) = false := by simp only [decide_eq_false_iff_not]; omega
theorem R_markC (s d g : Nat) (a b : List Nat) (m : Int) (h0 : 0 ≤ m) (hm : m ≤ 8000000) (ha : a.length ≤ 1048576) (hb : b.length ≤ 1048576) : wmarkCanal s d g m a b = some (m + (a.length : Int) + b.length, seqF m a.length, seqF (m + a.length) b.length) := by
  unfold wmarkCanal wmarkCanal_t
  simp only [R_markG m a ha h0 (by omega), R_markG (m + (a.length : Int)) b hb (by omega) (by omega), Tr.sem, osome, oget, cond_true]
theorem R_heldC (s d g m n : Nat) (hm : m ≤ 1048576) (hn : n ≤ 1048576) : wheldCanal s d g (seqF 1 m) (seqF (1 + (m : Int)) n) 1 = some (1 + (m : Int) + n) := by
  have e1 : decide (1 + (m : Int) < 0) = false := by simp only [decide_eq_false_iff_not]; omega
  have e2 : decide (1 + (m : Int) + n < 0) = false := by simp only [decide_eq_false_iff_not]; omega
  unfold wheldCanal wheldCanal_t
  simp only [R_heldG 1 m hm (by omega) (by omega), R_heldG (1 + (m : Int)) n hn (by omega) (by omega), Tr.sem, osome, oget, cond_true, e1, e2, cond_false]
theorem R_heldC0 (s d g : Nat) : wheldCanal s d g [] [] 1 = some 1 := R_heldC s d g 0 0 (by omega) (by omega)
theorem R_markC0 (s d g : Nat) : wmarkCanal_n1 s d g 1 = some 1 := by
  unfold wmarkCanal_n1 wmarkCanal_n1_t
  simp only [R_nil, Tr.sem, osome, oget, cond_true]
theorem pureFnExactStepCanal (s d g : Nat) (h f : List Nat) (sea t : Nat) (ha : h.length ≤ 9223372036854775807) (hb : f.length ≤ 9223372036854775807) : wFnExactStepCanal s d g h f sea t = some true := by
  unfold wFnExactStepCanal wFnExactStepCanal_t
  cases hz : decide (wszCanal s d g h f 1048576 < 0) with
  | true => rfl
  | false =>
    obtain ⟨h1, h2⟩ := R_szC s d g h f ha hb hz
    obtain ⟨r, s1, s2, q0, q1⟩ := R_stepCanal s d g h f sea t hb
    have hd0 : decide (1 + (h.length : Int) + f.length < 0) = false := by simp only [decide_eq_false_iff_not]; omega
    refine (brF rfl).trans ?_
    cases r with
    | inl u =>
      cases q0 u rfl
      simp only [wFnExactStepCanal_o1, wFnExactStepCanal_o2, wFnExactStepCanal_o3, wFnExactStepCanal_o4, wFnExactStepCanal_o5, wFnExactStepCanal_o6, wFnExactStepCanal_o7, wFnExactStepCanal_o8, wFnExactStepCanal_o9, wFnExactStepCanal_o10, wFnExactStepCanal_o11, wFnExactStepCanal_o12, wFnExactStepCanal_o13, wFnExactStepCanal_o14, wFnExactStepCanal_o15, wFnExactStepCanal_o16, wFnExactStepCanal_o17, wFnExactStepCanal_o18, wFnExactStepCanal_o19, wFnExactStepCanal_o20, wFnExactStepCanal_o21, wFnExactStepCanal_o22, wFnExactStepCanal_o23, wFnExactStepCanal_o24, wFnExactStepCanal_o25, wFnExactStepCanal_o26, wFnExactStepCanal_o27, wFnExactStepCanal_o28, wFnExactStepCanal_o29, wFnExactStepCanal_o30, wFnExactStepCanal_o31, wFnExactStepCanal_o32, wFnExactStepCanal_o33, wFnExactStepCanal_o34, wFnExactStepCanal_o35, wFnExactStepCanal_o36, wFnExactStepCanal_o37, wFnExactStepCanal_o38, wFnExactStepCanal_o39, wFnExactStepCanal_o40, wFnExactStepCanal_o41, wFnExactStepCanal_o42, wFnExactStepCanal_o43, wFnExactStepCanal_o44, wFnExactStepCanal_o45, wFnExactStepCanal_o46, wFnExactStepCanal_o47, wFnExactStepCanal_o48, wFnExactStepCanal_o49, wFnExactStepCanal_o50, wFnExactStepCanal_o51, wFnExactStepCanal_o52, wFnExactStepCanal_o53, wFnExactStepCanal_o54, wFnExactStepCanal_o55, wFnExactStepCanal_o56, wFnExactStepCanal_o57, wFnExactStepCanal_o58, R_toC s d g h f h1 h2, R_eqC s d g h f h1 h2, R_eqC 0 0 0 [] [] (by simp) (by simp), R_markC s d g h f 1 (by omega) (by omega) h1 h2, R_markC0, R_heldC0, hd0, s1, s2, Tr.sem, osome, oget, isL, unL, unR, cond_true, cond_false, Bool.not_true, beq_self_eq_true, bne_self_eq_false, show decide ((1 : Int) < 0) = false from rfl]
    | inr u =>
      obtain ⟨a, b, c, x, y⟩ := u
      obtain ⟨l1, l2⟩ := q1 _ rfl
      simp only at l1 l2
      have hd1 : decide (1 + (x.length : Int) + y.length < 0) = false := by simp only [decide_eq_false_iff_not]; omega
      simp only [wFnExactStepCanal_o1, wFnExactStepCanal_o2, wFnExactStepCanal_o3, wFnExactStepCanal_o4, wFnExactStepCanal_o5, wFnExactStepCanal_o6, wFnExactStepCanal_o7, wFnExactStepCanal_o8, wFnExactStepCanal_o9, wFnExactStepCanal_o10, wFnExactStepCanal_o11, wFnExactStepCanal_o12, wFnExactStepCanal_o13, wFnExactStepCanal_o14, wFnExactStepCanal_o15, wFnExactStepCanal_o16, wFnExactStepCanal_o17, wFnExactStepCanal_o18, wFnExactStepCanal_o19, wFnExactStepCanal_o20, wFnExactStepCanal_o21, wFnExactStepCanal_o22, wFnExactStepCanal_o23, wFnExactStepCanal_o24, wFnExactStepCanal_o25, wFnExactStepCanal_o26, wFnExactStepCanal_o27, wFnExactStepCanal_o28, wFnExactStepCanal_o29, wFnExactStepCanal_o30, wFnExactStepCanal_o31, wFnExactStepCanal_o32, wFnExactStepCanal_o33, wFnExactStepCanal_o34, wFnExactStepCanal_o35, wFnExactStepCanal_o36, wFnExactStepCanal_o37, wFnExactStepCanal_o38, wFnExactStepCanal_o39, wFnExactStepCanal_o40, wFnExactStepCanal_o41, wFnExactStepCanal_o42, wFnExactStepCanal_o43, wFnExactStepCanal_o44, wFnExactStepCanal_o45, wFnExactStepCanal_o46, wFnExactStepCanal_o47, wFnExactStepCanal_o48, wFnExactStepCanal_o49, wFnExactStepCanal_o50, wFnExactStepCanal_o51, wFnExactStepCanal_o52, wFnExactStepCanal_o53, wFnExactStepCanal_o54, wFnExactStepCanal_o55, wFnExactStepCanal_o56, wFnExactStepCanal_o57, wFnExactStepCanal_o58, R_toC s d g h f h1 h2, R_eqC s d g h f h1 h2, R_eqC a b c x y (by omega) (by omega), R_markC s d g h f 1 (by omega) (by omega) h1 h2, R_markC a b c x y 1 (by omega) (by omega) (by omega) (by omega), R_heldC a b c x.length y.length (by omega) (by omega), hd0, hd1, s1, s2, Tr.sem, osome, oget, isL, unL, unR, cond_true, cond_false, Bool.not_true, beq_self_eq_true, bne_self_eq_false]
end Go.Proofs.Ytikmeahdcipanaa
