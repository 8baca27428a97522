/- Short days, cut wants, many rivers. -/
import Derived.Test.YtcjekndobhkmbaaJd
set_option linter.unusedVariables false
set_option linter.unusedSimpArgs false
set_option linter.constructorNameAsVariable false
namespace Go.Proofs.Ytcjekndobhkmbaa
open Go.RowKit
set_option maxRecDepth 100000
theorem eqI_refl (x : List Int) : eqI x x = true := by
  unfold eqI
  rw [decide_eq_true rfl, Bool.true_and, List.all_eq_true]
  exact fun k _ => beq_self_eq_true _
theorem eqD_refl (x : List Dam) : eqD x x = true := by
  unfold eqD
  rw [decide_eq_true rfl, Bool.true_and, List.all_eq_true]
  intro k _
  simp only [dmB, beq_self_eq_true, Bool.and_self]
theorem J_same (a : List Int) (b : List Dam) (c : List Int) (ha : a.length ≤ 1048576) (hb : b.length ≤ 1048576) (hc : c.length ≤ 1048576) : iSameRiver a b c a b c = some true := by
  rw [P_iSame a b c a b c ha hb hc, eqI_refl, eqD_refl, eqI_refl]; rfl
/-! ### Short days -/
theorem J_s9 (y0 y1 : Int) (g : List Int) (y5 : List Int) (y6 : List Dam) (c out : List Int) (y9 : List (List Int)) (hg : g.length ≤ 12) (hc : c.length = g.length) (ho : out.length = g.length) (hb : ∀ i, i < g.length → 0 ≤ out.getD i 0 ∧ out.getD i 0 ≤ 1000) :
    ∃ out', iShortDays_l9 y0 y1 g (g.length : Nat) 0 y5 y6 c out y9 = some (y0, y1, y5, y6, c, out', y9) ∧ out'.length = g.length ∧ ∀ i, i < g.length → out'.getD i 0 = out.getD i 0 + (if g.getD i 0 < c.getD i 0 then 1 else 0) := by
  obtain ⟨r, r1, out', r2, r3, r4⟩ := runL_ex0 (f := fun s : Int × List Int => (iShortDays_l9_t y0 y1 g (g.length : Nat) y5 y6 c y9 s.1 s.2).sem) g.length
    (fun j s => ∃ o : List Int, s = ((j : Int), o) ∧ o.length = g.length ∧ ∀ i, i < g.length → o.getD i 0 = out.getD i 0 + (if i < j ∧ g.getD i 0 < c.getD i 0 then 1 else 0)) (fun r => ∃ o : List Int, r = (y0, y1, y5, y6, c, o, y9) ∧ o.length = g.length ∧ ∀ i, i < g.length → o.getD i 0 = out.getD i 0 + (if g.getD i 0 < c.getD i 0 then 1 else 0)) (0, out) ⟨out, rfl, ho, fun i hi => by rw [if_neg (by omega)]; omega⟩ (fun j s hj ⟨o, hs, l1, l2⟩ => by
      subst hs
      simp only [iShortDays_l9_t, Tr.sem, ltRange hj, ltRange (show j < c.length by omega), ltRange (show j < o.length by omega), zeroLe, Bool.and_self, cond_true, Int.toNat_natCast, up1 (show j ≤ 1048576 by omega)]
      by_cases h : g.getD j 0 < c.getD j 0
      · rw [decide_eq_true h, cond_true]
        refine ⟨_, rfl, _, rfl, by simpa using l1, fun i hi => ?_⟩
        have b0 := hb j hj
        have e := l2 j hj
        rw [if_neg (by omega)] at e
        rw [setD (by omega)]
        by_cases hij : i = j
        · subst hij
          rw [if_pos rfl, if_pos ⟨by omega, h⟩, wrap_id (by omega) (by omega), e]; omega
        · rw [if_neg hij, l2 i hi]
          by_cases h2 : i < j ∧ g.getD i 0 < c.getD i 0
          · rw [if_pos h2, if_pos ⟨by omega, h2.2⟩]
          · rw [if_neg h2, if_neg (fun hh => h2 ⟨by omega, hh.2⟩)]
      · rw [decide_eq_false h, cond_false]
        refine ⟨_, rfl, _, rfl, l1, fun i hi => ?_⟩
        rw [l2 i hi]
        by_cases h2 : i < j ∧ g.getD i 0 < c.getD i 0
        · rw [if_pos h2, if_pos ⟨by omega, h2.2⟩]
        · rw [if_neg h2, if_neg (fun hh => h2 ⟨by
            by_cases hij : i = j
            · subst hij; exact (h hh.2).elim
            · omega, hh.2⟩)]) (fun s ⟨o, hs, l1, l2⟩ => by
      subst hs
      refine ⟨_, by simp only [iShortDays_l9_t, Tr.sem, not_lt_self, cond_false], o, rfl, l1, fun i hi => ?_⟩
      rw [l2 i hi]
      by_cases h : g.getD i 0 < c.getD i 0
      · rw [if_pos ⟨hi, h⟩, if_pos h]
      · rw [if_neg (fun hh => h hh.2), if_neg h])
  subst r2
  exact ⟨out', r1, r3, r4⟩
theorem J_short {a : List Int} {b : List Dam} {c : List Int} (hv : rivB a b c = true) (xs : List (List Int)) (hx : ∀ x ∈ xs, dayOk a x) (hl : xs.length ≤ 64) : ∃ out, iShortDays a b c xs = some (.inr out) ∧ out.length = a.length ∧ ∀ i, i < a.length → 0 ≤ out.getD i 0 ∧ out.getD i 0 ≤ xs.length ∧ (c.getD i 0 = 0 → out.getD i 0 = 0) := by
  obtain ⟨hg, h1, hn, hw, hb, hc, hcw, hbd⟩ := riv_parts hv
  have hgl := giv_len a c xs b
  have hgm := giv_mem xs b hv hx
  have z0 : ∀ j, (List.replicate a.length (0 : Int)).getD j 0 = 0 := fun j => by
    rw [List.getD_eq_getElem?_getD]
    by_cases h : j < a.length
    · rw [List.getElem?_replicate_of_lt h]; rfl
    · rw [List.getElem?_eq_none (by simp; omega)]; rfl
  obtain ⟨r, r1, r2, r3⟩ := runL_ex0 (f := fun s : Int × Int × List Int × (List (Int × Int × Int × Int)) × List Int × List Int × List (List Int) => (iShortDays_l6_t s.1 s.2.1 s.2.2.1 s.2.2.2.1 s.2.2.2.2.1 s.2.2.2.2.2.1 s.2.2.2.2.2.2).sem) xs.length
    (fun k s => ∃ o : List Int, s = ((xs.length : Int), (k : Int), a, b, c, o, givD a c b xs) ∧ o.length = a.length ∧ ∀ i, i < a.length → 0 ≤ o.getD i 0 ∧ o.getD i 0 ≤ k ∧ (c.getD i 0 = 0 → o.getD i 0 = 0)) (fun o => o.length = a.length ∧ ∀ i, i < a.length → 0 ≤ o.getD i 0 ∧ o.getD i 0 ≤ xs.length ∧ (c.getD i 0 = 0 → o.getD i 0 = 0)) ((xs.length : Int), 0, a, b, c, List.replicate a.length 0, givD a c b xs) ⟨_, rfl, by simp, fun i hi => by rw [z0]; exact ⟨Int.le_refl _, Int.le_refl _, fun _ => rfl⟩⟩ (fun k s hk ⟨o, hs, l1, l2⟩ => by
      subst hs
      obtain ⟨m1, m2⟩ := hgm _ (getD_mem (d := []) (show k < (givD a c b xs).length by omega))
      obtain ⟨o', q1, q2, q3⟩ := J_s9 (xs.length : Int) (k : Int) ((givD a c b xs).getD k []) a b c o (givD a c b xs) (by omega) (by omega) (by omega) (fun i hi => by have := l2 i (by omega); omega)
      simp only [iShortDays_l6_t, Tr.sem, ltRange hk, ltRange (show k < (givD a c b xs).length by omega), zeroLe, Bool.and_self, cond_true, Int.toNat_natCast, q1, osome, oget, up1 (show k ≤ 1048576 by omega)]
      refine ⟨_, rfl, o', rfl, by omega, fun i hi => ?_⟩
      have e := q3 i (by omega)
      have p := l2 i hi
      have g0 := m2 i hi
      rw [e]
      split <;> omega) (fun s ⟨o, hs, l1, l2⟩ => by
      subst hs
      exact ⟨_, by simp only [iShortDays_l6_t, Tr.sem, not_lt_self, cond_false], l1, l2⟩)
  have r1' : iShortDays_l6 (xs.length : Nat) 0 a b c (List.replicate a.length 0) (givD a c b xs) = some r := r1
  refine ⟨r, ?_, r2, r3⟩
  unfold iShortDays
  simp only [iShortDays_t, J_run hv xs hx hl, J_mk8 (show a.length ≤ 1048576 by omega), decide_true, giv_len, r1', Tr.sem, osome, oget, isL, unR, Int.toNat_natCast, cond_true, cond_false]
/-! ### Cut wants -/
def cutL (c : List Int) (p w : Int) : List Int := c.map fun x => (x * p).tdiv w
theorem J_cut {a : List Int} {b : List Dam} {c : List Int} (hv : rivB a b c = true) (p w : Int) (hp : 0 ≤ p) (hpw : p ≤ w) (hw1 : 1 ≤ w) (hw9 : w ≤ 1000) : iCutWants a b c p w = some (.inr (a, b, cutL c p w)) := by
  obtain ⟨hg, h1, hn, hw, hb, hc, hcw, hbd⟩ := riv_parts hv
  have key := runL_steps (f := fun s : Int × List Int => (iCutWants_l5_t p w (c.length : Nat) a b s.1 s.2).sem) (r := (a, b, cutL c p w)) c.length 0 (fun k => ((k : Int), (c.take k).map (fun x => (x * p).tdiv w) ++ c.drop k)) (fun j _ hj => by
    have hj : j < c.length := by omega
    have hx := want_at hv (show j < a.length by omega)
    have hlen : ((c.take j).map (fun x => (x * p).tdiv w) ++ c.drop j).length = c.length := by simp; omega
    have hd : c.drop j = c.getD j 0 :: c.drop (j + 1) := by
      rw [List.getD_eq_getElem?_getD, List.getElem?_eq_getElem hj]; exact List.drop_eq_getElem_cons hj
    have hgd : ((c.take j).map (fun x => (x * p).tdiv w) ++ c.drop j).getD j 0 = c.getD j 0 := by
      rw [List.getD_eq_getElem?_getD, List.getElem?_append_right (by simp; omega), hd]
      simp only [List.length_map, List.length_take, Nat.min_eq_left (Nat.le_of_lt hj), Nat.sub_self, List.getElem?_cons_zero, Option.getD_some]
    have m1 : c.getD j 0 * p ≤ 1000000000 * 1000 := Int.mul_le_mul (by omega) (by omega) hp (by omega)
    have m0 : 0 ≤ c.getD j 0 * p := Int.mul_nonneg hx.1 hp
    have w1 : IntKind.wrap .i64 (c.getD j 0 * p) = c.getD j 0 * p := wrap_id (by omega) (by omega)
    have q0 : 0 ≤ (c.getD j 0 * p).tdiv w := Int.tdiv_nonneg m0 (by omega)
    have q1 : (c.getD j 0 * p).tdiv w ≤ c.getD j 0 * p := Int.le_trans (Int.tdiv_le_self _ m0) (Int.le_refl _)
    have w2 : IntKind.wrap .i64 ((c.getD j 0 * p).tdiv w) = (c.getD j 0 * p).tdiv w := wrap_id (by omega) (by omega)
    have hne : decide (w ≠ (0 : Int)) = true := by simp only [decide_eq_true_eq]; omega
    have hset : ((c.take j).map (fun x => (x * p).tdiv w) ++ c.drop j).set j ((c.getD j 0 * p).tdiv w) = (c.take (j + 1)).map (fun x => (x * p).tdiv w) ++ c.drop (j + 1) := by
      rw [List.set_append_right _ _ (by simp; omega), hd, take_succ c j 0 hj, List.map_append]
      simp only [List.length_map, List.length_take, Nat.min_eq_left (Nat.le_of_lt hj), Nat.sub_self, List.set_cons_zero, List.append_assoc]; rfl
    simp only [iCutWants_l5_t, Tr.sem, ltRange hj, ltRange (show j < ((c.take j).map (fun x => (x * p).tdiv w) ++ c.drop j).length by rw [hlen]; exact hj), zeroLe, Bool.and_self, cond_true, Int.toNat_natCast, hne, hgd, w1, w2, hset, up1 (show j ≤ 1048576 by omega)]) (by
    rw [Nat.zero_add, List.take_length, List.drop_length, List.append_nil]; simp only [iCutWants_l5_t, Tr.sem, not_lt_self, cond_false]; rfl)
  have key' : iCutWants_l5 p w (c.length : Nat) 0 a b c = some (a, b, cutL c p w) := key
  have i1 : win 1 1000000000 w = true := by simp only [win, Bool.and_eq_true, decide_eq_true_eq]; omega
  have i2 : win 0 w p = true := by simp only [win, Bool.and_eq_true, decide_eq_true_eq]; omega
  unfold iCutWants
  simp only [iCutWants_t, Q_valid a b c (by omega) (by omega), hv, Q_within, i1, i2, J_cloned a b c (by omega) (by omega) (by omega), key', Tr.sem, osome, oget, Bool.not_true, cond_true, cond_false]
theorem cut_whole {c : List Int} (h : ∀ x ∈ c, 0 ≤ x) : cutL c 3 3 = c := by
  unfold cutL
  refine (List.map_congr_left fun x hx => ?_).trans (List.map_id c)
  exact Int.mul_tdiv_cancel x (by omega)
theorem cut_none (c : List Int) : (cutL c 0 1).length = c.length ∧ ∀ x ∈ cutL c 0 1, x = 0 := by
  refine ⟨by simp [cutL], fun x hx => ?_⟩
  obtain ⟨y, _, rfl⟩ := List.mem_map.1 hx
  simp
theorem riv_cut {a : List Int} {b : List Dam} {c c' : List Int} (hv : rivB a b c = true) (hl : c'.length = c.length) (h : ∀ x ∈ c', x = 0) : rivB a b c' = true := by
  simp only [rivB, Bool.and_eq_true, decide_eq_true_eq] at hv ⊢
  obtain ⟨⟨⟨⟨h1, h2⟩, h3⟩, ⟨h4, h5⟩, h6⟩, h7⟩ := hv
  refine ⟨⟨⟨⟨h1, h2⟩, by omega⟩, ⟨h4, ?_⟩, h6⟩, h7⟩
  rw [List.all_eq_true]
  intro x hx
  rw [h x hx]; rfl
/-! ### Many rivers -/
theorem J_many {a : List Int} {b : List Dam} {c : List Int} (hv : rivB a b c = true) (xs : List (List Int)) (hx : ∀ x ∈ xs, dayOk a x) (hl : xs.length ≤ 64) (n : Int) (hn0 : 1 ≤ n) (hn8 : n ≤ 8) : iRunManyDays [(a, b, c), (a, b, c)] xs n = some (.inr [(a, endD a c b xs, c), (a, endD a c b xs, c)]) := by
  have hr := J_run hv xs hx hl
  have hi : win 1 8 n = true := by simp only [win, Bool.and_eq_true, decide_eq_true_eq]; omega
  have key : iRunManyDays_l5 xs [(a, b, c), (a, b, c)] 2 0 [] = some (.inr [(a, endD a c b xs, c), (a, endD a c b xs, c)]) := by
    unfold iRunManyDays_l5
    refine (runL_in (s' := (1, [(a, endD a c b xs, c)])) ?_).trans ((runL_in (s' := (2, [(a, endD a c b xs, c), (a, endD a c b xs, c)])) ?_).trans (runL_out ?_))
    · simp only [iRunManyDays_l5_t, Tr.sem, show decide ((0 : Int) < 2) = true from rfl, show (decide ((0 : Int) ≤ 0) && decide ((0 : Int) < (([(a, b, c), (a, b, c)].length : Nat) : Int))) = true from rfl, show [(a, b, c), (a, b, c)].getD (Int.toNat 0) ([], [], []) = (a, b, c) from rfl, hr, osome, oget, isL, unR, cond_true, cond_false]
      rfl
    · simp only [iRunManyDays_l5_t, Tr.sem, show decide ((1 : Int) < 2) = true from rfl, show (decide ((0 : Int) ≤ 1) && decide ((1 : Int) < (([(a, b, c), (a, b, c)].length : Nat) : Int))) = true from rfl, show [(a, b, c), (a, b, c)].getD (Int.toNat 1) ([], [], []) = (a, b, c) from rfl, hr, osome, oget, isL, unR, cond_true, cond_false]
      rfl
    · simp only [iRunManyDays_l5_t, Tr.sem, show decide ((2 : Int) < 2) = false from rfl, cond_false]
  unfold iRunManyDays
  simp only [iRunManyDays_t, Q_within, hi, show (([(a, b, c), (a, b, c)].length : Nat) : Int) = 2 from rfl, show decide ((2 : Int) > 12) = false from rfl, key, Tr.sem, osome, oget, isL, unR, Bool.not_true, cond_true, cond_false]
end Go.Proofs.Ytcjekndobhkmbaa
