/- Orders of rivers: the program's and the reference's are the same. -/
import Derived.Test.YtjohnpldkanjmaaQc
set_option linter.unusedVariables false
set_option linter.unusedSimpArgs false
set_option linter.constructorNameAsVariable false
namespace Go.Proofs.Ytjohnpldkanjmaa
open Go.RowKit
set_option maxRecDepth 100000

theorem runL_steps {σ ρ : Type} {f : σ → Option (σ ⊕ ρ)} {r : ρ} : ∀ (n k : Nat) (s : Nat → σ), (∀ j, k ≤ j → j < k + n → f (s j) = some (.inl (s (j + 1)))) → f (s (k + n)) = some (.inr r) → runL f (s k) = some r
  | 0, k, s, h, he => runL_out he
  | n + 1, k, s, h, he => (runL_in (h k (Nat.le_refl _) (by omega))).trans (runL_steps n (k + 1) s (fun j h1 h2 => h j (by omega) (by omega)) (by rw [show k + 1 + n = k + (n + 1) by omega]; exact he))
theorem first_or (p : Nat → Bool) : ∀ n : Nat, (∃ i, i < n ∧ p i = true ∧ ∀ k, k < i → p k = false) ∨ ∀ k, k < n → p k = false
  | 0 => .inr (fun k hk => by omega)
  | n + 1 => by
    rcases first_or p n with ⟨i, h1, h2, h3⟩ | h
    · exact .inl ⟨i, by omega, h2, h3⟩
    · cases hp : p n with
      | true => exact .inl ⟨n, by omega, hp, h⟩
      | false => exact .inr (fun k hk => by
          by_cases e : k = n
          · subst e; exact hp
          · exact h k (by omega))
/-! ### How many -/
def cnt (p : Nat → Bool) : Nat → Nat
  | 0 => 0
  | n + 1 => cnt p n + (p n).toNat
theorem cnt_zero (p : Nat → Bool) : ∀ n, cnt p n = 0 ↔ ∀ j, j < n → p j = false
  | 0 => ⟨fun _ j h => by omega, fun _ => rfl⟩
  | n + 1 => by
    have ih := cnt_zero p n
    constructor
    · intro h j hj
      simp only [cnt] at h
      by_cases e : j = n
      · subst e
        cases hp : p j with
        | false => rfl
        | true => rw [hp, Bool.toNat_true] at h; omega
      · exact ih.1 (by omega) j (by omega)
    · intro h
      simp only [cnt]
      rw [ih.2 (fun j hj => h j (by omega)), h n (by omega)]; rfl
theorem cnt_congr {p q : Nat → Bool} : ∀ n, (∀ j, j < n → p j = q j) → cnt p n = cnt q n
  | 0, _ => rfl
  | n + 1, h => by
    simp only [cnt]
    rw [cnt_congr n (fun j hj => h j (by omega)), h n (by omega)]
theorem cnt_drop {p q : Nat → Bool} {i : Nat} (hp : p i = true) : ∀ n, i < n → (∀ j, j < n → q j = (p j && decide (j ≠ i))) → cnt q n + 1 = cnt p n
  | 0, h, _ => by omega
  | n + 1, h, hq => by
    simp only [cnt]
    by_cases e : i = n
    · subst e
      rw [hq i (by omega), hp]
      have : cnt q i = cnt p i := cnt_congr i (fun j hj => by rw [hq j (by omega), decide_eq_true (by omega), Bool.and_true])
      rw [this]; simp
    · have ih := cnt_drop hp n (by omega) (fun j hj => hq j (by omega))
      rw [hq n (by omega), decide_eq_true (show n ≠ i by omega), Bool.and_true]; omega
theorem cnt_le (p : Nat → Bool) : ∀ n, cnt p n ≤ n
  | 0 => Nat.le_refl _
  | n + 1 => by
    have := cnt_le p n
    simp only [cnt]
    cases p n <;> simp <;> omega
theorem map_set {n t : Nat} (f g : Nat → Int) (v : Int) (h : ∀ k, k < n → g k = if k = t then v else f k) : ((List.range n).map f).set t v = (List.range n).map g := by
  refine List.ext_getElem (by simp) (fun k h1 h2 => ?_)
  have hk : k < n := by simpa using h2
  rw [List.getElem_set]
  simp only [List.getElem_map, List.getElem_range]
  rw [h k hk]
  by_cases e : t = k
  · rw [if_pos e, if_pos e.symm]
  · rw [if_neg e, if_neg (fun h => e h.symm)]
theorem map_getD {n k : Nat} (f : Nat → Int) (h : k < n) : ((List.range n).map f).getD k 0 = f k := by
  rw [List.getD_eq_getElem?_getD, List.getElem?_map, List.getElem?_range h]; rfl
/-! ### Nodes that are open, and their open feeders -/
def opn (o : List Int) (k : Nat) : Bool := !hasB o (k : Int)
def fed (a o : List Int) (k j : Nat) : Bool := (a.getD j 0 == (k : Int)) && opn o j
def redy (a o : List Int) (k : Nat) : Bool := opn o k && decide (cnt (fed a o k) a.length = 0)
theorem opn_app (o : List Int) (i k : Nat) : opn (o ++ [(i : Int)]) k = (opn o k && decide (k ≠ i)) := by
  unfold opn hasB
  rw [List.any_append]
  simp only [List.any_cons, List.any_nil, Bool.or_false, Bool.not_or]
  congr 1
  by_cases e : k = i
  · subst e; simp
  · rw [decide_eq_true e]
    have : ((k : Int) == (i : Int)) = false := by
      rw [beq_eq_false_iff_ne]; omega
    rw [this]; rfl
theorem some_ready (a o : List Int) (hg : goodD a) (hw : walksB a = true) (ho : ∃ k, k < a.length ∧ opn o k = true) : ∃ i, i < a.length ∧ redy a o i = true := by
  rcases first_or (redy a o) a.length with ⟨i, h1, h2, _⟩ | h
  · exact ⟨i, h1, h2⟩
  · exfalso
    have key : ∀ m, ∃ k, k < a.length ∧ opn o k = true ∧ walkB a m (k : Int) = false := by
      intro m
      induction m with
      | zero =>
        obtain ⟨k, h1, h2⟩ := ho
        exact ⟨k, h1, h2, by simp [walkB]⟩
      | succ m ih =>
        obtain ⟨k, h1, h2, h3⟩ := ih
        have hk := h k h1
        unfold redy at hk
        rw [h2, Bool.true_and] at hk
        have hc := of_decide_eq_false hk
        have hj : ∃ j, j < a.length ∧ fed a o k j = true := by
          rcases first_or (fed a o k) a.length with ⟨j, j1, j2, _⟩ | hn
          · exact ⟨j, j1, j2⟩
          · exact absurd ((cnt_zero _ _).2 hn) hc
        obtain ⟨j, j1, j2⟩ := hj
        unfold fed at j2
        rw [Bool.and_eq_true, beq_iff_eq] at j2
        refine ⟨j, j1, j2.2, ?_⟩
        have hn : decide (((j : Nat) : Int) < 0) = false := by simp only [decide_eq_false_iff_not]; omega
        simp only [walkB, hn, cond_false, Int.toNat_natCast, j2.1]
        exact h3
    obtain ⟨k, h1, h2, h3⟩ := key (a.length + 1)
    have := walks_at hw (i := (k : Int)) (by omega) (by omega)
    rw [h3] at this; cases this
/-! ### The reference's rounds -/
def lft (a o : List Int) : List Int := (List.range a.length).map fun k => if opn o k = true then ((cnt (fed a o k) a.length : Nat) : Int) else -1
def closedO (a o : List Int) : Prop := ∀ t j, t < a.length → j < a.length → opn o t = false → a.getD j 0 = (t : Int) → opn o j = false
theorem lft_at (a o : List Int) {k : Nat} (h : k < a.length) : (lft a o).getD k 0 = if opn o k = true then ((cnt (fed a o k) a.length : Nat) : Int) else -1 := map_getD _ h
theorem lft_zero (a o : List Int) {k : Nat} (h : k < a.length) : ((lft a o).getD k 0 != 0) = !redy a o k := by
  rw [lft_at a o h]
  unfold redy
  cases opn o k with
  | false => simp
  | true =>
    simp only [if_true, Bool.true_and]
    by_cases e : cnt (fed a o k) a.length = 0
    · rw [e]; simp
    · rw [decide_eq_false e, Bool.not_false, bne_iff_ne]; omega
theorem lft_len (a o : List Int) : (lft a o).length = a.length := by simp [lft]
theorem P_l11 (a : List Int) (b : List Dam) (c o : List Int) (i : Nat) (hi : i < a.length) (hn : a.length ≤ 12) (hr : redy a o i = true) (hf : ∀ k, k < i → redy a o k = false) (m : Int) :
    sl06Order_l11 a b c m 0 (lft a o) o = some (a, b, c, m, (i : Int), lft a o, o) := by
  refine runL_steps (f := fun s : Int => (sl06Order_l11_t a b c m (lft a o) o s).sem) i 0 (fun k => (k : Int)) (fun k _ hk => ?_) ?_
  · have hk : k < i := by omega
    have hz := lft_zero a o (show k < a.length by omega)
    rw [hf k hk] at hz
    simp only [sl06Order_l11_t, Tr.sem, zeroLe, Bool.true_and, ltRange (show k < (lft a o).length by rw [lft_len]; omega), cond_true, Int.toNat_natCast, hz, Bool.not_false]
    rw [wrap_id (by omega) (by omega)]; rfl
  · have hz := lft_zero a o hi
    rw [hr] at hz
    simp only [Nat.zero_add, sl06Order_l11_t, Tr.sem, zeroLe, Bool.true_and, ltRange (show i < (lft a o).length by rw [lft_len]; omega), cond_true, Int.toNat_natCast, hz, Bool.not_true, cond_false]
theorem lft_step (a o : List Int) (i : Nat) (hg : goodD a) (hi : i < a.length) (hr : redy a o i = true) (hc : closedO a o) :
    (0 ≤ a.getD i 0 → ∃ t : Nat, a.getD i 0 = (t : Int) ∧ t < a.length ∧ ((lft a o).set i (-1)).set t (((lft a o).set i (-1)).getD t 0 - 1) = lft a (o ++ [(i : Int)]) ∧ 1 ≤ ((lft a o).set i (-1)).getD t 0 ∧ ((lft a o).set i (-1)).getD t 0 ≤ a.length) ∧
    (¬ 0 ≤ a.getD i 0 → (lft a o).set i (-1) = lft a (o ++ [(i : Int)])) ∧ closedO a (o ++ [(i : Int)]) := by
  have hr2 := hr
  unfold redy at hr2
  rw [Bool.and_eq_true] at hr2
  have hop := hr2.1
  have hz := (cnt_zero _ _).1 (of_decide_eq_true hr2.2)
  have e1 : (lft a o).set i (-1) = (List.range a.length).map fun k => if k = i then -1 else if opn o k = true then ((cnt (fed a o k) a.length : Nat) : Int) else -1 := by
    unfold lft
    exact map_set _ _ _ (fun k hk => rfl)
  have same : ∀ k, k < a.length → k ≠ i → a.getD i 0 ≠ (k : Int) → cnt (fed a (o ++ [(i : Int)]) k) a.length = cnt (fed a o k) a.length := by
    intro k hk hki hak
    refine cnt_congr _ (fun j hj => ?_)
    unfold fed
    rw [opn_app]
    by_cases e : j = i
    · subst e
      have : (a.getD j 0 == (k : Int)) = false := by rw [beq_eq_false_iff_ne]; exact hak
      rw [this]; rfl
    · rw [decide_eq_true e, Bool.and_true]
  refine ⟨fun h0 => ?_, fun h0 => ?_, ?_⟩
  · have hgi := goodD_at hg hi
    refine ⟨(a.getD i 0).toNat, by omega, by omega, ?_⟩
    generalize ht : (a.getD i 0).toNat = t
    have hat : a.getD i 0 = (t : Int) := by omega
    have htl : t < a.length := by omega
    have hti : t ≠ i := by
      intro e; subst e
      have := hz t hi
      unfold fed at this
      rw [hat, hop] at this; simp at this
    have hot : opn o t = true := by
      cases h : opn o t with
      | true => rfl
      | false =>
        have := hc t i htl hi h hat
        rw [hop] at this; cases this
    have hfi : fed a o t i = true := by unfold fed; rw [hat, hop]; simp
    have hdrop : cnt (fed a (o ++ [(i : Int)]) t) a.length + 1 = cnt (fed a o t) a.length := cnt_drop hfi a.length hi (fun j hj => by
      unfold fed; rw [opn_app, Bool.and_assoc])
    have hv : ((lft a o).set i (-1)).getD t 0 = ((cnt (fed a o t) a.length : Nat) : Int) := by
      rw [e1, map_getD _ htl, if_neg hti, if_pos hot]
    have hle := cnt_le (fed a o t) a.length
    rw [hv]
    refine ⟨?_, by omega, by omega⟩
    rw [e1]
    unfold lft
    refine map_set _ _ _ (fun k hk => ?_)
    rw [opn_app]
    by_cases e : k = t
    · subst e
      rw [if_pos rfl, hot, decide_eq_true hti, Bool.and_true, if_pos rfl]; omega
    · rw [if_neg e]
      by_cases e2 : k = i
      · subst e2; rw [if_pos rfl]; simp
      · rw [if_neg e2, decide_eq_true e2, Bool.and_true, same k hk e2 (by rw [hat]; omega)]
  · rw [e1]
    unfold lft
    refine List.map_congr_left (fun k hk => ?_)
    have hk := List.mem_range.1 hk
    rw [opn_app]
    by_cases e2 : k = i
    · subst e2; rw [if_pos rfl]; simp
    · rw [if_neg e2, decide_eq_true e2, Bool.and_true, same k hk e2 (by omega)]
  · intro t j ht hj h1 h2
    rw [opn_app] at h1 ⊢
    by_cases e : t = i
    · subst e
      have := hz j hj
      unfold fed at this
      rw [h2] at this
      simp only [beq_self_eq_true, Bool.true_and] at this
      rw [this]; rfl
    · rw [decide_eq_true e, Bool.and_true] at h1
      rw [hc t j ht hj h1 h2]; rfl
theorem P_sround (a : List Int) (b : List Dam) (c o : List Int) (i : Nat) (hg : goodD a) (hn : a.length ≤ 12) (ho : o.length < a.length) (hi : i < a.length) (hr : redy a o i = true) (hf : ∀ k, k < i → redy a o k = false) (hc : closedO a o) :
    (sl06Order_l9_t a b c (a.length : Int) (lft a o) o).sem = some (.inl (a, b, c, (a.length : Int), lft a (o ++ [(i : Int)]), o ++ [(i : Int)])) := by
  have h11 := P_l11 a b c o i hi hn hr hf (a.length : Int)
  obtain ⟨s1, s2, _⟩ := lft_step a o i hg hi hr hc
  have hl : i < (lft a o).length := by rw [lft_len]; exact hi
  have hfit : decide ((o.length + List.length [(i : Int)]) * 8 ≤ 140737488355328) = true := by simp only [List.length_cons, List.length_nil, decide_eq_true_eq]; omega
  by_cases h0 : 0 ≤ a.getD i 0
  · obtain ⟨t, t1, t2, t3, t4, t5⟩ := s1 h0
    have ht0 : decide (((t : Nat) : Int) ≥ 0) = true := by simp
    simp only [sl06Order_l9_t, Tr.sem, ltRange ho, h11, osome, oget, cond_true, zeroLe, ltRange hi, ltRange hl, Bool.and_self, Int.toNat_natCast, t1, ht0, List.length_set, ltRange (show t < (lft a o).length by rw [lft_len]; exact t2), hfit]
    rw [wrap_id (by omega) (by omega), t3]
  · have h0' : decide (a.getD i 0 ≥ 0) = false := by simp only [decide_eq_false_iff_not]; exact h0
    simp only [sl06Order_l9_t, Tr.sem, ltRange ho, h11, osome, oget, cond_true, zeroLe, ltRange hi, ltRange hl, Bool.and_self, Int.toNat_natCast, h0', cond_false, hfit]
    rw [s2 h0]
/-! ### The program's rounds -/
theorem P_i9 (a : List Int) (b : List Dam) (c o : List Int) (k : Nat) (y2 y3 y4 y5 : Int) (hn : a.length ≤ 12) (ho : o.length ≤ 12) : iRiver_flowOrder_l9 (k : Int) (opn o k) y2 y3 y4 y5 a (a.length : Int) 0 a b c o = some ((k : Int), redy a o k, y2, y3, y4, y5, a, b, c, o) := by
  have := runL_steps (f := fun s : Bool × Int => (iRiver_flowOrder_l9_t (k : Int) y2 y3 y4 y5 a (a.length : Int) a b c o s.1 s.2).sem) (r := ((k : Int), redy a o k, y2, y3, y4, y5, a, b, c, o)) a.length 0 (fun j => (opn o k && decide (cnt (fed a o k) j = 0), (j : Int))) (fun j _ hj => by
    have hj : j < a.length := by omega
    simp only [iRiver_flowOrder_l9_t, Tr.sem, ltRange hj, zeroLe, Bool.and_self, cond_true, Int.toNat_natCast]
    rw [wrap_id (by omega) (by omega)]
    have hc := Q_contains o (j : Int) (by omega)
    cases h1 : opn o k && decide (cnt (fed a o k) j = 0) with
    | false =>
      have : (opn o k && decide (cnt (fed a o k) (j + 1) = 0)) = false := by
        cases h2 : opn o k with
        | false => rfl
        | true =>
          rw [h2, Bool.true_and] at h1
          rw [Bool.true_and]
          have := of_decide_eq_false h1
          refine decide_eq_false ?_
          simp only [cnt]; omega
      rw [this]; rfl
    | true =>
      rw [Bool.and_eq_true] at h1
      have hz := of_decide_eq_true h1.2
      have e : (opn o k && decide (cnt (fed a o k) (j + 1) = 0)) = !fed a o k j := by
        have hc1 : cnt (fed a o k) (j + 1) = (fed a o k j).toNat := by simp only [cnt]; omega
        rw [h1.1, Bool.true_and, hc1]
        cases fed a o k j <;> rfl
      rw [e]
      simp only [cond_true, hc, osome, oget]
      unfold fed opn
      by_cases e2 : a.getD j 0 = (k : Int)
      · rw [e2]; simp only [bne_self_eq_false, cond_false, beq_self_eq_true, Bool.true_and, Bool.not_not]; rfl
      · have h3 : (a.getD j 0 != (k : Int)) = true := by rw [bne_iff_ne]; exact e2
        have h4 : (a.getD j 0 == (k : Int)) = false := by rw [beq_eq_false_iff_ne]; exact e2
        rw [h3, h4]; rfl) (by
    simp only [Nat.zero_add, iRiver_flowOrder_l9_t, Tr.sem, not_lt_self, cond_false]; rfl)
  simp only [cnt, decide_true, Bool.and_true] at this
  exact this
theorem P_i5 (a : List Int) (b : List Dam) (c o : List Int) (y0 y1 : Int) (i : Nat) (hn : a.length ≤ 12) (ho : o.length ≤ 12) (hi : i < a.length) (hr : redy a o i = true) (hf : ∀ k, k < i → redy a o k = false) :
    iRiver_flowOrder_l5 y0 y1 (a.length : Int) 0 a b c o = some (y0, y1, a, b, c, o ++ [(i : Int)]) := by
  have hfit : decide ((o.length + List.length [(i : Int)]) * 8 ≤ 140737488355328) = true := by simp only [List.length_cons, List.length_nil, decide_eq_true_eq]; omega
  refine runL_steps (f := fun s : Int × Int × Int × Int × List Int × (List (Int × Int × Int × Int)) × List Int × List Int => (iRiver_flowOrder_l5_t s.1 s.2.1 s.2.2.1 s.2.2.2.1 s.2.2.2.2.1 s.2.2.2.2.2.1 s.2.2.2.2.2.2.1 s.2.2.2.2.2.2.2).sem) i 0 (fun k => (y0, y1, (a.length : Int), (k : Int), a, b, c, o)) (fun k _ hk => ?_) ?_
  · have hk : k < i := by omega
    have h9 := P_i9 a b c o k y0 y1 (a.length : Int) (k : Int) hn ho
    unfold opn at h9
    simp only [iRiver_flowOrder_l5_t, Tr.sem, ltRange (show k < a.length by omega), Q_contains o (k : Int) (by omega), h9, osome, oget, cond_true, hf k hk, cond_false]
    rw [wrap_id (by omega) (by omega)]; rfl
  · have h9 := P_i9 a b c o i y0 y1 (a.length : Int) (i : Int) hn ho
    unfold opn at h9
    simp only [Nat.zero_add, iRiver_flowOrder_l5_t, Tr.sem, ltRange hi, Q_contains o (i : Int) (by omega), h9, osome, oget, cond_true, hr, hfit]
/-! ### Both -/
theorem P_rounds (a : List Int) (b : List Dam) (c : List Int) (hg : goodD a) (hw : walksB a = true) (hn : a.length ≤ 12) : ∀ (m : Nat) (o : List Int), o.length + m = a.length → cnt (opn o) a.length = m → closedO a o →
    ∃ r, runL (fun s : List Int × (List (Int × Int × Int × Int)) × List Int × Int × List Int × List Int => (sl06Order_l9_t s.1 s.2.1 s.2.2.1 s.2.2.2.1 s.2.2.2.2.1 s.2.2.2.2.2).sem) (a, b, c, (a.length : Int), lft a o, o) = some r ∧ runL (fun s : Int × Int × List Int × (List (Int × Int × Int × Int)) × List Int × List Int => (iRiver_flowOrder_l3_t s.1 s.2.1 s.2.2.1 s.2.2.2.1 s.2.2.2.2.1 s.2.2.2.2.2).sem) ((a.length : Int), (o.length : Int), a, b, c, o) = some r ∧ r.length = a.length
  | 0, o, hl, hm, hc => by
    have he : o.length = a.length := by omega
    refine ⟨o, runL_out ?_, runL_out ?_, he⟩
    · simp only [sl06Order_l9_t, Tr.sem, he, not_lt_self, cond_false]
    · simp only [iRiver_flowOrder_l3_t, Tr.sem, he, not_lt_self, cond_false]
  | m + 1, o, hl, hm, hc => by
    have hop : ∃ k, k < a.length ∧ opn o k = true := by
      rcases first_or (opn o) a.length with ⟨k, k1, k2, _⟩ | h
      · exact ⟨k, k1, k2⟩
      · rw [(cnt_zero _ _).2 h] at hm; omega
    obtain ⟨i0, j1, j2⟩ := some_ready a o hg hw hop
    have hfst : ∃ i, i < a.length ∧ redy a o i = true ∧ ∀ k, k < i → redy a o k = false := by
      rcases first_or (redy a o) a.length with h | h
      · exact h
      · rw [h i0 j1] at j2; cases j2
    obtain ⟨i, hi, hr, hf⟩ := hfst
    have hoi : opn o i = true := by unfold redy at hr; rw [Bool.and_eq_true] at hr; exact hr.1
    have hm' : cnt (opn (o ++ [(i : Int)])) a.length = m := by
      have := cnt_drop (q := opn (o ++ [(i : Int)])) hoi a.length hi (fun j hj => opn_app o i j)
      omega
    have hl' : (o ++ [(i : Int)]).length = o.length + 1 := by simp
    obtain ⟨r, r1, r2, r3⟩ := P_rounds a b c hg hw hn m (o ++ [(i : Int)]) (by omega) hm' (lft_step a o i hg hi hr hc).2.2
    refine ⟨r, (runL_in (s' := (a, b, c, (a.length : Int), lft a (o ++ [(i : Int)]), o ++ [(i : Int)])) (P_sround a b c o i hg hn (by omega) hi hr hf hc)).trans r1, (runL_in (s' := ((a.length : Int), ((o ++ [(i : Int)]).length : Int), a, b, c, o ++ [(i : Int)])) ?_).trans r2, r3⟩
    have h5 := P_i5 a b c o (a.length : Int) (o.length : Int) i hn (by omega) hi hr hf
    simp only [iRiver_flowOrder_l3_t, Tr.sem, ltRange (show o.length < a.length by omega), h5, osome, oget, cond_true]
    rw [wrap_id (by omega) (by omega), hl']; rfl
/-! ### The first counts -/
def ups (a : List Int) (k j : Nat) : Bool := a.getD j 0 == (k : Int)
theorem P_l4 (a : List Int) (b : List Dam) (c : List Int) (hg : goodD a) (hn : a.length ≤ 12) : sl06Order_l4 a b c (a.length : Int) 0 (List.replicate a.length 0) = some (a, b, c, (a.length : Int), (List.range a.length).map fun k => ((cnt (ups a k) a.length : Nat) : Int)) := by
  have := runL_steps (f := fun s : Int × List Int => (sl06Order_l4_t a b c (a.length : Int) s.1 s.2).sem) (r := (a, b, c, (a.length : Int), (List.range a.length).map fun k => ((cnt (ups a k) a.length : Nat) : Int))) a.length 0 (fun j => ((j : Int), (List.range a.length).map fun k => ((cnt (ups a k) j : Nat) : Int))) (fun j _ hj => by
    have hj : j < a.length := by omega
    have hgj := goodD_at hg hj
    by_cases h0 : 0 ≤ a.getD j 0
    · obtain ⟨t, ht⟩ : ∃ t : Nat, a.getD j 0 = (t : Int) := ⟨(a.getD j 0).toNat, by omega⟩
      have htl : t < a.length := by omega
      have ht0 : decide (((t : Nat) : Int) ≥ 0) = true := by simp
      have hle := cnt_le (ups a t) j
      simp only [sl06Order_l4_t, Tr.sem, ltRange hj, zeroLe, Bool.and_self, cond_true, Int.toNat_natCast, ht, ht0, List.length_map, List.length_range, ltRange htl, map_getD _ htl]
      rw [wrap_id (by omega) (by omega), wrap_id (by omega) (by omega)]
      congr 3
      refine map_set _ _ _ (fun k hk => ?_)
      simp only [cnt]
      unfold ups
      rw [ht]
      by_cases e : k = t
      · subst e; rw [if_pos rfl]; simp
      · rw [if_neg e]
        have : (((t : Nat) : Int) == (k : Int)) = false := by rw [beq_eq_false_iff_ne]; omega
        rw [this]; simp
    · have h0' : decide (a.getD j 0 ≥ 0) = false := by simp only [decide_eq_false_iff_not]; exact h0
      simp only [sl06Order_l4_t, Tr.sem, ltRange hj, zeroLe, Bool.and_self, cond_true, Int.toNat_natCast, h0', cond_false]
      rw [wrap_id (by omega) (by omega)]
      congr 3
      refine List.map_congr_left (fun k hk => ?_)
      simp only [cnt]
      have : ups a k j = false := by unfold ups; rw [beq_eq_false_iff_ne]; omega
      rw [this]; simp) (by
    simp only [Nat.zero_add, sl06Order_l4_t, Tr.sem, not_lt_self, cond_false])
  have e0 : ((List.range a.length).map fun k => ((cnt (ups a k) 0 : Nat) : Int)) = List.replicate a.length 0 := by
    refine List.ext_getElem (by simp) (fun k h1 h2 => ?_)
    simp [cnt]
  simp only [e0] at this
  exact this
theorem P_order (a : List Int) (b : List Dam) (c : List Int) (hv : rivB a b c = true) : ∃ r, sl06Order a b c = some r ∧ iRiver_flowOrder a b c = some r ∧ r.length = a.length := by
  obtain ⟨hg, p2, hn, hw, p5, p6, p7, p8⟩ := riv_parts hv
  have hopen : ∀ k, opn [] k = true := fun k => rfl
  have hall : cnt (opn []) a.length = a.length := by
    have : ∀ n, cnt (opn []) n = n := by
      intro n
      induction n with
      | zero => rfl
      | succ n ih => simp only [cnt]; rw [ih, hopen]; rfl
    exact this _
  obtain ⟨r, r1, r2, r3⟩ := P_rounds a b c hg hw hn a.length [] (by simp) hall (fun t j _ _ h => by rw [hopen] at h; cases h)
  have hl0 : (List.range a.length).map (fun k => ((cnt (ups a k) a.length : Nat) : Int)) = lft a [] := by
    unfold lft
    refine List.map_congr_left (fun k hk => ?_)
    rw [if_pos (hopen k)]
    congr 1
    refine cnt_congr _ (fun j hj => ?_)
    unfold ups fed
    rw [hopen, Bool.and_true]
  have h4 := P_l4 a b c hg hn
  rw [hl0] at h4
  have r1' : sl06Order_l9 a b c (a.length : Int) (lft a []) [] = some r := r1
  have r2' : iRiver_flowOrder_l3 (a.length : Int) 0 a b c [] = some r := r2
  refine ⟨r, ?_, ?_, r3⟩
  · unfold sl06Order sl06Order_t
    refine (brT (mk8 (by omega))).trans ?_
    simp only [Int.toNat_natCast, h4, r1', Tr.sem, osome, oget, cond_true]
  · unfold iRiver_flowOrder iRiver_flowOrder_t
    simp only [r2', Tr.sem, osome, oget, cond_true]
theorem P_flowOrder (a : List Int) (b : List Dam) (c : List Int) (hb : b.length ≤ 9223372036854775807) (hc : c.length ≤ 9223372036854775807) : ∃ r : Unit ⊕ List Int, sFlowOrder a b c = some r ∧ iFlowOrder a b c = some r ∧ ∀ l, r = .inr l → l.length ≤ 1048576 := by
  unfold sFlowOrder sFlowOrder_t iFlowOrder iFlowOrder_t
  simp only [Q_valid a b c hb hc, Q_is, Tr.sem, osome, oget, cond_true]
  cases hv : rivB a b c with
  | false => exact ⟨.inl (), rfl, rfl, (fun l h => by cases h)⟩
  | true =>
    obtain ⟨r, r1, r2, r3⟩ := P_order a b c hv
    have hn := (riv_parts hv).2.2.1
    simp only [r1, r2, Bool.not_true, cond_false, osome, oget, cond_true]
    exact ⟨.inr r, rfl, rfl, (fun l h => by cases h; omega)⟩
theorem pureFnExactFlowOrder (a : List Int) (b : List Dam) (c : List Int) (ha : a.length ≤ 9223372036854775807) (hb : b.length ≤ 9223372036854775807) (hc : c.length ≤ 9223372036854775807) : wFnExactFlowOrder a b c = some true := by
  unfold wFnExactFlowOrder wFnExactFlowOrder_t
  cases hz : decide (wszRiver a b c 1048576 < 0) with
  | true => rfl
  | false =>
    obtain ⟨h1, h2, h3⟩ := Q_sizes a b c ha hb hc hz
    obtain ⟨r, s1, s2, hq⟩ := P_flowOrder a b c hb hc
    obtain ⟨k, hm, hm0⟩ := Q_markR a b c h1 h2 h3
    refine (brF rfl).trans ?_
    simp only [Q_toR a b c h1 h2 h3, Q_eqR a b c h1 h2 h3, s1, s2, hm, hm0, Tr.sem, osome, oget, cond_true, Bool.not_true, cond_false, Q_eqnil, Q_nil, Q_heldnil, beq_self_eq_true, bne_self_eq_false]
    cases r with
    | inl u => simp [isL]
    | inr l =>
      have hl := hq l rfl
      have hd : decide (1 + (l.length : Int) < 0) = false := by simp only [decide_eq_false_iff_not]; omega
      simp only [isL, unR, cond_false, Q_eq l hl, Q_mark l hl, Q_held l.length hl, hd, Bool.not_true, cond_true, bne_self_eq_false]
end Go.Proofs.Ytjohnpldkanjmaa
