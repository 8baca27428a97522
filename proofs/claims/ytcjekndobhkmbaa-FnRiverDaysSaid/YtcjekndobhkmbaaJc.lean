/- A day of a river, as the program tells it. -/
import Derived.Test.YtcjekndobhkmbaaJb
set_option linter.unusedVariables false
set_option linter.unusedSimpArgs false
set_option linter.constructorNameAsVariable false
namespace Go.Proofs.Ytcjekndobhkmbaa
open Go.RowKit
set_option maxRecDepth 100000
theorem OrdS.at {a r : List Int} (h : OrdS a r) : ∀ k, k < r.length → ∃ i : Nat, i < a.length ∧ r.getD k 0 = (i : Int) ∧ redy a (r.take k) i = true ∧ OrdS a (r.take k) := by
  induction h with
  | nil => intro k hk; simp at hk
  | snoc o i ho hi hr ih =>
    intro k hk
    by_cases e : k = o.length
    · subst e
      refine ⟨i, hi, ?_, ?_, ?_⟩
      · rw [List.getD_eq_getElem?_getD, List.getElem?_append_right (Nat.le_refl _), Nat.sub_self]; rfl
      · rw [List.take_append_of_le_length (Nat.le_refl _), List.take_length]; exact hr
      · rw [List.take_append_of_le_length (Nat.le_refl _), List.take_length]; exact ho
    · have hk' : k < o.length := by simp at hk; omega
      obtain ⟨j, h1, h2, h3, h4⟩ := ih k hk'
      refine ⟨j, h1, ?_, ?_, ?_⟩
      · rw [List.getD_eq_getElem?_getD, List.getElem?_append_left hk', ← List.getD_eq_getElem?_getD]; exact h2
      · rw [List.take_append_of_le_length (by omega)]; exact h3
      · rw [List.take_append_of_le_length (by omega)]; exact h4
theorem up2 {k : Nat} (h : k ≤ 1048576) : IntKind.wrap .i64 ((k : Int) + 1) = ((k + 1 : Nat) : Int) := by rw [wrap_id (by omega) (by omega)]; omega
theorem ord_cnt {a r : List Int} (h : OrdS a r) : r.length + cnt (opn r) a.length = a.length := by
  induction h with
  | nil =>
    have : ∀ n, cnt (opn []) n = n := fun n => by
      induction n with
      | zero => rfl
      | succ n ih => simp only [cnt, ih]; rfl
    rw [this]; simp
  | snoc o i ho hi hr ih =>
    have hop : opn o i = true := by unfold redy at hr; rw [Bool.and_eq_true] at hr; exact hr.1
    have := cnt_drop (q := opn (o ++ [(i : Int)])) hop a.length hi (fun j hj => opn_app o i j)
    simp only [List.length_append, List.length_cons, List.length_nil]; omega
theorem ord_len {a r : List Int} (h : OrdS a r) (hn : a.length ≤ 12) : r.length ≤ 1048576 := by
  have := ord_cnt h; omega
theorem J_l6 {a c r : List Int} {D : List Dam} {C G L : List Int} {T : Int} (hg : goodD a) (hn : a.length ≤ 12) (hc0 : ∀ j, j < a.length → 0 ≤ c.getD j 0 ∧ c.getD j 0 ≤ 1000000000) (hcl : c.length = a.length) (hr : OrdS a r) (hT : T ≤ 1000000000000) (h0 : DayI a c D C G L [] T) (y3 : List Dam) (y5 y7 : List Int) :
    ∃ D' C' G' L', iDayOf_l6 (r.length : Nat) 0 a y3 c y5 D y7 C G L r = some (y5, D', y7, G', L') ∧ DayI a c D' C' G' L' r T := by
  obtain ⟨res, h1, D', C', G', L', h2, h3⟩ := runL_ex0 (f := fun s : Int × (List (Int × Int × Int × Int)) × List Int × List Int × List Int => (iDayOf_l6_t (r.length : Nat) a y3 c y5 y7 r s.1 s.2.1 s.2.2.1 s.2.2.2.1 s.2.2.2.2).sem) r.length
    (fun k s => ∃ D C G L, s = ((k : Int), D, C, G, L) ∧ DayI a c D C G L (r.take k) T) (fun res => ∃ D' C' G' L', res = (y5, D', y7, G', L') ∧ DayI a c D' C' G' L' r T) (0, D, C, G, L) ⟨D, C, G, L, rfl, by rw [List.take_zero]; exact h0⟩ (fun k s hk ⟨D, C, G, L, hs, hI⟩ => by
      subst hs
      obtain ⟨i, i1, i2, i3, i4⟩ := hr.at k hk
      obtain ⟨s1, s2, s3⟩ := day_step hI hg (fun j hj => (hc0 j hj).1) i1 i3 i4.closed
      have htk : r.take (k + 1) = r.take k ++ [(i : Int)] := by rw [take_succ r k 0 hk, i2]
      have hC := hI.nC i i1
      have hd := hI.dam i i1
      have hdp := dam_parts hd
      have hci := hc0 i i1
      obtain ⟨n1, n2, n3, n4, n5, n6, n7, n8, n9, n10⟩ := node_ok hC hci.1 hd
      have lD := hI.lD
      have lC := hI.lC
      have lG := hI.lG
      have lL := hI.lL
      have xle : xxN (C.getD i 0) (c.getD i 0) (D.getD i z4) ≤ 1000000000000 := by unfold xxN; omega
      have r1 := ltRange (show i < D.length by omega)
      have r2 := ltRange (show i < C.length by omega)
      have r3 := ltRange (show i < c.length by omega)
      have r4 := ltRange (show i < G.length by omega)
      have r5 := ltRange (show i < L.length by omega)
      have r6 := ltRange i1
      have e1 : IntKind.wrap .i64 (C.getD i 0 + (D.getD i z4).2.2.2) = C.getD i 0 + (D.getD i z4).2.2.2 := wrap_id (by omega) (by omega)
      have e2 : IntKind.wrap .i64 (C.getD i 0 + (D.getD i z4).2.2.2 - (D.getD i z4).2.1) = C.getD i 0 + (D.getD i z4).2.2.2 - (D.getD i z4).2.1 := wrap_id (by omega) (by omega)
      have e3 : imax (imin (c.getD i 0) (C.getD i 0 + (D.getD i z4).2.2.2 - (D.getD i z4).2.1)) 0 = gvN (C.getD i 0) (c.getD i 0) (D.getD i z4) := rfl
      have e4 : (G.set i (gvN (C.getD i 0) (c.getD i 0) (D.getD i z4))).getD i 0 = gvN (C.getD i 0) (c.getD i 0) (D.getD i z4) := by rw [setD (by omega), if_pos rfl]
      have e5 : IntKind.wrap .i64 (C.getD i 0 + (D.getD i z4).2.2.2 - gvN (C.getD i 0) (c.getD i 0) (D.getD i z4)) = xxN (C.getD i 0) (c.getD i 0) (D.getD i z4) := wrap_id (by show _ ≤ xxN _ _ _; omega) (by show xxN _ _ _ ≤ _; omega)
      have e6 : IntKind.wrap .i64 (xxN (C.getD i 0) (c.getD i 0) (D.getD i z4) - (D.getD i z4).2.1) = xxN (C.getD i 0) (c.getD i 0) (D.getD i z4) - (D.getD i z4).2.1 := wrap_id (by omega) (by omega)
      have e7 : imax (imin (D.getD i z4).2.2.1 (xxN (C.getD i 0) (c.getD i 0) (D.getD i z4) - (D.getD i z4).2.1)) 0 = onN (C.getD i 0) (c.getD i 0) (D.getD i z4) := rfl
      have e8 : IntKind.wrap .i64 (xxN (C.getD i 0) (c.getD i 0) (D.getD i z4) - onN (C.getD i 0) (c.getD i 0) (D.getD i z4)) = lfN (C.getD i 0) (c.getD i 0) (D.getD i z4) := wrap_id (by show _ ≤ lfN _ _ _; omega) (by show lfN _ _ _ ≤ _; omega)
      have e9 : imin (lfN (C.getD i 0) (c.getD i 0) (D.getD i z4)) (D.getD i z4).1 = nwN (C.getD i 0) (c.getD i 0) (D.getD i z4) := rfl
      have e10 : (D.set i ((D.getD i z4).1, (D.getD i z4).2.1, (D.getD i z4).2.2.1, nwN (C.getD i 0) (c.getD i 0) (D.getD i z4))).getD i z4 = ((D.getD i z4).1, (D.getD i z4).2.1, (D.getD i z4).2.2.1, nwN (C.getD i 0) (c.getD i 0) (D.getD i z4)) := by rw [setD (by omega), if_pos rfl]
      have e11 : IntKind.wrap .i64 (onN (C.getD i 0) (c.getD i 0) (D.getD i z4) + lfN (C.getD i 0) (c.getD i 0) (D.getD i z4)) = onN (C.getD i 0) (c.getD i 0) (D.getD i z4) + lfN (C.getD i 0) (c.getD i 0) (D.getD i z4) := wrap_id (by omega) (by omega)
      have e12 : IntKind.wrap .i64 (onN (C.getD i 0) (c.getD i 0) (D.getD i z4) + lfN (C.getD i 0) (c.getD i 0) (D.getD i z4) - nwN (C.getD i 0) (c.getD i 0) (D.getD i z4)) = lvN (C.getD i 0) (c.getD i 0) (D.getD i z4) := wrap_id (by show _ ≤ lvN _ _ _; omega) (by show lvN _ _ _ ≤ _; unfold lvN; omega)
      have e13 : (L.set i (lvN (C.getD i 0) (c.getD i 0) (D.getD i z4))).getD i 0 = lvN (C.getD i 0) (c.getD i 0) (D.getD i z4) := by rw [setD (by omega), if_pos rfl]
      simp only [iDayOf_l6_t, Tr.sem, ltRange hk, zeroLe, Bool.and_self, cond_true, Int.toNat_natCast, i2, r1, r2, r3, r4, r5, r6, List.length_set, e1, e2, e3, e4, e5, e6, e7, e8, e9, e10, e11, e12, e13, up2 (show k ≤ 1048576 from Nat.le_of_lt (Nat.lt_of_lt_of_le hk (ord_len hr hn)))]
      by_cases h0 : 0 ≤ a.getD i 0
      · obtain ⟨t, t1, t2, t3⟩ := s2 h0
        have hCt := hI.nC t t2
        have e14 : IntKind.wrap .i64 (C.getD t 0 + lvN (C.getD i 0) (c.getD i 0) (D.getD i z4)) = C.getD t 0 + lvN (C.getD i 0) (c.getD i 0) (D.getD i z4) := wrap_id (by omega) (by omega)
        have eC : stepC a D C c i = C.set t (C.getD t 0 + lvN (C.getD i 0) (c.getD i 0) (D.getD i z4)) := by
          unfold stepC; rw [if_pos h0, t1, Int.toNat_natCast]
        simp only [t1, decide_eq_true (show ((t : Nat) : Int) ≥ 0 by omega), ltRange (show t < C.length by omega), zeroLe, Bool.and_self, cond_true, Int.toNat_natCast, e14]
        exact ⟨_, rfl, _, _, _, _, rfl, by rw [htk]; rw [eC] at s1; exact s1⟩
      · have eC : stepC a D C c i = C := by unfold stepC; rw [if_neg h0]
        simp only [decide_eq_false (show ¬ (a.getD i 0 ≥ 0) by omega), cond_false]
        exact ⟨_, rfl, _, _, _, _, rfl, by rw [htk]; rw [eC] at s1; exact s1⟩) (fun s ⟨D, C, G, L, hs, hI⟩ => by
      subst hs
      exact ⟨_, by simp only [iDayOf_l6_t, Tr.sem, not_lt_self, cond_false], D, C, G, L, rfl, by rw [List.take_length] at hI; exact hI⟩)
  subst h2
  exact ⟨D', C', G', L', h1, h3⟩
theorem J_cloned (a : List Int) (b : List Dam) (c : List Int) (ha : a.length ≤ 1048576) (hb : b.length ≤ 1048576) (hc : c.length ≤ 1048576) : iRiver_cloned a b c = some (a, b, c) := by
  unfold iRiver_cloned iRiver_cloned_t
  have e1 : decide ((0 + List.length a) * 8 ≤ 140737488355328) = true := by simp only [decide_eq_true_eq]; omega
  have e2 : decide ((0 + List.length b) * 32 ≤ 140737488355328) = true := by simp only [decide_eq_true_eq]; omega
  have e3 : decide ((0 + List.length c) * 8 ≤ 140737488355328) = true := by simp only [decide_eq_true_eq]; omega
  exact (brT e1).trans ((brT e2).trans ((brT e3).trans rfl))
theorem J_clone (x : List Int) (h1 : 1 ≤ x.length) (h : x.length ≤ 1048576) : lClone x = some x := by
  unfold lClone lClone_t
  have e0 : (!List.isEmpty x) = true := by cases x <;> simp_all
  have e1 : decide ((0 + List.length x) * 8 ≤ 140737488355328) = true := by simp only [decide_eq_true_eq]; omega
  exact (brT e0).trans ((brF rfl).trans ((brT e1).trans rfl))
def nowS (b : List Dam) (n : Nat) : Int := sumN (fun j => (b.getD j z4).2.2.2) n
def seaS (a L : List Int) (n : Nat) : Int := sumN (fun j => if a.getD j 0 < 0 then L.getD j 0 else 0) n
/-- What a day is. -/
structure DayR (a : List Int) (b : List Dam) (c x : List Int) (D : List Dam) (G L : List Int) : Prop where
  riv : rivB a D c = true
  lG : G.length = a.length
  lL : L.length = a.length
  nG : ∀ j, j < a.length → 0 ≤ G.getD j 0 ∧ G.getD j 0 ≤ c.getD j 0
  nL : ∀ j, j < a.length → 0 ≤ L.getD j 0
  tot : nowS D a.length + isum G + seaS a L a.length = nowS b a.length + isum x
theorem riv_dams {a : List Int} {b D : List Dam} {c : List Int} (h : rivB a b c = true) (hl : D.length = a.length) (hd : ∀ j, j < a.length → damB (D.getD j z4) = true) : rivB a D c = true := by
  simp only [rivB, Bool.and_eq_true, decide_eq_true_eq] at h ⊢
  obtain ⟨⟨⟨⟨h1, h2⟩, h3⟩, ⟨h4, h5⟩, h6⟩, h7⟩ := h
  refine ⟨⟨⟨⟨h1, hl⟩, h3⟩, ⟨h4, h5⟩, ?_⟩, h7⟩
  rw [← all_range D z4, List.all_eq_true]
  exact fun j hj => hd j (by rw [← hl]; exact List.mem_range.1 hj)
theorem dam_at {a : List Int} {b : List Dam} {c : List Int} (h : rivB a b c = true) {j : Nat} (hj : j < a.length) : damB (b.getD j z4) = true := by
  obtain ⟨hg, h1, hn, hw, hb, hc, hcw, hbd⟩ := riv_parts h
  exact List.all_eq_true.1 hbd _ (getD_mem (by omega))
theorem want_at {a : List Int} {b : List Dam} {c : List Int} (h : rivB a b c = true) {j : Nat} (hj : j < a.length) : 0 ≤ c.getD j 0 ∧ c.getD j 0 ≤ 1000000000 := by
  obtain ⟨hg, h1, hn, hw, hb, hc, hcw, hbd⟩ := riv_parts h
  have := List.all_eq_true.1 hcw _ (getD_mem (d := 0) (show j < c.length by omega))
  simp only [win, Bool.and_eq_true, decide_eq_true_eq] at this
  exact this
theorem J_mk8 {n : Nat} (h : n ≤ 1048576) : (true && decide (0 ≤ ((n : Nat) : Int)) && decide (((n : Nat) : Int) * ((8 : Nat) : Int) ≤ 140737488355328)) = true := by
  simp only [Bool.true_and, Bool.and_eq_true, decide_eq_true_eq]; omega
/-- **A DAY**: nothing is lost. -/
theorem J_day {a : List Int} {b : List Dam} {c x : List Int} (hv : rivB a b c = true) (hx : x.length = a.length) (hxw : ∀ y ∈ x, 0 ≤ y ∧ y ≤ 1000000000) : ∃ D G L, iDayOf a b c x = some (.inr (a, D, c, G, L)) ∧ DayR a b c x D G L := by
  obtain ⟨hg, h1, hn, hw, hb, hc, hcw, hbd⟩ := riv_parts hv
  obtain ⟨r, o1, o2, o3, o4⟩ := J_order a b c hv
  have hin : iareWithin x 0 1000000000 = some true := by
    rw [Q_are x 0 1000000000 (by omega)]
    refine congrArg some (List.all_eq_true.2 fun y hy => ?_)
    simp only [win, Bool.and_eq_true, decide_eq_true_eq]; exact hxw y hy
  have hx0 : ∀ j, j < a.length → 0 ≤ x.getD j 0 ∧ x.getD j 0 ≤ 1000000000 := fun j hj => hxw _ (getD_mem (by omega))
  have z0 : ∀ j, (List.replicate a.length (0 : Int)).getD j 0 = 0 := fun j => by
    rw [List.getD_eq_getElem?_getD]
    by_cases h : j < a.length
    · rw [List.getElem?_replicate_of_lt h]; rfl
    · rw [List.getElem?_eq_none (by simp; omega)]; rfl
  have ht : sumN (phiD a b x (List.replicate a.length 0) (List.replicate a.length 0) []) a.length = nowS b a.length + isum x := by
    rw [← sumN_isum x, hx]
    unfold nowS
    rw [← sumN_add]
    refine sumN_congr _ (fun j hj => ?_)
    unfold phiD
    rw [z0, if_pos (show opn [] j = true from rfl)]; split <;> omega
  have hT : nowS b a.length + isum x ≤ 1000000000000 := by
    have q1 := sumN_bound (f := fun j => (b.getD j z4).2.2.2) (B := 1000000000) a.length (fun j hj => by have := dam_parts (dam_at hv hj); omega)
    have q2 := isum_le (l := x) (B := 1000000000) (fun y hy => (hxw y hy).2)
    unfold nowS
    omega
  have hI : DayI a c b x (List.replicate a.length 0) (List.replicate a.length 0) [] (nowS b a.length + isum x) := ⟨hb, hx, by simp, by simp, fun j hj => dam_at hv hj, fun j hj => (hx0 j hj).1, fun j hj => by rw [z0]; exact ⟨Int.le_refl _, (want_at hv hj).1⟩, fun j hj => by rw [z0]; exact Int.le_refl _, fun j hj _ => ⟨z0 j, z0 j⟩, ht⟩
  obtain ⟨D, C, G, L, l1, l2⟩ := J_l6 hg hn (fun j hj => want_at hv hj) hc o3 hT hI b a c
  have fin : nowS D a.length + isum G + seaS a L a.length = nowS b a.length + isum x := by
    rw [← l2.tot, ← sumN_isum G, l2.lG]
    unfold nowS seaS
    rw [← sumN_add, ← sumN_add]
    refine sumN_congr _ (fun j hj => ?_)
    unfold phiD
    rw [o4 j hj]; simp
  refine ⟨D, G, L, ?_, ⟨riv_dams hv l2.lD l2.dam, l2.lG, l2.lL, l2.nG, l2.nL, fin⟩⟩
  unfold iDayOf
  simp only [iDayOf_t, Q_valid a b c (by omega) (by omega), hv, hx, hin, J_cloned a b c (by omega) (by omega) (by omega), J_clone x (by omega) (by omega), o1, Tr.sem, osome, oget, cond_true, cond_false, Bool.not_true, bne_self_eq_false, J_mk8 (show a.length ≤ 1048576 by omega), decide_true, Int.toNat_natCast, l1]
end Go.Proofs.Ytcjekndobhkmbaa
