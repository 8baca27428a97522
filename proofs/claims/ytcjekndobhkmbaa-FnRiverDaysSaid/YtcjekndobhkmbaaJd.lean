/- Days of a river, one after another. -/
import Derived.Test.YtcjekndobhkmbaaJc
set_option linter.unusedVariables false
set_option linter.unusedSimpArgs false
set_option linter.constructorNameAsVariable false
namespace Go.Proofs.Ytcjekndobhkmbaa
open Go.RowKit
set_option maxRecDepth 100000
theorem up1 {k : Nat} (h : k ≤ 1048576) : IntKind.wrap .i64 ((k : Int) + 1) = ((k + 1 : Nat) : Int) := by rw [wrap_id (by omega) (by omega)]; omega
theorem fits8 {a : Nat} (h : a ≤ 1048576) (x : Int) : decide ((a + List.length [x]) * 8 ≤ 140737488355328) = true := by
  simp only [List.length_cons, List.length_nil, decide_eq_true_eq]; omega
theorem T_one (a y2 y3 : Int) (L : List (List Int)) (l : List Int) (ha : 0 ≤ a) (h : ∀ x ∈ l, 0 ≤ x) (hs : a + isum l ≤ 4611686018427387904) (hl : l.length ≤ 1048576) : itotal_l6 a L y2 y3 l (l.length : Nat) 0 = some (a + isum l, L, y2, y3) := by
  have key := runL_steps (f := fun q : Int × Int => (itotal_l6_t L y2 y3 l (l.length : Nat) q.1 q.2).sem) (r := (a + isum l, L, y2, y3)) l.length 0 (fun k => (a + isum (l.take k), (k : Int))) (fun j _ hj => by
    have hj : j < l.length := by omega
    have e := take_succ l j 0 hj
    have hb := isum_take h (j + 1)
    have hb0 := isum_take h j
    rw [e, isum_append] at hb
    simp only [isum] at hb
    simp only [itotal_l6_t, Tr.sem, ltRange hj, zeroLe, Bool.and_self, cond_true, Int.toNat_natCast, up1 (show j ≤ 1048576 by omega), e, isum_append, isum]
    rw [wrap_id (by omega) (by omega), show a + isum (l.take j) + l.getD j 0 = a + (isum (l.take j) + (l.getD j 0 + 0)) by omega]) (by
    rw [Nat.zero_add, List.take_length]; simp only [itotal_l6_t, Tr.sem, not_lt_self, cond_false])
  have e0 : isum (l.take 0) = 0 := by simp [isum]
  simp only [e0, Int.add_zero] at key
  exact key
def isums (L : List (List Int)) : Int := isum (L.map isum)
theorem T_total (L : List (List Int)) (h : ∀ l ∈ L, (∀ x ∈ l, 0 ≤ x) ∧ l.length ≤ 1048576) (hs : isums L ≤ 4611686018427387904) (hl : L.length ≤ 1048576) : itotal L = some (isums L) := by
  have hn : ∀ y ∈ L.map isum, 0 ≤ y := fun y hy => by obtain ⟨l, hl, rfl⟩ := List.mem_map.1 hy; exact isum_nonneg (h l hl).1
  have key := runL_steps (f := fun q : Int × List (List Int) × Int × Int => (itotal_l3_t q.1 q.2.1 q.2.2.1 q.2.2.2).sem) (r := isums L) L.length 0 (fun k => (isum ((L.map isum).take k), L, (L.length : Int), (k : Int))) (fun j _ hj => by
    have hj : j < L.length := by omega
    have e := take_succ (L.map isum) j 0 (by simpa using hj)
    have eg : (L.map isum).getD j 0 = isum (L.getD j []) := by
      simp only [List.getD_eq_getElem?_getD, List.getElem?_map, List.getElem?_eq_getElem hj]; rfl
    have hb := isum_take hn (j + 1)
    have hb0 := isum_take hn j
    rw [e, isum_append, eg] at hb
    simp only [isum] at hb
    have hm := h _ (getD_mem (d := []) hj)
    have h1 := T_one (isum ((L.map isum).take j)) (L.length : Nat) (j : Nat) L (L.getD j []) hb0.1 hm.1 (by unfold isums at hs; omega) hm.2
    simp only [itotal_l3_t, Tr.sem, ltRange hj, zeroLe, Bool.and_self, cond_true, Int.toNat_natCast, h1, osome, oget, up1 (show j ≤ 1048576 by omega), e, isum_append, eg, isum, Int.add_zero]) (by
    rw [Nat.zero_add, show ((L.map isum).take L.length) = L.map isum from by rw [List.take_of_length_le (by simp)]]; simp only [itotal_l3_t, Tr.sem, not_lt_self, cond_false]; rfl)
  have k0 : itotal_l3 0 L (L.length : Nat) 0 = some (isums L) := by
    have e0 : isum ((L.map isum).take 0) = 0 := by simp [isum]
    simp only [e0] at key
    exact key
  unfold itotal itotal_t
  simp only [k0, Tr.sem, osome, oget, cond_true]
theorem T_list (l : List Int) (h : ∀ x ∈ l, 0 ≤ x) (hs : isum l ≤ 4611686018427387904) (hl : l.length ≤ 1048576) : itotal [l] = some (isum l) := by
  have := T_total [l] (fun m hm => by rw [List.mem_singleton.1 hm]; exact ⟨h, hl⟩) (by simp [isums, isum]; omega) (by simp)
  rw [this]; simp [isums, isum]
def dayOk (a x : List Int) : Prop := x.length = a.length ∧ ∀ y ∈ x, 0 ≤ y ∧ y ≤ 1000000000
noncomputable def nD (a : List Int) (b : List Dam) (c x : List Int) : List Dam := (unR (oget (iDayOf a b c x))).2.1
noncomputable def nG (a : List Int) (b : List Dam) (c x : List Int) : List Int := (unR (oget (iDayOf a b c x))).2.2.2.1
noncomputable def nL (a : List Int) (b : List Dam) (c x : List Int) : List Int := (unR (oget (iDayOf a b c x))).2.2.2.2
theorem J_dayN {a : List Int} {b : List Dam} {c x : List Int} (hv : rivB a b c = true) (hx : dayOk a x) : iDayOf a b c x = some (.inr (a, nD a b c x, c, nG a b c x, nL a b c x)) ∧ DayR a b c x (nD a b c x) (nG a b c x) (nL a b c x) := by
  obtain ⟨D, G, L, h1, h2⟩ := J_day hv hx.1 hx.2
  have e1 : nD a b c x = D := by unfold nD; rw [h1]; rfl
  have e2 : nG a b c x = G := by unfold nG; rw [h1]; rfl
  have e3 : nL a b c x = L := by unfold nL; rw [h1]; rfl
  rw [e1, e2, e3]; exact ⟨h1, h2⟩
noncomputable def endD (a c : List Int) : List Dam → List (List Int) → List Dam
  | b, [] => b
  | b, x :: xs => endD a c (nD a b c x) xs
noncomputable def givD (a c : List Int) : List Dam → List (List Int) → List (List Int)
  | _, [] => []
  | b, x :: xs => nG a b c x :: givD a c (nD a b c x) xs
noncomputable def seaD (a c : List Int) : List Dam → List (List Int) → List Int
  | _, [] => []
  | b, x :: xs => seaS a (nL a b c x) a.length :: seaD a c (nD a b c x) xs
theorem end_snoc (a c : List Int) (x : List Int) : ∀ (xs : List (List Int)) (b : List Dam), endD a c b (xs ++ [x]) = nD a (endD a c b xs) c x
  | [], _ => rfl
  | y :: ys, b => end_snoc a c x ys (nD a b c y)
theorem giv_snoc (a c : List Int) (x : List Int) : ∀ (xs : List (List Int)) (b : List Dam), givD a c b (xs ++ [x]) = givD a c b xs ++ [nG a (endD a c b xs) c x]
  | [], _ => rfl
  | y :: ys, b => by simp only [List.cons_append, givD, endD]; rw [giv_snoc a c x ys (nD a b c y)]
theorem sea_snoc (a c : List Int) (x : List Int) : ∀ (xs : List (List Int)) (b : List Dam), seaD a c b (xs ++ [x]) = seaD a c b xs ++ [seaS a (nL a (endD a c b xs) c x) a.length]
  | [], _ => rfl
  | y :: ys, b => by simp only [List.cons_append, seaD, endD]; rw [sea_snoc a c x ys (nD a b c y)]
theorem giv_len (a c : List Int) : ∀ (xs : List (List Int)) (b : List Dam), (givD a c b xs).length = xs.length
  | [], _ => rfl
  | y :: ys, b => by simp only [givD, List.length_cons, giv_len a c ys]
theorem sea_len (a c : List Int) : ∀ (xs : List (List Int)) (b : List Dam), (seaD a c b xs).length = xs.length
  | [], _ => rfl
  | y :: ys, b => by simp only [seaD, List.length_cons, sea_len a c ys]
theorem riv_end {a c : List Int} : ∀ (xs : List (List Int)) (b : List Dam), rivB a b c = true → (∀ x ∈ xs, dayOk a x) → rivB a (endD a c b xs) c = true
  | [], b, h, _ => h
  | y :: ys, b, h, hx => riv_end ys _ (J_dayN h (hx y List.mem_cons_self)).2.riv (fun x h' => hx x (List.mem_cons_of_mem _ h'))
/-- What is given on day k. -/
theorem giv_at {a c : List Int} : ∀ (xs : List (List Int)) (b : List Dam) (k : Nat), k < xs.length → (givD a c b xs).getD k [] = nG a (endD a c b (xs.take k)) c (xs.getD k [])
  | [], b, k, h => by simp at h
  | y :: ys, b, 0, h => rfl
  | y :: ys, b, k + 1, h => by
    simp only [givD, List.getD_cons_succ, List.take_succ_cons, endD]
    exact giv_at ys (nD a b c y) k (by simpa using h)
theorem giv_mem {a c : List Int} : ∀ (xs : List (List Int)) (b : List Dam), rivB a b c = true → (∀ x ∈ xs, dayOk a x) → ∀ g ∈ givD a c b xs, g.length = a.length ∧ ∀ j, j < a.length → 0 ≤ g.getD j 0 ∧ g.getD j 0 ≤ c.getD j 0
  | [], b, h, _, g, hg => by cases hg
  | y :: ys, b, h, hx, g, hg => by
    have hd := (J_dayN h (hx y List.mem_cons_self)).2
    simp only [givD] at hg
    rcases List.mem_cons.1 hg with rfl | hg
    · exact ⟨hd.lG, hd.nG⟩
    · exact giv_mem ys _ hd.riv (fun x h' => hx x (List.mem_cons_of_mem _ h')) g hg
theorem seaS_nn {a L : List Int} (h : ∀ j, j < a.length → 0 ≤ L.getD j 0) (k : Nat) (hk : k ≤ a.length) : 0 ≤ seaS a L k ∧ seaS a L k ≤ seaS a L a.length := by
  have nn : ∀ j, j < a.length → 0 ≤ (if a.getD j 0 < 0 then L.getD j 0 else 0) := fun j hj => by have := h j hj; split <;> omega
  refine ⟨sumN_nn k fun j hj => nn j (by omega), ?_⟩
  have key : ∀ m, k + m ≤ a.length → seaS a L k ≤ seaS a L (k + m) := fun m => by
    induction m with
    | zero => intro _; exact Int.le_refl _
    | succ m ih =>
      intro hm
      have h1 := ih (by omega)
      have h2 := nn (k + m) (by omega)
      show _ ≤ sumN _ (k + m + 1)
      simp only [sumN]
      unfold seaS at h1 ⊢
      omega
  have := key (a.length - k) (by omega)
  rwa [show k + (a.length - k) = a.length by omega] at this
theorem nn_of {l : List Int} {n : Nat} (hl : l.length = n) (h : ∀ j, j < n → 0 ≤ l.getD j 0) : ∀ x ∈ l, 0 ≤ x := fun x hx => by
  obtain ⟨i, hi⟩ := List.getElem?_of_mem hx
  have hil : i < l.length := (List.getElem?_eq_some_iff.1 hi).1
  have := h i (by omega)
  rwa [getD_at hi] at this
theorem nowS_nn {a : List Int} {b : List Dam} {c : List Int} (h : rivB a b c = true) : 0 ≤ nowS b a.length ∧ nowS b a.length ≤ 12000000000 := by
  have hn := (riv_parts h).2.2.1
  have h1 := sumN_nn (f := fun j => (b.getD j z4).2.2.2) a.length fun j hj => (dam_parts (dam_at h hj)).2.2.2.1
  have h2 := sumN_bound (f := fun j => (b.getD j z4).2.2.2) (B := 1000000000) a.length fun j hj => by have := dam_parts (dam_at h hj); omega
  unfold nowS; omega
theorem day_bound {a : List Int} {b : List Dam} {c x : List Int} (hv : rivB a b c = true) (hx : dayOk a x) : 0 ≤ isum x ∧ isum x ≤ 12000000000 := by
  have hn := (riv_parts hv).2.2.1
  have h1 := isum_nonneg fun y hy => (hx.2 y hy).1
  have h2 := isum_le (l := x) fun y hy => (hx.2 y hy).2
  have := hx.1
  omega
theorem day_sea {a : List Int} {b : List Dam} {c x : List Int} (hv : rivB a b c = true) (hx : dayOk a x) : 0 ≤ seaS a (nL a b c x) a.length ∧ seaS a (nL a b c x) a.length ≤ 24000000000 := by
  have hd := (J_dayN hv hx).2
  have h1 := nowS_nn hv
  have h2 := nowS_nn hd.riv
  have h3 := day_bound hv hx
  have h4 := isum_nonneg (nn_of hd.lG fun j hj => (hd.nG j hj).1)
  have h5 := hd.tot
  have h6 := (seaS_nn hd.nL a.length (Nat.le_refl _)).1
  omega
/-- Nothing is lost, in all days together. -/
theorem all_days {a c : List Int} : ∀ (xs : List (List Int)) (b : List Dam), rivB a b c = true → (∀ x ∈ xs, dayOk a x) → nowS (endD a c b xs) a.length + isums (givD a c b xs) + isum (seaD a c b xs) = nowS b a.length + isums xs ∧ 0 ≤ isums xs ∧ isums xs ≤ 12000000000 * xs.length ∧ 0 ≤ isums (givD a c b xs) ∧ 0 ≤ isum (seaD a c b xs)
  | [], b, h, _ => by simp [endD, givD, seaD, isums, isum]
  | y :: ys, b, h, hx => by
    have hy := hx y List.mem_cons_self
    have hd := (J_dayN h hy).2
    obtain ⟨i1, i2, i3, i4, i5⟩ := all_days ys _ hd.riv (fun x h' => hx x (List.mem_cons_of_mem _ h'))
    have h1 := hd.tot
    have h2 := day_bound h hy
    have h3 := isum_nonneg (nn_of hd.lG fun j hj => (hd.nG j hj).1)
    have h4 := day_sea h hy
    simp only [endD, givD, seaD, isums, List.map_cons, isum, List.length_cons] at i1 i2 i3 i4 i5 ⊢
    omega
/-! ### The program's loops -/
theorem J_l13 {a L : List Int} (hn : a.length ≤ 12) (hL : L.length = a.length) (h0 : ∀ j, j < a.length → 0 ≤ L.getD j 0) (hT : seaS a L a.length ≤ 1000000000000) (y1 : List (List Int)) (y2 y3 : Int) (y7 : List Dam) (y8 : List Int) (y9 : List (List Int)) (y10 y11 : List Int) (y12 : List Dam) (y13 y14 : List Int) :
    iRunDays_l13 0 y1 y2 y3 (a.length : Nat) 0 a y7 y8 y9 y10 y11 y12 y13 y14 L = some (seaS a L a.length, y1, y2, y3, a, y7, y8, y9, y10, y11, y12, y13, y14) := by
  have key := runL_steps (f := fun s : Int × Int => (iRunDays_l13_t y1 y2 y3 (a.length : Nat) a y7 y8 y9 y10 y11 y12 y13 y14 L s.1 s.2).sem) (r := (seaS a L a.length, y1, y2, y3, a, y7, y8, y9, y10, y11, y12, y13, y14)) a.length 0 (fun k => (seaS a L k, (k : Int))) (fun j _ hj => by
    have hj : j < a.length := by omega
    have b1 := seaS_nn h0 j (by omega)
    have b2 := seaS_nn h0 (j + 1) (by omega)
    have e : seaS a L (j + 1) = seaS a L j + (if a.getD j 0 < 0 then L.getD j 0 else 0) := rfl
    simp only [iRunDays_l13_t, Tr.sem, ltRange hj, ltRange (show j < L.length by omega), zeroLe, Bool.and_self, cond_true, Int.toNat_natCast, up1 (show j ≤ 1048576 by omega)]
    by_cases hc : a.getD j 0 < 0
    · rw [if_pos hc] at e
      rw [decide_eq_true hc, cond_true, wrap_id (by omega) (by omega), e]
    · rw [if_neg hc] at e
      rw [decide_eq_false hc, cond_false, e, Int.add_zero]) (by
    rw [Nat.zero_add]; simp only [iRunDays_l13_t, Tr.sem, not_lt_self, cond_false])
  exact key
theorem J_run {a : List Int} {b : List Dam} {c : List Int} (hv : rivB a b c = true) (xs : List (List Int)) (hx : ∀ x ∈ xs, dayOk a x) (hl : xs.length ≤ 64) : iRunDays a b c xs = some (.inr (a, endD a c b xs, c, givD a c b xs, seaD a c b xs)) := by
  obtain ⟨hg, h1, hn, hw, hb, hc, hcw, hbd⟩ := riv_parts hv
  have key := runL_steps (f := fun s : List (List Int) × Int × Int × List Int × (List (Int × Int × Int × Int)) × List Int × List (List Int) × List Int => (iRunDays_l6_t s.1 s.2.1 s.2.2.1 s.2.2.2.1 s.2.2.2.2.1 s.2.2.2.2.2.1 s.2.2.2.2.2.2.1 s.2.2.2.2.2.2.2).sem) (r := .inr (a, endD a c b xs, c, givD a c b xs, seaD a c b xs)) xs.length 0 (fun k => (xs, (xs.length : Int), (k : Int), a, endD a c b (xs.take k), c, givD a c b (xs.take k), seaD a c b (xs.take k))) (fun j _ hj => by
    have hj : j < xs.length := by omega
    have hr := riv_end (xs.take j) b hv (fun x h => hx x (List.mem_of_mem_take h))
    have hy := hx _ (getD_mem (d := []) hj)
    obtain ⟨d1, d2⟩ := J_dayN hr hy
    have hs := day_sea hr hy
    have l13 := J_l13 hn d2.lL d2.nL (by omega)
    rw [take_succ xs j [] hj, end_snoc, giv_snoc, sea_snoc]
    have f1 : decide (((givD a c b (xs.take j)).length + List.length [nG a (endD a c b (xs.take j)) c (xs.getD j [])]) * 24 ≤ 140737488355328) = true := by
      rw [giv_len, List.length_take]; simp only [List.length_cons, List.length_nil, decide_eq_true_eq]; omega
    have f2 : decide (((seaD a c b (xs.take j)).length + List.length [seaS a (nL a (endD a c b (xs.take j)) c (xs.getD j [])) a.length]) * 8 ≤ 140737488355328) = true := fits8 (by rw [sea_len, List.length_take]; omega) _
    simp only [iRunDays_l6_t, iRunDays_l6_o1, iRunDays_l6_o2, Tr.sem, ltRange hj, zeroLe, Bool.and_self, cond_true, cond_false, Int.toNat_natCast, d1, l13, osome, oget, isL, unR, up1 (show j ≤ 1048576 by omega), f1, f2]) (by
    rw [Nat.zero_add, List.take_length]; simp only [iRunDays_l6_t, Tr.sem, not_lt_self, cond_false])
  have key' : iRunDays_l6 xs (xs.length : Nat) 0 a b c [] [] = some (.inr (a, endD a c b xs, c, givD a c b xs, seaD a c b xs)) := key
  unfold iRunDays
  simp only [iRunDays_t, Q_valid a b c (by omega) (by omega), hv, J_cloned a b c (by omega) (by omega) (by omega), decide_eq_false (show ¬ ((xs.length : Nat) : Int) > 64 by omega), key', Tr.sem, osome, oget, isL, unR, Bool.not_true, cond_true, cond_false]
theorem J_stored {a : List Int} {b : List Dam} {c : List Int} (hv : rivB a b c = true) : iRiver_stored a b c = some (nowS b a.length) := by
  obtain ⟨hg, h1, hn, hw, hb, hc, hcw, hbd⟩ := riv_parts hv
  have nn : ∀ j, j < a.length → 0 ≤ (b.getD j z4).2.2.2 ∧ (b.getD j z4).2.2.2 ≤ 1000000000 := fun j hj => by have := dam_parts (dam_at hv hj); omega
  have key := runL_steps (f := fun s : Int × Int => (iRiver_stored_l3_t b (b.length : Nat) s.1 s.2).sem) (r := nowS b a.length) a.length 0 (fun k => (nowS b k, (k : Int))) (fun j _ hj => by
    have hj : j < a.length := by omega
    have b1 := sumN_nn (f := fun j => (b.getD j z4).2.2.2) j (fun i hi => (nn i (by omega)).1)
    have b2 := sumN_bound (f := fun j => (b.getD j z4).2.2.2) (B := 1000000000) j (fun i hi => (nn i (by omega)).2)
    have b3 := nn j hj
    have e : nowS b (j + 1) = nowS b j + (b.getD j z4).2.2.2 := rfl
    have w : IntKind.wrap .i64 (nowS b j + (b.getD j z4).2.2.2) = nowS b (j + 1) := by
      rw [e]; unfold nowS; exact wrap_id (by omega) (by omega)
    simp only [iRiver_stored_l3_t, Tr.sem, ltRange (show j < b.length by omega), zeroLe, Bool.and_self, cond_true, Int.toNat_natCast, up1 (show j ≤ 1048576 by omega), w]) (by
    rw [Nat.zero_add]; simp only [iRiver_stored_l3_t, Tr.sem, hb, not_lt_self, cond_false])
  have key' : iRiver_stored_l3 0 b (b.length : Nat) 0 = some (nowS b a.length) := key
  unfold iRiver_stored
  simp only [iRiver_stored_t, key', Tr.sem, osome, oget, cond_true]
theorem J_storedIn {a : List Int} {b : List Dam} {c : List Int} (hv : rivB a b c = true) : iStoredIn a b c = some (nowS b a.length, true) := by
  obtain ⟨hg, h1, hn, hw, hb, hc, hcw, hbd⟩ := riv_parts hv
  unfold iStoredIn
  simp only [iStoredIn_t, Q_valid a b c (by omega) (by omega), hv, J_stored hv, Tr.sem, osome, oget, Bool.not_true, cond_true, cond_false]
theorem J_ledger {a : List Int} {b : List Dam} {c : List Int} (hv : rivB a b c = true) (xs : List (List Int)) (hx : ∀ x ∈ xs, dayOk a x) (hl : xs.length ≤ 64) : iLedgerOf a b c xs = some (isums xs, isums (givD a c b xs), isum (seaD a c b xs), nowS (endD a c b xs) a.length - nowS b a.length, true) := by
  obtain ⟨hg, h1, hn, hw, hb, hc, hcw, hbd⟩ := riv_parts hv
  obtain ⟨t1, t2, t3, t4, t5⟩ := all_days xs b hv hx
  have hr := riv_end xs b hv hx
  have n1 := nowS_nn hv
  have n2 := nowS_nn hr
  have e1 := T_total xs (fun l h => ⟨fun y hy => ((hx l h).2 y hy).1, by have := (hx l h).1; omega⟩) (by omega) (by omega)
  have e2 := T_total (givD a c b xs) (fun l h => by
    obtain ⟨q1, q2⟩ := giv_mem xs b hv hx l h
    exact ⟨nn_of q1 fun j hj => (q2 j hj).1, by omega⟩) (by omega) (by rw [giv_len]; omega)
  have hs : ∀ x ∈ seaD a c b xs, 0 ≤ x := by
    have key : ∀ (ys : List (List Int)) (b : List Dam), rivB a b c = true → (∀ x ∈ ys, dayOk a x) → ∀ x ∈ seaD a c b ys, 0 ≤ x := fun ys => by
      induction ys with
      | nil => intro b _ _ x hx; cases hx
      | cons y ys ih =>
        intro b hb hy x hx'
        have hd := (J_dayN hb (hy y List.mem_cons_self)).2
        simp only [seaD] at hx'
        rcases List.mem_cons.1 hx' with rfl | h
        · exact (day_sea hb (hy y List.mem_cons_self)).1
        · exact ih _ hd.riv (fun z hz => hy z (List.mem_cons_of_mem _ hz)) x h
    exact key xs b hv hx
  have e3 := T_list (seaD a c b xs) hs (by omega) (by rw [sea_len]; omega)
  have w : IntKind.wrap .i64 (nowS (endD a c b xs) a.length - nowS b a.length) = nowS (endD a c b xs) a.length - nowS b a.length := wrap_id (by omega) (by omega)
  unfold iLedgerOf
  simp only [iLedgerOf_t, J_run hv xs hx hl, e1, e2, e3, J_stored hv, J_stored hr, w, Tr.sem, osome, oget, isL, unR, cond_true, cond_false]
end Go.Proofs.Ytcjekndobhkmbaa
