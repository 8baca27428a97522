/- A day of a river: nothing is lost. -/
import Derived.Test.YtcjekndobhkmbaaJa
set_option linter.unusedVariables false
set_option linter.unusedSimpArgs false
set_option linter.constructorNameAsVariable false
namespace Go.Proofs.Ytcjekndobhkmbaa
open Go.RowKit
set_option maxRecDepth 100000
/-! ### Sums -/
def sumN (f : Nat → Int) : Nat → Int
  | 0 => 0
  | n + 1 => sumN f n + f n
theorem sumN_congr {f g : Nat → Int} : ∀ n, (∀ j, j < n → f j = g j) → sumN f n = sumN g n
  | 0, _ => rfl
  | n + 1, h => by simp only [sumN, sumN_congr n (fun j hj => h j (by omega)), h n (by omega)]
theorem sumN_add (f g : Nat → Int) : ∀ n, sumN (fun j => f j + g j) n = sumN f n + sumN g n
  | 0 => rfl
  | n + 1 => by simp only [sumN, sumN_add f g n]; omega
theorem sumN_zero : ∀ n, sumN (fun _ => 0) n = 0
  | 0 => rfl
  | n + 1 => by simp only [sumN, sumN_zero n]; omega
theorem sumN_upd {f g : Nat → Int} {i : Nat} (h : ∀ j, j ≠ i → g j = f j) : ∀ n, i < n → sumN g n = sumN f n - f i + g i
  | 0, hi => by omega
  | n + 1, hi => by
    by_cases e : i = n
    · subst e
      have := sumN_congr (f := g) (g := f) i (fun j hj => h j (by omega))
      simp only [sumN]; omega
    · have := sumN_upd h n (by omega)
      have := h n (by omega)
      simp only [sumN]; omega
theorem sumN_nn {f : Nat → Int} : ∀ n, (∀ j, j < n → 0 ≤ f j) → 0 ≤ sumN f n
  | 0, _ => Int.le_refl _
  | n + 1, h => by have := sumN_nn n (fun j hj => h j (by omega)); have := h n (by omega); simp only [sumN]; omega
theorem sumN_mem {f : Nat → Int} : ∀ n, (∀ j, j < n → 0 ≤ f j) → ∀ i, i < n → f i ≤ sumN f n
  | 0, _, i, hi => by omega
  | n + 1, h, i, hi => by
    have h1 := sumN_nn n (fun j hj => h j (by omega))
    have h2 := h n (by omega)
    simp only [sumN]
    by_cases e : i = n
    · subst e; omega
    · have := sumN_mem n (fun j hj => h j (by omega)) i (by omega); omega
theorem sumN_bound {f : Nat → Int} {B : Int} : ∀ n, (∀ j, j < n → f j ≤ B) → sumN f n ≤ B * n
  | 0, _ => by simp [sumN]
  | n + 1, h => by
    have h1 := sumN_bound n (fun j hj => h j (by omega))
    have h2 := h n (by omega)
    simp only [sumN]
    rw [show ((n + 1 : Nat) : Int) = (n : Int) + 1 from rfl, Int.mul_add]; omega
theorem sumN_isum : ∀ (l : List Int), sumN (fun j => l.getD j 0) l.length = isum l := by
  intro l
  have key : ∀ k, k ≤ l.length → sumN (fun j => l.getD j 0) k = isum (l.take k) := fun k => by
    induction k with
    | zero => intro _; rfl
    | succ k ih =>
      intro hk
      rw [take_succ l k 0 (by omega), isum_append]
      simp only [sumN, ih (by omega), isum]; omega
  have := key l.length (Nat.le_refl _)
  rwa [List.take_length] at this
theorem setD {α : Type} {l : List α} {b i : Nat} {v d : α} (hb : b < l.length) : (l.set b v).getD i d = if i = b then v else l.getD i d := by
  simp only [List.getD_eq_getElem?_getD, List.getElem?_set]
  by_cases h : b = i
  · subst h; simp [hb]
  · rw [if_neg h, if_neg (fun e => h e.symm)]
abbrev z4 : Dam := (0, 0, 0, 0)
theorem dam_parts {d : Dam} (h : damB d = true) : (0 ≤ d.1 ∧ d.1 ≤ 1000000000) ∧ (0 ≤ d.2.1 ∧ d.2.1 ≤ d.1) ∧ (0 ≤ d.2.2.1 ∧ d.2.2.1 ≤ 1000000000) ∧ 0 ≤ d.2.2.2 ∧ d.2.2.2 ≤ d.1 := by
  simp only [damB, unitB, win, Bool.and_eq_true, decide_eq_true_eq] at h
  omega
theorem dam_of {d : Dam} (h : (0 ≤ d.1 ∧ d.1 ≤ 1000000000) ∧ (0 ≤ d.2.1 ∧ d.2.1 ≤ d.1) ∧ (0 ≤ d.2.2.1 ∧ d.2.2.1 ≤ 1000000000) ∧ 0 ≤ d.2.2.2 ∧ d.2.2.2 ≤ d.1) : damB d = true := by
  simp only [damB, unitB, win, Bool.and_eq_true, decide_eq_true_eq]
  omega
/-! ### One node -/
def gvN (C w : Int) (d : Dam) : Int := imax (imin w (C + d.2.2.2 - d.2.1)) 0
def xxN (C w : Int) (d : Dam) : Int := C + d.2.2.2 - gvN C w d
def onN (C w : Int) (d : Dam) : Int := imax (imin d.2.2.1 (xxN C w d - d.2.1)) 0
def lfN (C w : Int) (d : Dam) : Int := xxN C w d - onN C w d
def nwN (C w : Int) (d : Dam) : Int := imin (lfN C w d) d.1
def lvN (C w : Int) (d : Dam) : Int := onN C w d + lfN C w d - nwN C w d
theorem imin_eq (a b : Int) : imin a b = min a b := by
  unfold imin
  by_cases h : b < a
  · rw [decide_eq_true h, cond_true]; omega
  · rw [decide_eq_false h, cond_false]; omega
theorem imax_eq (a b : Int) : imax a b = max a b := by
  unfold imax
  by_cases h : a < b
  · rw [decide_eq_true h, cond_true]; omega
  · rw [decide_eq_false h, cond_false]; omega
theorem node_ok {C w : Int} {d : Dam} (hC : 0 ≤ C) (hw : 0 ≤ w) (hd : damB d = true) : 0 ≤ gvN C w d ∧ gvN C w d ≤ w ∧ 0 ≤ xxN C w d ∧ 0 ≤ onN C w d ∧ 0 ≤ lfN C w d ∧ 0 ≤ nwN C w d ∧ nwN C w d ≤ d.1 ∧ 0 ≤ lvN C w d ∧ gvN C w d + nwN C w d + lvN C w d = C + d.2.2.2 ∧ onN C w d + lfN C w d = xxN C w d := by
  have := dam_parts hd
  simp only [lvN, nwN, lfN, onN, xxN, gvN, imin_eq, imax_eq]
  omega
/-! ### One step of a day -/
def phiD (a : List Int) (D : List Dam) (C G L o : List Int) (j : Nat) : Int := (D.getD j z4).2.2.2 + G.getD j 0 + (if a.getD j 0 < 0 then L.getD j 0 else 0) + (if opn o j = true then C.getD j 0 else 0)
structure DayI (a c : List Int) (D : List Dam) (C G L o : List Int) (T : Int) : Prop where
  lD : D.length = a.length
  lC : C.length = a.length
  lG : G.length = a.length
  lL : L.length = a.length
  dam : ∀ j, j < a.length → damB (D.getD j z4) = true
  nC : ∀ j, j < a.length → 0 ≤ C.getD j 0
  nG : ∀ j, j < a.length → 0 ≤ G.getD j 0 ∧ G.getD j 0 ≤ c.getD j 0
  nL : ∀ j, j < a.length → 0 ≤ L.getD j 0
  opz : ∀ j, j < a.length → opn o j = true → G.getD j 0 = 0 ∧ L.getD j 0 = 0
  tot : sumN (phiD a D C G L o) a.length = T
theorem DayI.phi {a c : List Int} {D : List Dam} {C G L o : List Int} {T : Int} (h : DayI a c D C G L o T) : ∀ j, j < a.length → 0 ≤ phiD a D C G L o j := fun j hj => by
  have := dam_parts (h.dam j hj)
  have := h.nC j hj
  have := h.nG j hj
  have := h.nL j hj
  unfold phiD
  split <;> split <;> omega
def stpD (D : List Dam) (C c : List Int) (i : Nat) : List Dam := D.set i ((D.getD i z4).1, (D.getD i z4).2.1, (D.getD i z4).2.2.1, nwN (C.getD i 0) (c.getD i 0) (D.getD i z4))
def stepC (a : List Int) (D : List Dam) (C c : List Int) (i : Nat) : List Int := if 0 ≤ a.getD i 0 then C.set (a.getD i 0).toNat (C.getD (a.getD i 0).toNat 0 + lvN (C.getD i 0) (c.getD i 0) (D.getD i z4)) else C
def stepG (D : List Dam) (C c G : List Int) (i : Nat) : List Int := G.set i (gvN (C.getD i 0) (c.getD i 0) (D.getD i z4))
def stepL (D : List Dam) (C c L : List Int) (i : Nat) : List Int := L.set i (lvN (C.getD i 0) (c.getD i 0) (D.getD i z4))
theorem day_step {a c : List Int} {D : List Dam} {C G L o : List Int} {T : Int} (h : DayI a c D C G L o T) (hg : goodD a) (hc : ∀ j, j < a.length → 0 ≤ c.getD j 0) {i : Nat} (hi : i < a.length) (hr : redy a o i = true) (hcl : closedO a o) :
    DayI a c (stpD D C c i) (stepC a D C c i) (stepG D C c G i) (stepL D C c L i) (o ++ [(i : Int)]) T ∧
    (0 ≤ a.getD i 0 → ∃ t : Nat, a.getD i 0 = (t : Int) ∧ t < a.length ∧ C.getD t 0 + lvN (C.getD i 0) (c.getD i 0) (D.getD i z4) ≤ T) ∧ C.getD i 0 + (D.getD i z4).2.2.2 ≤ T := by
  have hop : opn o i = true := by unfold redy at hr; rw [Bool.and_eq_true] at hr; exact hr.1
  obtain ⟨z1, z2⟩ := h.opz i hi hop
  have hd := h.dam i hi
  have hdp := dam_parts hd
  obtain ⟨n1, n2, n3, n4, n5, n6, n7, n8, n9, n10⟩ := node_ok (h.nC i hi) (hc i hi) hd
  have gD : ∀ j, (stpD D C c i).getD j z4 = if j = i then ((D.getD i z4).1, (D.getD i z4).2.1, (D.getD i z4).2.2.1, nwN (C.getD i 0) (c.getD i 0) (D.getD i z4)) else D.getD j z4 := fun j => setD (by rw [h.lD]; exact hi)
  have gG : ∀ j, (stepG D C c G i).getD j 0 = if j = i then gvN (C.getD i 0) (c.getD i 0) (D.getD i z4) else G.getD j 0 := fun j => setD (by rw [h.lG]; exact hi)
  have gL : ∀ j, (stepL D C c L i).getD j 0 = if j = i then lvN (C.getD i 0) (c.getD i 0) (D.getD i z4) else L.getD j 0 := fun j => setD (by rw [h.lL]; exact hi)
  have pi : phiD a D C G L o i = C.getD i 0 + (D.getD i z4).2.2.2 := by
    unfold phiD; rw [z1, z2, if_pos hop]; split <;> omega
  have pt := sumN_mem _ h.phi i hi
  rw [h.tot, pi] at pt
  have gi := goodD_at hg hi
  have hto : 0 ≤ a.getD i 0 → ∃ t : Nat, a.getD i 0 = (t : Int) ∧ t < a.length ∧ t ≠ i ∧ opn o t = true := fun h0 => by
    have e : a.getD i 0 = ((a.getD i 0).toNat : Int) := by omega
    have hne : (a.getD i 0).toNat ≠ i := fun he => by
      unfold redy at hr
      rw [Bool.and_eq_true, decide_eq_true_eq] at hr
      have := (cnt_zero _ _).1 hr.2 i hi
      unfold fed at this
      rw [hop, e, he] at this
      simp at this
    refine ⟨_, e, by omega, hne, ?_⟩
    cases ho : opn o (a.getD i 0).toNat with
    | true => rfl
    | false => rw [hcl _ i (by omega) hi ho e] at hop; cases hop
  have gC : ∀ j, (stepC a D C c i).getD j 0 = C.getD j 0 + (if 0 ≤ a.getD i 0 ∧ (j : Int) = a.getD i 0 then lvN (C.getD i 0) (c.getD i 0) (D.getD i z4) else 0) := fun j => by
    unfold stepC
    by_cases h0 : 0 ≤ a.getD i 0
    · obtain ⟨t, t1, t2, t3, t4⟩ := hto h0
      rw [if_pos h0, t1, Int.toNat_natCast, setD (by rw [h.lC]; exact t2)]
      by_cases e : j = t
      · subst e; rw [if_pos rfl, if_pos ⟨by omega, rfl⟩]
      · rw [if_neg e, if_neg (fun hh => e (by omega)), Int.add_zero]
    · rw [if_neg h0, if_neg (fun hh => h0 hh.1), Int.add_zero]
  have lens : (stepC a D C c i).length = a.length := by unfold stepC; split <;> simp [h.lC]
  refine ⟨⟨by simp [stpD, h.lD], lens, by simp [stepG, h.lG], by simp [stepL, h.lL], fun j hj => ?_, fun j hj => ?_, fun j hj => ?_, fun j hj => ?_, fun j hj ho => ?_, ?_⟩, fun h0 => ?_, pt⟩
  · rw [gD]; split
    · exact dam_of (by simp only; omega)
    · exact h.dam j hj
  · rw [gC]; have := h.nC j hj; split <;> omega
  · rw [gG]; split
    · rename_i e; subst e; exact ⟨n1, n2⟩
    · exact h.nG j hj
  · rw [gL]; split
    · exact n8
    · exact h.nL j hj
  · rw [opn_app, Bool.and_eq_true, decide_eq_true_eq] at ho
    rw [gG, gL, if_neg ho.2, if_neg ho.2]
    exact h.opz j hj ho.1
  · -- the total stays
    have q : ∀ j, j < a.length → phiD a (stpD D C c i) (stepC a D C c i) (stepG D C c G i) (stepL D C c L i) (o ++ [(i : Int)]) j = phiD a D C G L o j + (if j = i then gvN (C.getD i 0) (c.getD i 0) (D.getD i z4) + nwN (C.getD i 0) (c.getD i 0) (D.getD i z4) + (if a.getD i 0 < 0 then lvN (C.getD i 0) (c.getD i 0) (D.getD i z4) else 0) - (C.getD i 0 + (D.getD i z4).2.2.2) else 0) + (if 0 ≤ a.getD i 0 ∧ (j : Int) = a.getD i 0 then lvN (C.getD i 0) (c.getD i 0) (D.getD i z4) else 0) := fun j hj => by
      by_cases e : j = i
      · subst e
        rw [pi, if_pos rfl]
        have hno : ¬ (0 ≤ a.getD j 0 ∧ (j : Int) = a.getD j 0) := fun hh => by
          obtain ⟨t, t1, t2, t3, t4⟩ := hto hh.1
          omega
        rw [if_neg hno]
        unfold phiD
        rw [gD, gG, gL, opn_app, if_pos rfl, if_pos rfl, if_pos rfl, decide_eq_false (by simp), Bool.and_false]
        simp only [Bool.false_eq_true, if_false]
        omega
      · rw [if_neg e]
        unfold phiD
        rw [gD, gG, gL, gC, opn_app, if_neg e, if_neg e, if_neg e, decide_eq_true e, Bool.and_true]
        by_cases h1 : 0 ≤ a.getD i 0 ∧ (j : Int) = a.getD i 0
        · obtain ⟨t, t1, t2, t3, t4⟩ := hto h1.1
          have : j = t := by omega
          subst this
          rw [t4, if_pos rfl, if_pos rfl]; omega
        · rw [if_neg h1]; split <;> split <;> omega
    rw [sumN_congr _ q, sumN_add, sumN_add, h.tot]
    have s1 := sumN_upd (f := fun _ => 0) (g := fun j => if j = i then gvN (C.getD i 0) (c.getD i 0) (D.getD i z4) + nwN (C.getD i 0) (c.getD i 0) (D.getD i z4) + (if a.getD i 0 < 0 then lvN (C.getD i 0) (c.getD i 0) (D.getD i z4) else 0) - (C.getD i 0 + (D.getD i z4).2.2.2) else 0) (i := i) (fun j hj => if_neg hj) a.length hi
    rw [s1, sumN_zero]
    simp only [eq_self, if_true]
    by_cases h0 : 0 ≤ a.getD i 0
    · obtain ⟨t, t1, t2, t3, t4⟩ := hto h0
      have s2 := sumN_upd (f := fun _ => 0) (g := fun j : Nat => if 0 ≤ a.getD i 0 ∧ (j : Int) = a.getD i 0 then lvN (C.getD i 0) (c.getD i 0) (D.getD i z4) else 0) (i := t) (fun j hj => by rw [if_neg (fun hh => hj (by omega))]) a.length t2
      rw [s2, sumN_zero]
      rw [if_neg (by omega), if_pos ⟨h0, by omega⟩]; omega
    · have s2 : sumN (fun j : Nat => if 0 ≤ a.getD i 0 ∧ (j : Int) = a.getD i 0 then lvN (C.getD i 0) (c.getD i 0) (D.getD i z4) else 0) a.length = 0 := by
        rw [sumN_congr (g := fun _ => 0) _ (fun j _ => if_neg (fun hh => h0 hh.1)), sumN_zero]
      rw [s2, if_pos (by omega)]; omega
  · obtain ⟨t, t1, t2, t3, t4⟩ := hto h0
    refine ⟨t, t1, t2, ?_⟩
    -- two nodes that are not yet done
    have hs := sumN_upd (f := phiD a D C G L o) (g := fun j => if j = i then 0 else phiD a D C G L o j) (i := i) (fun j hj => if_neg hj) a.length hi
    have hm := sumN_mem (f := fun j => if j = i then 0 else phiD a D C G L o j) a.length (fun j hj => by
      split
      · exact Int.le_refl _
      · exact h.phi j hj) t t2
    simp only [if_neg t3] at hm
    rw [hs, h.tot, pi] at hm
    simp only [eq_self, if_true] at hm
    have p2 : phiD a D C G L o t = C.getD t 0 + (D.getD t z4).2.2.2 := by
      obtain ⟨y1, y2⟩ := h.opz t t2 t4
      unfold phiD; rw [y1, y2, if_pos t4]; split <;> omega
    rw [p2] at hm
    have := dam_parts (h.dam t t2)
    omega
end Go.Proofs.Ytcjekndobhkmbaa
