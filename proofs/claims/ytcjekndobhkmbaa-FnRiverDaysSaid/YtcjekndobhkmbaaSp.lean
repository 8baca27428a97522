/- Plain facts of sums, of shares and of what is left of them. No program is in sight. -/
import Derived.Test.YtcjekndobhkmbaaPa
set_option linter.unusedVariables false
set_option linter.unusedSimpArgs false
set_option linter.constructorNameAsVariable false
namespace Go.Proofs.Ytcjekndobhkmbaa
open Go.RowKit
set_option maxRecDepth 100000
def isum : List Int → Int
  | [] => 0
  | x :: l => x + isum l
theorem isum_append : ∀ (l m : List Int), isum (l ++ m) = isum l + isum m
  | [], m => by simp [isum]
  | x :: l, m => by simp only [List.cons_append, isum, isum_append l m]; omega
theorem isum_nonneg : ∀ {l : List Int}, (∀ x ∈ l, 0 ≤ x) → 0 ≤ isum l
  | [], _ => Int.le_refl _
  | x :: l, h => by
    have h1 := h x List.mem_cons_self
    have h2 := isum_nonneg (l := l) fun y hy => h y (List.mem_cons_of_mem _ hy)
    simp only [isum]; omega
theorem isum_take {l : List Int} (h : ∀ x ∈ l, 0 ≤ x) (j : Nat) : 0 ≤ isum (l.take j) ∧ isum (l.take j) ≤ isum l := by
  have h1 : isum l = isum (l.take j) + isum (l.drop j) := by rw [← isum_append, List.take_append_drop]
  have h2 := isum_nonneg (l := l.take j) fun x hx => h x (List.mem_of_mem_take hx)
  have h3 := isum_nonneg (l := l.drop j) fun x hx => h x (List.mem_of_mem_drop hx)
  omega
theorem isum_le {B : Int} : ∀ {l : List Int}, (∀ x ∈ l, x ≤ B) → isum l ≤ B * l.length
  | [], _ => by simp [isum]
  | x :: l, h => by
    have h1 := h x List.mem_cons_self
    have h2 := isum_le (l := l) fun y hy => h y (List.mem_cons_of_mem _ hy)
    simp only [isum, List.length_cons]
    rw [show ((l.length + 1 : Nat) : Int) = (l.length : Int) + 1 from rfl, Int.mul_add]; omega
theorem isum_mem : ∀ {l : List Int}, (∀ x ∈ l, 0 ≤ x) → ∀ x ∈ l, x ≤ isum l
  | [], _, x, hx => by cases hx
  | y :: l, h, x, hx => by
    have h1 := h y List.mem_cons_self
    have h2 := isum_nonneg (l := l) fun z hz => h z (List.mem_cons_of_mem _ hz)
    simp only [isum]
    rcases List.mem_cons.1 hx with rfl | hx
    · omega
    · have := isum_mem (l := l) (fun z hz => h z (List.mem_cons_of_mem _ hz)) x hx; omega
theorem take_succ {α : Type} (l : List α) (j : Nat) (d : α) (h : j < l.length) : l.take (j + 1) = l.take j ++ [l.getD j d] := by
  rw [List.take_add_one, List.getD_eq_getElem?_getD, List.getElem?_eq_getElem h]; rfl
theorem getD_mem {α : Type} {l : List α} {j : Nat} {d : α} (h : j < l.length) : l.getD j d ∈ l := by
  rw [List.getD_eq_getElem?_getD, List.getElem?_eq_getElem h]; exact List.getElem_mem h
theorem isum_set : ∀ (l : List Int) (b : Nat) (v : Int), b < l.length → isum (l.set b v) = isum l - l.getD b 0 + v
  | [], b, v, h => by simp at h
  | x :: l, 0, v, h => by simp only [List.set_cons_zero, isum, List.getD_cons_zero]; omega
  | x :: l, b + 1, v, h => by
    simp only [List.set_cons_succ, isum, List.getD_cons_succ]
    rw [isum_set l b v (by simpa using h)]; omega
/-- How many are greater than zero. -/
def cpos : List Int → Nat
  | [] => 0
  | x :: l => (if 0 < x then 1 else 0) + cpos l
theorem cpos_set : ∀ (l : List Int) (b : Nat), b < l.length → 0 < l.getD b 0 → cpos (l.set b (-1)) + 1 = cpos l
  | [], b, h, _ => by simp at h
  | x :: l, 0, h, hp => by
    simp only [List.getD_cons_zero] at hp
    simp only [List.set_cons_zero, cpos, if_pos hp, if_neg (show ¬ (0 : Int) < -1 by omega)]; omega
  | x :: l, b + 1, h, hp => by
    simp only [List.set_cons_succ, cpos]
    have := cpos_set l b (by simpa using h) (by simpa using hp)
    omega
theorem cpos_ex : ∀ (l : List Int), 1 ≤ cpos l → ∃ i, i < l.length ∧ 0 < l.getD i 0
  | [], h => by simp [cpos] at h
  | x :: l, h => by
    by_cases hx : 0 < x
    · exact ⟨0, by simp, by simpa using hx⟩
    · simp only [cpos, if_neg hx, Nat.zero_add] at h
      obtain ⟨i, h1, h2⟩ := cpos_ex l h
      exact ⟨i + 1, by simpa using h1, by simpa using h2⟩
theorem isum_cpos {B : Int} (hB : 0 ≤ B) : ∀ {l : List Int}, (∀ x ∈ l, x ≤ B) → isum l ≤ B * cpos l
  | [], _ => by simp [isum, cpos]
  | x :: l, h => by
    have h1 := h x List.mem_cons_self
    have h2 := isum_cpos hB (l := l) fun y hy => h y (List.mem_cons_of_mem _ hy)
    simp only [isum, cpos]
    by_cases hx : 0 < x
    · rw [if_pos hx, show ((1 + cpos l : Nat) : Int) = 1 + (cpos l : Int) from rfl, Int.mul_add]; omega
    · rw [if_neg hx, Nat.zero_add]; omega
/-- A share, and what is left of it. -/
def qS (n s x : Int) : Int := (n * x).tdiv s
def pS (n s x : Int) : Int := (n * x).tmod s
theorem share_eq {n s x : Int} (hn : 0 ≤ n) (hs : 0 < s) (hx : 0 ≤ x) : s * qS n s x + pS n s x = n * x ∧ 0 ≤ qS n s x ∧ 0 ≤ pS n s x ∧ pS n s x < s := by
  have h0 : 0 ≤ n * x := Int.mul_nonneg hn hx
  unfold qS pS
  exact ⟨Int.mul_tdiv_add_tmod _ _, Int.tdiv_nonneg h0 (by omega), Int.tmod_nonneg _ h0, Int.tmod_lt_of_pos _ hs⟩
theorem shares_sum {n s : Int} (hn : 0 ≤ n) (hs : 0 < s) : ∀ {l : List Int}, (∀ x ∈ l, 0 ≤ x) → s * isum (l.map (qS n s)) + isum (l.map (pS n s)) = n * isum l ∧ 0 ≤ isum (l.map (qS n s)) ∧ 0 ≤ isum (l.map (pS n s))
  | [], _ => by simp [isum]
  | x :: l, h => by
    obtain ⟨a, b, c, d⟩ := share_eq hn hs (h x List.mem_cons_self)
    obtain ⟨e, f, g⟩ := shares_sum hn hs (l := l) fun y hy => h y (List.mem_cons_of_mem _ hy)
    simp only [List.map_cons, isum, Int.mul_add]
    omega
theorem shares_le {n s : Int} (hn : 0 ≤ n) (hs : 0 < s) {l : List Int} (h : ∀ x ∈ l, 0 ≤ x) (hl : isum l ≤ s) : isum (l.map (qS n s)) ≤ n := by
  obtain ⟨a, b, c⟩ := shares_sum hn hs h
  have h1 : n * isum l ≤ n * s := Int.mul_le_mul_of_nonneg_left hl hn
  have h2 : s * isum (l.map (qS n s)) ≤ s * n := by rw [Int.mul_comm s n]; omega
  exact Int.le_of_mul_le_mul_left h2 hs
theorem left_le {n s : Int} (hn : 0 ≤ n) (hs : 0 < s) {l : List Int} (h : ∀ x ∈ l, 0 ≤ x) (hl : isum l = s) : n - isum (l.map (qS n s)) ≤ (cpos (l.map (pS n s)) : Int) := by
  obtain ⟨a, b, c⟩ := shares_sum hn hs h
  rw [hl] at a
  have h1 : isum (l.map (pS n s)) ≤ s * (cpos (l.map (pS n s)) : Int) := isum_cpos (by omega) fun y hy => by
    obtain ⟨x, hx, rfl⟩ := List.mem_map.1 hy
    have := (share_eq hn hs (h x hx)).2.2.2
    omega
  have h2 : s * (n - isum (l.map (qS n s))) ≤ s * (cpos (l.map (pS n s)) : Int) := by
    rw [Int.mul_sub, Int.mul_comm s n]; omega
  exact Int.le_of_mul_le_mul_left h2 hs
theorem set_get {l : List Int} {b i : Nat} {v : Int} (hb : b < l.length) : (l.set b v).getD i 0 = if i = b then v else l.getD i 0 := by
  simp only [List.getD_eq_getElem?_getD, List.getElem?_set]
  by_cases h : b = i
  · subst h; simp [hb]
  · rw [if_neg h, if_neg (fun e => h e.symm)]
end Go.Proofs.Ytcjekndobhkmbaa
