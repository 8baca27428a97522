/- Loops that go up by one, told by a predicate of the round. -/
import Derived.Test.YtihoaflcjkppnaaT5
set_option linter.unusedVariables false
set_option linter.unusedSimpArgs false
set_option linter.constructorNameAsVariable false
namespace Go.Proofs.Ytihoaflcjkppnaa
open Go.RowKit
theorem sem_t {α : Type} {b : Bool} {t e : Tr α} (h : b = true) : (Tr.br b t e).sem = t.sem := by subst h; rfl
theorem sem_f {α : Type} {b : Bool} {t e : Tr α} (h : b = false) : (Tr.br b t e).sem = e.sem := by subst h; rfl
def allFrom (p : Nat → Bool) : Nat → Nat → Bool
  | _, 0 => true
  | k, n + 1 => p k && allFrom p (k + 1) n
def firstFrom (p : Nat → Bool) : Nat → Nat → Nat
  | k, 0 => k
  | k, n + 1 => bif p k then firstFrom p (k + 1) n else k
theorem iter_from {f : List V → List HB → Option (Xt × List V × List HB)} (n : Nat) (p : Nat → Bool) (S : Nat → List V × List HB) (done : Xt × List V × List HB) (fail : Nat → Xt × List V × List HB)
    (hs : ∀ k, k < n → f (S k).1 (S k).2 = bif p k then some (.normal, S (k + 1)) else some (fail k)) (he : f (S n).1 (S n).2 = some done) (hd : ∀ s, done ≠ (.normal, s)) (hf : ∀ k s, fail k ≠ (.normal, s)) :
    ∀ (j k : Nat), k + j = n → iterS f (j + 1) (S k).1 (S k).2 = some (bif allFrom p k j then done else fail (firstFrom p k j))
  | 0, k, hk => by
    have hk' : k = n := by omega
    subst hk'
    simp only [iterS, he, allFrom, cond_true]
    obtain ⟨x, vs, bs⟩ := done
    cases x <;> first | rfl | exact absurd rfl (hd (vs, bs))
  | j + 1, k, hk => by
    have hlt : k < n := by omega
    rw [iterS, hs k hlt, allFrom, firstFrom]
    cases hp : p k with
    | true =>
      simp only [cond_true, Bool.true_and]
      exact iter_from n p S done fail hs he hd hf j (k + 1) (by omega)
    | false =>
      simp only [cond_false, Bool.false_and]
      cases hfk : fail k with
      | mk x s =>
        have := hf k s
        rw [hfk] at this
        cases x <;> first | rfl | exact absurd rfl this
theorem allFrom_true (p : Nat → Bool) : ∀ (n k : Nat), (∀ i, k ≤ i → i < k + n → p i = true) → allFrom p k n = true
  | 0, _, _ => rfl
  | n + 1, k, h => by rw [allFrom, h k (Nat.le_refl _) (by omega), Bool.true_and]; exact allFrom_true p n (k + 1) fun i h1 h2 => h i (by omega) (by omega)
theorem allFrom_of (p : Nat → Bool) : ∀ (n k : Nat), allFrom p k n = true → ∀ i, k ≤ i → i < k + n → p i = true
  | 0, _, _, i, h1, h2 => by omega
  | n + 1, k, h, i, h1, h2 => by
    rw [allFrom, Bool.and_eq_true] at h
    rcases Nat.lt_or_ge k i with h3 | h3
    · exact allFrom_of p n (k + 1) h.2 i (by omega) (by omega)
    · have : i = k := by omega
      subst this; exact h.1
theorem allFrom_congr (p q : Nat → Bool) (n k : Nat) (h : ∀ i, k ≤ i → i < k + n → p i = q i) : allFrom p k n = allFrom q k n := by
  induction n generalizing k with
  | zero => rfl
  | succ n ih => rw [allFrom, allFrom, h k (Nat.le_refl _) (by omega), ih (k + 1) fun i h1 h2 => h i (by omega) (by omega)]
/-- A copy, row by row. -/
theorem copy_mid {α : Type} (xs ys : List α) (d : α) (k : Nat) (h : ys.length = xs.length) (hk : k < xs.length) : (xs.take k ++ ys.drop k).set k (xs.getD k d) = xs.take (k + 1) ++ ys.drop (k + 1) := by
  have hk' : k < ys.length := by omega
  rw [List.set_append_right _ _ (by simp; omega), List.length_take, Nat.min_eq_left (by omega), Nat.sub_self, List.drop_eq_getElem_cons hk', List.set_cons_zero, List.take_succ_eq_append_getElem hk]
  rw [List.append_assoc, List.singleton_append, List.getD_eq_getElem?_getD, List.getElem?_eq_getElem hk, Option.getD_some]
end Go.Proofs.Ytihoaflcjkppnaa
