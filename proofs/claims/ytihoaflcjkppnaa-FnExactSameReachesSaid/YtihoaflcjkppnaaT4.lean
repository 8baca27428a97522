/- Loops that ask the same of every element. -/
import Derived.Test.YtihoaflcjkppnaaT0
set_option linter.unusedVariables false
set_option linter.unusedSimpArgs false
set_option linter.constructorNameAsVariable false
namespace Go.Proofs.Ytihoaflcjkppnaa
open Go.RowKit
def lenOk {α : Type} (xs : List α) : Bool := okLen xs.length
/-- Where the first element stands of which p is false. -/
def firstNot {α : Type} (p : α → Bool) (xs : List α) : Nat := xs.findIdx fun x => !p x
theorem iter_all {α : Type} {f : List V → List HB → Option (Xt × List V × List HB)} (xs : List α) (p : α → Bool) (S : Nat → List V × List HB) (done : Xt × List V × List HB) (fail : Nat → Xt × List V × List HB)
    (hs : ∀ k x, xs[k]? = some x → f (S k).1 (S k).2 = bif p x then some (.normal, S (k + 1)) else some (fail k)) (he : f (S xs.length).1 (S xs.length).2 = some done) (hd : ∀ s, done ≠ (.normal, s)) (hf : ∀ k s, fail k ≠ (.normal, s)) :
    ∀ (j k : Nat), k + j = xs.length → iterS f (j + 1) (S k).1 (S k).2 = some (bif (xs.drop k).all p then done else fail (k + firstNot p (xs.drop k)))
  | 0, k, hk => by
    have hk' : k = xs.length := by omega
    subst hk'
    rw [List.drop_length]
    simp only [iterS, he, List.all_nil, cond_true]
    obtain ⟨x, vs, bs⟩ := done
    cases x <;> first | rfl | exact absurd rfl (hd (vs, bs))
  | j + 1, k, hk => by
    have hlt : k < xs.length := by omega
    rw [iterS, hs k xs[k] (List.getElem?_eq_getElem hlt), List.drop_eq_getElem_cons hlt, List.all_cons]
    cases hp : p xs[k] with
    | true =>
      simp only [cond_true, Bool.true_and]
      rw [iter_all xs p S done fail hs he hd hf j (k + 1) (by omega)]
      have : firstNot p (xs[k] :: List.drop (k + 1) xs) = firstNot p (List.drop (k + 1) xs) + 1 := by unfold firstNot; rw [List.findIdx_cons, hp]; rfl
      rw [this, show k + 1 + firstNot p (List.drop (k + 1) xs) = k + (firstNot p (List.drop (k + 1) xs) + 1) from by omega]
    | false =>
      simp only [cond_false, Bool.false_and]
      have : firstNot p (xs[k] :: List.drop (k + 1) xs) = 0 := by unfold firstNot; rw [List.findIdx_cons, hp]; rfl
      rw [this, Nat.add_zero]
      cases hfk : fail k with
      | mk x s =>
        have := hf k s
        rw [hfk] at this
        cases x <;> first | rfl | exact absurd rfl this
theorem getD_of {α : Type} {xs : List α} {k : Nat} {x d : α} (h : xs[k]? = some x) : xs.getD k d = x := by simp [List.getD, h]
theorem lt_of_get {α : Type} {xs : List α} {k : Nat} {x : α} (h : xs[k]? = some x) : k < xs.length := (List.getElem?_eq_some_iff.1 h).1
end Go.Proofs.Ytihoaflcjkppnaa
