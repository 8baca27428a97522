/- Plain facts of fixpoints, whole numbers and lists. No condition but those that stand in each statement. -/
import Derived.Test.YtpglfnkkmafhbaaDa
set_option linter.unusedVariables false
set_option linter.unusedSimpArgs false
set_option linter.constructorNameAsVariable false
namespace Go.Proofs.Ytpglfnkkmafhbaa
open Go.RowKit
theorem wrap_id {n : Int} (h0 : -9223372036854775808 ≤ n) (h1 : n ≤ 9223372036854775807) : IntKind.wrap .i64 n = n := by rw [IntKind.wrap_i64]; omega
theorem dif_true {α : Type} {b : Bool} {x y : α} (h : b = true) : (bif b then x else y) = x := by subst h; rfl
theorem dif_false {α : Type} {b : Bool} {x y : α} (h : b = false) : (bif b then x else y) = y := by subst h; rfl
/-- What a loop over a list comes to. -/
def foldE {α τ ρ : Type} (step : Nat → τ → α → τ ⊕ ρ) (fin : τ → ρ) : Nat → τ → List α → ρ
  | _, t, [] => fin t
  | k, t, x :: xs => match step k t x with
    | .inl t' => foldE step fin (k + 1) t' xs
    | .inr r => r
theorem runL_up {α σ ρ τ : Type} {f : σ → Option (σ ⊕ ρ)} (xs : List α) (mk : Nat → τ → σ) (step : Nat → τ → α → τ ⊕ ρ) (fin : τ → ρ) (I : Nat → τ → Prop)
    (h1 : ∀ k t x, I k t → k < xs.length → xs[k]? = some x → f (mk k t) = some (match step k t x with | .inl t' => .inl (mk (k + 1) t') | .inr r => .inr r))
    (hI : ∀ k t x t', I k t → k < xs.length → xs[k]? = some x → step k t x = .inl t' → I (k + 1) t')
    (h2 : ∀ t, I xs.length t → f (mk xs.length t) = some (.inr (fin t))) :
    ∀ (ys : List α) (k : Nat) (t : τ), xs.drop k = ys → k ≤ xs.length → I k t → runL f (mk k t) = some (foldE step fin k t ys)
  | [], k, t, hd, hk, hi => by
    have : k = xs.length := by
      have := congrArg List.length hd
      simp at this; omega
    subst this
    rw [runL_eq, h2 t hi]; rfl
  | y :: ys, k, t, hd, hk, hi => by
    have hlt : k < xs.length := by
      have := congrArg List.length hd
      simp at this; omega
    have hy : xs[k]? = some y := by
      have := congrArg (fun l => l[0]?) hd
      simpa using this
    have hd' : xs.drop (k + 1) = ys := by
      have := congrArg List.tail hd
      simpa using this
    rw [runL_eq, h1 k t y hi hlt hy, foldE]
    cases hs : step k t y with
    | inl t' => exact runL_up xs mk step fin I h1 hI h2 ys (k + 1) t' hd' hlt (hI k t y t' hi hlt hy hs)
    | inr r => rfl
/-- .. from its beginning. -/
theorem runL_for {α σ ρ τ : Type} {f : σ → Option (σ ⊕ ρ)} (xs : List α) (mk : Nat → τ → σ) (step : Nat → τ → α → τ ⊕ ρ) (fin : τ → ρ) (I : Nat → τ → Prop) (t : τ) (h0 : I 0 t)
    (h1 : ∀ k t x, I k t → k < xs.length → xs[k]? = some x → f (mk k t) = some (match step k t x with | .inl t' => .inl (mk (k + 1) t') | .inr r => .inr r))
    (hI : ∀ k t x t', I k t → k < xs.length → xs[k]? = some x → step k t x = .inl t' → I (k + 1) t')
    (h2 : ∀ t, I xs.length t → f (mk xs.length t) = some (.inr (fin t))) : runL f (mk 0 t) = some (foldE step fin 0 t xs) :=
  runL_up xs mk step fin I h1 hI h2 xs 0 t rfl (Nat.zero_le _) h0
/-- .. without a state of its own. -/
theorem foldE_all {α ρ : Type} (p : α → Bool) (r d : ρ) : ∀ (xs : List α) (k : Nat), foldE (fun _ (_ : Unit) x => bif p x then .inl () else .inr r) (fun _ => d) k () xs = bif xs.all p then d else r
  | [], k => rfl
  | x :: xs, k => by
    simp only [foldE, List.all_cons]
    cases hp : p x with
    | true => simp only [cond_true, Bool.true_and]; exact foldE_all p r d xs (k + 1)
    | false => rfl
/-- A test of every element, by index. -/
theorem run_all {α ρ : Type} {f : Int → Option (Int ⊕ ρ)} (xs : List α) (d : α) (p : α → Bool) (r e : ρ) (hl : xs.length ≤ 9223372036854775807)
    (hf : ∀ k : Nat, k < xs.length → ∀ x, xs[k]? = some x → f (k : Int) = some (bif p x then .inl (IntKind.wrap .i64 ((k : Int) + 1)) else .inr r)) (he : f (xs.length : Nat) = some (.inr e)) : runL f 0 = some (bif xs.all p then e else r) := by
  have h := runL_for (f := f) xs (fun k (_ : Unit) => (k : Int)) (fun _ _ x => bif p x then .inl () else .inr r) (fun _ => e) (fun _ _ => True) () trivial (fun k t x _ hk hx => by
    rw [hf k hk x hx, wrap_id (by omega) (by omega)]
    cases p x <;> rfl) (fun _ _ _ _ _ _ _ _ => trivial) (fun _ _ => he)
  rw [foldE_all] at h
  exact h
/-- Where the first element stands that p takes. -/
def fstIdx {α : Type} (p : α → Bool) : Nat → List α → Option Nat
  | _, [] => none
  | k, x :: xs => bif p x then some k else fstIdx p (k + 1) xs
theorem fstIdx_none {α : Type} (p : α → Bool) : ∀ (xs : List α) (k : Nat), (fstIdx p k xs).isSome = xs.any p
  | [], k => rfl
  | x :: xs, k => by
    simp only [fstIdx, List.any_cons]
    cases p x with
    | true => rfl
    | false => simpa using fstIdx_none p xs (k + 1)
theorem fstIdx_lt {α : Type} (p : α → Bool) : ∀ (xs : List α) (k i : Nat), fstIdx p k xs = some i → k ≤ i ∧ i < k + xs.length ∧ ∃ x, xs[i - k]? = some x ∧ p x = true
  | [], k, i, h => by cases h
  | x :: xs, k, i, h => by
    simp only [fstIdx] at h
    cases hp : p x with
    | true => rw [hp] at h; cases h; exact ⟨Nat.le_refl _, by simp, x, by simp, hp⟩
    | false =>
      rw [hp] at h
      obtain ⟨h1, h2, y, h3, h4⟩ := fstIdx_lt p xs (k + 1) i h
      refine ⟨by omega, by simp; omega, y, ?_, h4⟩
      rw [show i - k = (i - (k + 1)) + 1 from by omega]
      simpa using h3
def idxI (o : Option Nat) : Int := match o with
  | some i => (i : Int)
  | none => -1
def idxS (o : Option Nat) : Int ⊕ Unit := match o with
  | some i => .inl (i : Int)
  | none => .inr ()
theorem run_idx {α : Type} {f : Int → Option (Int ⊕ (Int ⊕ Unit))} (xs : List α) (p : α → Bool) (hl : xs.length ≤ 9223372036854775807)
    (hf : ∀ k : Nat, k < xs.length → ∀ x, xs[k]? = some x → f (k : Int) = some (bif p x then .inr (.inl (k : Int)) else .inl (IntKind.wrap .i64 ((k : Int) + 1)))) (he : f (xs.length : Nat) = some (.inr (.inr ()))) :
    runL f 0 = some (idxS (fstIdx p 0 xs)) := by
  have h := runL_for (f := f) xs (fun k (_ : Unit) => (k : Int)) (fun k _ x => bif p x then .inr (.inl (k : Int)) else .inl ()) (fun _ => .inr ()) (fun _ _ => True) () trivial (fun k t x _ hk hx => by
    rw [hf k hk x hx, wrap_id (by omega) (by omega)]
    cases p x <;> rfl) (fun _ _ _ _ _ _ _ _ => trivial) (fun _ _ => he)
  refine h.trans (congrArg some ?_)
  have key : ∀ (ys : List α) (k : Nat), foldE (fun k (_ : Unit) x => bif p x then .inr (.inl (k : Int)) else .inl ()) (fun _ => (.inr () : Int ⊕ Unit)) k () ys = idxS (fstIdx p k ys) := by
    intro ys
    induction ys with
    | nil => intro k; rfl
    | cons y ys ih =>
      intro k
      simp only [foldE, fstIdx]
      cases p y with
      | true => rfl
      | false => exact ih (k + 1)
  exact key xs 0
theorem runL_in {σ ρ : Type} {f : σ → Option (σ ⊕ ρ)} {s s' : σ} (h : f s = some (.inl s')) : runL f s = runL f s' := by rw [runL_eq, h]
theorem runL_out {σ ρ : Type} {f : σ → Option (σ ⊕ ρ)} {s : σ} {r : ρ} (h : f s = some (.inr r)) : runL f s = some r := by rw [runL_eq, h]
theorem runL_same {σ ρ : Type} {f g : σ → Option (σ ⊕ ρ)} (I : σ → Prop) (h : ∀ s, I s → f s = g s) (hI : ∀ s s', I s → g s = some (.inl s') → I s') (s : σ) (hs : I s) : runL f s = runL g s := by
  have key : ∀ n s, I s → iterN f n s = iterN g n s := by
    intro n
    induction n with
    | zero => intro s _; rfl
    | succ n ih =>
      intro s hs
      simp only [iterN, h s hs]
      cases hg : g s with
      | none => rfl
      | some q => cases q with
        | inl s' => exact ih s' (hI s s' hs hg)
        | inr r => rfl
  cases hr : runL g s with
  | some r => obtain ⟨n, hn⟩ := runL_some hr; exact runL_of ((key n s hs).trans hn)
  | none =>
    cases hr2 : runL f s with
    | none => rfl
    | some r => obtain ⟨n, hn⟩ := runL_some hr2; rw [key n s hs] at hn; rw [runL_of hn] at hr; cases hr
theorem wrap_lo (n : Int) : -9223372036854775808 ≤ IntKind.wrap .i64 n := by rw [IntKind.wrap_i64]; omega
theorem wrap_hi (n : Int) : IntKind.wrap .i64 n ≤ 9223372036854775807 := by rw [IntKind.wrap_i64]; omega
/-- A loop that comes to an end, and what is so then. -/
theorem runL_ex {σ ρ : Type} {f : σ → Option (σ ⊕ ρ)} (n : Nat) (I : Nat → σ → Prop) (Q : ρ → Prop) (h : ∀ k s, k < n → I k s → ∃ s', f s = some (.inl s') ∧ I (k + 1) s') (he : ∀ s, I n s → ∃ r, f s = some (.inr r) ∧ Q r) :
    ∀ (j k : Nat) (s : σ), k + j = n → I k s → ∃ r, runL f s = some r ∧ Q r
  | 0, k, s, hk, hi => by
    have : k = n := by omega
    subst this
    obtain ⟨r, h1, h2⟩ := he s hi
    exact ⟨r, by rw [runL_eq, h1], h2⟩
  | j + 1, k, s, hk, hi => by
    obtain ⟨s', h1, h2⟩ := h k s (by omega) hi
    obtain ⟨r, h3, h4⟩ := runL_ex n I Q h he j (k + 1) s' (by omega) h2
    exact ⟨r, by rw [runL_eq, h1]; exact h3, h4⟩
theorem runL_ex0 {σ ρ : Type} {f : σ → Option (σ ⊕ ρ)} (n : Nat) (I : Nat → σ → Prop) (Q : ρ → Prop) (s : σ) (h0 : I 0 s) (h : ∀ k s, k < n → I k s → ∃ s', f s = some (.inl s') ∧ I (k + 1) s') (he : ∀ s, I n s → ∃ r, f s = some (.inr r) ∧ Q r) : ∃ r, runL f s = some r ∧ Q r :=
  runL_ex n I Q h he n 0 s (by omega) h0
theorem inRange {k n : Nat} (h : k < n) : (decide (0 ≤ (k : Int)) && decide ((k : Int) < (n : Int))) = true := by simp; omega
theorem ltRange {k n : Nat} (h : k < n) : decide ((k : Int) < (n : Int)) = true := by simp; omega
theorem zeroLe (k : Nat) : decide (0 ≤ (k : Int)) = true := by simp
theorem brT {α : Type} {b : Bool} {t e : Tr α} (h : b = true) : (Tr.br b t e).sem = t.sem := by subst h; rfl
theorem brF {α : Type} {b : Bool} {t e : Tr α} (h : b = false) : (Tr.br b t e).sem = e.sem := by subst h; rfl
theorem all_true {α : Type} (xs : List α) : (xs.all fun _ => true) = true := List.all_eq_true.2 fun _ _ => rfl
theorem not_lt_self (n : Nat) : decide ((n : Int) < (n : Int)) = false := by simp
theorem getD_at {α : Type} {xs : List α} {k : Nat} {x d : α} (h : xs[k]? = some x) : xs.getD k d = x := by simp [List.getD, h]
theorem idx_tree {r : Option (Int ⊕ Unit)} {o : Option Nat} (h : r = some (idxS o)) : (Tr.br (osome r) (.br (isL (oget r)) (.ok (unL (oget r))) (.ok (-1))) .bad : Tr Int).sem = some (idxI o) := by
  subst h; cases o <;> rfl
theorem has_tree {r : Option Int} {α : Type} {p : α → Bool} {xs : List α} (h : r = some (idxI (fstIdx p 0 xs))) : (Tr.br (osome r) (.ok (decide ((oget r : Int) ≥ 0))) .bad : Tr Bool).sem = some (xs.any p) := by
  subst h
  rw [← fstIdx_none p xs 0]
  simp only [Tr.sem, osome, oget, cond_true]
  cases fstIdx p 0 xs with
  | none => rfl
  | some i => simp [idxI]
theorem not_tree {r : Option Bool} {b : Bool} (h : r = some b) : (Tr.br (osome r) (.ok (! (oget r))) .bad : Tr Bool).sem = some (!b) := by subst h; rfl
theorem not_any {α : Type} (p : α → Bool) (xs : List α) : (!xs.any fun x => !p x) = xs.all p := by
  induction xs with
  | nil => rfl
  | cons x xs ih => simp only [List.any_cons, List.all_cons, Bool.not_or, Bool.not_not, ih]
end Go.Proofs.Ytpglfnkkmafhbaa
