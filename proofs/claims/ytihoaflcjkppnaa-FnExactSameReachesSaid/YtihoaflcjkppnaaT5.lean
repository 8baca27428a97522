/- Trees read way by way. -/
import Derived.Test.YtihoaflcjkppnaaT3
import Derived.Test.YtihoaflcjkppnaaT4
set_option linter.unusedVariables false
set_option linter.unusedSimpArgs false
set_option linter.constructorNameAsVariable false
namespace Go.Proofs.Ytihoaflcjkppnaa
open Go.RowKit
def Says {α : Type} (Q : Option α → Prop) (t : Tr α) : Prop := Q t.sem
section
variable {α : Type} {Q : Option α → Prop} {t e : Tr α}
theorem sb_t {b : Bool} (h : b = true) (ht : Says Q t) : Says Q (.br b t e) := by subst h; exact ht
theorem sb_f {b : Bool} (h : b = false) (he : Says Q e) : Says Q (.br b t e) := by subst h; exact he
theorem sb_c (b : Bool) (ht : b = true → Says Q t) (he : b = false → Says Q e) : Says Q (.br b t e) := by
  cases b with
  | true => exact ht rfl
  | false => exact he rfl
end
theorem sb_x {p : Prop} (b : Bool) (ht : b = true → p) (he : b = false → p) : p := by
  cases b with
  | true => exact ht rfl
  | false => exact he rfl
def Tru : Option (V × List HB) → Prop
  | some p => isTrue p.1 = true
  | none => False
theorem says_true {t : Tr (V × List HB)} (h : Says Tru t) : saysTrue t = true := by
  unfold Says Tru at h
  unfold saysTrue
  split at h
  · rename_i p hp; rw [hp]; exact h
  · exact h.elim
theorem leaf_b {b : Bool} {bs : List HB} (h : b = true) : Says Tru (.ok (.b b, bs)) := by subst h; rfl
theorem leaf_lb {bs : List HB} : Says Tru (.ok (.lb true, bs)) := rfl
def Is (out : V × List HB) : Option (V × List HB) → Prop := fun o => o = some out
theorem is_of {t t' : Tr (V × List HB)} {out : V × List HB} (h : t'.sem = some out) (hs : Says (fun o => o = t'.sem) t) : t.sem = some out := by
  unfold Says at hs; rw [hs]; exact h
def natEq (a b : Nat) : Bool := decide (a = b)
theorem natEq_self (a : Nat) : natEq a a = true := by simp [natEq]
def allB {α : Type} (xs : List α) (p : α → Bool) : Bool := xs.all p
def natI (n : Nat) : Int := (n : Nat)
theorem natI_ge (n : Nat) : decide ((natI n : Int) ≥ 0) = true := by simp [natI]
/-- Two words that are the same. -/
def spSame (k : FloatKind) : Spec
  | [.f k' c, .f k'' d] => bif decide (k = k') && decide (k = k'') then .br (natEq c d) (.ok (.lb true, [])) .bad else .bad
  | _ => .bad
theorem spSame_ok {P : Program} {f : FuncId} {fn : Func} (hf : P.funcs[f]? = some fn) (hfit : fnIn fn = true) {k : FloatKind} (h : ∀ {x y c : Nat} (hx : Fl k x c) (hy : Fl k y c) {w : World}, Calls P f #[.float k x, .float k y] w (RB w true)) : SpecOk P f (spSame k) := fun args out hh => by
  unfold spSame at hh
  split at hh
  case h_2 => simp [Tr.sem] at hh
  rename_i k' c k'' d
  cases hk : (decide (k = k') && decide (k = k'')) with
  | false => rw [hk] at hh; simp [Tr.sem] at hh
  | true =>
    simp only [Bool.and_eq_true, decide_eq_true_eq] at hk
    obtain ⟨rfl, rfl⟩ := hk
    cases hcd : natEq c d with
    | false => rw [hcd] at hh; simp [Tr.sem] at hh
    | true =>
      rw [hcd] at hh
      obtain rfl : c = d := by simpa [natEq] using hcd
      simp only [decide_true, Bool.and_self, cond_true, Tr.sem, Option.some.injEq] at hh
      subst hh
      intro w S cargs hS hargs
      obtain ⟨c', d', rfl, hr, hr'⟩ := args2 hargs
      obtain ⟨r, rfl, hfl⟩ := rel_f hr
      obtain ⟨r', rfl, hfl'⟩ := rel_f hr'
      refine entered hf hfit ((h hfl hfl').mono ?_)
      rintro e w' ⟨b, hb, rfl, n, rfl⟩
      subst hb
      exact ret_quiet hS (drewN_below w n) (.lb _)
/-- All floats of a list. -/
def spAll (k : FloatKind) (p : Nat → Bool) : Spec
  | [.ds [.f k'] xs] => bif decide (k = k') then .br (lenOk xs) (.br (allB xs p) (.ok (.lb true, [])) (.ok (.lb false, []))) .bad else .bad
  | _ => .bad
/-- Where the first float stands of which p is false. -/
def spIdx (k : FloatKind) (g : FuncId) (p : Nat → Bool) : Spec
  | [.ds [.f k'] xs, .fn g' []] => bif decide (k = k') && Nat.beq g g' then .br (lenOk xs) (.br (allB xs p) (.ok (.i .i64 (-1), [])) (.ok (.i .i64 (firstNot p xs : Nat), []))) .bad else .bad
  | _ => .bad
/-- Two contracts of one function, told apart by the function it is given. -/
def spTwo (g : FuncId) (s1 s2 : Spec) : Spec := fun args => match args with
  | [_, .fn g' []] => bif Nat.beq g' g then s1 args else s2 args
  | _ => .bad
theorem spTwo_ok {P : Program} {f g : FuncId} {s1 s2 : Spec} (h1 : SpecOk P f s1) (h2 : SpecOk P f s2) : SpecOk P f (spTwo g s1 s2) := fun args out h => by
  unfold spTwo at h
  split at h
  · rename_i a g'
    cases hg : Nat.beq g' g with
    | true => rw [hg] at h; exact h1 _ out h
    | false => rw [hg] at h; exact h2 _ out h
  · simp [Tr.sem] at h
/-- A truth value that is written out is a truth value. -/
def nb1 : V → V
  | .lb q => .b q
  | v => v
def nbV : V → V
  | .tup l => .tup (l.map nb1)
  | v => nb1 v
def nb (p : V × List HB) : V × List HB := (nbV p.1, p.2)
theorem nb1_rel {β : Bt} {S : Nat → Prop} {w : World} {cv : Value} {u v : V} (h : nb1 u = nb1 v) (hr : Rel β S w cv u) : Rel β S w cv v := by
  unfold nb1 at h
  split at h
  · cases hr
    split at h
    · cases h; exact .lb _
    · subst h; exact .b _
  · split at h
    · subst h; cases hr; exact .lb _
    · subst h; exact hr
theorem nb1_tup {v : V} {l : List V} (h : nb1 v = .tup l) : v = .tup l := by
  unfold nb1 at h
  split at h
  · cases h
  · exact h
theorem nb_rel {β : Bt} {S : Nat → Prop} {w : World} {cv : Value} {u v : V} (h : nbV u = nbV v) (hr : Rel β S w cv u) : Rel β S w cv v := by
  unfold nbV at h
  split at h
  · rename_i l
    have key : ∀ m : List V, l.map nb1 = m.map nb1 → Rel β S w cv (.tup m) := fun m hm => by
      obtain ⟨cs, rfl, h1, h2⟩ := rel_tup hr
      have hl : l.length = m.length := by simpa using congrArg List.length hm
      refine .tup (h1.trans hl) fun j x hx => ?_
      have hj : j < l.length := by rw [hl]; exact (List.getElem?_eq_some_iff.1 hx).1
      have h3 := congrArg (fun q => q[j]?) hm
      simp only [List.getElem?_map, hx, List.getElem?_eq_getElem hj, Option.map_some, Option.some.injEq] at h3
      exact nb1_rel h3 (h2 j _ (List.getElem?_eq_getElem hj))
    split at h
    · rename_i m
      simp only [V.tup.injEq] at h
      exact key m h
    · have := nb1_tup h.symm
      first | (rename_i h9; exact (h9 _ this).elim) | (rename_i h9 _; exact (h9 _ this).elim) | (rename_i h9 _ _; exact (h9 _ this).elim) | (rename_i h9 _ _ _; exact (h9 _ this).elim)
  · split at h
    · have := nb1_tup h
      first | (rename_i h9; exact (h9 _ this).elim) | (rename_i h9 _; exact (h9 _ this).elim) | (rename_i h9 _ _; exact (h9 _ this).elim) | (rename_i h9 _ _ _; exact (h9 _ this).elim)
    · exact nb1_rel h hr
theorem nb_ret {w w' : World} {S : Nat → Prop} {u v : V} {bs : List HB} {e : Ending} (h : nbV u = nbV v) (hr : Ret w S u bs e w') : Ret w S v bs e w' := by
  obtain ⟨cv, β, S', rfl, hs⟩ := hr
  refine ⟨cv, β, S', rfl, ⟨hs.kept, fun i => ?_, hs.n, hs.df, hs.blk, hs.own, hs.fzn, hs.inj, hs.sb, hs.fresh⟩⟩
  have := hs.tm i
  match i with
  | 0 => exact nb_rel h this
  | i + 1 => exact this
theorem nb_cok {P : Program} {f : FuncId} {args : List V} {p q : V × List HB} (h : nb p = nb q) (hc : COk P f args p) : COk P f args q := by
  obtain ⟨u, bs⟩ := p
  obtain ⟨v, cs⟩ := q
  simp only [nb, Prod.mk.injEq] at h
  obtain ⟨h1, rfl⟩ := h
  intro w S cargs hS ha
  have := hc w S cargs hS ha
  unfold Entered at this ⊢
  split at this
  · exact nb_ret h1 this
  · exact this.mono fun e w' => nb_ret h1
  · exact this.elim
theorem same_nb {P : Program} {f : FuncId} {sp sp' : Spec} (h : SpecOk P f sp) (he : ∀ args out, (sp' args).sem = some out → ∃ out', (sp args).sem = some out' ∧ nb out' = nb out) : SpecOk P f sp' := fun args out hh => by
  obtain ⟨out', h1, h2⟩ := he args out hh
  exact nb_cok h2 (h args out' h1)
theorem is_nb {t t' : Tr (V × List HB)} {out : V × List HB} (h : t'.sem = some out) (hs : Says (fun o => o.map nb = t'.sem.map nb ∨ t'.sem = none) t) : ∃ out', t.sem = some out' ∧ nb out' = nb out := by
  unfold Says at hs
  rw [h] at hs
  rcases hs with hs | hs
  · cases ht : t.sem with
    | none => rw [ht] at hs; cases hs
    | some o => rw [ht] at hs; exact ⟨o, rfl, by simpa using hs⟩
  · cases hs
end Go.Proofs.Ytihoaflcjkppnaa
