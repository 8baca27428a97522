/- Tables of contracts for the abstract machine; contracts that were proved by hand laid into them. -/
import Derived.Test.YtpglfnkkmafhbaaEr
import Derived.Test.YtpglfnkkmafhbaaNv
set_option linter.unusedVariables false
set_option linter.unusedSimpArgs false
set_option linter.constructorNameAsVariable false
namespace Go.Proofs.Ytpglfnkkmafhbaa
open Go.RowKit
abbrev Spec := List V → Tr (V × List HB)
abbrev Tab := FuncId → Spec
def tab (f0 : FuncId) (sp : Spec) (rest : Tab) : Tab := fun f args => bif Nat.beq f f0 then sp args else rest f args
def tab0 : Tab := fun _ _ => .bad
def TabOk (P : Program) (C : Tab) : Prop := ∀ f args out, (C f args).sem = some out → COk P f args out
def SpecOk (P : Program) (f : FuncId) (sp : Spec) : Prop := ∀ args out, (sp args).sem = some out → COk P f args out
theorem tab0_ok (P : Program) : TabOk P tab0 := fun f args out h => by simp [tab0, Tr.sem] at h
theorem tab_ok {P : Program} {f0 : FuncId} {sp : Spec} {rest : Tab} (h : SpecOk P f0 sp) (hr : TabOk P rest) : TabOk P (tab f0 sp rest) := fun f args out hh => by
  unfold tab at hh
  cases hb : Nat.beq f f0 with
  | true => rw [hb] at hh; obtain rfl := Nat.eq_of_beq_eq_true hb; exact h args out hh
  | false => rw [hb] at hh; exact hr f args out hh
def envOf (P : Program) (C : Tab) : Env := ⟨tyOf P, C, fun _ => false, fun _ _ _ => .bad, true, 0, fun _ => false, false⟩
theorem env_ok {P : Program} {C : Tab} (h : TabOk P C) : EnvOk P (envOf P C) := ⟨fun _ _ e => e, h, fun f args bs out hh => by simp [envOf, Tr.sem] at hh, fun _ hh => by cases hh⟩
def noLoops : Loops := ⟨0, fun _ => [], fun _ _ _ => 0, fun _ _ _ => .bad⟩
def loopFree : Code → Bool
  | .seq a b => loopFree a && loopFree b
  | .cond _ a b => loopFree a && loopFree b
  | .block _ b => loopFree b
  | .scope b => loopFree b
  | .loop _ => false
  | _ => true
theorem loopFree_ok {P : Program} {E : Env} {L : Loops} : ∀ {c : Code}, loopFree c = true → LoopsOk P E L c
  | .seq a b, h => by simp only [loopFree, Bool.and_eq_true] at h; exact ⟨loopFree_ok h.1, loopFree_ok h.2⟩
  | .cond _ a b, h => by simp only [loopFree, Bool.and_eq_true] at h; exact ⟨loopFree_ok h.1, loopFree_ok h.2⟩
  | .block _ b, h => loopFree_ok (c := b) h
  | .scope b, h => loopFree_ok (c := b) h
  | .loop _, h => by cases h
  | .skip, _ => trivial
  | .region _ _ _, _ => trivial
  | .rangeFunc _ _ _ _, _ => trivial
  | .exit _, _ => trivial
  | .label _, _ => trivial
  | .goto _, _ => trivial
  | .ret, _ => trivial
  | .refuse _, _ => trivial
/-- What is looked at once of a function. -/
def fnFit (fn : Func) : Bool := !(fn.name == "runtime.NumGoroutine") && match fn.body with
  | some c => loopFree c
  | none => false
/-- A function without loops: its contract is what the abstract machine makes of it. -/
theorem auto_ok {P : Program} {C : Tab} (hC : TabOk P C) (hm : P.follows .mixedOrders = true) {f : FuncId} {fn : Func} (hf : P.funcs[f]? = some fn) (hfit : fnFit fn = true) : SpecOk P f (evFn (envOf P C) noLoops fn) := fun args out h => by
  unfold fnFit at hfit
  cases hb : fn.body with
  | none => rw [hb] at hfit; simp at hfit
  | some c =>
    rw [hb] at hfit
    simp only [Bool.and_eq_true, Bool.not_eq_true'] at hfit
    exact fn_sound hm (env_ok hC) hf hfit.1 hb (loopFree_ok hfit.2) h
/-- .. or what has the same outcomes. -/
theorem same_ok {P : Program} {f : FuncId} {sp sp' : Spec} (h : SpecOk P f sp) (he : ∀ args out, (sp' args).sem = some out → (sp args).sem = some out) : SpecOk P f sp' := fun args out hh => h args out (he args out hh)
theorem ret_quiet {w w' : World} {S : Nat → Prop} {cv : Value} {v : V} (hS : ∀ b, S b → b < w.heap.size) (k : Below w.heap.size w w') (hr : Rel B0 S w' cv v) : Ret w S v [] (.returned cv) w' := by
  refine ⟨cv, B0, S, rfl, sim_mk ⟨k.os, k.tape, k.output, k.size, fun i hi _ => k.block i hi, below_szs k⟩ ⟨fun id hb h => by simp at h, fun id hb blk n h => by simp at h, fun id hb blk n h => by simp at h, fun id id' hb hb' blk n n' h => by simp at h, fun _ _ => rfl, ⟨fun _ _ => none, ⟨fun _ _ _ e => (by simp at e), fun _ _ _ _ e => (by cases e), fun _ _ _ _ _ _ _ e => (by cases e), fun _ _ _ _ _ _ _ _ _ _ e => (by cases e)⟩⟩⟩ (fun b hb => ⟨Nat.lt_of_lt_of_le (hS b hb) k.size, .inl hb⟩) rfl rfl fun i => ?_⟩
  refine assoc_rel (R := fun i v => Rel B0 S w' ((#[cv] : Array Value).getD i undef) v) (fun i => .undef _) _ _ (fun j t u e1 e2 => ?_) i
  cases j with
  | zero => simp at e1 e2; subst e1; subst e2; simpa using hr
  | succ j => simp at e1
theorem drewN_below (w : World) (n : Nat) : Below w.heap.size w (w.drewN n) := ⟨rfl, rfl, rfl, Nat.le_refl _, fun _ _ => rfl⟩
theorem args1 {w : World} {S : Nat → Prop} {cargs : Array Value} {v : V} (h : CellsRel B0 S w cargs [v]) : ∃ c, cargs = #[c] ∧ Rel B0 S w c v := by
  obtain ⟨h1, h2⟩ := h
  have h0 := h2 0 v rfl
  match hc : cargs.toList, (show cargs.toList.length = 1 from h1) with
  | [c], _ =>
    have : cargs = #[c] := by apply Array.ext'; rw [hc]
    subst this
    exact ⟨c, rfl, by simpa using h0⟩
theorem args2 {w : World} {S : Nat → Prop} {cargs : Array Value} {v u : V} (h : CellsRel B0 S w cargs [v, u]) : ∃ c d, cargs = #[c, d] ∧ Rel B0 S w c v ∧ Rel B0 S w d u := by
  obtain ⟨h1, h2⟩ := h
  have h0 := h2 0 v rfl
  have h3 := h2 1 u rfl
  match hc : cargs.toList, (show cargs.toList.length = 2 from h1) with
  | [c, d], _ =>
    have : cargs = #[c, d] := by apply Array.ext'; rw [hc]
    subst this
    exact ⟨c, d, rfl, by simpa using h0, by simpa using h3⟩
def fnIn (fn : Func) : Bool := !(fn.name == "runtime.NumGoroutine") && !fn.body.isNone
theorem entered {P : Program} {f : FuncId} {fn : Func} (hf : P.funcs[f]? = some fn) (hfit : fnIn fn = true) {args : Array Value} {w : World} {R : Ending → World → Prop} (h : Calls P f args w R) : Entered P f args w R := by
  unfold fnIn at hfit
  simp only [Bool.and_eq_true, Bool.not_eq_true'] at hfit
  exact entered_of_calls hf hfit.1 hfit.2 h
/-- One float to a truth value. -/
def spFB (k : FloatKind) (p : Nat → Bool) : Spec
  | [.f k' c] => bif decide (k = k') then .ok (.b (p c), []) else .bad
  | _ => .bad
theorem spFB_ok {P : Program} {f : FuncId} {fn : Func} (hf : P.funcs[f]? = some fn) (hfit : fnIn fn = true) {k : FloatKind} {p : Nat → Bool} (h : ∀ {x c : Nat} (hx : Fl k x c) {w : World}, Calls P f #[.float k x] w (RB w (p c))) : SpecOk P f (spFB k p) := fun args out hh => by
  unfold spFB at hh
  split at hh
  case h_2 => simp [Tr.sem] at hh
  rename_i k' c
  cases hk : decide (k = k') with
  | false => rw [hk] at hh; simp [Tr.sem] at hh
  | true =>
    obtain rfl : k = k' := by simpa using hk
    rw [hk] at hh
    simp only [cond_true, Tr.sem, Option.some.injEq] at hh
    subst hh
    intro w S cargs hS hargs
    obtain ⟨c', rfl, hr⟩ := args1 hargs
    obtain ⟨r, rfl, hfl⟩ := rel_f hr
    refine entered hf hfit ((h hfl).mono ?_)
    rintro e w' ⟨b, hb, rfl, n, rfl⟩
    subst hb
    exact ret_quiet hS (drewN_below w n) (.b _)
/-- One float to a float. -/
def spFF (k k2 : FloatKind) (p : Nat → Nat) : Spec
  | [.f k' c] => bif decide (k = k') then .ok (.f k2 (p c), []) else .bad
  | _ => .bad
theorem spFF_ok {P : Program} {f : FuncId} {fn : Func} (hf : P.funcs[f]? = some fn) (hfit : fnIn fn = true) {k k2 : FloatKind} {p : Nat → Nat} (h : ∀ {x c : Nat} (hx : Fl k x c) {w : World}, Calls P f #[.float k x] w (RF k2 w (p c))) : SpecOk P f (spFF k k2 p) := fun args out hh => by
  unfold spFF at hh
  split at hh
  case h_2 => simp [Tr.sem] at hh
  rename_i k' c
  cases hk : decide (k = k') with
  | false => rw [hk] at hh; simp [Tr.sem] at hh
  | true =>
    obtain rfl : k = k' := by simpa using hk
    rw [hk] at hh
    simp only [cond_true, Tr.sem, Option.some.injEq] at hh
    subst hh
    intro w S cargs hS hargs
    obtain ⟨c', rfl, hr⟩ := args1 hargs
    obtain ⟨r, rfl, hfl⟩ := rel_f hr
    refine entered hf hfit ((h hfl).mono ?_)
    rintro e w' ⟨r', hr', rfl, n, rfl⟩
    exact ret_quiet hS (drewN_below w n) (.f hr')
/-- One float to a float and whether it is one. -/
def spFFB (k : FloatKind) (p : Nat → Nat × Bool) : Spec
  | [.f k' c] => bif decide (k = k') then .ok (.tup [.f k (p c).1, .b (p c).2], []) else .bad
  | _ => .bad
theorem tup2_rel {w : World} {S : Nat → Prop} {c d : Value} {u v : V} (h1 : Rel B0 S w c u) (h2 : Rel B0 S w d v) : Rel B0 S w (.tuple #[c, d]) (.tup [u, v]) := .tup rfl fun j x hx => by
  match j with
  | 0 => simp at hx; subst hx; simpa using h1
  | 1 => simp at hx; subst hx; simpa using h2
  | j + 2 => simp at hx
theorem spFFB_ok {P : Program} {f : FuncId} {fn : Func} (hf : P.funcs[f]? = some fn) (hfit : fnIn fn = true) {k : FloatKind} {p : Nat → Nat × Bool} (h : ∀ {x c : Nat} (hx : Fl k x c) {w : World}, Calls P f #[.float k x] w (RFB k w (p c))) : SpecOk P f (spFFB k p) := fun args out hh => by
  unfold spFFB at hh
  split at hh
  case h_2 => simp [Tr.sem] at hh
  rename_i k' c
  cases hk : decide (k = k') with
  | false => rw [hk] at hh; simp [Tr.sem] at hh
  | true =>
    obtain rfl : k = k' := by simpa using hk
    rw [hk] at hh
    simp only [cond_true, Tr.sem, Option.some.injEq] at hh
    subst hh
    intro w S cargs hS hargs
    obtain ⟨c', rfl, hr⟩ := args1 hargs
    obtain ⟨r, rfl, hfl⟩ := rel_f hr
    refine entered hf hfit ((h hfl).mono ?_)
    rintro e w' ⟨r', b, hr', hb, rfl, n, rfl⟩
    subst hb
    exact ret_quiet hS (drewN_below w n) (tup2_rel (.f hr') (.b _))
/-- Two floats to a truth value. -/
def spFFtoB (k : FloatKind) (p : Nat → Nat → Bool) : Spec
  | [.f k' c, .f k'' d] => bif decide (k = k') && decide (k = k'') then .ok (.b (p c d), []) else .bad
  | _ => .bad
theorem spFFtoB_ok {P : Program} {f : FuncId} {fn : Func} (hf : P.funcs[f]? = some fn) (hfit : fnIn fn = true) {k : FloatKind} {p : Nat → Nat → Bool} (h : ∀ {x c y d : Nat} (hx : Fl k x c) (hy : Fl k y d) {w : World}, Calls P f #[.float k x, .float k y] w (RB w (p c d))) : SpecOk P f (spFFtoB k p) := fun args out hh => by
  unfold spFFtoB at hh
  split at hh
  case h_2 => simp [Tr.sem] at hh
  rename_i k' c k'' d
  cases hk : (decide (k = k') && decide (k = k'')) with
  | false => rw [hk] at hh; simp [Tr.sem] at hh
  | true =>
    simp only [Bool.and_eq_true, decide_eq_true_eq] at hk
    obtain ⟨rfl, rfl⟩ := hk
    simp only [decide_true, Bool.and_self, cond_true, Tr.sem, Option.some.injEq] at hh
    subst hh
    intro w S cargs hS hargs
    obtain ⟨c', d', rfl, hr, hr'⟩ := args2 hargs
    obtain ⟨r, rfl, hfl⟩ := rel_f hr
    obtain ⟨r', rfl, hfl'⟩ := rel_f hr'
    refine entered hf hfit ((h hfl hfl').mono ?_)
    rintro e w' ⟨b, hb, rfl, n, rfl⟩
    subst hb
    exact ret_quiet hS (drewN_below w n) (.b _)
/-! ### Loops -/
theorem loops_ok {P : Program} {E : Env} {L : Loops} : ∀ {c : Code}, (∀ p ∈ loopsIn c, LOk P E L p.1 p.2) → LoopsOk P E L c
  | .seq a b, h => ⟨loops_ok fun p hp => h p (List.mem_append_left _ hp), loops_ok fun p hp => h p (List.mem_append_right _ hp)⟩
  | .cond _ a b, h => ⟨loops_ok fun p hp => h p (List.mem_append_left _ hp), loops_ok fun p hp => h p (List.mem_append_right _ hp)⟩
  | .block _ b, h => loops_ok (c := b) h
  | .scope b, h => loops_ok (c := b) h
  | .loop b, h => fun k hk => h (k, b) (by simp only [loopsIn, hk]; exact List.mem_singleton.2 rfl)
  | .skip, _ => trivial
  | .region _ _ _, _ => trivial
  | .rangeFunc _ _ _ _, _ => trivial
  | .exit _, _ => trivial
  | .label _, _ => trivial
  | .goto _, _ => trivial
  | .ret, _ => trivial
  | .refuse _, _ => trivial
/-- A function with one loop. -/
theorem loop1_ok {P : Program} {C : Tab} (hC : TabOk P C) (hm : P.follows .mixedOrders = true) {f : FuncId} {fn : Func} (hf : P.funcs[f]? = some fn) (hname : (fn.name == "runtime.NumGoroutine") = false) {c : Code} (hb : fn.body = some c) {L : Loops} {k : Nat} {body : Code}
    (hl : loopsIn c = [(k, body)]) (hfree : loopFree body = true)
    (h : ∀ vs bs out, (L.loop k vs bs).sem = some out → ∃ n, iterS (fun vs bs => (loopStep (envOf P C) L k body vs bs).sem) n vs bs = some out) : SpecOk P f (evFn (envOf P C) L fn) := fun args out hh =>
  fn_sound hm (env_ok hC) hf hname hb (loops_ok fun p hp => by
    rw [hl, List.mem_singleton] at hp
    subst hp
    exact loop_sound hm (env_ok hC) (loopFree_ok hfree) h) hh
/-- A loop whose states are told. -/
theorem iter_inv {f : List V → List HB → Option (Xt × List V × List HB)} (S : Nat → List V × List HB) (out : Xt × List V × List HB) : ∀ (n i : Nat), (∀ k, i ≤ k → k < i + n → f (S k).1 (S k).2 = some (.normal, S (k + 1))) → f (S (i + n)).1 (S (i + n)).2 = some out → (∀ s, out ≠ (.normal, s)) →
    iterS f (n + 1) (S i).1 (S i).2 = some out
  | 0, i, hs, he, hn => by
    simp only [Nat.add_zero] at he
    simp only [iterS, he]
    obtain ⟨x, vs, bs⟩ := out
    cases x <;> first | rfl | exact absurd rfl (hn (vs, bs))
  | n + 1, i, hs, he, hn => by
    have h0 := hs i (Nat.le_refl _) (by omega)
    rw [iterS, h0]
    exact iter_inv S out n (i + 1) (fun k h1 h2 => hs k (by omega) (by omega)) (by rw [show i + 1 + n = i + (n + 1) from by omega]; exact he) hn
def okLen (n : Nat) : Bool := decide (n ≤ 1048576)
theorem wrap_small {n : Int} (h0 : -9223372036854775808 ≤ n) (h1 : n ≤ 9223372036854775807) : IntKind.wrap .i64 n = n := by rw [IntKind.wrap_i64]; omega
end Go.Proofs.Ytpglfnkkmafhbaa
