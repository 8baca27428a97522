/- The abstract machine, part 2: when values, blocks and states of it stand for those of the model. -/
import Derived.Test.YtpglfnkkmafhbaaEa
set_option linter.unusedVariables false
set_option linter.unusedSimpArgs false
set_option linter.constructorNameAsVariable false
namespace Go.Proofs.Ytpglfnkkmafhbaa
open Go.RowKit

namespace RM
/-- What comes of an operation's doing; the reads forgotten. -/
def ev {α : Type} (h : Nat → Option HB) : RM α → Option α
  | .ok a => some a
  | .read id k => match h id with
    | some b => (k b).ev h
    | none => none
  | .br b t e => bif b then t.ev h else e.ev h
  | .bad => none
theorem ev_bind {α β : Type} (h : Nat → Option HB) (f : α → RM β) : ∀ m : RM α, (m.bind f).ev h = (m.ev h).bind fun a => (f a).ev h
  | .ok a => rfl
  | .read id k => by
    simp only [RM.bind, RM.ev]
    cases h id with
    | none => rfl
    | some b => exact ev_bind h f (k b)
  | .br b t e => by cases b <;> simp [RM.bind, RM.ev, ev_bind h f t, ev_bind h f e]
  | .bad => rfl
theorem run_ev {α : Type} (h : Nat → Option HB) : ∀ (m : RM α) (rs : List Nat), ((m.run h rs).sem).map (·.1) = m.ev h
  | .ok a, rs => rfl
  | .read id k, rs => by
    simp only [RM.run, RM.ev]
    cases h id with
    | none => rfl
    | some b => exact run_ev h (k b) _
  | .br b t e, rs => by cases b <;> simp [RM.run, RM.ev, Tr.sem, run_ev h t, run_ev h e]
  | .bad, rs => rfl
theorem ev_ofTr {α : Type} (h : Nat → Option HB) : ∀ t : Tr α, (ofTr t).ev h = t.sem
  | .ok a => rfl
  | .br b t e => by cases b <;> simp [RM.ofTr, RM.ev, Tr.sem, ev_ofTr h t, ev_ofTr h e]
  | .bad => rfl
theorem ev_ofOpt {α : Type} (h : Nat → Option HB) (o : Option α) : (ofOpt o).ev h = o := by cases o <;> rfl
end RM

/-- Which block of memory an own block is, and how many cells of it are meant. -/
abbrev Bt := Nat → Option (Nat × Nat)
/-- 'v' stands for a value of the model. -/
inductive Rel (β : Bt) (S : Nat → Prop) (w : World) : Value → V → Prop
  | undef (v : Value) : Rel β S w v .undef
  | x (v : Value) : Rel β S w v (.x v)
  | b (q : Bool) : Rel β S w (.bool q) (.b q)
  | lb (q : Bool) : Rel β S w (.bool q) (.lb q)
  | i (k : IntKind) (n : Int) : Rel β S w (.int k n) (.i k n)
  | f {k : FloatKind} {r c : Nat} (h : Fl k r c) : Rel β S w (.float k r) (.f k c)
  | c {k : FloatKind} {r s p q : Nat} (h : Fl k r p) (h' : Fl k s q) : Rel β S w (.complex k r s) (.c k p q)
  | agg {cs : Array Value} {l : List V} (hl : cs.size = l.length) (h : ∀ j v, l[j]? = some v → Rel β S w (cs.getD j undef) v) : Rel β S w (.agg cs) (.agg l)
  | tup {cs : Array Value} {l : List V} (hl : cs.size = l.length) (h : ∀ j v, l[j]? = some v → Rel β S w (cs.getD j undef) v) : Rel β S w (.tuple cs) (.tup l)
  | nilp : Rel β S w (.pointer none) .nilp
  | nils : Rel β S w (.slice none 0 0) .nils
  | nilf : Rel β S w .nilFunc .nilf
  | ref {id off blk n : Nat} (h : β id = some (blk, n)) : Rel β S w (.pointer (some ⟨blk, off, none⟩)) (.ref id off)
  | rel {id st i j blk n : Nat} (h : β id = some (blk, n)) (hi : i * st + st ≤ n) : Rel β S w (.pointer (some ⟨blk, i * st + j, none⟩)) (.rel id st i j)
  | slw {id st blk len cap : Nat} (h : β id = some (blk, len * st)) (hs : ∃ c t fr, w.heap[blk]? = some (.cells c t fr) ∧ cap * st ≤ c.size) (hl : len ≤ cap) : Rel β S w (.slice (some ⟨blk, 0, none⟩) len cap) (.slw id st)
  | ds {row : List Ck} {xs : List (DR row)} {blk o cap : Nat} (hS : S blk) (g : Nat → Nat → Value) (hc : ∀ i, i < xs.length → ∀ c, c < row.length → w.cell? ⟨blk, o + i * row.length + c, none⟩ = some (g i c))
      (hr : ∀ i x, xs[i]? = some x → ∀ c v, (encR row x)[c]? = some v → Rel β S w (g i c) v) (hl : xs.length ≤ cap) : Rel β S w (.slice (some ⟨blk, o, none⟩) xs.length cap) (.ds row xs)
  | dsnil {row : List Ck} {a : Option Addr} {cap : Nat} : Rel β S w (.slice a 0 cap) (.ds row [])
  | ds0 {a : Option Addr} : Rel β S w (.slice a 0 0) .ds0
  | dpt {l : List V} {blk o off : Nat} (hS : S blk) (g : Nat → Value) (hc : ∀ j, j < l.length → w.cell? ⟨blk, o + j, none⟩ = some (g j)) (hr : ∀ j v, l[j]? = some v → Rel β S w (g j) v) :
      Rel β S w (.pointer (some ⟨blk, o + off, none⟩)) (.dpt l off)
  | fn {f : FuncId} {cs : Array Value} {l : List V} (hl : cs.size = l.length) (h : ∀ j v, l[j]? = some v → Rel β S w (cs.getD j undef) v) : Rel β S w (.func (.func f) #[] cs) (.fn f l)

/-- Rows of cells keep their number of cells. -/
def Szs (w w' : World) : Prop := ∀ (b : Nat) c t fr, w.heap[b]? = some (.cells c t fr) → ∃ c' fr', w'.heap[b]? = some (.cells c' t fr') ∧ c'.size = c.size
theorem Szs.refl (w : World) : Szs w w := fun b c t fr h => ⟨c, fr, h, rfl⟩
theorem Szs.trans {a b c : World} (h : Szs a b) (k : Szs b c) : Szs a c := fun i x t fr hx => by
  obtain ⟨y, fr', hy, e⟩ := h i x t fr hx
  obtain ⟨z, fr'', hz, e'⟩ := k i y t fr' hy
  exact ⟨z, fr'', hz, e'.trans e⟩
/-- What is read does not turn. -/
theorem Rel.mono {β β' : Bt} {S S' : Nat → Prop} {w w' : World} (hβ : ∀ id p, β id = some p → β' id = some p) (hS : ∀ b, S b → S' b) (hc : ∀ b, S b → ∀ o, w'.cell? ⟨b, o, none⟩ = w.cell? ⟨b, o, none⟩) (hz : Szs w w')
    {v : Value} {u : V} (h : Rel β S w v u) : Rel β' S' w' v u := by
  induction h with
  | undef v => exact .undef v
  | x v => exact .x v
  | b q => exact .b q
  | lb q => exact .lb q
  | i k n => exact .i k n
  | f h => exact .f h
  | c h h' => exact .c h h'
  | agg hl _ ih => exact .agg hl ih
  | tup hl _ ih => exact .tup hl ih
  | nilp => exact .nilp
  | nils => exact .nils
  | nilf => exact .nilf
  | ref h => exact .ref (hβ _ _ h)
  | rel h hi => exact .rel (hβ _ _ h) hi
  | slw h hs hl =>
    obtain ⟨c, t, fr, hh, hle⟩ := hs
    obtain ⟨c', fr', hh', e⟩ := hz _ _ _ _ hh
    exact .slw (hβ _ _ h) ⟨c', t, fr', hh', by rw [e]; exact hle⟩ hl
  | ds s g hcell _ hl ih => exact .ds (hS _ s) g (fun i hi c hc' => by rw [hc _ s]; exact hcell i hi c hc') ih hl
  | dsnil => exact .dsnil
  | ds0 => exact .ds0
  | dpt s g hcell _ ih => exact .dpt (hS _ s) g (fun j hj => by rw [hc _ s]; exact hcell j hj) ih
  | fn hl _ ih => exact .fn hl ih

/-- A block of the call's own stands for a row of cells. -/
def BRel (β : Bt) (S : Nat → Prop) (w : World) (id : Nat) : Blk → Prop
  | .cells l => ∃ blk c t, β id = some (blk, l.length) ∧ w.heap[blk]? = some (.cells c t (0, 0)) ∧ c.size = l.length ∧ ∀ j v, l[j]? = some v → Rel β S w (c.getD j undef) v
  | .arr row xs => ∃ blk c t, β id = some (blk, xs.length * row.length) ∧ w.heap[blk]? = some (.cells c t (0, 0)) ∧ xs.length * row.length ≤ c.size ∧
      ∀ i x, xs[i]? = some x → ∀ j v, (encR row x)[j]? = some v → Rel β S w (c.getD (i * row.length + j) undef) v
  | .dead => True
/-- Of what was there at first nothing has turned but what may. -/
structure Kept (M : Nat → Prop) (w w' : World) : Prop where
  os : w'.os = w.os
  tape : w'.tape = w.tape
  output : w'.output = w.output
  size : w.heap.size ≤ w'.heap.size
  block : ∀ k, k < w.heap.size → ¬ M k → w'.heap[k]? = w.heap[k]?
  szs : Szs w w'
def Live (st : St) (id : Nat) : Prop := ∃ hb, st.h id = some hb ∧ hb.blk ≠ .dead ∧ hb.fz = false
/-! ### Slices that are owned with the block that holds them -/
abbrev N0 : Bt := fun _ => none
/-- A cell that holds an owned slice: none, or the first cells of a block of its own. -/
def SubOk (w : World) (s : Option Nat) (cv : Value) (row : List Ck) (x : List (DR row)) : Prop :=
  (x = [] ∧ s = none ∧ cv = .slice none 0 0) ∨ ∃ b cap c t, s = some b ∧ cv = .slice (some ⟨b, 0, none⟩) x.length cap ∧ x.length ≤ cap ∧ w.heap[b]? = some (.cells c t (0, 0)) ∧ cap * row.length ≤ c.size ∧
    ∀ i y, x[i]? = some y → ∀ j v, (encR row y)[j]? = some v → Rel N0 (fun _ => False) w (c.getD (i * row.length + j) undef) v
def OL (h : Nat → Option HB) (id : Nat) : Prop := ∃ (row : List Ck) (xss : List (DR [.osl row])), h id = some ⟨.arr [.osl row] xss, false⟩
/-- Which blocks own slices lie in: the block of the i-th slice of the own block id. -/
structure HidS (n0 : Nat) (M S : Nat → Prop) (β : Bt) (σ : Nat → Nat → Option Nat) (h : Nat → Option HB) (w : World) : Prop where
  sub : ∀ id row (xss : List (DR [.osl row])), h id = some ⟨.arr [.osl row] xss, false⟩ → ∀ blk n, β id = some (blk, n) → ∀ (i : Nat) (x : List (DR row)), xss[i]? = some x → ∃ cv, w.cell? ⟨blk, i, none⟩ = some cv ∧ SubOk w (σ id i) cv row x
  own : ∀ id i b, OL h id → σ id i = some b → ¬ S b ∧ (n0 ≤ b ∨ M b) ∧ b < w.heap.size
  inj : ∀ id id' i j b, OL h id → OL h id' → σ id i = some b → σ id' j = some b → id = id' ∧ i = j
  sep : ∀ id i b id' hb n, OL h id → h id' = some hb → hb.blk ≠ .dead → hb.fz = false → σ id i = some b → β id' ≠ some (b, n)
theorem SubOk.mono {w w' : World} {s : Option Nat} {cv : Value} {row : List Ck} {x : List (DR row)} (h : SubOk w s cv row x) (hz : Szs w w') (hh : ∀ b, s = some b → w'.heap[b]? = w.heap[b]?) : SubOk w' s cv row x := by
  rcases h with h | ⟨b, cap, c, t, h1, h2, h3, h4, h5, h6⟩
  · exact .inl h
  · exact .inr ⟨b, cap, c, t, h1, h2, h3, by rw [hh b h1]; exact h4, h5, fun i y hy j v hv => (h6 i y hy j v hv).mono (fun _ _ e => e) (fun _ e => e) (fun _ e => e.elim) hz⟩
theorem HidS.mono {n0 : Nat} {M S S' : Nat → Prop} {β β' : Bt} {σ : Nat → Nat → Option Nat} {h h' : Nat → Option HB} {w w' : World} (k : HidS n0 M S β σ h w)
    (hO : ∀ id row (xss : List (DR [.osl row])), h' id = some ⟨.arr [.osl row] xss, false⟩ → h id = some ⟨.arr [.osl row] xss, false⟩ ∧ β' id = β id)
    (hL : ∀ id' hb b n, h' id' = some hb → hb.blk ≠ .dead → hb.fz = false → β' id' = some (b, n) → (∃ hb0 m, h id' = some hb0 ∧ hb0.blk ≠ .dead ∧ hb0.fz = false ∧ β id' = some (b, m)) ∨ ∀ id i, OL h id → σ id i ≠ some b)
    (hS : ∀ b, S' b → S b ∨ ∀ id i, OL h id → σ id i ≠ some b) (hsub : ∀ id i b, OL h' id → σ id i = some b → w'.heap[b]? = w.heap[b]?) (hout : ∀ id blk n, OL h' id → β id = some (blk, n) → w'.heap[blk]? = w.heap[blk]?)
    (hsz : w.heap.size ≤ w'.heap.size) (hz : Szs w w') : HidS n0 M S' β' σ h' w' := by
  have ol : ∀ {id}, OL h' id → OL h id := fun ⟨row, xss, e⟩ => ⟨row, xss, (hO _ row xss e).1⟩
  refine ⟨fun id row xss e blk n e1 i x hx => ?_, fun id i b ho e => ?_, fun id id' i j b ho ho' e e' => k.inj id id' i j b (ol ho) (ol ho') e e', fun id i b id' hb n ho hh hd hf e e' => ?_⟩
  · obtain ⟨g1, g2⟩ := hO id row xss e
    rw [g2] at e1
    obtain ⟨cv, c1, c2⟩ := k.sub id row xss g1 blk n e1 i x hx
    refine ⟨cv, ?_, c2.mono hz fun b hb => hsub id i b ⟨row, xss, e⟩ hb⟩
    have hu := hout id blk n ⟨row, xss, e⟩ e1
    unfold World.cell? at c1 ⊢
    simp only [hu] at c1 ⊢; exact c1
  · obtain ⟨g1, g2, g3⟩ := k.own id i b (ol ho) e
    refine ⟨fun hs => ?_, g2, Nat.lt_of_lt_of_le g3 hsz⟩
    rcases hS b hs with hs | hs
    · exact g1 hs
    · exact hs id i (ol ho) e
  · rcases hL id' hb b n hh hd hf e' with ⟨hb0, m, q1, q2, q3, q4⟩ | q
    · exact k.sep id i b id' hb0 m (ol ho) q1 q2 q3 e q4
    · exact q id i (ol ho) e
/-- Owned slices of two states together: τ tells which own blocks come out of the second one. -/
theorem HidS.join {n0 n1 : Nat} {M M1 S S1 S' : Nat → Prop} {β β1 β' : Bt} {σ σ1 : Nat → Nat → Option Nat} {h h1 h' : Nat → Option HB} {w w' : World} (q : HidS n0 M S β σ h w) (q1 : HidS n1 M1 S1 β1 σ1 h1 w') (τ : Nat → Option Nat) (Nw : Nat → Prop)
    (hOo : ∀ id row (xss : List (DR [.osl row])), τ id = none → h' id = some ⟨.arr [.osl row] xss, false⟩ → h id = some ⟨.arr [.osl row] xss, false⟩ ∧ β' id = β id)
    (hOn : ∀ id k row (xss : List (DR [.osl row])), τ id = some k → h' id = some ⟨.arr [.osl row] xss, false⟩ → h1 k = some ⟨.arr [.osl row] xss, false⟩ ∧ β' id = β1 k)
    (hLo : ∀ id hb, τ id = none → h' id = some hb → hb.blk ≠ .dead → hb.fz = false → ∃ hb0, h id = some hb0 ∧ hb0.blk ≠ .dead ∧ hb0.fz = false ∧ β' id = β id)
    (hLn : ∀ id k hb, τ id = some k → h' id = some hb → hb.blk ≠ .dead → hb.fz = false → ∃ hb0, h1 k = some hb0 ∧ hb0.blk ≠ .dead ∧ hb0.fz = false ∧ β' id = β1 k)
    (hτ : ∀ id id' k, τ id = some k → τ id' = some k → id = id')
    (oN : ∀ id i b, τ id = none → OL h' id → OL h id → σ id i = some b → ¬ Nw b)
    (oL : ∀ id hb b n, τ id = none → h' id = some hb → hb.blk ≠ .dead → hb.fz = false → β id = some (b, n) → b < w.heap.size ∧ ¬ Nw b)
    (nN : ∀ b, (n1 ≤ b ∨ M1 b) → Nw b ∧ (n0 ≤ b ∨ M b))
    (nL : ∀ id k hb b n, τ id = some k → h' id = some hb → hb.blk ≠ .dead → hb.fz = false → β1 k = some (b, n) → Nw b)
    (hSo : ∀ b, S' b → ¬ Nw b → S b) (hSn : ∀ b, S' b → Nw b → S1 b) (hw : ∀ b, b < w.heap.size → ¬ Nw b → w'.heap[b]? = w.heap[b]?) (hsz : w.heap.size ≤ w'.heap.size) (hz : Szs w w') :
    HidS n0 M S' β' (fun id i => match τ id with | some k => σ1 k i | none => σ id i) h' w' := by
  have olo : ∀ {id}, τ id = none → OL h' id → OL h id := fun e ⟨row, xss, e1⟩ => ⟨row, xss, (hOo _ row xss e e1).1⟩
  have oln : ∀ {id k}, τ id = some k → OL h' id → OL h1 k := fun e ⟨row, xss, e1⟩ => ⟨row, xss, (hOn _ _ row xss e e1).1⟩
  refine ⟨fun id row xss e blk n e1 i x hx => ?_, fun id i b ho e => ?_, fun id id' i j b ho ho' e e' => ?_, fun id i b id' hb n ho hh hd hf e e' => ?_⟩
  · cases ht : τ id with
    | none =>
      obtain ⟨g1, g2⟩ := hOo id row xss ht e
      rw [g2] at e1
      obtain ⟨cv, c1, c2⟩ := q.sub id row xss g1 blk n e1 i x hx
      obtain ⟨l1, l2⟩ := oL id _ blk n ht e (by simp) rfl e1
      have hu := hw blk l1 l2
      refine ⟨cv, ?_, c2.mono hz fun b hb => hw b (q.own id i b ⟨row, xss, g1⟩ hb).2.2 (oN id i b ht ⟨row, xss, e⟩ ⟨row, xss, g1⟩ hb)⟩
      unfold World.cell? at c1 ⊢
      simp only [hu] at c1 ⊢; exact c1
    | some k =>
      obtain ⟨g1, g2⟩ := hOn id k row xss ht e
      rw [g2] at e1
      exact q1.sub k row xss g1 blk n e1 i x hx
  · cases ht : τ id with
    | none =>
      simp only [ht] at e
      obtain ⟨g1, g2, g3⟩ := q.own id i b (olo ht ho) e
      exact ⟨fun hs => g1 (hSo b hs (oN id i b ht ho (olo ht ho) e)), g2, Nat.lt_of_lt_of_le g3 hsz⟩
    | some k =>
      simp only [ht] at e
      obtain ⟨g1, g2, g3⟩ := q1.own k i b (oln ht ho) e
      obtain ⟨g4, g5⟩ := nN b g2
      exact ⟨fun hs => g1 (hSn b hs g4), g5, g3⟩
  · cases ht : τ id with
    | none =>
      simp only [ht] at e
      cases ht' : τ id' with
      | none => simp only [ht'] at e'; exact q.inj id id' i j b (olo ht ho) (olo ht' ho') e e'
      | some k' =>
        simp only [ht'] at e'
        exact absurd (nN b (q1.own k' j b (oln ht' ho') e').2.1).1 (oN id i b ht ho (olo ht ho) e)
    | some k =>
      simp only [ht] at e
      cases ht' : τ id' with
      | none =>
        simp only [ht'] at e'
        exact absurd (nN b (q1.own k i b (oln ht ho) e).2.1).1 (oN id' j b ht' ho' (olo ht' ho') e')
      | some k' =>
        simp only [ht'] at e'
        obtain ⟨g1, g2⟩ := q1.inj k k' i j b (oln ht ho) (oln ht' ho') e e'
        subst g1
        exact ⟨hτ id id' k ht ht', g2⟩
  · cases ht : τ id with
    | none =>
      simp only [ht] at e
      cases ht' : τ id' with
      | none =>
        obtain ⟨hb0, q1', q2', q3', q4'⟩ := hLo id' hb ht' hh hd hf
        rw [q4'] at e'
        exact q.sep id i b id' hb0 n (olo ht ho) q1' q2' q3' e e'
      | some k' =>
        obtain ⟨hb0, q1', q2', q3', q4'⟩ := hLn id' k' hb ht' hh hd hf
        rw [q4'] at e'
        exact oN id i b ht ho (olo ht ho) e (nL id' k' hb b n ht' hh hd hf e')
    | some k =>
      simp only [ht] at e
      cases ht' : τ id' with
      | none =>
        obtain ⟨hb0, q1', q2', q3', q4'⟩ := hLo id' hb ht' hh hd hf
        rw [q4'] at e'
        exact (oL id' hb b n ht' hh hd hf e').2 (nN b (q1.own k i b (oln ht ho) e).2.1).1
      | some k' =>
        obtain ⟨hb0, q1', q2', q3', q4'⟩ := hLn id' k' hb ht' hh hd hf
        rw [q4'] at e'
        exact q1.sep k i b k' hb0 n (oln ht ho) q1' q2' q3' e e'
/-- No block of owned slices. -/
def NotO (b : Blk) : Prop := ∀ (row : List Ck) (xss : List (DR [.osl row])), b ≠ .arr [.osl row] xss
def Hid (n0 : Nat) (M S : Nat → Prop) (β : Bt) (h : Nat → Option HB) (w : World) : Prop := ∃ σ, HidS n0 M S β σ h w
/-- A state stands for a state of the model: 'w0' is the world at the start, 'M' the blocks that may be written, 'S0' those that were read from at the start. -/
structure Sim (w0 : World) (M S0 : Nat → Prop) (β : Bt) (S : Nat → Prop) (st : St) (a : Act) (w : World) : Prop where
  kept : Kept M w0 w
  tm : ∀ i, Rel β S w (a.tmps.getD i undef) (st.t i)
  n : a.tmps.size = st.n
  df : a.defers = []
  blk : ∀ id hb, st.h id = some hb → BRel β S w id hb.blk
  own : ∀ id blk n, Live st id → β id = some (blk, n) → ¬ S blk ∧ (w0.heap.size ≤ blk ∨ M blk)
  fzn : ∀ id hb blk n, st.h id = some hb → hb.blk ≠ .dead → hb.fz = true → β id = some (blk, n) → S blk
  inj : ∀ id id' blk n n', Live st id → Live st id' → β id = some (blk, n) → β id' = some (blk, n') → id = id'
  sb : ∀ b, S b → b < w.heap.size ∧ (S0 b ∨ w0.heap.size ≤ b)
  fresh : ∀ id, st.h id = none → β id = none
  hid : Hid w0.heap.size M S β st.h w
theorem cell_of_heap {w w' : World} {b : Nat} (h : w'.heap[b]? = w.heap[b]?) (o : Nat) : w'.cell? ⟨b, o, none⟩ = w.cell? ⟨b, o, none⟩ := by
  unfold World.cell?; simp only [h]
theorem BRel.mono {β β' : Bt} {S S' : Nat → Prop} {w w' : World} {id : Nat} {hb : Blk} (hβ : ∀ id p, β id = some p → β' id = some p) (hS : ∀ b, S b → S' b)
    (hc : ∀ b, S b → ∀ o, w'.cell? ⟨b, o, none⟩ = w.cell? ⟨b, o, none⟩) (hz : Szs w w') (hh : ∀ blk n, β id = some (blk, n) → w'.heap[blk]? = w.heap[blk]?) (h : BRel β S w id hb) : BRel β' S' w' id hb := by
  cases hb with
  | cells l =>
    obtain ⟨blk, c, t, h1, h2, h3, h4⟩ := h
    exact ⟨blk, c, t, hβ _ _ h1, by rw [hh _ _ h1]; exact h2, h3, fun j v hv => (h4 j v hv).mono hβ hS hc hz⟩
  | arr row xs =>
    obtain ⟨blk, c, t, h1, h2, h3, h4⟩ := h
    exact ⟨blk, c, t, hβ _ _ h1, by rw [hh _ _ h1]; exact h2, h3, fun i x hx j v hv => (h4 i x hx j v hv).mono hβ hS hc hz⟩
  | dead => trivial
theorem BRel.lt {β : Bt} {S : Nat → Prop} {w : World} {id : Nat} {hb : Blk} (h : BRel β S w id hb) (hd : hb ≠ .dead) : ∃ blk n, β id = some (blk, n) ∧ blk < w.heap.size := by
  cases hb with
  | cells l => obtain ⟨blk, c, t, h1, h2, _⟩ := h; exact ⟨blk, _, h1, (Array.getElem?_eq_some_iff.1 h2).1⟩
  | arr row xs => obtain ⟨blk, c, t, h1, h2, _⟩ := h; exact ⟨blk, _, h1, (Array.getElem?_eq_some_iff.1 h2).1⟩
  | dead => exact absurd rfl hd
/-- New blocks and draws: nothing that was there has turned. -/
theorem below_szs {w w' : World} (h : Below w.heap.size w w') : Szs w w' := fun b c t fr hb => by
  have hlt := (Array.getElem?_eq_some_iff.1 hb).1
  exact ⟨c, fr, by rw [h.block b hlt]; exact hb, rfl⟩
theorem Kept.below {M : Nat → Prop} {w0 w w' : World} (h : Kept M w0 w) (k : Below w.heap.size w w') : Kept M w0 w' :=
  ⟨k.os.trans h.os, k.tape.trans h.tape, k.output.trans h.output, Nat.le_trans h.size k.size, fun i hi hm => (k.block i (Nat.lt_of_lt_of_le hi h.size)).trans (h.block i hi hm), h.szs.trans (below_szs k)⟩
theorem cell_none_of_ge {w : World} {b o : Nat} (h : w.heap.size ≤ b) : w.cell? ⟨b, o, none⟩ = none := by
  unfold World.cell?; simp only [Array.getElem?_eq_none h]
theorem Sim.below {w0 : World} {M S0 : Nat → Prop} {β : Bt} {S : Nat → Prop} {st : St} {a : Act} {w w' : World} (h : Sim w0 M S0 β S st a w) (k : Below w.heap.size w w') : Sim w0 M S0 β S st a w' := by
  have hc : ∀ b, S b → ∀ o, w'.cell? ⟨b, o, none⟩ = w.cell? ⟨b, o, none⟩ := fun b hb o => cell_of_heap (k.block b (h.sb b hb).1) o
  refine ⟨h.kept.below k, fun i => (h.tm i).mono (fun _ _ e => e) (fun _ e => e) hc (below_szs k), h.n, h.df, fun id hb hh => ?_, h.own, h.fzn, h.inj, fun b hb => ⟨Nat.lt_of_lt_of_le (h.sb b hb).1 k.size, (h.sb b hb).2⟩, h.fresh, ?_⟩
  case refine_2 =>
    obtain ⟨σ, q⟩ := h.hid
    refine ⟨σ, q.mono (fun _ _ _ e => ⟨e, rfl⟩) (fun _ hb b n h1 h2 h3 h4 => .inl ⟨hb, n, h1, h2, h3, h4⟩) (fun _ e => .inl e) (fun id i b ho e => k.block b (q.own id i b ho e).2.2) (fun id blk n ⟨row, xss, e⟩ e1 => k.block _ ?_) k.size (below_szs k)⟩
    obtain ⟨_, _, h1, h2⟩ := (h.blk id _ e).lt (by simp)
    rw [h1] at e1; cases e1; exact h2
  have hr := h.blk id hb hh
  cases hbb : hb.blk with
  | dead => trivial
  | cells l => rw [hbb] at hr; refine hr.mono (fun _ _ e => e) (fun _ e => e) hc (below_szs k) fun blk n e => ?_; obtain ⟨_, _, h1, h2⟩ := hr.lt (by simp); rw [h1] at e; cases e; exact k.block _ h2
  | arr row xs => rw [hbb] at hr; refine hr.mono (fun _ _ e => e) (fun _ e => e) hc (below_szs k) fun blk n e => ?_; obtain ⟨_, _, h1, h2⟩ := hr.lt (by simp); rw [h1] at e; cases e; exact k.block _ h2
theorem beq_ne {i d : Nat} (e : i ≠ d) : Nat.beq i d = false := by
  cases h : Nat.beq i d with
  | false => rfl
  | true => exact absurd (Nat.eq_of_beq_eq_true h) e
theorem dstOk_lt {n : Nat} {d : Nat} (h : dstOk n (some d) = true) : d < n := by
  simp only [dstOk, Nat.blt_eq] at h; exact h
theorem Sim.setT {w0 : World} {M S0 : Nat → Prop} {β : Bt} {S : Nat → Prop} {st : St} {a : Act} {w : World} (h : Sim w0 M S0 β S st a w) {d : Option Tmp} (hd : dstOk st.n d = true) {cv : Value} {v : V} (hv : Rel β S w cv v) :
    Sim w0 M S0 β S (st.setT d v) (a.put d cv) w := by
  cases d with
  | none => exact h
  | some d =>
    have hlt := dstOk_lt hd
    refine ⟨h.kept, fun i => ?_, by simp [Act.put, h.n, St.setT], h.df, h.blk, h.own, h.fzn, h.inj, h.sb, h.fresh, h.hid⟩
    simp only [Act.put, St.setT]
    by_cases e : i = d
    · subst e
      have hlt' : i < a.tmps.size := by rw [h.n]; exact hlt
      rw [show Nat.beq i i = true from Nat.beq_refl i]
      simpa [hlt'] using hv
    · have hb : Nat.beq i d = false := beq_ne e
      rw [hb]
      have := h.tm i
      simpa [Array.getElem?_setIfInBounds_ne (Ne.symm e)] using this
def upd (β : Bt) (id : Nat) (p : Nat × Nat) : Bt := fun i => if i = id then some p else β i
theorem upd_same (β : Bt) (id : Nat) (p : Nat × Nat) : upd β id p id = some p := by simp [upd]
theorem upd_other (β : Bt) {id i : Nat} (p : Nat × Nat) (h : i ≠ id) : upd β id p i = β i := by simp [upd, h]
theorem upd_ext {β : Bt} {id : Nat} (p : Nat × Nat) (h : β id = none) : ∀ i q, β i = some q → upd β id p i = some q := fun i q hq => by
  rw [upd_other]; exact hq
  intro e; subst e; rw [h] at hq; cases hq
theorem setH_same (st : St) (id : Nat) (hb : HB) : (st.setH id hb).h id = some hb := by simp [St.setH]
theorem setH_other (st : St) {id i : Nat} (hb : HB) (h : i ≠ id) : (st.setH id hb).h i = st.h i := by
  have e : Nat.beq i id = false := beq_ne h
  simp [St.setH, e]
theorem live_other {st : St} {id i : Nat} {hb : HB} (h : i ≠ id) : Live (st.setH id hb) i ↔ Live st i := by
  unfold Live; rw [setH_other st hb h]
theorem Sim.blk_lt {w0 : World} {M S0 : Nat → Prop} {β : Bt} {S : Nat → Prop} {st : St} {a : Act} {w : World} (h : Sim w0 M S0 β S st a w) {id blk n : Nat} {hb : HB} (hh : st.h id = some hb) (hd : hb.blk ≠ .dead) (e : β id = some (blk, n)) : blk < w.heap.size := by
  obtain ⟨_, _, h1, h2⟩ := (h.blk id hb hh).lt hd
  rw [h1] at e; cases e; exact h2
/-- A new block of the call's own. -/
theorem Sim.grow {w0 : World} {M S0 : Nat → Prop} {β : Bt} {S : Nat → Prop} {st : St} {a : Act} {w w' : World} (h0 : Sim w0 M S0 β S st a w) (k : Below w.heap.size w w') {id blk n : Nat} {b : Blk} (hn : st.h id = none)
    (hb : w.heap.size ≤ blk) (hr : BRel (upd β id (blk, n)) S w' id b) (hlt : blk < w'.heap.size) (hq : NotO b ∨ Hid w0.heap.size M S (upd β id (blk, n)) (st.setH id ⟨b, false⟩).h w') : Sim w0 M S0 (upd β id (blk, n)) S (st.setH id ⟨b, false⟩) a w' := by
  have h := h0.below k
  have hx := upd_ext (blk, n) (h.fresh id hn)
  refine ⟨h.kept, fun i => (h.tm i).mono hx (fun _ e => e) (fun _ _ _ => rfl) (Szs.refl _), h.n, h.df, fun i hb' hh => ?_, fun i blk' n' hl e => ?_, fun i hb' blk' n' hh hd hf e => ?_, fun i j blk' n1 n2 hi hj e1 e2 => ?_, h.sb, fun i hi => ?_, ?_⟩
  case refine_6 =>
    rcases hq with hq | hq
    case inr => exact hq
    obtain ⟨σ, q⟩ := h0.hid
    have ol : ∀ i, OL (st.setH id ⟨b, false⟩).h i → i ≠ id ∧ OL st.h i := fun i ⟨row, xss, e⟩ => by
      by_cases ei : i = id
      · subst ei; rw [setH_same] at e; cases e; exact absurd rfl (hq _ _)
      · rw [setH_other st _ ei] at e; exact ⟨ei, row, xss, e⟩
    refine ⟨σ, q.mono (fun i row xss e => ?_) (fun i hb' b' n' h1 h2 h3 h4 => ?_) (fun _ e => .inl e) (fun i j b' ho e => k.block b' (q.own i j b' (ol i ho).2 e).2.2) (fun i blk' n' ho e => k.block _ ?_) k.size (below_szs k)⟩
    · by_cases ei : i = id
      · subst ei; rw [setH_same] at e; cases e; exact absurd rfl (hq _ _)
      · rw [setH_other st _ ei] at e; exact ⟨e, upd_other _ _ ei⟩
    · by_cases ei : i = id
      · subst ei; rw [upd_same] at h4; cases h4
        refine .inr fun i j ho e => ?_
        have := (q.own i j _ ho e).2.2
        omega
      · rw [setH_other st _ ei] at h1; rw [upd_other _ _ ei] at h4; exact .inl ⟨hb', n', h1, h2, h3, h4⟩
    · obtain ⟨row, xss, e2⟩ := (ol i ho).2
      exact h0.blk_lt e2 (by simp) e
  · by_cases e : i = id
    · subst e; rw [setH_same] at hh; cases hh; exact hr
    · rw [setH_other st _ e] at hh
      exact (h.blk i hb' hh).mono hx (fun _ e => e) (fun _ _ _ => rfl) (Szs.refl _) (fun _ _ _ => rfl)
  · by_cases ei : i = id
    · subst ei; rw [upd_same] at e; cases e
      exact ⟨fun hs => by have := (h0.sb _ hs).1; omega, .inl (by have := h0.kept.size; omega)⟩
    · rw [upd_other _ _ ei] at e; exact h.own i blk' n' ((live_other ei).1 hl) e
  · by_cases ei : i = id
    · subst ei; rw [setH_same] at hh; cases hh; cases hf
    · rw [setH_other st _ ei] at hh; rw [upd_other _ _ ei] at e; exact h.fzn i hb' blk' n' hh hd hf e
  · by_cases ei : i = id
    · by_cases ej : j = id
      · rw [ei, ej]
      · exfalso
        subst ei; rw [upd_same] at e1; cases e1
        rw [upd_other _ _ ej] at e2
        obtain ⟨hb', hh, hd, _⟩ := (live_other ej).1 hj
        have := h0.blk_lt hh hd e2
        omega
    · by_cases ej : j = id
      · exfalso
        subst ej; rw [upd_same] at e2; cases e2
        rw [upd_other _ _ ei] at e1
        obtain ⟨hb', hh, hd, _⟩ := (live_other ei).1 hi
        have := h0.blk_lt hh hd e1
        omega
      · rw [upd_other _ _ ei] at e1; rw [upd_other _ _ ej] at e2
        exact h.inj i j blk' n1 n2 ((live_other ei).1 hi) ((live_other ej).1 hj) e1 e2
  · by_cases ei : i = id
    · subst ei; rw [setH_same] at hi; cases hi
    · rw [setH_other st _ ei] at hi; rw [upd_other _ _ ei]; exact h.fresh i hi
/-- An own block is given up. -/
theorem Sim.kill {w0 : World} {M S0 : Nat → Prop} {β : Bt} {S : Nat → Prop} {st : St} {a : Act} {w : World} (h : Sim w0 M S0 β S st a w) (id : Nat) (f : Bool) (hn : st.h id ≠ none) : Sim w0 M S0 β S (st.setH id ⟨.dead, f⟩) a w := by
  have dl : ∀ i, Live (st.setH id ⟨.dead, f⟩) i → i ≠ id := fun i hl e => by
    subst e; obtain ⟨hb, hh, hd, _⟩ := hl; rw [setH_same] at hh; cases hh; exact hd rfl
  refine ⟨h.kept, h.tm, h.n, h.df, fun i hb' hh => ?_, fun i blk' n' hl e => h.own i blk' n' ((live_other (dl i hl)).1 hl) e, fun i hb' blk' n' hh hd hf e => ?_, fun i j blk' n1 n2 hi hj e1 e2 => h.inj i j blk' n1 n2 ((live_other (dl i hi)).1 hi) ((live_other (dl j hj)).1 hj) e1 e2, h.sb, fun i hi => ?_, ?_⟩
  case refine_4 =>
    obtain ⟨σ, q⟩ := h.hid
    refine ⟨σ, q.mono (fun i row xss e => ?_) (fun i hb' b' n' h1 h2 h3 h4 => ?_) (fun _ e => .inl e) (fun _ _ _ _ _ => rfl) (fun _ _ _ _ _ => rfl) (Nat.le_refl _) (Szs.refl _)⟩
    · by_cases ei : i = id
      · subst ei; rw [setH_same] at e; cases e
      · rw [setH_other st _ ei] at e; exact ⟨e, rfl⟩
    · by_cases ei : i = id
      · subst ei; rw [setH_same] at h1; cases h1; exact absurd rfl h2
      · rw [setH_other st _ ei] at h1; exact .inl ⟨hb', n', h1, h2, h3, h4⟩
  · by_cases e : i = id
    · subst e; rw [setH_same] at hh; cases hh; trivial
    · rw [setH_other st _ e] at hh; exact h.blk i hb' hh
  · by_cases ei : i = id
    · subst ei; rw [setH_same] at hh; cases hh; exact absurd rfl hd
    · rw [setH_other st _ ei] at hh; exact h.fzn i hb' blk' n' hh hd hf e
  · by_cases ei : i = id
    · subst ei; rw [setH_same] at hi; cases hi
    · rw [setH_other st _ ei] at hi; exact h.fresh i hi
/-- What is written lies in one block. -/
structure Wrote (blk : Nat) (w w' : World) : Prop where
  os : w'.os = w.os
  tape : w'.tape = w.tape
  output : w'.output = w.output
  size : w'.heap.size = w.heap.size
  block : ∀ k, k ≠ blk → w'.heap[k]? = w.heap[k]?
  szs : Szs w w'
theorem Wrote.refl (blk : Nat) (w : World) : Wrote blk w w := ⟨rfl, rfl, rfl, rfl, fun _ _ => rfl, Szs.refl w⟩
theorem Wrote.trans {blk : Nat} {a b c : World} (h : Wrote blk a b) (k : Wrote blk b c) : Wrote blk a c :=
  ⟨k.os.trans h.os, k.tape.trans h.tape, k.output.trans h.output, k.size.trans h.size, fun i hi => (k.block i hi).trans (h.block i hi), h.szs.trans k.szs⟩
theorem Wrote.setCell {w : World} {a : Addr} {u : Value} : Wrote a.block w (w.setCell a u) :=
  ⟨rfl, rfl, rfl, by simp [World.setCell], fun k hk => Below.heap_setCell _ _ _ _ hk, fun b c t fr hb => by
    by_cases e : b = a.block
    · subst e
      simp only [World.setCell, Array.getElem?_modify, if_true, hb, Option.map_some]
      exact ⟨_, _, rfl, by split <;> simp⟩
    · exact ⟨c, fr, by rw [Below.heap_setCell _ _ _ _ e]; exact hb, rfl⟩⟩
/-- The state behind writing into an own block; nothing but that block's contents turns. -/
theorem Sim.wrote {w0 : World} {M S0 : Nat → Prop} {β : Bt} {S : Nat → Prop} {st : St} {a : Act} {w w' : World} (h : Sim w0 M S0 β S st a w) {id blk n : Nat} (hl : Live st id) (e : β id = some (blk, n)) (k : Wrote blk w w') {b : Blk}
    (hr : BRel β S w' id b) (hq : NotO b ∨ Hid w0.heap.size M S β (st.setH id ⟨b, false⟩).h w') : Sim w0 M S0 β S (st.setH id ⟨b, false⟩) a w' := by
  obtain ⟨hs, hm⟩ := h.own id blk n hl e
  obtain ⟨hb0, hh0, hd0, hf0⟩ := hl
  have hc : ∀ b, S b → ∀ o, w'.cell? ⟨b, o, none⟩ = w.cell? ⟨b, o, none⟩ := fun b hb o => cell_of_heap (k.block b (fun e => hs (e ▸ hb))) o
  have lv : ∀ i, Live (st.setH id ⟨b, false⟩) i → Live st i := fun i hi => by
    by_cases ei : i = id
    · subst ei; exact ⟨hb0, hh0, hd0, hf0⟩
    · exact (live_other ei).1 hi
  refine ⟨⟨k.os.trans h.kept.os, k.tape.trans h.kept.tape, k.output.trans h.kept.output, by rw [k.size]; exact h.kept.size, fun i hi hM => ?_, h.kept.szs.trans k.szs⟩,
    fun i => (h.tm i).mono (fun _ _ e => e) (fun _ e => e) hc k.szs, h.n, h.df, fun i hb' hh => ?_, fun i blk' n' hl e => h.own i blk' n' (lv i hl) e, fun i hb' blk' n' hh hd hf e => ?_, fun i j blk' n1 n2 hi hj e1 e2 => h.inj i j blk' n1 n2 (lv i hi) (lv j hj) e1 e2, fun b hb => ⟨by rw [k.size]; exact (h.sb b hb).1, (h.sb b hb).2⟩, fun i hi => ?_, ?_⟩
  case refine_5 =>
    rcases hq with hq | hq
    case inr => exact hq
    obtain ⟨σ, q⟩ := h.hid
    have ol : ∀ i, OL (st.setH id ⟨b, false⟩).h i → i ≠ id ∧ OL st.h i := fun i ⟨row, xss, e⟩ => by
      by_cases ei : i = id
      · subst ei; rw [setH_same] at e; cases e; exact absurd rfl (hq _ _)
      · rw [setH_other st _ ei] at e; exact ⟨ei, row, xss, e⟩
    refine ⟨σ, q.mono (fun i row xss e => ?_) (fun i hb' b' n' h1 h2 h3 h4 => ?_) (fun _ e => .inl e) (fun i j b' ho e' => k.block b' fun eb => ?_) (fun i blk' n' ho e' => k.block _ fun eb => ?_) (by rw [k.size]; exact Nat.le_refl _) k.szs⟩
    · obtain ⟨ei, _⟩ := ol i ⟨row, xss, e⟩
      rw [setH_other st _ ei] at e; exact ⟨e, rfl⟩
    · by_cases ei : i = id
      · subst ei; exact .inl ⟨hb0, n', hh0, hd0, hf0, h4⟩
      · rw [setH_other st _ ei] at h1; exact .inl ⟨hb', n', h1, h2, h3, h4⟩
    · subst eb; exact q.sep i j b' id hb0 n (ol i ho).2 hh0 hd0 hf0 e' e
    · subst eb
      obtain ⟨row, xss, e2⟩ := (ol i ho).2
      exact (ol i ho).1 (h.inj i id blk' n' n ⟨_, e2, by simp, rfl⟩ ⟨hb0, hh0, hd0, hf0⟩ e' e)
  · rw [k.block i (fun e => by subst e; rcases hm with hm | hm; omega; exact hM hm)]; exact h.kept.block i hi hM
  · by_cases ei : i = id
    · subst ei; rw [setH_same] at hh; cases hh; exact hr
    · rw [setH_other st _ ei] at hh
      have hr' := h.blk i hb' hh
      by_cases hdd : hb'.blk = .dead
      · rw [hdd]; trivial
      refine hr'.mono (fun _ _ e => e) (fun _ e => e) hc k.szs fun blk' n' e' => k.block _ fun eb => ?_
      subst eb
      by_cases hff : hb'.fz = false
      · exact ei (h.inj i id blk' n' n ⟨hb', hh, hdd, hff⟩ ⟨hb0, hh0, hd0, hf0⟩ e' e)
      · exact hs (h.fzn i hb' blk' n' hh hdd (by simpa using hff) e')
  · by_cases ei : i = id
    · subst ei; rw [setH_same] at hh; cases hh; cases hf
    · rw [setH_other st _ ei] at hh; exact h.fzn i hb' blk' n' hh hd hf e
  · by_cases ei : i = id
    · subst ei; rw [setH_same] at hi; cases hi
    · rw [setH_other st _ ei] at hi; exact h.fresh i hi
/-- An own block under a new number (what it held may have been written). -/
theorem Sim.move {w0 : World} {M S0 : Nat → Prop} {β : Bt} {S : Nat → Prop} {st : St} {a : Act} {w w' : World} (h0 : Sim w0 M S0 β S st a w) {id nb blk n n' : Nat} (hl : Live st id) (e : β id = some (blk, n)) (k : Wrote blk w w') (hn : st.h nb = none) {b : Blk}
    (hr : BRel (upd β nb (blk, n')) S w' nb b) (hq : NotO b ∨ Hid w0.heap.size M S (upd β nb (blk, n')) ((st.setH nb ⟨b, false⟩).setH id ⟨.dead, false⟩).h w') : Sim w0 M S0 (upd β nb (blk, n')) S ((st.setH nb ⟨b, false⟩).setH id ⟨.dead, false⟩) a w' := by
  have h := h0.wrote hl e k (b := .dead) trivial (.inl fun _ _ e => by cases e)
  obtain ⟨hs, hm⟩ := h0.own id blk n hl e
  obtain ⟨hb0, hh0, hd0, hf0⟩ := hl
  have hne : nb ≠ id := fun e => by subst e; rw [hn] at hh0; cases hh0
  have hx := upd_ext (blk, n') (h0.fresh nb hn)
  have hh' : ∀ i, i ≠ nb → ((st.setH nb ⟨b, false⟩).setH id ⟨.dead, false⟩).h i = (st.setH id ⟨.dead, false⟩).h i := fun i hi => by
    by_cases ei : i = id
    · subst ei; rw [setH_same, setH_same]
    · rw [setH_other _ _ ei, setH_other _ _ ei, setH_other _ _ hi]
  have hnb : ((st.setH nb ⟨b, false⟩).setH id ⟨.dead, false⟩).h nb = some ⟨b, false⟩ := by rw [setH_other _ _ hne, setH_same]
  have lv : ∀ i, i ≠ nb → Live ((st.setH nb ⟨b, false⟩).setH id ⟨.dead, false⟩) i → Live (st.setH id ⟨.dead, false⟩) i := fun i hi => by unfold Live; rw [hh' i hi]; exact fun x => x
  have bn : ∀ i n1, i ≠ nb → Live ((st.setH nb ⟨b, false⟩).setH id ⟨.dead, false⟩) i → β i ≠ some (blk, n1) := fun i n1 hi hl e1 => by
    have hl' := lv i hi hl
    have hid : i ≠ id := fun e2 => by subst e2; obtain ⟨x, hx1, hx2, _⟩ := hl'; rw [setH_same] at hx1; cases hx1; exact hx2 rfl
    exact hid (h0.inj i id blk n1 n ((live_other hid).1 hl') ⟨hb0, hh0, hd0, hf0⟩ e1 e)
  refine ⟨h.kept, fun i => (h.tm i).mono hx (fun _ e => e) (fun _ _ _ => rfl) (Szs.refl _), h.n, h.df, fun i hb' hh => ?_, fun i blk' n1 hl e1 => ?_, fun i hb' blk' n1 hh hd hf e1 => ?_, fun i j blk' n1 n2 hi hj e1 e2 => ?_, h.sb, fun i hi => ?_, ?_⟩
  case refine_6 =>
    rcases hq with hq | hq
    case inr => exact hq
    obtain ⟨σ, q⟩ := h0.hid
    have ol : ∀ i, OL ((st.setH nb ⟨b, false⟩).setH id ⟨.dead, false⟩).h i → i ≠ nb ∧ i ≠ id ∧ OL st.h i := fun i ⟨row, xss, e⟩ => by
      by_cases ei : i = nb
      · subst ei; rw [hnb] at e; cases e; exact absurd rfl (hq _ _)
      · rw [hh' i ei] at e
        by_cases ed : i = id
        · subst ed; rw [setH_same] at e; cases e
        · rw [setH_other _ _ ed] at e; exact ⟨ei, ed, row, xss, e⟩
    refine ⟨σ, q.mono (fun i row xss e => ?_) (fun i hb' b' n1 h1 h2 h3 h4 => ?_) (fun _ e => .inl e) (fun i j b' ho e' => k.block b' fun eb => ?_) (fun i blk' n1 ho e' => k.block _ fun eb => ?_) (by rw [k.size]; exact Nat.le_refl _) k.szs⟩
    · obtain ⟨ei, ed, _⟩ := ol i ⟨row, xss, e⟩
      rw [hh' i ei, setH_other _ _ ed] at e; exact ⟨e, upd_other _ _ ei⟩
    · by_cases ei : i = nb
      · subst ei; rw [upd_same] at h4; cases h4
        exact .inr fun i' j ho e' => q.sep i' j _ id hb0 n ho hh0 hd0 hf0 e' e
      · rw [hh' i ei] at h1; rw [upd_other _ _ ei] at h4
        by_cases ed : i = id
        · subst ed; rw [setH_same] at h1; cases h1; exact absurd rfl h2
        · rw [setH_other _ _ ed] at h1; exact .inl ⟨hb', n1, h1, h2, h3, h4⟩
    · subst eb; exact q.sep i j b' id hb0 n (ol i ho).2.2 hh0 hd0 hf0 e' e
    · subst eb
      obtain ⟨row, xss, e2⟩ := (ol i ho).2.2
      exact (ol i ho).2.1 (h0.inj i id blk' n1 n ⟨_, e2, by simp, rfl⟩ ⟨hb0, hh0, hd0, hf0⟩ e' e)
  · by_cases ei : i = nb
    · subst ei; rw [hnb] at hh; cases hh; exact hr
    · rw [hh' i ei] at hh; exact (h.blk i hb' hh).mono hx (fun _ e => e) (fun _ _ _ => rfl) (Szs.refl _) (fun _ _ _ => rfl)
  · by_cases ei : i = nb
    · subst ei; rw [upd_same] at e1; cases e1; exact ⟨hs, hm⟩
    · rw [upd_other _ _ ei] at e1; exact h.own i blk' n1 (lv i ei hl) e1
  · by_cases ei : i = nb
    · subst ei; rw [hnb] at hh; cases hh; cases hf
    · rw [hh' i ei] at hh; rw [upd_other _ _ ei] at e1; exact h.fzn i hb' blk' n1 hh hd hf e1
  · by_cases ei : i = nb
    · by_cases ej : j = nb
      · rw [ei, ej]
      · exfalso
        subst ei; rw [upd_same] at e1; cases e1
        rw [upd_other _ _ ej] at e2
        exact bn j n2 ej hj e2
    · by_cases ej : j = nb
      · exfalso
        subst ej; rw [upd_same] at e2; cases e2
        rw [upd_other _ _ ei] at e1
        exact bn i n1 ei hi e1
      · rw [upd_other _ _ ei] at e1; rw [upd_other _ _ ej] at e2
        exact h.inj i j blk' n1 n2 (lv i ei hi) (lv j ej hj) e1 e2
  · by_cases ei : i = nb
    · subst ei; rw [hnb] at hi; cases hi
    · rw [hh' i ei] at hi; rw [upd_other _ _ ei]; exact h.fresh i hi
/-- An own block is only read from now on. -/
theorem Sim.freeze {w0 : World} {M S0 : Nat → Prop} {β : Bt} {S : Nat → Prop} {st : St} {a : Act} {w : World} (h : Sim w0 M S0 β S st a w) {id blk n : Nat} {hb : HB} (hh : st.h id = some hb) (hd : hb.blk ≠ .dead) (e : β id = some (blk, n)) (hM : ¬ M blk) :
    Sim w0 M S0 β (fun b => S b ∨ b = blk) (st.setH id ⟨hb.blk, true⟩) a w := by
  have hS : ∀ b, S b → (S b ∨ b = blk) := fun _ => .inl
  have lv : ∀ i, Live (st.setH id ⟨hb.blk, true⟩) i → i ≠ id ∧ Live st i := fun i hl => by
    by_cases ei : i = id
    · subst ei; obtain ⟨x, h1, _, h3⟩ := hl; rw [setH_same] at h1; cases h1; cases h3
    · exact ⟨ei, (live_other ei).1 hl⟩
  have hlt := h.blk_lt hh hd e
  refine ⟨h.kept, fun i => (h.tm i).mono (fun _ _ e => e) hS (fun _ _ _ => rfl) (Szs.refl _), h.n, h.df, fun i hb' hi => ?_, fun i blk' n' hl e' => ?_, fun i hb' blk' n' hi hd' hf e' => ?_, fun i j blk' n1 n2 hi hj e1 e2 => h.inj i j blk' n1 n2 (lv i hi).2 (lv j hj).2 e1 e2, fun b hb' => ?_, fun i hi => ?_, ?_⟩
  case refine_6 =>
    obtain ⟨σ, q⟩ := h.hid
    refine ⟨σ, q.mono (fun i row xss e => ?_) (fun i hb' b' n1 h1 h2 h3 h4 => ?_) (fun b' hb' => ?_) (fun _ _ _ _ _ => rfl) (fun _ _ _ _ _ => rfl) (Nat.le_refl _) (Szs.refl _)⟩
    · by_cases ei : i = id
      · subst ei; rw [setH_same] at e; exact absurd (HB.mk.inj (Option.some.inj e)).2 (by simp)
      · rw [setH_other st _ ei] at e; exact ⟨e, rfl⟩
    · by_cases ei : i = id
      · subst ei; rw [setH_same] at h1; cases h1; cases h3
      · rw [setH_other st _ ei] at h1; exact .inl ⟨hb', n1, h1, h2, h3, h4⟩
    · rcases hb' with hb' | rfl
      · exact .inl hb'
      · cases hf : hb.fz with
        | true => exact .inl (h.fzn id hb b' n hh hd hf e)
        | false => exact .inr fun i j ho e' => q.sep i j b' id hb n ho hh hd hf e' e
  · by_cases ei : i = id
    · subst ei; rw [setH_same] at hi; cases hi; exact (h.blk i hb hh).mono (fun _ _ e => e) hS (fun _ _ _ => rfl) (Szs.refl _) (fun _ _ _ => rfl)
    · rw [setH_other st _ ei] at hi; exact (h.blk i hb' hi).mono (fun _ _ e => e) hS (fun _ _ _ => rfl) (Szs.refl _) (fun _ _ _ => rfl)
  · obtain ⟨ei, hl'⟩ := lv i hl
    obtain ⟨h1, h2⟩ := h.own i blk' n' hl' e'
    refine ⟨fun hs => ?_, h2⟩
    rcases hs with hs | rfl
    · exact h1 hs
    · cases hf : hb.fz with
      | false => exact ei (h.inj i id blk' n' n hl' ⟨hb, hh, hd, hf⟩ e' e)
      | true => exact h1 (h.fzn id hb blk' n hh hd hf e)
  · by_cases ei : i = id
    · subst ei; rw [e] at e'; cases e'; exact .inr rfl
    · rw [setH_other st _ ei] at hi; exact .inl (h.fzn i hb' blk' n' hi hd' hf e')
  · rcases hb' with hb' | rfl
    · exact h.sb b hb'
    · refine ⟨hlt, ?_⟩
      cases hf : hb.fz with
      | false => exact .inr ((h.own id b n ⟨hb, hh, hd, hf⟩ e).2.resolve_right hM)
      | true => exact (h.sb b (h.fzn id hb b n hh hd hf e)).2
  · by_cases ei : i = id
    · subst ei; rw [setH_same] at hi; cases hi
    · rw [setH_other st _ ei] at hi; exact h.fresh i hi
end Go.Proofs.Ytpglfnkkmafhbaa
