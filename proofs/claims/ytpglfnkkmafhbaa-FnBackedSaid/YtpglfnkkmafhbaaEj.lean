/- The abstract machine, part 10: calls. -/
import Derived.Test.YtpglfnkkmafhbaaEi
set_option linter.unusedVariables false
set_option linter.unusedSimpArgs false
set_option linter.constructorNameAsVariable false
namespace Go.Proofs.Ytpglfnkkmafhbaa
open Go.RowKit
/-- What a call of a function does (one without a body is carried out in place). -/
def Entered (P : Program) (f : FuncId) (args : Array Value) (w : World) (R : Ending → World → Prop) : Prop := match (callFunc f args).run P w with
  | .ok (.value v) w' => R (.returned v) w'
  | .ok (.enter g as) w' => Calls P g as w' R
  | _ => False
/-- What a call leaves: a value, and new blocks. -/
def Ret (w : World) (S : Nat → Prop) (v : V) (bs : List HB) : Ending → World → Prop := fun e w' => ∃ cv β' S', e = .returned cv ∧ Sim w (fun _ => False) S β' S' (mkSt 1 [0] [v] bs) ⟨#[cv], []⟩ w'
/-- The contract of a function that only reads what it is given. -/
def COk (P : Program) (f : FuncId) (args : List V) (out : V × List HB) : Prop :=
  ∀ (w : World) (S : Nat → Prop) (cargs : Array Value), (∀ b, S b → b < w.heap.size) → CellsRel (fun _ => none) S w cargs args → Entered P f cargs w (Ret w S out.1 out.2)
section
variable {P : Program} {E : Env} {w0 : World} {M S0 : Nat → Prop} {β : Bt} {S : Nat → Prop} {st : St} {a : Act} {w : World} {o : Oper}
theorem mapIdL_get (g : Nat → Nat) : ∀ (l : List V) (j : Nat), (V.mapIdL g l)[j]? = (l[j]?).map (V.mapId g)
  | [], j => by simp [V.mapIdL]
  | v :: vs, 0 => by simp [V.mapIdL]
  | v :: vs, j + 1 => by simp [V.mapIdL, mapIdL_get g vs j]
theorem mapIdL_length (g : Nat → Nat) : ∀ (l : List V), (V.mapIdL g l).length = l.length
  | [] => rfl
  | v :: vs => by simp [V.mapIdL, mapIdL_length g vs]
theorem encC_mapId (g : Nat → Nat) (c : Ck) (x : c.D) : (encC c x).mapId g = encC c x := by cases c <;> simp [encC, V.mapId]
theorem mem_encR (row : List Ck) : ∀ (x : DR row) (v : V), v ∈ encR row x → ∃ c, ∃ y : c.D, v = encC c y := by
  induction row with
  | nil => intro x v hv; cases hv
  | cons c r ih =>
    intro x v hv
    cases r with
    | nil =>
      have hv' : v ∈ [encC c x] := hv
      rw [List.mem_singleton] at hv'
      exact ⟨c, x, hv'⟩
    | cons d r =>
      have hv' : v ∈ encC c x.1 :: encR (d :: r) x.2 := hv
      rcases List.mem_cons.1 hv' with h | h
      · exact ⟨c, x.1, h⟩
      · exact ih x.2 v h
theorem Rel.mapId {β β' : Bt} {S S' : Nat → Prop} {w : World} {g : Nat → Nat} (hβ : ∀ id p, β id = some p → β' (g id) = some p) (hS : ∀ b, S b → S' b) {cv : Value} {v : V} (h : Rel β S w cv v) : Rel β' S' w cv (v.mapId g) := by
  have key : ∀ {cs : Array Value} {l : List V}, (∀ j v, l[j]? = some v → Rel β' S' w (cs.getD j Go.undef) (v.mapId g)) → ∀ j v, (V.mapIdL g l)[j]? = some v → Rel β' S' w (cs.getD j Go.undef) v := fun h j v hv => by
    rw [mapIdL_get] at hv
    rename_i cs l
    cases hj : l[j]? with
    | none => simp [hj] at hv
    | some u => simp [hj] at hv; subst hv; exact h j u hj
  induction h with
  | undef v => exact .undef v
  | x v => exact .x v
  | b q => exact .b q
  | lb q => exact .lb q
  | i k n => exact .i k n
  | f h => exact .f h
  | c h h' => exact .c h h'
  | agg hl _ ih => simp only [V.mapId]; exact .agg (by rw [mapIdL_length]; exact hl) (key ih)
  | tup hl _ ih => simp only [V.mapId]; exact .tup (by rw [mapIdL_length]; exact hl) (key ih)
  | nilp => exact .nilp
  | nils => exact .nils
  | nilf => exact .nilf
  | ref h => exact .ref (hβ _ _ h)
  | rel h hi => exact .rel (hβ _ _ h) hi
  | slw h hs hl => exact .slw (hβ _ _ h) hs hl
  | ds s gg hcell hr hl ih =>
    simp only [V.mapId]
    exact .ds (hS _ s) gg hcell (fun i x hx c v hv => by
      have := ih i x hx c v hv
      rename_i row xs blk oo cap
      have hm : v.mapId g = v := by
        obtain ⟨c, y, rfl⟩ := mem_encR row x v (List.mem_of_getElem? hv)
        exact encC_mapId g c y
      rw [hm] at this; exact this) hl
  | dsnil => exact .dsnil
  | ds0 => exact .ds0
  | dpt s gg hcell hr ih =>
    simp only [V.mapId]
    rename_i l blk oo off
    refine .dpt (hS _ s) gg (fun j hj => hcell j (by rwa [mapIdL_length] at hj)) (fun j v hv => ?_)
    rw [mapIdL_get] at hv
    cases hj : l[j]? with
    | none => simp [hj] at hv
    | some u => simp [hj] at hv; subst hv; exact ih j u hj
  | fn hl _ ih => simp only [V.mapId]; exact .fn (by rw [mapIdL_length]; exact hl) (key ih)

theorem deepL_get : ∀ {l : List V}, V.deepL l = false → ∀ {j : Nat} {v : V}, l[j]? = some v → v.deep = false
  | [], _, j, v, h => by simp at h
  | u :: us, hd, 0, v, h => by simp [V.deepL] at hd; simp at h; subst h; exact hd.1
  | u :: us, hd, j + 1, v, h => by simp [V.deepL] at hd; simp at h; exact deepL_get hd.2 h
/-- What speaks of no memory that is only read, hangs not on which that is. -/
theorem Rel.nodeep {β : Bt} {S S' : Nat → Prop} {w : World} {cv : Value} {v : V} (h : Rel β S w cv v) (hd : v.deep = false) : Rel β S' w cv v := by
  induction h with
  | undef v => exact .undef v
  | x v => exact .x v
  | b q => exact .b q
  | lb q => exact .lb q
  | i k n => exact .i k n
  | f h => exact .f h
  | c h h' => exact .c h h'
  | agg hl _ ih => exact .agg hl fun j v hv => ih j v hv (deepL_get (by simpa [V.deep] using hd) hv)
  | tup hl _ ih => exact .tup hl fun j v hv => ih j v hv (deepL_get (by simpa [V.deep] using hd) hv)
  | nilp => exact .nilp
  | nils => exact .nils
  | nilf => exact .nilf
  | ref h => exact .ref h
  | rel h hi => exact .rel h hi
  | slw h hs hl => exact .slw h hs hl
  | ds s gg hcell hr hl ih => simp [V.deep] at hd
  | dsnil => exact .dsnil
  | ds0 => exact .ds0
  | dpt s gg hcell hr ih => simp [V.deep] at hd
  | fn hl _ ih => exact .fn hl fun j v hv => ih j v hv (deepL_get (by simpa [V.deep] using hd) hv)
theorem encC_deep (c : Ck) (y : c.D) (h : c.deep = false) : (encC c y).deep = false := by cases c <;> simp [Ck.deep] at h <;> rfl
theorem encR_deep (row : List Ck) (h : row.any Ck.deep = false) : ∀ (x : DR row) (v : V), v ∈ encR row x → v.deep = false := by
  induction row with
  | nil => intro x v hv; cases hv
  | cons c r ih =>
    simp only [List.any_cons, Bool.or_eq_false_iff] at h
    intro x v hv
    cases r with
    | nil =>
      have hv' : v ∈ [encC c x] := hv
      rw [List.mem_singleton] at hv'
      subst hv'; exact encC_deep c x h.1
    | cons d r =>
      have hv' : v ∈ encC c x.1 :: encR (d :: r) x.2 := hv
      rcases List.mem_cons.1 hv' with rfl | h'
      · exact encC_deep c x.1 h.1
      · exact ih h.2 x.2 v h'
theorem BRel.mapId {β β' : Bt} {S S' : Nat → Prop} {w : World} {id : Nat} {b : Blk} {g : Nat → Nat} (hβ : ∀ id p, β id = some p → β' (g id) = some p) (hS : (∀ b, S b → S' b) ∨ (HB.deep ⟨b, false⟩ = false)) (h : BRel β S w id b) : BRel β' S' w (g id) (b.mapId g) := by
  cases b with
  | cells l =>
    obtain ⟨blk, c, t, h1, h2, h3, h4⟩ := h
    refine ⟨blk, c, t, by rw [hβ _ _ h1, mapIdL_length], h2, by rw [mapIdL_length]; exact h3, fun j v hv => ?_⟩
    rw [mapIdL_get] at hv
    cases hj : l[j]? with
    | none => simp [hj] at hv
    | some u =>
      simp [hj] at hv; subst hv
      rcases hS with hS | hS
      · exact (h4 j u hj).mapId hβ hS
      · exact ((h4 j u hj).nodeep (deepL_get (by simpa [HB.deep] using hS) hj)).mapId hβ (fun _ e => e)
  | arr row xs =>
    obtain ⟨blk, c, t, h1, h2, h3, h4⟩ := h
    refine ⟨blk, c, t, hβ _ _ h1, h2, h3, fun i x hx j v hv => ?_⟩
    have hm := List.mem_of_getElem? hv
    have hr : Rel β' S' w (c.getD (i * row.length + j) undef) (v.mapId g) := by
      rcases hS with hS | hS
      · exact (h4 i x hx j v hv).mapId hβ hS
      · exact ((h4 i x hx j v hv).nodeep (encR_deep row (by simpa [HB.deep] using hS) x v hm)).mapId hβ (fun _ e => e)
    obtain ⟨cc, y, rfl⟩ := mem_encR row x v hm
    rw [encC_mapId] at hr; exact hr
  | dead => trivial
theorem mapId_osl {g : Nat → Nat} {hb : HB} {row : List Ck} {xss : List (DR [.osl row])} (h : hb.mapId g = ⟨.arr [.osl row] xss, false⟩) : hb = ⟨.arr [.osl row] xss, false⟩ := by
  obtain ⟨b, f⟩ := hb
  simp only [HB.mapId, HB.mk.injEq] at h
  obtain ⟨h1, rfl⟩ := h
  cases b <;> simp only [Blk.mapId] at h1 <;> first | (cases h1; done) | rw [h1]
theorem mkSt_h (n : Nat) (lv : List Nat) (vs : List V) (bs : List HB) (id : Nat) : (mkSt n lv vs bs).h id = bs[id]? := rfl
theorem enum_h (st : St) : ∀ (bs : List HB) (nb id : Nat), ((st.setHs (enumFrom nb bs)).h id) = if nb ≤ id ∧ id < nb + bs.length then bs[id - nb]? else st.h id
  | [], nb, id => by simp [enumFrom, St.setHs]; omega
  | b :: bs, nb, id => by
    rw [enumFrom, St.setHs, enum_h _ bs (nb + 1) id]
    by_cases h : nb + 1 ≤ id ∧ id < nb + 1 + bs.length
    · rw [if_pos h, if_pos ⟨by omega, by simp; omega⟩, show id - nb = (id - (nb + 1)) + 1 from by omega, List.getElem?_cons_succ]
    · rw [if_neg h]
      by_cases e : id = nb
      · subst e; rw [setH_same, if_pos ⟨by omega, by simp⟩]; simp
      · rw [setH_other _ _ e, if_neg (by simp; omega)]
theorem enum_t (st : St) : ∀ (bs : List HB) (nb : Nat), (st.setHs (enumFrom nb bs)).t = st.t ∧ (st.setHs (enumFrom nb bs)).n = st.n
  | [], nb => ⟨rfl, rfl⟩
  | b :: bs, nb => by rw [enumFrom, St.setHs]; exact enum_t _ bs (nb + 1)
/-- New blocks that a call has made. -/
theorem Sim.add (h : Sim w0 M S0 β S st a w) {w' : World} (k : Below w.heap.size w w') {β1 : Bt} {S1 Sc : Nat → Prop} {v : V} {bs : List HB} {cv : Value} (hc : Sim w (fun _ => False) Sc β1 S1 (mkSt 1 [0] [v] bs) ⟨#[cv], []⟩ w') {nb : Nat}
    (hn : ∀ j, j < bs.length → st.h (nb + j) = none) (hSc : (∀ b, Sc b → S b) ∨ (v.deep = false ∧ bs.any HB.deep = false)) :
    ∃ β' S', Sim w0 M S0 β' S' (st.setHs (enumFrom nb (bs.map (HB.mapId (nb + ·))))) a w' ∧ Rel β' S' w' cv (v.mapId (nb + ·)) ∧ (∀ id p, β id = some p → β' id = some p) := by
  have h' := h.below k
  let β' : Bt := fun id => if nb ≤ id ∧ id < nb + bs.length then β1 (id - nb) else β id
  have hβ : ∀ id p, β id = some p → β' id = some p := fun id p e => by
    show (if nb ≤ id ∧ id < nb + bs.length then β1 (id - nb) else β id) = some p
    rw [if_neg]
    · exact e
    · intro hid
      have := h.fresh id (by have := hn (id - nb) (by omega); rwa [show nb + (id - nb) = id from by omega] at this)
      rw [this] at e; cases e
  have hβ1 : ∀ id p, β1 id = some p → β' (nb + id) = some p := fun id p e => by
    show (if nb ≤ nb + id ∧ nb + id < nb + bs.length then β1 (nb + id - nb) else β (nb + id)) = some p
    have hid : id < bs.length := by
      rcases Nat.lt_or_ge id bs.length with hlt | hge
      · exact hlt
      · have := hc.fresh id (by rw [mkSt_h]; exact List.getElem?_eq_none hge)
        rw [this] at e; cases e
    rw [if_pos ⟨by omega, by omega⟩, Nat.add_sub_cancel_left]; exact e
  have hβ'in : ∀ id, nb ≤ id ∧ id < nb + bs.length → β' id = β1 (id - nb) := fun id hid => if_pos hid
  have hβ'out : ∀ id, ¬ (nb ≤ id ∧ id < nb + bs.length) → β' id = β id := fun id hid => if_neg hid
  have hlen : (bs.map (HB.mapId (nb + ·))).length = bs.length := List.length_map _
  have hh : ∀ id, (st.setHs (enumFrom nb (bs.map (HB.mapId (nb + ·))))).h id = if nb ≤ id ∧ id < nb + bs.length then (bs[id - nb]?).map (HB.mapId (nb + ·)) else st.h id := fun id => by
    rw [enum_h, hlen]
    split
    · rw [List.getElem?_map]
    · rfl
  obtain ⟨ht, hnn⟩ := enum_t st (bs.map (HB.mapId (nb + ·))) nb
  -- what is only read from now on
  obtain ⟨S', hS', hsb, hS1⟩ : ∃ S' : Nat → Prop, (∀ b, S' b ↔ (S b ∨ (((∀ b, Sc b → S b)) ∧ S1 b ∧ w.heap.size ≤ b))) ∧ (∀ b, S' b → b < w'.heap.size ∧ (S0 b ∨ w0.heap.size ≤ b)) ∧ ((∀ b, Sc b → S b) → ∀ b, S1 b → S' b) := by
    refine ⟨fun b => S b ∨ (((∀ b, Sc b → S b)) ∧ S1 b ∧ w.heap.size ≤ b), fun b => Iff.rfl, fun b hb => ?_, fun hsub b hb => ?_⟩
    · rcases hb with hb | ⟨_, hb, hge⟩
      · exact ⟨Nat.lt_of_lt_of_le (h.sb b hb).1 k.size, (h.sb b hb).2⟩
      · exact ⟨(hc.sb b hb).1, .inr (Nat.le_trans h.kept.size hge)⟩
    · rcases (hc.sb b hb).2 with h1 | h1
      · exact .inl (hsub b h1)
      · exact .inr ⟨hsub, hb, h1⟩
  have hSS : ∀ b, S b → S' b := fun b hb => (hS' b).2 (.inl hb)
  have liveOf : ∀ {id : Nat} {hb : HB}, (bs[id - nb]?).map (HB.mapId (nb + ·)) = some hb → hb.blk ≠ .dead → hb.fz = false → Live (mkSt 1 [0] [v] bs) (id - nb) := fun {id hb} hid hd hf => by
    cases hb0 : bs[id - nb]? with
    | none => simp [hb0] at hid
    | some hb1 =>
      simp [hb0] at hid; subst hid
      exact ⟨hb1, by rw [mkSt_h]; exact hb0, fun hq => hd (by simp [HB.mapId, hq, Blk.mapId]), hf⟩
  have newLive : ∀ {id : Nat} {hb : HB} {blk n : Nat}, (bs[id - nb]?).map (HB.mapId (nb + ·)) = some hb → hb.blk ≠ .dead → hb.fz = false → β1 (id - nb) = some (blk, n) → ¬ S1 blk ∧ w.heap.size ≤ blk := fun hid hd hf e => by
    obtain ⟨h1, h2⟩ := hc.own _ _ _ (liveOf hid hd hf) e
    exact ⟨h1, h2.resolve_right id⟩
  have hres : Rel β' S' w' cv (v.mapId (nb + ·)) := by
    have hr : Rel β1 S1 w' cv v := by simpa [mkSt, assocV] using hc.tm 0
    rcases hSc with hsub | ⟨hd, _⟩
    · exact hr.mapId hβ1 (hS1 hsub)
    · exact (hr.nodeep (S' := S') hd).mapId hβ1 (fun _ e => e)
  have hnew : ∀ id hb, bs[id]? = some hb → BRel β' S' w' (nb + id) (hb.blk.mapId (nb + ·)) := fun id hb hid => by
    have hr := hc.blk id hb (by rw [mkSt_h]; exact hid)
    refine hr.mapId hβ1 ?_
    rcases hSc with hsub | ⟨_, hd⟩
    · exact .inl (hS1 hsub)
    · have := List.any_eq_false.1 hd hb (List.mem_of_getElem? hid)
      exact .inr (by simp only [HB.deep, Bool.or_eq_true, not_or, Bool.not_eq_true] at this ⊢; simp [this.2])
  refine ⟨β', S', ⟨h'.kept, fun i => ?_, by rw [hnn]; exact h'.n, h'.df, fun id hb hid => ?_, fun id blk n hl e => ?_, fun id hb blk n hid hd hf e => ?_, fun i j blk n1 n2 hi hj e1 e2 => ?_, hsb, fun id hid => ?_, ?_⟩, hres, hβ⟩
  case refine_7 =>
    obtain ⟨σ, q⟩ := h.hid
    obtain ⟨σ1, q1⟩ := hc.hid
    refine ⟨_, q.join q1 (fun id => if nb ≤ id ∧ id < nb + bs.length then some (id - nb) else none) (fun b => w.heap.size ≤ b) (fun id row xss ht e => ?_) (fun id k row xss ht e => ?_) (fun id hb ht hid hd hf => ?_) (fun id k hb ht hid hd hf => ?_) (fun id id' k e e' => ?_)
      (fun id i b ht _ ho e => ?_) (fun id hb b n ht hid hd hf e => ?_) (fun b hb => ?_) (fun id k hb b n ht hid hd hf e => ?_) (fun b hb hn => ?_) (fun b hb hn => ?_) (fun b hlt _ => k.block b hlt) k.size (below_szs k)⟩
    · simp only [ite_eq_right_iff, reduceCtorEq, imp_false] at ht
      rw [hh, if_neg ht] at e
      exact ⟨e, hβ'out id ht⟩
    · simp only [Option.ite_none_right_eq_some, Option.some.injEq] at ht
      obtain ⟨hin, rfl⟩ := ht
      rw [hh, if_pos hin] at e
      cases hb0 : bs[id - nb]? with
      | none => simp [hb0] at e
      | some hb1 =>
        rw [hb0] at e
        simp only [Option.map_some, Option.some.injEq] at e
        rw [mapId_osl e] at hb0
        exact ⟨by rw [mkSt_h]; exact hb0, hβ'in id hin⟩
    · simp only [ite_eq_right_iff, reduceCtorEq, imp_false] at ht
      rw [hh, if_neg ht] at hid
      exact ⟨hb, hid, hd, hf, hβ'out id ht⟩
    · simp only [Option.ite_none_right_eq_some, Option.some.injEq] at ht
      obtain ⟨hin, rfl⟩ := ht
      rw [hh, if_pos hin] at hid
      obtain ⟨x, x1, x2, x3⟩ := liveOf hid hd hf
      exact ⟨x, x1, x2, x3, hβ'in id hin⟩
    · simp only [Option.ite_none_right_eq_some, Option.some.injEq] at e e'
      omega
    · have := (q.own id i b ho e).2.2; omega
    · simp only [ite_eq_right_iff, reduceCtorEq, imp_false] at ht
      rw [hh, if_neg ht] at hid
      have := h.blk_lt hid hd e
      exact ⟨this, by omega⟩
    · rcases hb with hb | hb
      · exact ⟨hb, .inl (Nat.le_trans h.kept.size hb)⟩
      · exact hb.elim
    · simp only [Option.ite_none_right_eq_some, Option.some.injEq] at ht
      obtain ⟨hin, rfl⟩ := ht
      rw [hh, if_pos hin] at hid
      exact (newLive hid hd hf e).2
    · rcases (hS' b).1 hb with h1 | ⟨_, _, h1⟩
      · exact h1
      · exact absurd h1 hn
    · rcases (hS' b).1 hb with h1 | ⟨_, h1, _⟩
      · have := (h.sb b h1).1; omega
      · exact h1
  · rw [ht]; exact (h'.tm i).mono hβ hSS (fun _ _ _ => rfl) (Szs.refl _)
  · rw [hh] at hid
    split at hid
    · rename_i hin
      cases hb0 : bs[id - nb]? with
      | none => simp [hb0] at hid
      | some hb1 =>
        simp [hb0] at hid; subst hid
        have := hnew _ _ hb0
        rwa [show nb + (id - nb) = id from by omega] at this
    · exact (h'.blk id hb hid).mono hβ hSS (fun _ _ _ => rfl) (Szs.refl _) (fun _ _ _ => rfl)
  · obtain ⟨hb, hid, hd, hf⟩ := hl
    rw [hh] at hid
    by_cases hin : nb ≤ id ∧ id < nb + bs.length
    · rw [if_pos hin] at hid
      rw [hβ'in id hin] at e
      obtain ⟨hlv, hge⟩ := newLive hid hd hf e
      exact ⟨fun hs => by
        rcases (hS' blk).1 hs with hs | ⟨_, hs, _⟩
        · have := (h.sb blk hs).1; omega
        · exact hlv hs, .inl (Nat.le_trans h.kept.size hge)⟩
    · rw [if_neg hin] at hid
      rw [hβ'out id hin] at e
      obtain ⟨h1, h2⟩ := h.own id blk n ⟨hb, hid, hd, hf⟩ e
      refine ⟨fun hs => ?_, h2⟩
      rcases (hS' blk).1 hs with hs | ⟨_, _, hge⟩
      · exact h1 hs
      · have := h.blk_lt hid hd e; omega
  · rw [hh] at hid
    by_cases hin : nb ≤ id ∧ id < nb + bs.length
    · rw [if_pos hin] at hid
      rw [hβ'in id hin] at e
      cases hb0 : bs[id - nb]? with
      | none => simp [hb0] at hid
      | some hb1 =>
        simp [hb0] at hid; subst hid
        have hd1 : hb1.blk ≠ .dead := fun hq => hd (by simp [HB.mapId, hq, Blk.mapId])
        rcases hSc with hsub | ⟨_, hdp⟩
        · exact hS1 hsub _ (hc.fzn (id - nb) hb1 blk n (by rw [mkSt_h]; exact hb0) hd1 hf e)
        · exfalso
          have := List.any_eq_false.1 hdp hb1 (List.mem_of_getElem? hb0)
          have hf' : hb1.fz = true := hf
          simp [HB.deep, hf'] at this
    · rw [if_neg hin] at hid
      rw [hβ'out id hin] at e
      exact hSS _ (h.fzn id hb blk n hid hd hf e)
  · obtain ⟨hb, hid, hd, hf⟩ := hi
    obtain ⟨hb', hid', hd', hf'⟩ := hj
    rw [hh] at hid hid'
    by_cases hin : nb ≤ i ∧ i < nb + bs.length
    · rw [if_pos hin] at hid
      rw [hβ'in i hin] at e1
      by_cases hin' : nb ≤ j ∧ j < nb + bs.length
      · rw [if_pos hin'] at hid'
        rw [hβ'in j hin'] at e2
        have := hc.inj (i - nb) (j - nb) blk n1 n2 (liveOf hid hd hf) (liveOf hid' hd' hf') e1 e2
        omega
      · rw [if_neg hin'] at hid'
        rw [hβ'out j hin'] at e2
        have := (newLive hid hd hf e1).2
        have := h.blk_lt hid' hd' e2
        omega
    · rw [if_neg hin] at hid
      rw [hβ'out i hin] at e1
      by_cases hin' : nb ≤ j ∧ j < nb + bs.length
      · rw [if_pos hin'] at hid'
        rw [hβ'in j hin'] at e2
        have := (newLive hid' hd' hf' e2).2
        have := h.blk_lt hid hd e1
        omega
      · rw [if_neg hin'] at hid'
        rw [hβ'out j hin'] at e2
        exact h.inj i j blk n1 n2 ⟨hb, hid, hd, hf⟩ ⟨hb', hid', hd', hf'⟩ e1 e2
  · rw [hh] at hid
    by_cases hin : nb ≤ id ∧ id < nb + bs.length
    · rw [if_pos hin] at hid
      have : id - nb < bs.length := by omega
      simp [this] at hid
    · rw [if_neg hin] at hid
      rw [hβ'out id hin]; exact h.fresh id hid
end
end Go.Proofs.Ytpglfnkkmafhbaa
