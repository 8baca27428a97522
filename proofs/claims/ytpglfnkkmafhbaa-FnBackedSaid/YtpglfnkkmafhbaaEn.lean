/- The abstract machine, part 14: one step of a region. -/
import Derived.Test.YtpglfnkkmafhbaaEv
set_option linter.unusedVariables false
set_option linter.unusedSimpArgs false
set_option linter.constructorNameAsVariable false
namespace Go.Proofs.Ytpglfnkkmafhbaa
open Go.RowKit
section
variable {P : Program} {E : Env} {w0 : World} {M S0 : Nat → Prop} {β : Bt} {S : Nat → Prop} {st : St} {a : Act} {w : World} {o : Oper}
theorem op_done0 (hE : EnvOk P E) (hM : E.frz = true → ∀ b, ¬ M b) (hs : Sim w0 M S0 β S st a w) {nb : Nat} (hn : ∀ j, j < room → st.h (nb + j) = none) {e : Eff} (h : (opRM0 E nb st.op o.op).ev st.h = some e) : Done P w0 M S0 β st o a w e := by
  have hn0 : st.h nb = none := hn 0 (by decide)
  cases ho : o.op with
  | call c =>
    rw [ho] at h
    cases hc : c.callee with
    | value fo =>
      simp only [opRM0, hc] at h
      split at h
      · rename_i f caps hf
        cases hm : E.mutF f with
        | true => exact done_callM hE hs hn ho hc hf hm h
        | false => exact done_call hE hM hs hn ho hc hf hm h
      · simp [RM.ev] at h
    | builtin b =>
      cases b <;> try (simp only [opRM0, hc, RM.ev] at h; cases h; done)
      · exact done_append hE.ty hs hn0 ho hc h
      · exact done_len hE.ty hs ho hc h
      · exact done_mm true hs ho hc (by simpa only [opRM0, hc] using h)
      · exact done_mm false hs ho hc (by simpa only [opRM0, hc] using h)
    | invoke r n => simp only [opRM0, hc, RM.ev] at h; cases h
  | move x => rw [ho] at h; exact done_move (E := E) (nb := nb) hs ho h
  | assign x => rw [ho] at h; exact done_assign (E := E) (nb := nb) hs ho h
  | pick c x y => rw [ho] at h; exact done_pick (E := E) (nb := nb) hs ho h
  | alloc t => rw [ho] at h; exact done_alloc hE.ty hs hn0 ho h
  | box t x => rw [ho] at h; exact done_box (E := E) hs hn0 ho h
  | build t ps => rw [ho] at h; exact done_build (nb := nb) hE.ty hs ho h
  | buildSlice t n ps => rw [ho] at h; exact done_buildSlice (nb := nb) hE.ty hM hs hn0 ho h
  | load t x => rw [ho] at h; exact done_load (nb := nb) hE.ty hs ho h
  | store t x y => rw [ho] at h; exact done_store (nb := nb) hE.ty hM hs ho h
  | nilCheck x => rw [ho] at h; exact done_nilCheck (E := E) (nb := nb) hs ho h
  | binOp op t x y u => rw [ho] at h; exact done_bin (nb := nb) hE.ty hE.eqT hs ho h
  | unOp op t x => rw [ho] at h; exact done_un (E := E) (nb := nb) hs ho h
  | convert s d x => rw [ho] at h; exact done_conv (nb := nb) hE.ty hs ho h
  | makeFunc f fs cs =>
    rw [ho] at h
    cases f <;> try (simp only [opRM0, opA, RM.ev] at h; cases h; done)
    exact done_makeFunc (E := E) (nb := nb) hs ho h
  | makeSlice t l c => rw [ho] at h; exact done_makeSlice (nb := nb) hE.ty hs hn0 ho h
  | fieldAddr s x fi => rw [ho] at h; exact done_fieldAddr (nb := nb) hE.ty hs ho h
  | field s x fi => rw [ho] at h; exact done_field (nb := nb) hE.ty hs ho h
  | indexAddr t x i => rw [ho] at h; exact done_indexAddr (nb := nb) hE.ty hs ho h
  | extract x i => rw [ho] at h; exact done_extract (E := E) (nb := nb) hs ho h
  | _ => rw [ho] at h; simp only [opRM0, opA, RM.ev] at h; cases h
theorem op_done (hE : EnvOk P E) (hM : E.frz = true → ∀ b, ¬ M b) (hs : Sim w0 M S0 β S st a w) {nb : Nat} (hn : ∀ j, j < room → st.h (nb + j) = none) {e : Eff} (h : (opRM E nb st.op o.op).ev st.h = some e) : Done P w0 M S0 β st o a w e := by
  unfold opRM at h
  cases hq : E.osl with
  | false => rw [hq] at h; exact op_done0 hE hM hs hn h
  | true =>
    rw [hq] at h
    simp only [cond_true] at h
    rw [RM.ev_bind] at h
    obtain ⟨r, h1, h2⟩ := bind_some h
    cases r with
    | none => exact op_done0 hE hM hs hn h2
    | some e' =>
      simp only [RM.ev, Option.some.injEq] at h2
      subst h2
      exact osl_done hE hs hn h1
/-! ### One step -/
/-- What a step does to a state: a value, new contents. -/
def St.app (st : St) (d : Option Tmp) (v : V) (wr : List (Nat × HB)) : St := (st.setHs wr).setT d v
theorem setHs_tn (st : St) : ∀ l : List (Nat × HB), (st.setHs l).t = st.t ∧ (st.setHs l).n = st.n
  | [] => ⟨rfl, rfl⟩
  | (i, b) :: l => by simp only [St.setHs]; exact setHs_tn _ l
theorem ev_of_run {α : Type} {h : Nat → Option HB} {m : RM α} {p : α × List Nat} (hr : (m.run h []).sem = some p) : m.ev h = some p.1 := by
  have := RM.run_ev h m []
  rw [hr] at this; exact this.symm
/-- A truth value may be written out. -/
def Refn (u v : V) : Prop := v = u ∨ ∃ x, u = .b x ∧ v = .lb x
theorem Refn.rel {β : Bt} {S : Nat → Prop} {w : World} {cv : Value} {u v : V} (h : Refn u v) (hr : Rel β S w cv u) : Rel β S w cv v := by
  rcases h with rfl | ⟨x, rfl, rfl⟩
  · exact hr
  · cases hr; exact .lb _
/-- A step that is told: skipped, or done: what is put, what is written, what was read. -/
inductive Step (E : Env) (ops : Array Oper) (nb : Nat) (o : Oper) (st : St) : V → List (Nat × HB) → List Nat → Prop
  | skip (hd : dstOk st.n o.dst = true) {j : Nat} {want : Bool} {t : Tmp} (hg : o.guard = some (j, want)) (ht : (ops[j]?).bind (·.dst) = some t) (h : (∃ x, boolOf (st.t t) = some x ∧ (x == want) = false) ∨ (∃ l, st.t t = .x (.tuple l))) :
      Step E ops nb o st (.x undef) [] []
  | run (hd : dstOk st.n o.dst = true) (hg : o.guard = none ∨ ∃ j want t x, o.guard = some (j, want) ∧ (ops[j]?).bind (·.dst) = some t ∧ boolOf (st.t t) = some x ∧ (x == want) = true) {u v : V} {wr : List (Nat × HB)} {rs : List Nat}
      (h : ((opRM E nb st.op o.op).run st.h []).sem = some ((u, wr), rs)) (hw : wrOk nb wr rs = true) (hu : Refn u v) : Step E ops nb o st v wr rs
theorem step_of {kn : Bool} {ops : Array Oper} {base i : Nat} {st' : St} {fp : FP} (h : (stepA E kn ops base i o st).sem = some (st', fp)) : ∃ stk v wr rs, (stk = st ∨ (kn = true ∧ ∃ t x, boolOf (st.t t) = some x ∧ stk = st.know t x)) ∧ Step E ops (base + room * i) o stk v wr rs ∧ st' = stk.app o.dst v wr ∧ fp = (rs, wr.map (·.1)) := by
  unfold stepA at h
  cases hd : dstOk st.n o.dst with
  | false => simp [hd, Tr.sem] at h
  | true =>
    simp only [hd, cond_true] at h
    have go : ∀ {stk : St}, dstOk stk.n o.dst = true → (o.guard = none ∨ ∃ j want t x, o.guard = some (j, want) ∧ (ops[j]?).bind (·.dst) = some t ∧ boolOf (stk.t t) = some x ∧ (x == want) = true) → (goA E (isGuard ops i) (base + room * i) o stk).sem = some (st', fp) →
        ∃ v wr rs, Step E ops (base + room * i) o stk v wr rs ∧ st' = stk.app o.dst v wr ∧ fp = (rs, wr.map (·.1)) := by
      intro stk hd g h
      unfold goA at h
      rw [Tr.sem_bind] at h
      obtain ⟨⟨⟨v, wr⟩, rs⟩, h1, h2⟩ := bind_some h
      cases hw : wrOk (base + room * i) wr rs with
      | false => simp [hw, Tr.sem] at h2
      | true =>
        simp only [hw, cond_true] at h2
        have plain : (Tr.ok (stk.put o.dst (v, wr), (rs, wr.map (·.1))) : Tr (St × FP)).sem = some (st', fp) → ∃ v wr rs, Step E ops (base + room * i) o stk v wr rs ∧ st' = stk.app o.dst v wr ∧ fp = (rs, wr.map (·.1)) := fun h2 => by
          simp only [Tr.sem, Option.some.injEq, Prod.mk.injEq] at h2
          obtain ⟨rfl, rfl⟩ := h2
          exact ⟨v, wr, rs, .run hd g h1 hw (.inl rfl), rfl, rfl⟩
        cases hsp : isGuard ops i with
        | false => rw [hsp] at h2; exact plain h2
        | true =>
          rw [hsp] at h2
          simp only [cond_true] at h2
          split at h2
          · rename_i x
            simp only [Tr.sem] at h2
            cases x with
            | true =>
              simp only [cond_true, Option.some.injEq, Prod.mk.injEq] at h2
              obtain ⟨rfl, rfl⟩ := h2
              exact ⟨.lb true, wr, rs, .run hd g h1 hw (.inr ⟨_, rfl, rfl⟩), rfl, rfl⟩
            | false =>
              simp only [cond_false, Option.some.injEq, Prod.mk.injEq] at h2
              obtain ⟨rfl, rfl⟩ := h2
              exact ⟨.lb false, wr, rs, .run hd g h1 hw (.inr ⟨_, rfl, rfl⟩), rfl, rfl⟩
          · exact plain h2
    have sk : ∀ {stk : St}, dstOk stk.n o.dst = true → ∀ {j want t}, o.guard = some (j, want) → (ops[j]?).bind (·.dst) = some t → ((∃ x, boolOf (stk.t t) = some x ∧ (x == want) = false) ∨ (∃ l, stk.t t = .x (.tuple l))) → (skipA o stk).sem = some (st', fp) →
        ∃ v wr rs, Step E ops (base + room * i) o stk v wr rs ∧ st' = stk.app o.dst v wr ∧ fp = (rs, wr.map (·.1)) := by
      intro stk hd j want t hg ht hh h
      simp only [skipA, Tr.sem, Option.some.injEq, Prod.mk.injEq] at h
      obtain ⟨rfl, rfl⟩ := h
      exact ⟨_, _, _, .skip hd hg ht hh, rfl, rfl⟩
    split at h
    · rename_i hg
      exact ⟨st, let ⟨v, wr, rs, q⟩ := go hd (.inl hg) h; ⟨v, wr, rs, .inl rfl, q⟩⟩
    · rename_i j want hg
      split at h
      case h_2 => simp [Tr.sem] at h
      rename_i t ht
      have kw : ∀ y, (st.know t y).t t = .lb y := fun y => by simp [St.know]
      split at h
      · rename_i x hx
        simp only [Tr.sem] at h
        cases hxw : (x == want) with
        | true =>
          simp only [hxw, cond_true] at h
          obtain rfl : x = want := by simpa using hxw
          cases kn
          · exact ⟨st, let ⟨v, wr, rs, q⟩ := go hd (.inr ⟨j, x, t, x, hg, ht, by rw [hx]; rfl, by simp⟩) h; ⟨v, wr, rs, .inl rfl, q⟩⟩
          exact ⟨st.know t x, let ⟨v, wr, rs, q⟩ := go (stk := st.know t x) hd (.inr ⟨j, x, t, x, hg, ht, by rw [kw]; rfl, by simp⟩) h; ⟨v, wr, rs, .inr ⟨rfl, t, x, by rw [hx]; rfl, rfl⟩, q⟩⟩
        | false =>
          simp only [hxw, cond_false] at h
          obtain rfl : (!want) = x := by cases x <;> cases want <;> first | rfl | cases hxw
          cases kn
          · exact ⟨st, let ⟨v, wr, rs, q⟩ := sk hd hg ht (.inl ⟨!want, by rw [hx]; rfl, by simp⟩) h; ⟨v, wr, rs, .inl rfl, q⟩⟩
          exact ⟨st.know t !want, let ⟨v, wr, rs, q⟩ := sk (stk := st.know t !want) hd hg ht (.inl ⟨!want, by rw [kw]; rfl, by simp⟩) h; ⟨v, wr, rs, .inr ⟨rfl, t, !want, by rw [hx]; rfl, rfl⟩, q⟩⟩
      · rename_i x hx
        cases hxw : (x == want) with
        | true =>
          simp only [hxw, cond_true] at h
          exact ⟨st, let ⟨v, wr, rs, q⟩ := go hd (.inr ⟨j, want, t, x, hg, ht, by rw [hx]; rfl, hxw⟩) h; ⟨v, wr, rs, .inl rfl, q⟩⟩
        | false =>
          simp only [hxw, cond_false] at h
          exact ⟨st, let ⟨v, wr, rs, q⟩ := sk hd hg ht (.inl ⟨x, by rw [hx]; rfl, hxw⟩) h; ⟨v, wr, rs, .inl rfl, q⟩⟩
      · rename_i l hx
        exact ⟨st, let ⟨v, wr, rs, q⟩ := sk hd hg ht (.inr ⟨l, hx⟩) h; ⟨v, wr, rs, .inl rfl, q⟩⟩
      · simp [Tr.sem] at h
theorem Sim.know (hs : Sim w0 M S0 β S st a w) {t : Tmp} {x : Bool} (h : boolOf (st.t t) = some x) : Sim w0 M S0 β S (st.know t x) a w := by
  refine ⟨hs.kept, fun i => ?_, hs.n, hs.df, hs.blk, hs.own, hs.fzn, hs.inj, hs.sb, hs.fresh, hs.hid⟩
  simp only [St.know]
  cases hb : Nat.beq i t with
  | true =>
    obtain rfl := Nat.eq_of_beq_eq_true hb
    have := rel_boolOf h (hs.tm i)
    rw [this]; exact .lb x
  | false => exact hs.tm i
theorem yielded_eq (hs : Sim w0 M S0 β S st a w) {ops : Array Oper} {j : Nat} {t : Tmp} (ht : (ops[j]?).bind (·.dst) = some t) : (∀ x, boolOf (st.t t) = some x → yielded ops a.tmps j = some x) ∧ (∀ l, st.t t = .x (.tuple l) → yielded ops a.tmps j = none) := by
  have hr := hs.tm t
  unfold yielded
  rw [ht]
  simp only [Option.bind_some]
  refine ⟨fun x hx => ?_, fun l hx => ?_⟩
  · have := rel_boolOf hx hr
    cases hq : a.tmps[t]? with
    | none => simp [hq, undef] at this
    | some v => simp [hq] at this; subst this; rfl
  · rw [hx] at hr
    cases hq : a.tmps[t]? with
    | none => rfl
    | some v =>
      have hv : v = .tuple l := by
        simp only [Array.getD_eq_getD_getElem?, hq, Option.getD_some] at hr
        cases hr; rfl
      subst hv; rfl
/-- A step stands for the model's. -/
theorem step_sim (hE : EnvOk P E) (hM : E.frz = true → ∀ b, ¬ M b) (hs : Sim w0 M S0 β S st a w) {ops : Array Oper} {nb i : Nat} (hi : ops[i]? = some o) (hn : ∀ j, j < room → st.h (nb + j) = none) {v : V} {wr : List (Nat × HB)} {rs : List Nat} (h : Step E ops nb o st v wr rs)
    {K : Act → World → Prop} {Q : Exit → Act → World → Prop} (hK : ∀ β' S' a' w', (∀ id p, β id = some p → β' id = some p) → Sim w0 M S0 β' S' (st.app o.dst v wr) a' w' → K a' w') : wpOp P ops Q i K a w := by
  unfold wpOp
  rw [hi]
  simp only
  cases h with
  | skip hd hg ht h =>
    rename_i j want t
    have hw : Region.wanted o (yielded ops a.tmps) = false := by
      unfold Region.wanted
      rw [hg]
      simp only
      obtain ⟨h1, h2⟩ := yielded_eq hs ht
      rcases h with ⟨x, hx, hne⟩ | ⟨l, hx⟩
      · rw [h1 x hx]
        cases x <;> cases want <;> first | rfl | cases hne
      · rw [h2 l hx]; rfl
    rw [hw]
    simp only [Bool.false_eq_true, if_false]
    exact hK β S _ w (fun _ _ e => e) (hs.setT (by exact hd) (.x _))
  | run hd hg h hw hu =>
    have hw : Region.wanted o (yielded ops a.tmps) = true := by
      unfold Region.wanted
      rcases hg with hg | ⟨j, want, t, x, hg, ht, hx, hxw⟩
      · rw [hg]
      · rw [hg]
        simp only
        rw [(yielded_eq hs ht).1 x hx]
        cases x <;> cases want <;> first | rfl | cases hxw
    rw [hw]
    simp only [if_true]
    refine .inl (op_done hE hM hs hn (ev_of_run h) K Q fun β' S' cv w' hx h1 h2 => hK β' S' _ w' hx ?_)
    exact h1.setT (by rw [(setHs_tn st wr).2]; exact hd) (hu.rel h2)
end
end Go.Proofs.Ytpglfnkkmafhbaa
