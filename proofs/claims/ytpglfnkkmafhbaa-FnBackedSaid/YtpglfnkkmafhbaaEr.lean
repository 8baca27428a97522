/- The abstract machine, part 17: bodies and functions are right. -/
import Derived.Test.YtpglfnkkmafhbaaEw
import Derived.Scope
set_option linter.unusedVariables false
set_option linter.unusedSimpArgs false
set_option linter.constructorNameAsVariable false
namespace Go.Proofs.Ytpglfnkkmafhbaa
open Go.RowKit
def Xt.conc : Xt → Exit
  | .normal => .normal
  | .exit id => .exit id
  | .ret => .ret
/-- The first own blocks stay where they are. -/
def Pin (m : Nat) (β β' : Bt) : Prop := ∀ id, id < m → ∀ p, β id = some p → β' id = some p
theorem Pin.refl (m : Nat) (β : Bt) : Pin m β β := fun _ _ _ e => e
theorem Pin.trans {m : Nat} {a b c : Bt} (h : Pin m a b) (k : Pin m b c) : Pin m a c := fun i hi p e => k i hi p (h i hi p e)
theorem Ext.pin {m : Nat} {β β' : Bt} (h : Ext β β') : Pin m β β' := fun i _ p e => h i p e
/-- What is asked of what is told of a loop. -/
def LOk (P : Program) (E : Env) (L : Loops) (k : Nat) (body : Code) : Prop :=
  ∀ vs bs out, (L.loop k vs bs).sem = some out → ∀ (w0 : World) (M S0 : Nat → Prop), (E.frz = true → ∀ b, ¬ M b) → ∀ β S a w, Sim w0 M S0 β S (mkSt L.n (L.lv k) vs bs) a w →
    ∀ Q : Exit → Act → World → Prop, (∀ β' S' a' w', Pin E.pin β β' → Sim w0 M S0 β' S' (mkSt L.n (L.lv k) out.2.1 out.2.2) a' w' → Q out.1.conc a' w') → (Code.loop body).wp P Q a w
def LoopsOk (P : Program) (E : Env) (L : Loops) : Code → Prop
  | .seq a b => LoopsOk P E L a ∧ LoopsOk P E L b
  | .cond _ a b => LoopsOk P E L a ∧ LoopsOk P E L b
  | .block _ b => LoopsOk P E L b
  | .scope b => LoopsOk P E L b
  | .loop b => ∀ k, keyOf b = some k → LOk P E L k b
  | _ => True
section
variable {P : Program} {E : Env} {L : Loops} {w0 : World} {M S0 : Nat → Prop} {β : Bt} {S : Nat → Prop} {st : St} {a : Act} {w : World} {o : Oper}
theorem good_mk (n : Nat) (lv : List Nat) (vs : List V) (bs : List HB) : Good (mkSt n lv vs bs) := fun id h => List.getElem?_eq_none h
theorem reg_good {ops : Array Oper} {draw : Bool} {st' : St} (hg : Good st) (h : (evReg E ops draw st).sem = some st') : Good st' := by
  unfold evReg at h
  rw [Tr.sem_bind] at h
  obtain ⟨q, h1, h2⟩ := bind_some h
  have hgq : Good q.1 := evOps_good (ops := ops) (base := st.nx) ops.toList 0 { st with nx := st.nx + room * ops.size } [] (by simp) rfl (fun id hid => hg id (Nat.le_trans (Nat.le_add_right _ _) hid)) h1
  cases hc : (!draw || (lexOk 0 ops.toList && fpsOk ops q.2)) with
  | false => rw [hc] at h2; simp [Tr.sem] at h2
  | true => rw [hc] at h2; simp only [cond_true, Tr.sem, Option.some.injEq] at h2; subst h2; exact hgq
theorem prep_rel (hs : Sim w0 M S0 β S st a w) (md : Nat → Nat) : ∀ (lv : List Nat) (vs : List V) (ids : List Nat), (prepV md st.t lv).ev st.h = some (vs, ids) →
    vs.length = lv.length ∧ NotDead st ids ∧ ∀ S' : Nat → Prop, (∀ b, S b → S' b) → (∀ id ∈ ids, ∀ b n, β id = some (b, n) → S' b) → ∀ (j t : Nat) (v : V), lv[j]? = some t → vs[j]? = some v → Rel β S' w (a.tmps.getD t undef) v
  | [], vs, ids, h => by
    simp only [prepV, RM.ev, Option.some.injEq, Prod.mk.injEq] at h
    obtain ⟨rfl, rfl⟩ := h
    exact ⟨rfl, fun i hi => (by cases hi), fun S' _ _ j t v h => by simp at h⟩
  | i :: l, vs, ids, h => by
    simp only [prepV] at h
    rw [RM.ev_bind] at h
    obtain ⟨⟨v, ids1⟩, h1, h2⟩ := bind_some h
    rw [RM.ev_bind] at h2
    obtain ⟨⟨vs2, ids2⟩, h3, h4⟩ := bind_some h2
    simp only [RM.ev, Option.some.injEq, Prod.mk.injEq] at h4
    obtain ⟨rfl, rfl⟩ := h4
    obtain ⟨l1, n1, r1⟩ := prep_rel hs md l vs2 ids2 h3
    have key : NotDead st ids1 ∧ ∀ S' : Nat → Prop, (∀ b, S b → S' b) → (∀ id ∈ ids1, ∀ b n, β id = some (b, n) → S' b) → Rel β S' w (a.tmps.getD i undef) v := by
      cases c0 : Nat.beq (md i) 0 with
      | true =>
        rw [c0] at h1
        simp only [cond_true, RM.ev, Option.some.injEq, Prod.mk.injEq] at h1
        obtain ⟨rfl, rfl⟩ := h1
        exact ⟨fun i hi => (by cases hi), fun S' hS _ => (hs.tm i).mono (fun _ _ e => e) hS (fun _ _ _ => rfl) (Szs.refl _)⟩
      | false =>
        rw [c0] at h1
        cases c1 : Nat.beq (md i) 1 with
        | true =>
          rw [c1] at h1
          obtain ⟨g1, g2⟩ := snap_rel hs 4 _ _ _ _ h1 (hs.tm i)
          exact ⟨g2, fun S' hS hid => g1.mono (fun _ _ e => by cases e) (fun b hb => by
            rcases hb with hb | ⟨id, hi, n, e⟩
            · exact hS b hb
            · exact hid id hi b n e) (fun _ _ _ => rfl) (Szs.refl _)⟩
        | false =>
          rw [c1] at h1
          simp only [cond_false, RM.ev, Option.some.injEq, Prod.mk.injEq] at h1
          obtain ⟨rfl, rfl⟩ := h1
          exact ⟨fun i hi => (by cases hi), fun S' hS _ => .undef _⟩
    refine ⟨by simp [l1], fun id hid => ?_, fun S' hS hid j t u e1 e2 => ?_⟩
    · rcases List.mem_append.1 hid with hid | hid
      · exact key.1 id hid
      · exact n1 id hid
    · cases j with
      | zero =>
        simp at e1 e2; subst e1; subst e2
        exact key.2 S' hS fun id hi => hid id (List.mem_append_left _ hi)
      | succ j => exact r1 S' hS (fun id hi => hid id (List.mem_append_right _ hi)) j t u (by simpa using e1) (by simpa using e2)
/-- What is carried over a loop's head. -/
theorem cut_sim (hM : E.frz = true → ∀ b, ¬ M b) (hs : Sim w0 M S0 β S st a w) {md : Nat → Nat} {lv : List Nat} {vs : List V} {ids : List Nat} {bs : List HB} (h : (cutA E md lv st).sem = some (vs, ids, bs)) :
    ∃ β' S', Sim w0 M S0 β' S' (mkSt st.n lv vs bs) a w ∧ ∀ id, id < E.pin → β' id = β id := by
  unfold cutA at h
  rw [Tr.sem_bind] at h
  obtain ⟨⟨⟨us, fz⟩, rs⟩, h1, h2⟩ := bind_some h
  rw [Tr.sem_bind] at h2
  obtain ⟨⟨p, rs'⟩, h3, h4⟩ := bind_some h2
  simp only [Tr.sem, Option.some.injEq] at h4
  subst h4
  have h5 := ev_of_run h1
  rw [RM.ev_bind] at h5
  obtain ⟨⟨us', ids'⟩, h6, h7⟩ := bind_some h5
  rw [RM.ev_bind] at h7
  obtain ⟨fz', h8, h9⟩ := bind_some h7
  simp only [RM.ev, Option.some.injEq, Prod.mk.injEq] at h9
  obtain ⟨rfl, rfl⟩ := h9
  obtain ⟨l1, n1, r1⟩ := prep_rel hs md lv us' ids' h6
  have fin : ∃ S', Sim w0 M S0 β S' (st.setHs fz') a w ∧ (∀ b, S b → S' b) ∧ (∀ id ∈ ids', ∀ b n, β id = some (b, n) → S' b) := by
    cases ids' with
    | nil =>
      simp only [List.isEmpty_nil, Bool.true_or, cond_true, freezeAll, RM.ev, Option.some.injEq] at h8
      subst h8
      exact ⟨S, hs, fun _ e => e, fun id hi => by cases hi⟩
    | cons i l =>
      simp only [List.isEmpty_cons, Bool.false_or] at h8
      cases hf : E.frz with
      | false => simp [hf, RM.ev] at h8
      | true =>
        rw [hf] at h8
        simp only [cond_true] at h8
        obtain ⟨S', g1, g2, g3, _⟩ := freezeAll_sim (hM hf) (i :: l) fz' S st h8 n1 (fun id hb e => ⟨hb, e, rfl⟩) hs
        exact ⟨S', g1, g2, g3⟩
  obtain ⟨S', g1, g2, g3⟩ := fin
  obtain ⟨β', k1, k2, k3, _, k5, _, _, k8, _, _⟩ := norm_core (f := fun j => a.tmps.getD (lv.getD j 0) undef) g1 (roots := us') (fun j v hv => by
    have hj : j < lv.length := by rw [← l1]; exact (List.getElem?_eq_some_iff.1 hv).1
    have := r1 S' g2 g3 j lv[j] v (List.getElem?_eq_getElem hj) hv
    simpa only [List.getD, List.getElem?_eq_getElem hj, Option.getD_some] using this) (ev_of_run h3)
  refine ⟨β', S', sim_mk g1.kept k3 g1.sb hs.n g1.df fun i => assoc_rel (R := fun i v => Rel β' S' w (a.tmps.getD i undef) v) (fun i => .undef _) lv vs (fun j t v e1 e2 => ?_) i, fun id hid => k5 id id (k8 id hid)⟩
  have := k1 j v e2
  simpa only [List.getD, e1, Option.getD_some] using this
/-- **A BODY.** -/
theorem ev_sound (hm : P.follows .mixedOrders = true) (hE : EnvOk P E) (hM : E.frz = true → ∀ b, ¬ M b) : ∀ (c : Code) (st : St) (out : Xt × St), LoopsOk P E L c → Good st → (ev E L c st).sem = some out →
    Good out.2 ∧ ∀ β S a w, Sim w0 M S0 β S st a w → ∀ Q : Exit → Act → World → Prop, (∀ β' S' a' w', Pin E.pin β β' → Sim w0 M S0 β' S' out.2 a' w' → Q out.1.conc a' w') → c.wp P Q a w
  | .skip, st, out, hl, hg, h => by
    simp only [ev, Tr.sem, Option.some.injEq] at h; subst h
    exact ⟨hg, fun β S a w hs Q hQ => wp_skip (hQ β S a w (Pin.refl _ _) hs)⟩
  | .label l, st, out, hl, hg, h => by
    simp only [ev, Tr.sem, Option.some.injEq] at h; subst h
    exact ⟨hg, fun β S a w hs Q hQ => wp_label (hQ β S a w (Pin.refl _ _) hs)⟩
  | .exit id, st, out, hl, hg, h => by
    simp only [ev, Tr.sem, Option.some.injEq] at h; subst h
    exact ⟨hg, fun β S a w hs Q hQ => wp_exit (hQ β S a w (Pin.refl _ _) hs)⟩
  | .ret, st, out, hl, hg, h => by
    simp only [ev, Tr.sem, Option.some.injEq] at h; subst h
    exact ⟨hg, fun β S a w hs Q hQ => wp_ret (hQ β S a w (Pin.refl _ _) hs)⟩
  | .region id ops d, st, out, hl, hg, h => by
    simp only [ev] at h
    rw [Tr.sem_bind] at h
    obtain ⟨st', h1, h2⟩ := bind_some h
    simp only [Tr.sem, Option.some.injEq] at h2; subst h2
    cases hmk : (E.osl && !d && markOf E ops) with
    | true =>
      rw [hmk] at h1
      simp only [Bool.and_eq_true, Bool.not_eq_true'] at hmk
      obtain ⟨⟨_, rfl⟩, _⟩ := hmk
      exact ⟨mark_good hg h1, fun β S a w hs Q hQ => mark_sound hE hM hg h1 hs (Q := Q) fun β' S' a' w' hx hs' => hQ β' S' a' w' hx.pin hs'⟩
    | false =>
    rw [hmk] at h1
    exact ⟨reg_good hg h1, fun β S a w hs Q hQ => (reg_sound hm hE hM hg h1 hs (Q := Q) fun β' S' a' w' hx hs' => hQ β' S' a' w' hx.pin hs').1⟩
  | .seq x y, st, out, hl, hg, h => by
    simp only [ev] at h
    rw [Tr.sem_bind] at h
    obtain ⟨⟨xt, st1⟩, h1, h2⟩ := bind_some h
    obtain ⟨g1, f1⟩ := ev_sound hm hE hM x st _ hl.1 hg h1
    cases xt with
    | normal =>
      obtain ⟨g2, f2⟩ := ev_sound hm hE hM y st1 out hl.2 g1 h2
      exact ⟨g2, fun β S a w hs Q hQ => wp_seq (f1 β S a w hs _ fun β' S' a' w' hx hs' => f2 β' S' a' w' hs' Q fun β2 S2 a2 w2 hx2 hs2 => hQ β2 S2 a2 w2 (hx.trans hx2) hs2)⟩
    | exit id =>
      simp only [Tr.sem, Option.some.injEq] at h2; subst h2
      exact ⟨g1, fun β S a w hs Q hQ => wp_seq (f1 β S a w hs _ fun β' S' a' w' hx hs' => hQ β' S' a' w' hx hs')⟩
    | ret =>
      simp only [Tr.sem, Option.some.injEq] at h2; subst h2
      exact ⟨g1, fun β S a w hs Q hQ => wp_seq (f1 β S a w hs _ fun β' S' a' w' hx hs' => hQ β' S' a' w' hx hs')⟩
  | .cond c x y, st, out, hl, hg, h => by
    simp only [ev] at h
    split at h
    case h_2 => simp [Tr.sem] at h
    rename_i t
    have hop : ∀ {q : Bool} {β S a w}, boolOf (st.t t) = some q → Sim w0 M S0 β S st a w → a.eval (.tmp t) = .bool q := fun hq hs => rel_boolOf hq (hs.tm t)
    split at h
    · rename_i q hq
      simp only [Tr.sem] at h
      cases q with
      | true =>
        obtain ⟨g2, f2⟩ := ev_sound hm hE hM x (st.know t true) out hl.1 hg h
        exact ⟨g2, fun β S a w hs Q hQ => wp_cond_true (hop (by rw [hq]; rfl) hs) (f2 β S a w (hs.know (by rw [hq]; rfl)) Q hQ)⟩
      | false =>
        obtain ⟨g2, f2⟩ := ev_sound hm hE hM y (st.know t false) out hl.2 hg h
        exact ⟨g2, fun β S a w hs Q hQ => wp_cond_false (hop (by rw [hq]; rfl) hs) (f2 β S a w (hs.know (by rw [hq]; rfl)) Q hQ)⟩
    · rename_i q hq
      cases q with
      | true =>
        obtain ⟨g2, f2⟩ := ev_sound hm hE hM x st out hl.1 hg h
        exact ⟨g2, fun β S a w hs Q hQ => wp_cond_true (hop (by rw [hq]; rfl) hs) (f2 β S a w hs Q hQ)⟩
      | false =>
        obtain ⟨g2, f2⟩ := ev_sound hm hE hM y st out hl.2 hg h
        exact ⟨g2, fun β S a w hs Q hQ => wp_cond_false (hop (by rw [hq]; rfl) hs) (f2 β S a w hs Q hQ)⟩
    · simp [Tr.sem] at h
  | .block id x, st, out, hl, hg, h => by
    simp only [ev] at h
    rw [Tr.sem_bind] at h
    obtain ⟨⟨xt, st1⟩, h1, h2⟩ := bind_some h
    simp only [Tr.sem, Option.some.injEq] at h2; subst h2
    obtain ⟨g1, f1⟩ := ev_sound hm hE hM x st _ hl hg h1
    refine ⟨g1, fun β S a w hs Q hQ => wp_block (f1 β S a w hs _ fun β' S' a' w' hx hs' => ?_)⟩
    have := hQ β' S' a' w' hx hs'
    cases xt with
    | normal => exact this
    | ret => exact this
    | exit j =>
      simp only [Xt.conc, Exit.inBlock]
      by_cases e : j = id
      · subst e
        rw [if_pos rfl]
        simpa [Xt.conc] using this
      · rw [if_neg e]
        simpa [Xt.conc, beq_ne e] using this
  | .scope x, st, out, hl, hg, h => by
    obtain ⟨g1, f1⟩ := ev_sound hm hE hM x st out hl hg h
    refine ⟨g1, fun β S a w hs Q hQ => wp_scope_straight (f1 β S a w hs _ fun β' S' a' w' hx hs' => ?_)⟩
    have := hQ β' S' a' w' hx hs'
    cases ho : out.1 <;> rw [ho] at this <;> exact this
  | .loop x, st, out, hl, hg, h => by
    simp only [ev] at h
    split at h
    case h_2 => simp [Tr.sem] at h
    rename_i k hk
    cases hn : Nat.beq st.n L.n with
    | false => rw [hn] at h; simp [Tr.sem] at h
    | true =>
      rw [hn] at h
      simp only [cond_true] at h
      have hn' := Nat.eq_of_beq_eq_true hn
      rw [Tr.sem_bind] at h
      obtain ⟨⟨vs, ids, bs⟩, h1, h2⟩ := bind_some h
      rw [Tr.sem_bind] at h2
      obtain ⟨q, h3, h4⟩ := bind_some h2
      simp only [Tr.sem, Option.some.injEq] at h4; subst h4
      refine ⟨good_mk _ _ _ _, fun β S a w hs Q hQ => ?_⟩
      obtain ⟨β', S', hs', hp⟩ := cut_sim hM hs h1
      rw [hn'] at hs'
      exact hl k hk vs bs q h3 w0 M S0 hM β' S' a w hs' Q fun β2 S2 a2 w2 hx2 hs2 => hQ β2 S2 a2 w2 (Pin.trans (b := β') (fun id hid p e => by rw [hp id hid]; exact e) hx2) hs2
  | .rangeFunc .., st, out, hl, hg, h => by simp [ev, Tr.sem] at h
  | .goto _, st, out, hl, hg, h => by simp [ev, Tr.sem] at h
  | .refuse _, st, out, hl, hg, h => by simp [ev, Tr.sem] at h
theorem wp_loop_iter {c : Code} {Q : Exit → Act → World → Prop} (R : Nat → Act → World → Prop) (h0 : ∀ a w, ¬ R 0 a w) (round : ∀ n a w, R (n + 1) a w → c.wp P (Exit.then (R n) Q) a w) (n : Nat) (a : Act) (w : World) (h : R n a w) : (Code.loop c).wp P Q a w := by
  intro b k cs
  have key : ∀ n a w, R n a w → ∃ e a' w', Q e a' w' ∧ Arrives P (lone (b.at a (.code c :: .inLoop c :: k)) cs w) b k cs e a' w' := by
    intro n
    induction n with
    | zero => intro a w h; exact (h0 a w h).elim
    | succ n ih =>
      intro a w hI
      obtain ⟨e, a₁, w₁, hq, harr⟩ := round n a w hI b (.inLoop c :: k) cs
      cases e with
      | normal =>
        obtain ⟨e₂, a₂, w₂, hq₂, harr₂⟩ := ih a₁ w₁ hq
        exact ⟨e₂, a₂, w₂, hq₂, .of_steps (Steps.trans harr (.one step_inLoop)) harr₂⟩
      | exit id => exact ⟨_, a₁, w₁, hq, .pass (x := .inLoop c) rfl (fun _ _ => .inl (by simp)) harr⟩
      | goto l => exact ⟨_, a₁, w₁, hq, .pass (x := .inLoop c) rfl (fun _ _ => .inl (by simp)) harr⟩
      | ret => exact ⟨_, a₁, w₁, hq, .pass (x := .inLoop c) rfl (fun _ _ => .inl (by simp)) harr⟩
      | panic ch => exact ⟨_, a₁, w₁, hq, .pass (x := .inLoop c) rfl (fun _ _ => .inl (by simp)) harr⟩
      | outgrown => exact ⟨_, a₁, w₁, hq, .pass (x := .inLoop c) rfl (fun _ _ => .inl (by simp)) harr⟩
  obtain ⟨e, a', w', hq, harr⟩ := key n a w h
  exact ⟨e, a', w', hq, .of_steps (.one step_loop) harr⟩
/-- **A LOOP**: what its rounds come to, one after another. -/
theorem loop_sound (hm : P.follows .mixedOrders = true) (hE : EnvOk P E) {k : Nat} {body : Code} (hl : LoopsOk P E L body) (h : ∀ vs bs out, (L.loop k vs bs).sem = some out → ∃ n, iterS (fun vs bs => (loopStep E L k body vs bs).sem) n vs bs = some out) : LOk P E L k body := by
  intro vs bs out hout w0 M S0 hM β S a w hs Q hQ
  obtain ⟨n, hn⟩ := h vs bs out hout
  refine wp_loop_iter (fun n a w => ∃ vs bs β' S, iterS (fun vs bs => (loopStep E L k body vs bs).sem) n vs bs = some out ∧ Pin E.pin β β' ∧ Sim w0 M S0 β' S (mkSt L.n (L.lv k) vs bs) a w) (fun a w ⟨_, _, _, _, h, _⟩ => by simp [iterS] at h) (fun n a w ⟨vs, bs, β1, S, hit, hx1, hs⟩ => ?_) n a w ⟨vs, bs, β, S, hn, Pin.refl _ _, hs⟩
  simp only [iterS] at hit
  cases hstep : (loopStep E L k body vs bs).sem with
  | none => rw [hstep] at hit; simp at hit
  | some r =>
    obtain ⟨x, vs', bs'⟩ := r
    rw [hstep] at hit
    unfold loopStep at hstep
    rw [Tr.sem_bind] at hstep
    obtain ⟨⟨xt, st1⟩, h1, h2⟩ := bind_some hstep
    cases hn1 : Nat.beq st1.n L.n with
    | false => simp [hn1, Tr.sem] at h2
    | true =>
      simp only [hn1, cond_true] at h2
      have hn2 := Nat.eq_of_beq_eq_true hn1
      rw [Tr.sem_bind] at h2
      obtain ⟨⟨vs1, ids, bs1⟩, h3, h4⟩ := bind_some h2
      simp only [Tr.sem, Option.some.injEq, Prod.mk.injEq] at h4
      obtain ⟨rfl, rfl, rfl⟩ := h4
      obtain ⟨_, f1⟩ := ev_sound (L := L) hm hE hM body _ _ hl (good_mk _ _ _ _) h1
      refine f1 β1 S a w hs _ fun β' S1 a' w' hx hs' => ?_
      obtain ⟨β2, S', hs2, hp⟩ := cut_sim hM hs' h3
      have hx2 : Pin E.pin β β2 := (hx1.trans hx).trans fun id hid p e => by rw [hp id hid]; exact e
      simp only at hs2
      rw [hn2] at hs2
      cases xt with
      | normal => exact ⟨_, _, β2, S', hit, hx2, hs2⟩
      | exit id => simp only [Option.some.injEq] at hit; subst hit; exact hQ β2 S' a' w' hx2 hs2
      | ret => simp only [Option.some.injEq] at hit; subst hit; exact hQ β2 S' a' w' hx2 hs2
/-! ### Functions -/
def resOne (tmps : Array Value) : ResultVar → Sem Value
  | .tmp t => pure (tmps.getD t undef)
  | .cell ad t => do loadVar t (← asAddr (tmps.getD ad undef))
theorem results_eq (fn : Func) (tmps : Array Value) : results fn tmps = (do let vs ← fn.results.mapM (resOne tmps); pure (if h : vs.size = 1 then vs[0] else .tuple vs)) := rfl
theorem resV_run (hE : ∀ t x, E.ty t = some x → tyOf P t = some x) (hs : Sim w0 M S0 β S st a w) {r : ResultVar} {v : V} (h : (resV E st r).ev st.h = some v) :
    ∃ cv, (resOne a.tmps r).run P w = .ok cv w ∧ Rel β S w cv v := by
  cases r with
  | tmp t => simp only [resV, RM.ev, Option.some.injEq] at h; subst h; exact ⟨_, rfl, hs.tm t⟩
  | cell ad t =>
    simp only [resV] at h
    rw [RM.ev_bind] at h
    obtain ⟨e, h1, h2⟩ := bind_some h
    simp only [RM.ev, Option.some.injEq] at h2; subst h2
    obtain ⟨v, ad', cv, rfl, h3, h4, h5⟩ := load_run hE hs h1
    have h3' : a.tmps.getD ad undef = .pointer (some ad') := h3
    exact ⟨cv, by simp only [resOne, h3', asAddr, Sem.run_bind, Sem.run_pure, Result.andThen_ok, h4], h5⟩
theorem resVs_run (hE : ∀ t x, E.ty t = some x → tyOf P t = some x) (hs : Sim w0 M S0 β S st a w) : ∀ {rs : List ResultVar} {vs : List V}, (resVs E st rs).ev st.h = some vs →
    ∃ cvs : List Value, (rs.mapM (resOne a.tmps)).run P w = .ok cvs w ∧ cvs.length = vs.length ∧ ∀ (j : Nat) (v : V), vs[j]? = some v → Rel β S w (cvs.getD j undef) v
  | [], vs, h => by simp only [resVs, RM.ev, Option.some.injEq] at h; subst h; exact ⟨[], by simp, rfl, fun j v hv => by simp at hv⟩
  | r :: rs, vs, h => by
    simp only [resVs] at h
    rw [RM.ev_bind] at h
    obtain ⟨v, h1, h2⟩ := bind_some h
    rw [RM.ev_bind] at h2
    obtain ⟨vs', h3, h4⟩ := bind_some h2
    simp only [RM.ev, Option.some.injEq] at h4; subst h4
    obtain ⟨cv, c1, c2⟩ := resV_run hE hs h1
    obtain ⟨cvs, d1, d2, d3⟩ := resVs_run hE hs h3
    refine ⟨cv :: cvs, by simp only [List.mapM_cons, Sem.run_bind, c1, Result.andThen_ok, d1, Sem.run_pure], by simp [d2], fun j u hu => ?_⟩
    cases j with
    | zero => simp at hu; subst hu; exact c2
    | succ j => exact d3 j u (by simpa using hu)
theorem results_run (hE : ∀ t x, E.ty t = some x → tyOf P t = some x) (hs : Sim w0 M S0 β S st a w) {fn : Func} {vs : List V} (h : (resVs E st fn.results.toList).ev st.h = some vs) : ∃ cv, (results fn a.tmps).run P w = .ok cv w ∧ Rel β S w cv (single vs) := by
  obtain ⟨cvs, h1, h2, h3⟩ := resVs_run hE hs h
  have hm : (fn.results.mapM (resOne a.tmps)).run P w = .ok cvs.toArray w := by
    rw [← Array.toArray_toList (xs := fn.results), List.mapM_toArray, Sem.run_map, h1]; rfl
  rw [results_eq, Sem.run_bind, hm]
  simp only [Result.andThen_ok, Sem.run_pure, List.size_toArray]
  refine ⟨_, rfl, ?_⟩
  match vs, cvs, h2, h3 with
  | [], [], _, h3 => exact .tup rfl fun j v hv => by simp at hv
  | [v], [cv], _, h3 => simpa [single] using h3 0 v rfl
  | v :: u :: vs, cv :: cu :: cvs, h2, h3 =>
    rw [dif_neg (by simp)]
    exact .tup (by simpa using h2) fun j x hx => by simpa using h3 j x hx
theorem entered_of_calls {f : FuncId} {fn : Func} (hf : P.funcs[f]? = some fn) (hname : (fn.name == "runtime.NumGoroutine") = false) (hb : fn.body.isNone = false) {args : Array Value} {w : World} {R : Ending → World → Prop} (h : Calls P f args w R) : Entered P f args w R := by
  have h1 : fn.name ≠ "runtime.NumGoroutine" := by simpa using hname
  have h2 : fn.body ≠ none := by intro h; rw [h] at hb; cases hb
  have hr : (callFunc f args).run P w = .ok (.enter f args) w := by simp [callFunc, hf, h1, h2]
  unfold Entered
  rw [hr]; exact h
theorem start_sim {S : Nat → Prop} {cargs : Array Value} {args : List V} {β : Bt} {M : Nat → Prop} {bs : List HB} (hB : Blocks w M β S bs w) (hS : ∀ b, S b → b < w.heap.size) (hl : cargs.size = args.length) (hr : ∀ j v, args[j]? = some v → Rel β S w (cargs.getD j undef) v) {n : Nat} (hn : args.length ≤ n) :
    Sim w M S β S (mkSt n (List.range args.length) args bs) { tmps := cargs ++ Array.replicate (n - cargs.size) undef, defers := [] } w := by
  refine sim_mk (Kept.refl _ w) hB (fun b hb => ⟨hS b hb, .inl hb⟩) (by simp; omega) rfl fun i => ?_
  refine assoc_rel (R := fun i v => Rel β S w ((cargs ++ Array.replicate (n - cargs.size) undef).getD i undef) v) (fun i => .undef _) _ _ (fun j t u e1 e2 => ?_) i
  have hjl := (List.getElem?_eq_some_iff.1 e1).1
  rw [List.length_range] at hjl
  have ht : t = j := by rw [List.getElem?_range hjl] at e1; cases e1; rfl
  subst ht
  have : (cargs ++ Array.replicate (n - cargs.size) undef).getD t undef = cargs.getD t undef := by
    rw [Array.getD_eq_getD_getElem?, Array.getElem?_append_left (by omega), Array.getD_eq_getD_getElem?]
  rw [this]; exact hr t u e2
/-- **A FUNCTION**. -/
theorem fn_sound (hm : P.follows .mixedOrders = true) (hE : EnvOk P E) {f : FuncId} {fn : Func} (hf : P.funcs[f]? = some fn) (hname : (fn.name == "runtime.NumGoroutine") = false) {c : Code} (hb : fn.body = some c) (hl : LoopsOk P E L c) {args : List V} {out : V × List HB}
    (h : (evFn E L fn args).sem = some out) : COk P f args out := by
  intro w S cargs hS hargs
  unfold evFn at h
  rw [hb] at h
  simp only at h
  cases hle : Nat.ble args.length fn.ntmps with
  | false => rw [hle] at h; simp [Tr.sem] at h
  | true =>
  rw [hle] at h
  simp only [cond_true] at h
  have hle' := Nat.le_of_ble_eq_true hle
  rw [Tr.sem_bind] at h
  obtain ⟨⟨xt, st1⟩, h1, h2⟩ := bind_some h
  refine entered_of_calls hf hname (by rw [hb]; rfl) (calls_of_wp hf hb ?_)
  obtain ⟨_, f1⟩ := ev_sound (w0 := w) (M := fun _ => False) (S0 := S) (L := L) hm hE (fun _ _ h => h) c _ _ hl (good_mk _ _ _ _) h1
  have hB : Blocks w (fun _ => False) B0 S [] w := ⟨fun id hb h => by simp at h, fun id hb blk n h => by simp at h, fun id hb blk n h => by simp at h, fun id id' hb hb' blk n n' h => by simp at h, fun _ _ => rfl, ⟨fun _ _ => none, ⟨fun _ _ _ e => (by simp at e), fun _ _ _ _ e => (by cases e), fun _ _ _ _ _ _ _ e => (by cases e), fun _ _ _ _ _ _ _ _ _ _ e => (by cases e)⟩⟩⟩
  refine f1 B0 S _ w (start_sim hB hS hargs.1 hargs.2 hle') _ fun β' S' a' w' hx hs' => ?_
  have fin : ((((resVs E st1 fn.results.toList).bind fun l => normM 0 [single l]).run st1.h []).bind (fun q => match q.1.1 with | [v] => (.ok (v, q.1.2.2) : Tr (V × List HB)) | _ => .bad)).sem = some out → a'.defers = [] ∧ ∃ v, (results fn a'.tmps).run P w' = .ok v w' ∧ Ret w S out.1 out.2 (.returned v) w' := by
    intro h3
    rw [Tr.sem_bind] at h3
    obtain ⟨⟨⟨vs, ids, bs⟩, rs⟩, h4, h5⟩ := bind_some h3
    have h6 := ev_of_run h4
    rw [RM.ev_bind] at h6
    obtain ⟨l, h7, h8⟩ := bind_some h6
    obtain ⟨cv, r1, r2⟩ := results_run hE.ty hs' h7
    obtain ⟨β2, n1, n2, n3, _⟩ := norm_core (f := fun _ => cv) hs' (fun j v hv => by
      cases j with
      | zero => simp at hv; subst hv; exact r2
      | succ j => simp at hv) h8
    refine ⟨hs'.df, cv, r1, ?_⟩
    match vs, n2, n1, h5 with
    | [v], _, n1, h5 =>
      simp only [Tr.sem, Option.some.injEq] at h5; subst h5
      refine ⟨cv, β2, S', rfl, sim_mk hs'.kept n3 hs'.sb rfl rfl fun i => ?_⟩
      · refine assoc_rel (R := fun i v => Rel β2 S' w' ((#[cv] : Array Value).getD i undef) v) (fun i => .undef _) _ _ (fun j t u e1 e2 => ?_) i
        cases j with
        | zero => simp at e1 e2; subst e1; subst e2; simpa using n1 0 v rfl
        | succ j => simp at e1
  cases xt with
  | normal => exact fin h2
  | ret => exact fin h2
  | exit id => simp [Tr.sem] at h2
theorem assoc_from : ∀ (vs : List V) (i j : Nat) (v : V), vs[j]? = some v → assocV (List.range' i vs.length) vs (i + j) = v
  | [], i, j, v, h => by simp at h
  | u :: vs, i, j, v, h => by
    rw [List.length_cons, List.range'_succ]
    simp only [assocV]
    cases j with
    | zero => simp at h; subst h; simp
    | succ j =>
      rw [beq_ne (by omega : i + (j + 1) ≠ i)]
      have := assoc_from vs (i + 1) j v (by simpa using h)
      rw [show i + (j + 1) = i + 1 + j from by omega]
      exact this
theorem assoc_range (vs : List V) (j : Nat) (v : V) (h : vs[j]? = some v) : assocV (List.range vs.length) vs j = v := by
  have := assoc_from vs 0 j v h
  rwa [Nat.zero_add, ← List.range_eq_range'] at this
/-- **A FUNCTION THAT WRITES** into what it is given. -/
theorem fnM_sound (hm : P.follows .mixedOrders = true) (hE : EnvOk P E) (hfz : E.frz = false) {f : FuncId} {fn : Func} (hf : P.funcs[f]? = some fn) (hname : (fn.name == "runtime.NumGoroutine") = false) {c : Code} (hb : fn.body = some c) (hl : LoopsOk P E L c) {args : List V} {bs : List Blk} {out : V × List Blk}
    (h : (evFnM E L fn args bs).sem = some out) : MOk P f args bs out := by
  intro w S β M cargs hs0 hsz hnd
  unfold evFnM at h
  rw [hb] at h
  simp only at h
  cases hle : (Nat.ble args.length fn.ntmps && Nat.beq E.pin bs.length) with
  | false => rw [hle] at h; simp [Tr.sem] at h
  | true =>
  rw [hle] at h
  simp only [cond_true] at h
  simp only [Bool.and_eq_true] at hle
  have hle' := Nat.le_of_ble_eq_true hle.1
  have hpin := Nat.eq_of_beq_eq_true hle.2
  rw [Tr.sem_bind] at h
  obtain ⟨⟨xt, st1⟩, h1, h2⟩ := bind_some h
  refine entered_of_calls hf hname (by rw [hb]; rfl) (calls_of_wp hf hb ?_)
  obtain ⟨_, f1⟩ := ev_sound (w0 := w) (M := M) (S0 := S) (L := L) hm hE (fun e => by rw [hfz] at e; cases e) c _ _ hl (good_mk _ _ _ _) h1
  have hB : Blocks w M β S (bs.map fun b => ⟨b, false⟩) w := ⟨hs0.blk, fun id hb blk n hh hd hf e => hs0.own id blk n ⟨hb, hh, hd, hf⟩ e, hs0.fzn, fun id id' hb hb' blk n n' hh hh' hd hd' hf hf' e e' => hs0.inj id id' blk n n' ⟨hb, hh, hd, hf⟩ ⟨hb', hh', hd', hf'⟩ e e', hs0.fresh, hs0.hid⟩
  have hr : ∀ j v, args[j]? = some v → Rel β S w (cargs.getD j undef) v := fun j v hv => by
    have := hs0.tm j
    have hj : j < args.length := (List.getElem?_eq_some_iff.1 hv).1
    have e : (mkSt cargs.size (List.range cargs.size) args (bs.map fun b => ⟨b, false⟩)).t j = v := by
      show assocV (List.range cargs.size) args j = v
      rw [hsz]
      exact assoc_range args j v hv
    rw [e] at this; exact this
  refine f1 β S _ w (start_sim hB (fun b hb => (hs0.sb b hb).1) hsz hr hle') _ fun β' S' a' w' hx hs' => ?_
  have fin : ((((resVs E st1 fn.results.toList).bind fun l => normM bs.length [single l]).run st1.h []).bind fun q => match q.1.1 with | [v] => bif q.1.2.2.any (·.fz) then .bad else (.ok (v, q.1.2.2.map (·.blk)) : Tr (V × List Blk)) | _ => .bad).sem = some out →
      a'.defers = [] ∧ ∃ v, (results fn a'.tmps).run P w' = .ok v w' ∧ ∃ cv S' β', (∀ id, id < bs.length → β' id = β id) ∧ Ending.returned v = .returned cv ∧ Sim w M S β' S' (mkSt 1 [0] [out.1] (out.2.map fun b => ⟨b, false⟩)) ⟨#[cv], []⟩ w' := by
    intro h3
    rw [Tr.sem_bind] at h3
    obtain ⟨⟨⟨vs, ids, hbs⟩, rs⟩, h4, h5⟩ := bind_some h3
    have h6 := ev_of_run h4
    rw [RM.ev_bind] at h6
    obtain ⟨l, h7, h8⟩ := bind_some h6
    obtain ⟨cv, r1, r2⟩ := results_run hE.ty hs' h7
    obtain ⟨β2, n1, n2, n3, n4, n5, n6, n7, n8, _, _⟩ := norm_core (f := fun _ => cv) hs' (fun j v hv => by
      cases j with
      | zero => simp at hv; subst hv; exact r2
      | succ j => simp at hv) h8
    have hβ : ∀ id, id < bs.length → β2 id = β id := fun id hid => by
      obtain ⟨blk, n, e3, _⟩ := (hs0.blk id ⟨bs[id], false⟩ (by rw [mkSt_h, List.getElem?_map, List.getElem?_eq_getElem hid]; rfl)).lt (hnd _ (List.getElem_mem hid))
      rw [n5 id id (n8 id hid), e3]
      exact hx id (by rw [hpin]; exact hid) _ e3
    refine ⟨hs'.df, cv, r1, ?_⟩
    match vs, n2, n1, h5 with
    | [v], _, n1, h5 =>
      simp only at h5
      cases hfz : hbs.any (·.fz) with
      | true => rw [hfz] at h5; simp [Tr.sem] at h5
      | false =>
      rw [hfz] at h5
      simp only [cond_false, Tr.sem, Option.some.injEq] at h5; subst h5
      have hmap : (hbs.map (·.blk)).map (fun b => (⟨b, false⟩ : HB)) = hbs := by
        rw [List.map_map]
        refine (List.map_congr_left (g := fun hb => hb) fun hb hh => ?_).trans (List.map_id _)
        have := List.any_eq_false.1 hfz hb hh
        cases hb; simp at this; simp [this]
      refine ⟨cv, S', β2, hβ, rfl, ?_⟩
      simp only [hmap]
      refine sim_mk hs'.kept n3 hs'.sb rfl rfl fun i => ?_
      refine assoc_rel (R := fun i v => Rel β2 S' w' ((#[cv] : Array Value).getD i undef) v) (fun i => .undef _) _ _ (fun j t u e1 e2 => ?_) i
      cases j with
      | zero => simp at e1 e2; subst e1; subst e2; simpa using n1 0 v rfl
      | succ j => simp at e1
  cases xt with
  | normal => exact fin h2
  | ret => exact fin h2
  | exit id => simp [Tr.sem] at h2
end
end Go.Proofs.Ytpglfnkkmafhbaa
