/- The abstract machine, part 13: calls are right; each operation is right. -/
import Derived.Test.YtpglfnkkmafhbaaEl
set_option linter.unusedVariables false
set_option linter.unusedSimpArgs false
set_option linter.constructorNameAsVariable false
namespace Go.Proofs.Ytpglfnkkmafhbaa
open Go.RowKit
/-- The contract of a function that writes into what it is given. -/
def MOk (P : Program) (f : FuncId) (args : List V) (bs : List Blk) (out : V × List Blk) : Prop :=
  ∀ (w : World) (S : Nat → Prop) (β : Bt) (M : Nat → Prop) (cargs : Array Value), Sim w M S β S (mkSt cargs.size (List.range cargs.size) args (bs.map fun b => ⟨b, false⟩)) ⟨cargs, []⟩ w → cargs.size = args.length → (∀ b ∈ bs, b ≠ .dead) →
    Entered P f cargs w fun e w' => ∃ cv S' β', (∀ id, id < bs.length → β' id = β id) ∧ e = .returned cv ∧ Sim w M S β' S' (mkSt 1 [0] [out.1] (out.2.map fun b => ⟨b, false⟩)) ⟨#[cv], []⟩ w'
/-- What is asked of what is told of types and calls. -/
structure EnvOk (P : Program) (E : Env) : Prop where
  ty : ∀ t x, E.ty t = some x → tyOf P t = some x
  call : ∀ f args out, (E.call f args).sem = some out → COk P f args out
  callM : ∀ f args bs out, (E.callM f args bs).sem = some out → MOk P f args bs out
  eqT : ∀ t, E.eqT t = true → eqOk P t = true
section
variable {P : Program} {E : Env} {w0 : World} {M S0 : Nat → Prop} {β : Bt} {S : Nat → Prop} {st : St} {a : Act} {w : World} {o : Oper}
theorem wp_of_entered {f : FuncId} {cargs : Array Value} {R : Ending → World → Prop} (he : (execOp a.eval o) = callFunc f cargs) (h : Entered P f cargs w R) {K : Act → World → Prop} {Q : Exit → Act → World → Prop}
    (hK : ∀ e w', R e w' → ∃ cv, e = .returned cv ∧ K (a.put o.dst cv) w') : o.wp P a w K Q := by
  unfold Oper.wp
  rw [he]
  unfold Entered at h
  cases hr : (callFunc f cargs).run P w with
  | halt x w' => rw [hr] at h; exact h.elim
  | ok n w' =>
    rw [hr] at h
    cases n <;> try exact h.elim
    · rename_i v
      obtain ⟨cv, e1, e2⟩ := hK _ _ h
      cases e1; exact e2
    · rename_i g as
      simp only [Oper.upon]
      refine Calls.mono h fun e w'' hR => ?_
      obtain ⟨cv, rfl, e2⟩ := hK _ _ hR
      exact e2
theorem exec_call {c : Call} {fo : Operand} {f : FuncId} {cs : Array Value} (ho : o.op = .call c) (hc : c.callee = .value fo) (hf : a.eval fo = .func (.func f) #[] cs) : execOp a.eval o = callFunc f (c.args.map a.eval ++ cs) := by
  unfold execOp
  simp [ho, resolve, hc, hf, Deferred.ofValue, invoke]
theorem args_rel (hs : Sim w0 M S0 β S st a w) {args : Array Operand} {cs : Array Value} {caps : List V} (hl : cs.size = caps.length) (hc : ∀ j v, caps[j]? = some v → Rel β S w (cs.getD j undef) v) :
    CellsRel β S w (args.map a.eval ++ cs) (args.toList.map st.op ++ caps) := by
  refine ⟨by simp [hl], fun j v hv => ?_⟩
  by_cases hj : j < args.size
  · rw [List.getElem?_append_left (by simpa using hj), List.getElem?_map] at hv
    obtain ⟨x, hx, rfl⟩ := map_some hv
    have hx' : args[j]? = some x := by simpa using hx
    have : (args.map a.eval ++ cs).getD j undef = a.eval x := by
      rw [Array.getD_eq_getD_getElem?, Array.getElem?_append_left (by simpa using hj), Array.getElem?_map, hx']; rfl
    rw [this]; exact hs.op x
  · rw [List.getElem?_append_right (by simp; omega), List.length_map, Array.length_toList] at hv
    have : (args.map a.eval ++ cs).getD j undef = cs.getD (j - args.size) undef := by
      rw [Array.getD_eq_getD_getElem?, Array.getElem?_append_right (by simp; omega), Array.size_map]; simp
    rw [this]; exact hc _ v hv
theorem done_call (hE : EnvOk P E) (hM : E.frz = true → ∀ b, ¬ M b) (hs : Sim w0 M S0 β S st a w) {nb : Nat} (hn : ∀ j, j < room → st.h (nb + j) = none) {c : Call} {fo : Operand} {f : FuncId} {caps : List V} (ho : o.op = .call c) (hc : c.callee = .value fo)
    (hf : st.op fo = .fn f caps) (hm : E.mutF f = false) {e : Eff} (h : (callRM E nb f (c.args.toList.map st.op ++ caps)).ev st.h = some e) : Done P w0 M S0 β st o a w e := by
  have hfr := hs.op fo
  rw [hf] at hfr
  obtain ⟨cs, hcs, hcl, hcr⟩ := rel_fn hfr
  have hargs := args_rel hs (args := c.args) hcl hcr
  unfold callRM at h
  rw [hm] at h
  simp only [cond_false] at h
  rw [RM.ev_bind] at h
  obtain ⟨⟨args', ids⟩, h1, h2⟩ := bind_some h
  rw [RM.ev_bind, RM.ev_ofTr] at h2
  obtain ⟨⟨v, bs⟩, h3, h4⟩ := bind_some h2
  obtain ⟨hroom, h5⟩ := ev_cond h4
  have hroom' := Nat.le_of_ble_eq_true hroom
  simp only at hroom' h5
  rw [RM.ev_bind] at h5
  obtain ⟨fz, h6, h7⟩ := bind_some h5
  simp only [RM.ev, Option.some.injEq] at h7
  subst h7
  obtain ⟨sl, sr, sd⟩ := snapL_rel (snap_rel hs 4) _ _ _ (fun j => (c.args.map a.eval ++ cs).getD j undef) h1 hargs.2
  have hcok := hE.call f args' (v, bs) h3 w (With β S ids) (c.args.map a.eval ++ cs) (fun b hb => by
    rcases hb with hb | ⟨id, hid, n, e⟩
    · exact (hs.sb b hb).1
    · obtain ⟨hb, hh, hd⟩ := sd id hid; exact hs.blk_lt hh hd e) ⟨by rw [hargs.1, sl], sr⟩
  intro K Q hK
  refine wp_of_entered (exec_call ho hc hcs) hcok fun e w' ⟨cv, β1, S1, he, hsim⟩ => ⟨cv, he, ?_⟩
  have hbel := below_of_kept hsim.kept
  have fin : ∀ {S2 : Nat → Prop} {st2 : St}, Sim w0 M S0 β S2 st2 a w → (∀ j, j < room → st2.h (nb + j) = none) → ((∀ b, With β S ids b → S2 b) ∨ (v.deep = false ∧ bs.any HB.deep = false)) → st2 = st.setHs fz → K (a.put o.dst cv) w' := by
    intro S2 st2 h2 hn2 hdeep he2
    obtain ⟨β', S', g1, g2, g3⟩ := h2.add hbel hsim (nb := nb) (fun j hj => hn2 j (Nat.lt_of_lt_of_le hj hroom')) hdeep
    refine hK β' S' cv w' g3 ?_ g2
    simp only [setHs_append, ← he2]; exact g1
  cases hd : (v.deep || bs.any HB.deep) with
  | false =>
    rw [hd] at h6
    simp only [cond_false, RM.ev, Option.some.injEq] at h6
    subst h6
    simp only [Bool.or_eq_false_iff] at hd
    exact fin hs hn (.inr hd) rfl
  | true =>
    rw [hd] at h6
    simp only [cond_true] at h6
    obtain ⟨hfr, h8⟩ := ev_cond h6
    obtain ⟨S', g1, g2, g3, g4⟩ := freezeAll_sim (hM hfr) ids fz S st h8 sd (fun id hb hh => ⟨hb, hh, rfl⟩) hs
    exact fin g1 (fun j hj => (g4 _).2 (hn j hj)) (.inl fun b hb => hb.elim (g2 b) fun ⟨id, hid, n, e⟩ => g3 id hid b n e) rfl

theorem zipB_other (st : St) : ∀ (ids : List Nat) (bs : List Blk) (id : Nat), id ∉ ids → (st.setHs (zipB ids bs)).h id = st.h id
  | [], bs, id, h => by cases bs <;> rfl
  | i :: ids, [], id, h => rfl
  | i :: ids, b :: bs, id, h => by
    simp only [zipB, St.setHs]
    rw [zipB_other _ ids bs id (fun hh => h (List.mem_cons_of_mem _ hh)), setH_other _ _ (fun e => h (by rw [e]; exact List.mem_cons_self))]
theorem zipB_in (st : St) : ∀ (ids : List Nat) (bs : List Blk), ids.Nodup → bs.length = ids.length → ∀ (k id : Nat), ids[k]? = some id → (st.setHs (zipB ids bs)).h id = (bs[k]?).map fun b => ⟨b, false⟩
  | [], bs, hn, hl, k, id, h => by simp at h
  | i :: ids, [], hn, hl, k, id, h => by simp at hl
  | i :: ids, b :: bs, hn, hl, k, id, h => by
    simp only [zipB, St.setHs]
    rw [List.nodup_cons] at hn
    cases k with
    | zero =>
      simp at h; subst h
      rw [zipB_other _ ids bs i hn.1, setH_same]; rfl
    | succ k => rw [zipB_in _ ids bs hn.2 (by simpa using hl) k id (by simpa using h)]; simp
theorem zipB_t (st : St) : ∀ (ids : List Nat) (bs : List Blk), (st.setHs (zipB ids bs)).t = st.t ∧ (st.setHs (zipB ids bs)).n = st.n
  | [], bs => by cases bs <;> exact ⟨rfl, rfl⟩
  | i :: ids, [] => ⟨rfl, rfl⟩
  | i :: ids, b :: bs => by simp only [zipB, St.setHs]; exact zipB_t _ ids bs
theorem Kept.refl (M : Nat → Prop) (w : World) : Kept M w w := ⟨rfl, rfl, rfl, Nat.le_refl _, fun _ _ _ => rfl, Szs.refl w⟩
theorem done_callM (hE : EnvOk P E) (hs : Sim w0 M S0 β S st a w) {nb : Nat} (hn : ∀ j, j < room → st.h (nb + j) = none) {c : Call} {fo : Operand} {f : FuncId} {caps : List V} (ho : o.op = .call c) (hc : c.callee = .value fo)
    (hf : st.op fo = .fn f caps) (hm : E.mutF f = true) {e : Eff} (h : (callRM E nb f (c.args.toList.map st.op ++ caps)).ev st.h = some e) : Done P w0 M S0 β st o a w e := by
  have hfr := hs.op fo
  rw [hf] at hfr
  obtain ⟨cs, hcs, hcl, hcr⟩ := rel_fn hfr
  have hargs := args_rel hs (args := c.args) hcl hcr
  unfold callRM at h
  rw [hm] at h
  simp only [cond_true] at h
  rw [RM.ev_bind] at h
  obtain ⟨⟨args', ids, hbs⟩, h1, h2⟩ := bind_some h
  cases hfz : hbs.any (·.fz) with
  | true => simp only [hfz, cond_true, RM.ev] at h2; cases h2
  | false =>
  simp only [hfz, cond_false] at h2
  rw [RM.ev_bind, RM.ev_ofTr] at h2
  obtain ⟨⟨v, bs⟩, h3, h4⟩ := bind_some h2
  obtain ⟨hcond, h5⟩ := ev_cond h4
  simp only [Bool.and_eq_true] at hcond
  obtain ⟨⟨hle1, hle2⟩, hal⟩ := hcond
  have hle1' : ids.length ≤ bs.length := Nat.le_of_ble_eq_true hle1
  have hle2' : bs.length ≤ ids.length + room := Nat.le_of_ble_eq_true hle2
  have hal' : ∀ b ∈ bs, b ≠ .dead := fun b hb e => by have := List.all_eq_true.1 hal b hb; rw [e] at this; cases this
  simp only [RM.ev, Option.some.injEq] at h5
  subst h5
  obtain ⟨β', r1, r2, r3, r4, r5, r6, r7, _, r9, r10⟩ := norm_core (f := fun j => (c.args.map a.eval ++ cs).getD j undef) hs hargs.2 h1
  obtain ⟨σ, q⟩ := hs.hid
  have q' := r9 σ q
  have hfz' : ∀ hb ∈ hbs, hb.fz = false := fun hb hh => by have := List.any_eq_false.1 hfz hb hh; simpa using this
  have hmap : (hbs.map (·.blk)).map (fun b => (⟨b, false⟩ : HB)) = hbs := by
    rw [List.map_map]
    refine (List.map_congr_left (g := fun hb => hb) fun hb hh => ?_).trans (List.map_id _)
    have := hfz' hb hh
    cases hb; simp at this; simp [this]
  have hids : ∀ k : Nat, k < hbs.length → ∃ id, ids[k]? = some id := fun k hk => ⟨_, List.getElem?_eq_getElem (by rw [← r4]; exact hk)⟩
  let σ' : Nat → Nat → Option Nat := fun k i => (ids[k]?).bind fun id => σ id i
  let Mc : Nat → Prop := fun b => (∃ k n, k < hbs.length ∧ β' k = some (b, n)) ∨ ∃ k i, OL (fun k => hbs[k]?) k ∧ σ' k i = some b
  let Ft : Nat → Nat → Prop := fun id b => (∃ n, β id = some (b, n)) ∨ (OL st.h id ∧ ∃ i, σ id i = some b)
  have hidl : ∀ k id, ids[k]? = some id → Live st id := fun k id hid => by
    obtain ⟨hb, hb', g1, g2, g3, g4, g5⟩ := r7 k id hid
    exact ⟨hb, g1, g3, by rw [← g4]; exact hfz' hb' (List.mem_of_getElem? g2)⟩
  have ftOwn : ∀ id b, Live st id → Ft id b → ¬ S b ∧ (w0.heap.size ≤ b ∨ M b) ∧ b < w.heap.size := fun id b hl hf => by
    rcases hf with ⟨n, e⟩ | ⟨ho, i, e⟩
    · obtain ⟨o1, o2⟩ := hs.own id b n hl e
      obtain ⟨hb, hh, hd, _⟩ := hl
      exact ⟨o1, o2, hs.blk_lt hh hd e⟩
    · exact q.own id i b ho e
  have ftInj : ∀ id id' b n, Live st id → Live st id' → Ft id b → β id' = some (b, n) → id = id' := fun id id' b n hl hl' hf e' => by
    rcases hf with ⟨n0, e⟩ | ⟨ho, i, e⟩
    · exact hs.inj id id' b n0 n hl hl' e e'
    · obtain ⟨hb, hh, hd, hff⟩ := hl'
      exact absurd e' (q.sep id i b id' hb n ho hh hd hff e)
  have hMc : ∀ b, Mc b → ∃ id, id ∈ ids ∧ Live st id ∧ Ft id b := fun b hM => by
    rcases hM with ⟨k, n, hk, e⟩ | ⟨k, i, ⟨row, xss, ho⟩, e⟩
    · obtain ⟨id, hid⟩ := hids k hk
      exact ⟨id, List.mem_of_getElem? hid, hidl k id hid, .inl ⟨n, by rw [← r5 k id hid]; exact e⟩⟩
    · cases hid : ids[k]? with
      | none => simp only [σ', hid, Option.bind_none] at e; cases e
      | some id =>
        simp only [σ', hid, Option.bind_some] at e
        exact ⟨id, List.mem_of_getElem? hid, hidl k id hid, .inr ⟨⟨row, xss, r10 k id row xss hid ho⟩, i, e⟩⟩
  have hMS : ∀ b, S b → ¬ Mc b := fun b hb hM => by obtain ⟨id, _, hl, e⟩ := hMc b hM; exact (ftOwn id b hl e).1 hb
  have hcall : Sim w Mc S β' S (mkSt (c.args.map a.eval ++ cs).size (List.range (c.args.map a.eval ++ cs).size) args' hbs) ⟨c.args.map a.eval ++ cs, []⟩ w := by
    refine sim_mk (Kept.refl _ w) ⟨r3.blk, fun id hb blk n hh hd hff e => ⟨(r3.own id hb blk n hh hd hff e).1, .inr (.inl ⟨id, n, (List.getElem?_eq_some_iff.1 hh).1, e⟩)⟩, r3.fzn, r3.inj, r3.fresh, ⟨σ', q'.sub, fun id i b ho e => ⟨(q'.own id i b ho e).1, .inr (.inr ⟨id, i, ho, e⟩), (q'.own id i b ho e).2.2⟩, q'.inj, q'.sep⟩⟩ (fun b hb => ⟨(hs.sb b hb).1, .inl hb⟩) rfl rfl fun i => ?_
    refine assoc_rel (R := fun i v => Rel β' S w ((c.args.map a.eval ++ cs).getD i undef) v) (fun i => .undef _) _ _ (fun j t u e1 e2 => ?_) i
    have ht : t = j := by
      have hjl := (List.getElem?_eq_some_iff.1 e1).1
      rw [List.length_range] at hjl
      rw [List.getElem?_range hjl] at e1; cases e1; rfl
    subst ht
    exact r1 t u e2
  have hmok := hE.callM f args' _ (v, bs) h3 w S β' Mc (c.args.map a.eval ++ cs) (by rw [hmap]; exact hcall) (by rw [hargs.1, r2]) (fun b hb => by
    obtain ⟨hb0, hm0, rfl⟩ := List.mem_map.1 hb
    obtain ⟨k, hk⟩ := List.getElem?_of_mem hm0
    obtain ⟨id, hid⟩ := hids k (List.getElem?_eq_some_iff.1 hk).1
    obtain ⟨x, x', g1, g2, g3, g4, g5⟩ := r7 k id hid
    rw [hk] at g2; cases g2; exact g5)
  intro K Q hK
  refine wp_of_entered (exec_call ho hc hcs) hmok fun e w' ⟨cv, S1, β1, hβ1, he, hsim⟩ => ⟨cv, he, ?_⟩
  rw [List.length_map] at hβ1
  let g := backId ids nb
  let N := bs.length - ids.length
  have gold : ∀ {k id : Nat}, ids[k]? = some id → g k = id := fun {k id} e => by
    have hk : k < ids.length := (List.getElem?_eq_some_iff.1 e).1
    show backId ids nb k = id
    unfold backId
    rw [show Nat.blt k ids.length = true from by rw [Nat.blt_eq]; exact hk]
    simp [List.getD, e]
  have gnew : ∀ {k : Nat}, ids.length ≤ k → g k = nb + (k - ids.length) := fun {k} hk => by
    show backId ids nb k = _
    unfold backId
    rw [show Nat.blt k ids.length = false from by
      cases hb : Nat.blt k ids.length with
      | false => rfl
      | true => rw [Nat.blt_eq] at hb; omega]
    rfl
  have hNroom : N ≤ room := by show bs.length - ids.length ≤ room; omega
  have hnone : ∀ id, nb ≤ id ∧ id < nb + N → st.h id = none := fun id hid => by
    have := hn (id - nb) (by omega)
    rwa [show nb + (id - nb) = id from by omega] at this
  let β2 : Bt := fun id => if nb ≤ id ∧ id < nb + N then β1 (ids.length + (id - nb)) else β id
  have b2new : ∀ id, nb ≤ id ∧ id < nb + N → β2 id = β1 (ids.length + (id - nb)) := fun id hid => if_pos hid
  have b2old : ∀ id, ¬ (nb ≤ id ∧ id < nb + N) → β2 id = β id := fun id hid => if_neg hid
  have hβ : ∀ id p, β id = some p → β2 id = some p := fun id p e => by
    rw [b2old id fun hid => by rw [hs.fresh id (hnone id hid)] at e; cases e]; exact e
  have idsOld : ∀ id ∈ ids, ¬ (nb ≤ id ∧ id < nb + N) := fun id hid hr => by
    obtain ⟨k, hk⟩ := List.getElem?_of_mem hid
    obtain ⟨hb, _, g1, _⟩ := r7 k id hk
    rw [hnone id hr] at g1; cases g1
  have hg : ∀ k p, β1 k = some p → β2 (g k) = some p := fun k p e => by
    have hk : k < bs.length := by
      rcases Nat.lt_or_ge k bs.length with hlt | hge
      · exact hlt
      · rw [hsim.fresh k (by rw [mkSt_h]; exact List.getElem?_eq_none (by rw [List.length_map]; exact hge))] at e; cases e
    rcases Nat.lt_or_ge k ids.length with hlt | hge
    · obtain ⟨id, hid⟩ := hids k (by rw [r4]; exact hlt)
      rw [gold hid]
      refine hβ id p ?_
      rw [← r5 k id hid, ← hβ1 k (by rw [List.length_map] at *; rw [r4]; exact hlt)]; exact e
    · rw [gnew hge, b2new _ ⟨by omega, by show nb + (k - ids.length) < nb + (bs.length - ids.length); omega⟩, show ids.length + (nb + (k - ids.length) - nb) = k from by omega]; exact e
  let S2 : Nat → Prop := fun b => S b ∨ S1 b
  have hcS : ∀ b, S b → ∀ oo, w'.cell? ⟨b, oo, none⟩ = w.cell? ⟨b, oo, none⟩ := fun b hb oo => cell_of_heap (hsim.kept.block b (hs.sb b hb).1 (hMS b hb)) oo
  let upds := zipB ids ((bs.take ids.length).map (Blk.mapId g))
  let news := enumFrom nb ((bs.drop ids.length).map fun b => (⟨b.mapId g, false⟩ : HB))
  have hnl : ((bs.drop ids.length).map fun b => (⟨b.mapId g, false⟩ : HB)).length = N := by simp [N]
  have hst : ∀ id, (st.setHs (upds ++ news)).h id = if nb ≤ id ∧ id < nb + N then (bs[ids.length + (id - nb)]?).map (fun b => (⟨b.mapId g, false⟩ : HB)) else (st.setHs upds).h id := fun id => by
    rw [setHs_append]
    show ((st.setHs upds).setHs (enumFrom nb _)).h id = _
    rw [enum_h, hnl]
    split
    · rw [List.getElem?_map, List.getElem?_drop]
    · rfl
  obtain ⟨zt, zn⟩ := zipB_t st ids ((bs.take ids.length).map (Blk.mapId g))
  have ht2 : (st.setHs (upds ++ news)).t = st.t ∧ (st.setHs (upds ++ news)).n = st.n := by
    rw [setHs_append]
    obtain ⟨e1, e2⟩ := enum_t (st.setHs upds) ((bs.drop ids.length).map fun b => (⟨b.mapId g, false⟩ : HB)) nb
    exact ⟨e1.trans zt, e2.trans zn⟩
  have zin : ∀ (k id : Nat), ids[k]? = some id → (st.setHs (upds ++ news)).h id = (bs[k]?).map fun b => (⟨b.mapId g, false⟩ : HB) := fun k id hk => by
    rw [hst, if_neg (idsOld id (List.mem_of_getElem? hk))]
    have hk' : k < ids.length := (List.getElem?_eq_some_iff.1 hk).1
    show (st.setHs (zipB ids _)).h id = _
    rw [zipB_in st ids _ r6 (by simp; omega) k id hk, List.getElem?_map, List.getElem?_take, if_pos hk', Option.map_map]; rfl
  have zout : ∀ id, id ∉ ids → ¬ (nb ≤ id ∧ id < nb + N) → (st.setHs (upds ++ news)).h id = st.h id := fun id hid hr => by
    rw [hst, if_neg hr]
    exact zipB_other st ids _ id hid
  have cLive : ∀ k, k < bs.length → Live (mkSt 1 [0] [v] (bs.map fun b => ⟨b, false⟩)) k := fun k hk => ⟨⟨bs[k], false⟩, by rw [mkSt_h, List.getElem?_map, List.getElem?_eq_getElem hk]; rfl, hal' _ (List.getElem_mem hk), rfl⟩
  have hlive : ∀ id, ¬ (nb ≤ id ∧ id < nb + N) → Live (st.setHs (upds ++ news)) id → Live st id := fun id hr hl => by
    by_cases hid : id ∈ ids
    · obtain ⟨k, hk⟩ := List.getElem?_of_mem hid
      obtain ⟨hb, hb', g1, g2, g3, g4, g5⟩ := r7 k id hk
      exact ⟨hb, g1, g3, by rw [← g4]; exact hfz' hb' (List.mem_of_getElem? g2)⟩
    · obtain ⟨hb, g1, g2, g3⟩ := hl
      rw [zout id hid hr] at g1
      exact ⟨hb, g1, g2, g3⟩
  have newIdx : ∀ id, nb ≤ id ∧ id < nb + N → ids.length + (id - nb) < bs.length := fun id hid => by have := hid.2; show ids.length + (id - nb) < bs.length; have : N = bs.length - ids.length := rfl; omega
  -- an own block that was there is not among the new ones
  have cross : ∀ {i j blk n1 n2 : Nat}, ¬ (nb ≤ i ∧ i < nb + N) → Live st i → β i = some (blk, n1) → (nb ≤ j ∧ j < nb + N) → β1 (ids.length + (j - nb)) = some (blk, n2) → False := fun {i j blk n1 n2} hi hl e1 hj e2 => by
    obtain ⟨hb, hh, hd, hff⟩ := hl
    have hlt := hs.blk_lt hh hd e1
    rcases (hsim.own _ blk n2 (cLive _ (newIdx j hj)) e2).2 with hge | hM
    · omega
    rcases hM with ⟨k, n3, hk, e3⟩ | hM
    case inr =>
      obtain ⟨k, i0, ⟨row, xss, ho⟩, e⟩ := hM
      cases hid : ids[k]? with
      | none => simp only [σ', hid, Option.bind_none] at e; cases e
      | some id =>
        simp only [σ', hid, Option.bind_some] at e
        exact q.sep id i0 blk i hb n1 ⟨row, xss, r10 k id row xss hid ho⟩ hh hd hff e e1
    · have hk' : k < bs.length := by rw [r4] at hk; omega
      have := hsim.inj k _ blk n3 n2 (cLive k hk') (cLive _ (newIdx j hj)) (by rw [hβ1 k (by simpa using hk)]; exact e3) e2
      rw [r4] at hk; omega
  refine hK β2 S2 cv w' hβ ⟨⟨hsim.kept.os.trans hs.kept.os, hsim.kept.tape.trans hs.kept.tape, hsim.kept.output.trans hs.kept.output, Nat.le_trans hs.kept.size hsim.kept.size, fun k hk hMk => ?_, hs.kept.szs.trans hsim.kept.szs⟩,
    fun i => ?_, by rw [ht2.2]; exact hs.n, hs.df, fun id hb hh => ?_, fun id blk n hl e => ?_, fun id hb blk n hh hd hff e => ?_, fun i j blk n1 n2 hi hj e1 e2 => ?_, fun b hb => ?_, fun id hh => ?_, ?_⟩ ?_
  case refine_9 =>
    obtain ⟨σ1, q1⟩ := hsim.hid
    have bosl : ∀ {b : Blk} {row : List Ck} {xss : List (DR [.osl row])}, (⟨b.mapId g, false⟩ : HB) = ⟨.arr [.osl row] xss, false⟩ → b = .arr [.osl row] xss := fun {b row xss} e => by
      have := mapId_osl (hb := ⟨b, false⟩) (g := g) (by simpa [HB.mapId] using e)
      cases this; rfl
    let τ : Nat → Option Nat := fun id => if nb ≤ id ∧ id < nb + N then some (ids.length + (id - nb)) else idxN id ids
    have tnone : ∀ {id}, τ id = none → ¬ (nb ≤ id ∧ id < nb + N) ∧ id ∉ ids := fun {id} e => by
      by_cases hr : nb ≤ id ∧ id < nb + N
      · simp only [τ, if_pos hr] at e; cases e
      · simp only [τ, if_neg hr] at e; exact ⟨hr, idxN_none e⟩
    have tsome : ∀ {id k}, τ id = some k → ((nb ≤ id ∧ id < nb + N) ∧ k = ids.length + (id - nb)) ∨ (¬ (nb ≤ id ∧ id < nb + N) ∧ ids[k]? = some id) := fun {id k} e => by
      by_cases hr : nb ≤ id ∧ id < nb + N
      · simp only [τ, if_pos hr, Option.some.injEq] at e; exact .inl ⟨hr, e.symm⟩
      · simp only [τ, if_neg hr] at e; exact .inr ⟨hr, idxN_get e⟩
    have tb : ∀ {id k}, τ id = some k → β2 id = β1 k := fun {id k} e => by
      rcases tsome e with ⟨hr, rfl⟩ | ⟨hr, hk⟩
      · exact b2new id hr
      · rw [b2old id hr, ← r5 k id hk]
        exact (hβ1 k (by rw [r4]; exact (List.getElem?_eq_some_iff.1 hk).1)).symm
    have th : ∀ {id k}, τ id = some k → (st.setHs (upds ++ news)).h id = (bs[k]?).map fun b => (⟨b.mapId g, false⟩ : HB) := fun {id k} e => by
      rcases tsome e with ⟨hr, rfl⟩ | ⟨hr, hk⟩
      · rw [hst, if_pos hr]
      · exact zin k id hk
    have kOf : ∀ {id k hb}, τ id = some k → (st.setHs (upds ++ news)).h id = some hb → ∃ b, bs[k]? = some b ∧ hb = ⟨b.mapId g, false⟩ := fun {id k hb} e hh => by
      rw [th e] at hh
      obtain ⟨b, h1, h2⟩ := map_some hh
      exact ⟨b, h1, h2.symm⟩
    refine ⟨_, q.join q1 τ (fun b => w.heap.size ≤ b ∨ Mc b) (fun id row xss ht e => ?_) (fun id k row xss ht e => ?_) (fun id hb ht hid hd hf => ?_) (fun id k hb ht hid hd hf => ?_) (fun id id' k e e' => ?_)
      (fun id i b ht _ ho e hn => ?_) (fun id hb b n ht hid hd hf e => ?_) (fun b hb => ?_) (fun id k hb b n ht hid hd hf e => ?_) (fun b hb hn => ?_) (fun b hb hn => ?_) (fun b hlt hn => hsim.kept.block b hlt fun hM => hn (.inr hM)) hsim.kept.size hsim.kept.szs⟩
    · obtain ⟨hr, hni⟩ := tnone ht
      rw [zout id hni hr] at e
      exact ⟨e, b2old id hr⟩
    · obtain ⟨b, h1, h2⟩ := kOf ht e
      rw [bosl h2.symm] at h1
      exact ⟨by rw [mkSt_h, List.getElem?_map, h1]; rfl, tb ht⟩
    · obtain ⟨hr, hni⟩ := tnone ht
      rw [zout id hni hr] at hid
      exact ⟨hb, hid, hd, hf, b2old id hr⟩
    · obtain ⟨b, h1, h2⟩ := kOf ht hid
      obtain ⟨x, x1, x2, x3⟩ := cLive k (List.getElem?_eq_some_iff.1 h1).1
      exact ⟨x, x1, x2, x3, tb ht⟩
    · rcases tsome e with ⟨hr, rfl⟩ | ⟨hr, hk⟩
      · rcases tsome e' with ⟨hr', hk'⟩ | ⟨hr', hk'⟩
        · omega
        · have := (List.getElem?_eq_some_iff.1 hk').1; omega
      · rcases tsome e' with ⟨hr', rfl⟩ | ⟨hr', hk'⟩
        · have := (List.getElem?_eq_some_iff.1 hk).1; omega
        · rw [hk] at hk'; exact Option.some.inj hk'
    · obtain ⟨hr, hni⟩ := tnone ht
      rcases hn with hn | hn
      · have := (q.own id i b ho e).2.2; omega
      · obtain ⟨id0, i0, l0, f0⟩ := hMc b hn
        rcases f0 with ⟨n, e0⟩ | ⟨ho0, j, e0⟩
        · obtain ⟨hb, hh, hd, hff⟩ := l0
          exact q.sep id i b id0 hb n ho hh hd hff e e0
        · obtain ⟨rfl, _⟩ := q.inj id id0 i j b ho ho0 e e0
          exact hni i0
    · obtain ⟨hr, hni⟩ := tnone ht
      rw [zout id hni hr] at hid
      have hlt := hs.blk_lt hid hd e
      refine ⟨hlt, fun hn => ?_⟩
      rcases hn with hn | hn
      · omega
      · obtain ⟨id0, i0, l0, f0⟩ := hMc b hn
        have := ftInj id0 id b n l0 ⟨hb, hid, hd, hf⟩ f0 e
        subst this; exact hni i0
    · rcases hb with hb | hb
      · exact ⟨.inl hb, .inl (Nat.le_trans hs.kept.size hb)⟩
      · obtain ⟨id0, i0, l0, f0⟩ := hMc b hb
        exact ⟨.inr hb, (ftOwn id0 b l0 f0).2.1⟩
    · obtain ⟨b', h1, h2⟩ := kOf ht hid
      exact (hsim.own k b n (cLive k (List.getElem?_eq_some_iff.1 h1).1) e).2
    · rcases hb with hb | hb
      · exact hb
      · rcases (hsim.sb b hb).2 with h | h
        · exact h
        · exact absurd (.inl h) hn
    · rcases hb with hb | hb
      · rcases hn with hn | hn
        · have := (hs.sb b hb).1; omega
        · exact absurd hn (hMS b hb)
      · exact hb
  · rw [hsim.kept.block k (Nat.lt_of_lt_of_le hk hs.kept.size) (fun hM => ?_)]
    · exact hs.kept.block k hk hMk
    · obtain ⟨id, _, hl, e⟩ := hMc k hM
      rcases (ftOwn id k hl e).2.1 with h | h
      · omega
      · exact hMk h
  · rw [ht2.1]; exact (hs.tm i).mono hβ (fun _ e => .inl e) hcS hsim.kept.szs
  · by_cases hr : nb ≤ id ∧ id < nb + N
    · rw [hst, if_pos hr] at hh
      obtain ⟨b, hb0, rfl⟩ := map_some hh
      have hbr := hsim.blk (ids.length + (id - nb)) ⟨b, false⟩ (by rw [mkSt_h, List.getElem?_map, hb0]; rfl)
      have := hbr.mapId (β' := β2) (S' := S2) (g := g) hg (.inl fun _ e => .inr e)
      rw [gnew (Nat.le_add_right _ _), show nb + (ids.length + (id - nb) - ids.length) = id from by omega] at this
      exact this
    · by_cases hid : id ∈ ids
      · obtain ⟨k, hk⟩ := List.getElem?_of_mem hid
        rw [zin k id hk] at hh
        obtain ⟨b, hb0, rfl⟩ := map_some hh
        have hbr := hsim.blk k ⟨b, false⟩ (by rw [mkSt_h, List.getElem?_map, hb0]; rfl)
        have := hbr.mapId (β' := β2) (S' := S2) (g := g) hg (.inl fun _ e => .inr e)
        rw [gold hk] at this
        exact this
      · rw [zout id hid hr] at hh
        have hbr := hs.blk id hb hh
        by_cases hdd : hb.blk = .dead
        · rw [hdd]; trivial
        refine hbr.mono hβ (fun _ e => .inl e) hcS hsim.kept.szs fun blk n e => hsim.kept.block blk (hs.blk_lt hh hdd e) fun hM => ?_
        obtain ⟨id', hid', hl, e'⟩ := hMc blk hM
        cases hff : hb.fz with
        | true => exact (ftOwn id' blk hl e').1 (hs.fzn id hb blk n hh hdd hff e)
        | false =>
          have := ftInj id' id blk n hl ⟨hb, hh, hdd, hff⟩ e' e
          subst this; exact hid hid'
  · by_cases hr : nb ≤ id ∧ id < nb + N
    · rw [b2new id hr] at e
      obtain ⟨o1, o2⟩ := hsim.own _ blk n (cLive _ (newIdx id hr)) e
      have hm' : w0.heap.size ≤ blk ∨ M blk := by
        rcases o2 with h | h
        · exact .inl (Nat.le_trans hs.kept.size h)
        · obtain ⟨id', _, hl', e'⟩ := hMc blk h
          exact (ftOwn id' blk hl' e').2.1
      refine ⟨fun hS => ?_, hm'⟩
      rcases hS with hS | hS
      · rcases o2 with h | h
        · have := (hs.sb blk hS).1; omega
        · exact hMS blk hS h
      · exact o1 hS
    · have hl' := hlive id hr hl
      rw [b2old id hr] at e
      obtain ⟨o1, o2⟩ := hs.own id blk n hl' e
      refine ⟨fun hS => ?_, o2⟩
      rcases hS with hS | hS
      · exact o1 hS
      · obtain ⟨hb, hh, hd, _⟩ := hl'
        have hlt := hs.blk_lt hh hd e
        rcases (hsim.sb blk hS).2 with h | h
        · exact o1 h
        · omega
  · by_cases hr : nb ≤ id ∧ id < nb + N
    · rw [hst, if_pos hr] at hh
      obtain ⟨b, hb0, rfl⟩ := map_some hh
      cases hff
    · by_cases hid : id ∈ ids
      · obtain ⟨k, hk⟩ := List.getElem?_of_mem hid
        rw [zin k id hk] at hh
        obtain ⟨b', hb', rfl⟩ := map_some hh
        cases hff
      · rw [zout id hid hr] at hh
        rw [b2old id hr] at e
        exact .inl (hs.fzn id hb blk n hh hd hff e)
  · by_cases hri : nb ≤ i ∧ i < nb + N
    · rw [b2new i hri] at e1
      by_cases hrj : nb ≤ j ∧ j < nb + N
      · rw [b2new j hrj] at e2
        have := hsim.inj _ _ blk n1 n2 (cLive _ (newIdx i hri)) (cLive _ (newIdx j hrj)) e1 e2
        omega
      · rw [b2old j hrj] at e2
        exact (cross hrj (hlive j hrj hj) e2 hri e1).elim
    · rw [b2old i hri] at e1
      by_cases hrj : nb ≤ j ∧ j < nb + N
      · rw [b2new j hrj] at e2
        exact (cross hri (hlive i hri hi) e1 hrj e2).elim
      · rw [b2old j hrj] at e2
        exact hs.inj i j blk n1 n2 (hlive i hri hi) (hlive j hrj hj) e1 e2
  · rcases hb with hb | hb
    · exact ⟨Nat.lt_of_lt_of_le (hs.sb b hb).1 hsim.kept.size, (hs.sb b hb).2⟩
    · refine ⟨(hsim.sb b hb).1, ?_⟩
      rcases (hsim.sb b hb).2 with h | h
      · exact (hs.sb b h).2
      · exact .inr (Nat.le_trans hs.kept.size h)
  · by_cases hr : nb ≤ id ∧ id < nb + N
    · rw [hst, if_pos hr, List.getElem?_eq_getElem (newIdx id hr)] at hh; cases hh
    · rw [b2old id hr]
      by_cases hid : id ∈ ids
      · obtain ⟨k, hk⟩ := List.getElem?_of_mem hid
        have hk' : k < bs.length := Nat.lt_of_lt_of_le (List.getElem?_eq_some_iff.1 hk).1 hle1'
        rw [zin k id hk, List.getElem?_eq_getElem hk'] at hh; cases hh
      · rw [zout id hid hr] at hh; exact hs.fresh id hh
  · have hr : Rel β1 S1 w' cv v := by simpa [mkSt, assocV] using hsim.tm 0
    exact hr.mapId (g := g) hg (fun _ e => .inr e)
end
end Go.Proofs.Ytpglfnkkmafhbaa
