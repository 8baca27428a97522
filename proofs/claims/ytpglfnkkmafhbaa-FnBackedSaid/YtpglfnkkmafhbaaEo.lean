/- The abstract machine, part 15: the order of a region that draws its order is of no account. -/
import Derived.Test.YtpglfnkkmafhbaaEn
import Derived.Orders
set_option linter.unusedVariables false
set_option linter.unusedSimpArgs false
set_option linter.constructorNameAsVariable false
namespace Go.Proofs.Ytpglfnkkmafhbaa
open Go.RowKit
section
variable {P : Program} {E : Env} {w0 : World} {M S0 : Nat → Prop} {β : Bt} {S : Nat → Prop} {st : St} {a : Act} {w : World} {o : Oper}
theorem run_local {α : Type} {h h' : Nat → Option HB} : ∀ (m : RM α) (rs : List Nat) (p : α × List Nat), (m.run h rs).sem = some p → (∀ id ∈ rs, id ∈ p.2) ∧ ((∀ id ∈ p.2, h' id = h id) → (m.run h' rs).sem = some p)
  | .ok a, rs, p, hr => by simp only [RM.run, Tr.sem, Option.some.injEq] at hr ⊢; subst hr; exact ⟨fun _ e => e, fun _ => rfl⟩
  | .read id k, rs, p, hr => by
    simp only [RM.run] at hr ⊢
    cases hh : h id with
    | none => rw [hh] at hr; simp [Tr.sem] at hr
    | some b =>
      rw [hh] at hr
      obtain ⟨h1, h2⟩ := run_local (h' := h') (k b) (id :: rs) p hr
      refine ⟨fun i hi => h1 i (List.mem_cons_of_mem _ hi), fun hag => ?_⟩
      rw [hag id (h1 id List.mem_cons_self), hh]
      exact h2 hag
  | .br b t e, rs, p, hr => by
    simp only [RM.run, Tr.sem] at hr ⊢
    cases b
    · exact run_local e rs p hr
    · exact run_local t rs p hr
  | .bad, rs, p, hr => by simp [RM.run, Tr.sem] at hr
theorem opRM0_congr (E : Env) (nb : Nat) {ρ ρ' : Operand → V} (op : Op) (h : ∀ x ∈ op.operands, ρ x = ρ' x) : opRM0 E nb ρ op = opRM0 E nb ρ' op := by
  have hparts : ∀ ps : Array (Nat × Operand), (∀ x ∈ (ps.toList.map (·.2)).toArray, ρ x = ρ' x) → (ps.toList.map fun p => (p.1, ρ p.2)) = (ps.toList.map fun p => (p.1, ρ' p.2)) := fun ps hp =>
    List.map_congr_left fun p hp' => by rw [hp p.2 (by simp; exact ⟨p.1, by simpa using hp'⟩)]
  cases op with
  | call c =>
    have hargs : ∀ x ∈ c.args, ρ x = ρ' x := fun x hx => h x (by simp only [Op.operands, Call.operands]; exact Array.mem_append.2 (.inr hx))
    have hmap : c.args.toList.map ρ = c.args.toList.map ρ' := List.map_congr_left fun x hx => hargs x (by simpa using hx)
    simp only [opRM0]
    cases hc : c.callee with
    | value fo =>
      have : ρ fo = ρ' fo := h fo (by simp [Op.operands, Call.operands, hc])
      simp only [this, hmap]
    | builtin b =>
      cases b <;> try rfl
      · simp only
        split
        · rename_i s x t u e1 e2 e3 e4
          rw [hargs s (Array.mem_of_getElem? e1), hargs x (Array.mem_of_getElem? e2)]
        · rfl
      · simp only
        split
        · rename_i x t e1 e2
          rw [hargs x (Array.mem_of_getElem? e1)]
        · rfl
      · simp only [hmap]
      · simp only [hmap]
    | invoke r n => rfl
  | build t ps => simp only [opRM0, opA]; rw [hparts ps (fun x hx => h x (by simpa [Op.operands] using hx))]
  | buildSlice t n ps =>
    simp only [opRM0, opA]
    rw [show (ps.toList.map fun p => ρ p.2) = ps.toList.map fun p => ρ' p.2 from List.map_congr_left fun p hp => h p.2 (by simp only [Op.operands]; simpa using ⟨p.1, by simpa using hp⟩)]
  | makeFunc f fs cs =>
    cases f <;> try rfl
    simp only [opRM0, opA]
    rw [show cs.toList.map ρ = cs.toList.map ρ' from List.map_congr_left fun x hx => h x (by simp only [Op.operands]; exact Array.mem_append.2 (.inr (by simpa using hx)))]
  | move x => simp only [opRM0, opA]; rw [h x (by simp [Op.operands])]
  | assign x => simp only [opRM0, opA]; rw [h x (by simp [Op.operands])]
  | pick c x y => simp only [opRM0, opA]; rw [h x (by simp [Op.operands]), h c (by simp [Op.operands]), h y (by simp [Op.operands])]
  | box t x => simp only [opRM0, opA]; rw [h x (by simp [Op.operands])]
  | load t x => simp only [opRM0, opA]; rw [h x (by simp [Op.operands])]
  | store t x y => simp only [opRM0, opA]; rw [h x (by simp [Op.operands]), h y (by simp [Op.operands])]
  | nilCheck x => simp only [opRM0, opA]; rw [h x (by simp [Op.operands])]
  | binOp op t x y u => simp only [opRM0, opA]; rw [h x (by simp [Op.operands]), h y (by simp [Op.operands])]
  | unOp op t x => simp only [opRM0, opA]; rw [h x (by simp [Op.operands])]
  | convert s d x => simp only [opRM0, opA]; rw [h x (by simp [Op.operands])]
  | makeSlice t l c => simp only [opRM0, opA]; rw [h l (by simp [Op.operands]), h c (by simp [Op.operands])]
  | fieldAddr s x fi => simp only [opRM0, opA]; rw [h x (by simp [Op.operands])]
  | field s x fi => simp only [opRM0, opA]; rw [h x (by simp [Op.operands])]
  | indexAddr t x i => simp only [opRM0, opA]; rw [h x (by simp [Op.operands]), h i (by simp [Op.operands])]
  | extract x i => simp only [opRM0, opA]; rw [h x (by simp [Op.operands])]
  | _ => rfl
theorem oslOp_congr (E : Env) (nb : Nat) {ρ ρ' : Operand → V} (op : Op) (h : ∀ x ∈ op.operands, ρ x = ρ' x) : oslOp E nb ρ op = oslOp E nb ρ' op := by
  cases op with
  | call c =>
    have hargs : ∀ x ∈ c.args, ρ x = ρ' x := fun x hx => h x (by simp only [Op.operands, Call.operands]; exact Array.mem_append.2 (.inr hx))
    have hmap : c.args.toList.map ρ = c.args.toList.map ρ' := List.map_congr_left fun x hx => hargs x (by simpa using hx)
    simp only [oslOp]
    cases hc : c.callee with
    | value fo =>
      have : ρ fo = ρ' fo := h fo (by simp [Op.operands, Call.operands, hc])
      simp only [this, hmap]
    | builtin b =>
      cases b <;> try rfl
      simp only
      split
      · rename_i s x t u e1 e2 e3 e4
        rw [hargs s (Array.mem_of_getElem? e1), hargs x (Array.mem_of_getElem? e2)]
      · rfl
    | invoke r n => rfl
  | buildSlice t n ps =>
    simp only [oslOp]
    have hp : ∀ (x : Operand) (l : List (Nat × Operand)), ps.toList = (0, x) :: l → ρ x = ρ' x := fun x l e => by
      refine h x ?_
      simp only [Op.operands, e]
      simp
    split
    · split
      · split
        · congr 1
          split
          · rfl
          · rename_i x hx
            rw [hp x [] hx]
          · rfl
        · rfl
      · rfl
    · rfl
  | store t x y => simp only [oslOp]; rw [h x (by simp [Op.operands]), h y (by simp [Op.operands])]
  | makeSlice t l c => simp only [oslOp]; rw [h l (by simp [Op.operands]), h c (by simp [Op.operands])]
  | _ => rfl
theorem opRM_congr (E : Env) (nb : Nat) {ρ ρ' : Operand → V} (op : Op) (h : ∀ x ∈ op.operands, ρ x = ρ' x) : opRM E nb ρ op = opRM E nb ρ' op := by
  unfold opRM
  rw [oslOp_congr E nb op h, opRM0_congr E nb op h]
/-- A step looks at its temporaries and at what it reads alone. -/
theorem Step.local {ops : Array Oper} {nb : Nat} {v : V} {wr : List (Nat × HB)} {rs : List Nat} (h : Step E ops nb o st v wr rs) {st1 : St} (hn : st1.n = st.n) (ht : ∀ t ∈ o.looksAt ops, st1.t t = st.t t) (hr : ∀ id ∈ rs, st1.h id = st.h id) :
    Step E ops nb o st1 v wr rs := by
  have hgt : ∀ {j : Nat} {want : Bool} {t : Tmp}, o.guard = some (j, want) → (ops[j]?).bind (·.dst) = some t → st1.t t = st.t t := fun {j want t} hg hb => ht t (by
    unfold Oper.looksAt
    rw [hg]
    simp only
    rw [hb]
    exact List.mem_append_right _ (by simp))
  have hop : ∀ x ∈ o.op.operands, st1.op x = st.op x := fun x hx => by
    cases x with
    | tmp t => exact ht t (by unfold Oper.looksAt; exact List.mem_append_left _ (List.mem_filterMap.2 ⟨.tmp t, by simpa using hx, rfl⟩))
    | const v => rfl
    | global g => rfl
    | func f => rfl
  cases h with
  | skip hd hg hb h =>
    refine .skip (by rw [hn]; exact hd) hg hb ?_
    rw [hgt hg hb]; exact h
  | run hd hg h hw hu =>
    refine .run (by rw [hn]; exact hd) ?_ ?_ hw hu
    · rcases hg with hg | ⟨j, want, t, x, hg, hb, hx, hxw⟩
      · exact .inl hg
      · exact .inr ⟨j, want, t, x, hg, hb, by rw [hgt hg hb]; exact hx, hxw⟩
    · rw [opRM_congr E nb o.op hop]
      exact (run_local _ [] _ h).2 hr
theorem setHs_h_other (st : St) : ∀ (l : List (Nat × HB)) (id : Nat), id ∉ l.map (·.1) → (st.setHs l).h id = st.h id
  | [], id, h => rfl
  | (i, b) :: l, id, h => by
    simp only [List.map_cons, List.mem_cons, not_or] at h
    simp only [St.setHs]
    rw [setHs_h_other _ l id h.2, setH_other _ _ h.1]
theorem setHs_h_in (st st' : St) : ∀ (l : List (Nat × HB)) (id : Nat), id ∈ l.map (·.1) → (st.setHs l).h id = (st'.setHs l).h id
  | [], id, h => by cases h
  | (i, b) :: l, id, h => by
    simp only [St.setHs]
    by_cases hl : id ∈ l.map (·.1)
    · exact setHs_h_in _ _ l id hl
    · rw [setHs_h_other _ l id hl, setHs_h_other _ l id hl]
      simp only [List.map_cons, List.mem_cons] at h
      obtain rfl := h.resolve_right hl
      rw [setH_same, setH_same]
theorem setHs_nx (st : St) : ∀ l : List (Nat × HB), (st.setHs l).nx = st.nx
  | [] => rfl
  | (i, b) :: l => by simp only [St.setHs]; exact setHs_nx _ l
theorem app_h (st : St) (d : Option Tmp) (v : V) (wr : List (Nat × HB)) : (st.app d v wr).h = (st.setHs wr).h := by cases d <;> rfl
theorem app_n (st : St) (d : Option Tmp) (v : V) (wr : List (Nat × HB)) : (st.app d v wr).n = st.n := by
  have := (setHs_tn st wr).2
  cases d <;> exact this
theorem app_nx (st : St) (d : Option Tmp) (v : V) (wr : List (Nat × HB)) : (st.app d v wr).nx = st.nx := by
  have := setHs_nx st wr
  cases d <;> exact this
theorem app_t (st : St) (d : Option Tmp) (v : V) (wr : List (Nat × HB)) (t : Nat) : (st.app d v wr).t t = if d = some t then v else st.t t := by
  have := (setHs_tn st wr).1
  cases d with
  | none => simp [St.app, St.setT, this]
  | some d =>
    simp only [St.app, St.setT, this]
    by_cases e : t = d
    · subst e; simp
    · rw [beq_ne e]; simp; intro e'; exact absurd e'.symm e
theorem St.ext' {s s' : St} (h1 : ∀ t, s.t t = s'.t t) (h2 : ∀ id, s.h id = s'.h id) (h3 : s.nx = s'.nx) (h4 : s.n = s'.n) : s = s' := by
  cases s; cases s'
  simp only at h1 h2 h3 h4
  obtain rfl := funext h1; obtain rfl := funext h2
  subst h3; subst h4; rfl
def Apart (d d' : Option Tmp) (wr wr' : List (Nat × HB)) : Prop := (∀ t, d = some t → d' ≠ some t) ∧ ∀ id ∈ wr.map (·.1), id ∉ wr'.map (·.1)
theorem app_comm {d d' : Option Tmp} {v v' : V} {wr wr' : List (Nat × HB)} (h : Apart d d' wr wr') : (st.app d v wr).app d' v' wr' = (st.app d' v' wr').app d v wr := by
  refine St.ext' (fun t => ?_) (fun id => ?_) (by simp only [app_nx]) (by simp only [app_n])
  · simp only [app_t]
    by_cases e : d = some t
    · simp only [if_pos e, if_neg (h.1 t e)]
    · simp only [if_neg e]
  · rw [app_h, app_h]
    by_cases e : id ∈ wr.map (·.1)
    · rw [setHs_h_other _ wr' id (h.2 id e), app_h]
      exact setHs_h_in _ _ wr id e
    · rw [setHs_h_other _ wr id e, app_h]
      by_cases e' : id ∈ wr'.map (·.1)
      · exact setHs_h_in _ _ wr' id e'
      · rw [setHs_h_other _ wr' id e', setHs_h_other _ wr' id e', app_h, setHs_h_other _ wr id e]
theorem disj_not {l l' : List Nat} (h : disj l l' = true) : ∀ id ∈ l, id ∉ l' := fun id hi hi' => by
  have := List.all_eq_true.1 h id hi
  simp [hi'] at this
/-- Two steps that do not meddle may be taken in either order. -/
theorem step_comm {ops : Array Oper} {ni nj : Nat} {oi oj : Oper} {vi vj : V} {wi wj : List (Nat × HB)} {ri rj : List Nat} (hi : Step E ops ni oi st vi wi ri) (hj : Step E ops nj oj (st.app oi.dst vi wi) vj wj rj)
    (hap : oi.apart ops oj = true) (hf : fpFree (ri, wi.map (·.1)) (rj, wj.map (·.1)) = true) :
    Step E ops nj oj st vj wj rj ∧ Step E ops ni oi (st.app oj.dst vj wj) vi wi ri ∧ (st.app oj.dst vj wj).app oi.dst vi wi = (st.app oi.dst vi wi).app oj.dst vj wj := by
  obtain ⟨h1, h2, h3⟩ := Oper.apart_spec hap
  simp only [fpFree, Bool.and_eq_true] at hf
  obtain ⟨⟨f1, f2⟩, f3⟩ := hf
  have f1' := disj_not f1; have f2' := disj_not f2; have f3' := disj_not f3
  refine ⟨hj.local (app_n ..).symm (fun t ht => ?_) (fun id hid => ?_), hi.local (app_n ..) (fun t ht => ?_) (fun id hid => ?_), (app_comm ⟨h2, f2'⟩).symm⟩
  · rw [app_t, if_neg (fun e => h1 t e ht)]
  · rw [app_h, setHs_h_other]
    exact fun hh => f1' id hh hid
  · rw [app_t, if_neg (fun e => h3 t e ht)]
  · rw [app_h, setHs_h_other]
    exact f3' id hid

/-! ### All orders -/
/-- i is told, directly or not, to come before j. -/
inductive Anc (ops : Array Oper) : Nat → Nat → Prop
  | one {i j : Nat} {oj : Oper} {e : Edge} (h : ops[j]? = some oj) (he : e ∈ oj.after) (hb : Region.binds .any e = true) (hi : e.on = i) : Anc ops i j
  | more {i k j : Nat} {oj : Oper} {e : Edge} (h : ops[j]? = some oj) (he : e ∈ oj.after) (hb : Region.binds .any e = true) (hk : e.on = k) (h' : Anc ops i k) : Anc ops i j
/-- What is listed has all that is told to come before it listed. -/
def Down (ops : Array Oper) (listed : Array Bool) : Prop := ∀ j oj, ops[j]? = some oj → listed.getD j false = true → ∀ e ∈ oj.after, Region.binds .any e = true → listed.getD e.on false = true
theorem anc_listed {ops : Array Oper} {listed : Array Bool} (hd : Down ops listed) {i j : Nat} (h : Anc ops i j) : (∀ oj, ops[j]? = some oj → ∀ e ∈ oj.after, Region.binds .any e = true → listed.getD e.on false = true) → listed.getD i false = true := by
  induction h with
  | one h he hb hi => intro hj; rw [← hi]; exact hj _ h _ he hb
  | more h he hb hk h' ih =>
    intro hj
    rename_i k' _ _ _
    refine ih fun ok hok e' he' hb' => hd _ ok hok ?_ e' he' hb'
    rw [← hk]; exact hj _ h _ he hb
def absAny (E : Env) (ops : Array Oper) (base : Nat) (fps : Nat → FP) (K : St → Prop) : Nat → Array Bool → St → Prop
  | 0, listed, st => Region.ready .any ops listed = [] ∧ K st
  | fuel + 1, listed, st => (Region.ready .any ops listed = [] → K st) ∧
    ∀ i ∈ Region.ready .any ops listed, ∃ o v wr rs, ops[i]? = some o ∧ Step E ops (base + room * i) o st v wr rs ∧ fps i = (rs, wr.map (·.1)) ∧ absAny E ops base fps K fuel (listed.setIfInBounds i true) (st.app o.dst v wr)
def Indep (ops : Array Oper) (fps : Nat → FP) (i j : Nat) : Prop := Anc ops i j ∨ Anc ops j i ∨ ((∀ oi oj, ops[i]? = some oi → ops[j]? = some oj → oi.apart ops oj = true) ∧ fpFree (fps i) (fps j) = true)
theorem down_set {ops : Array Oper} {listed : Array Bool} (hd : Down ops listed) {i : Nat} (hi : i ∈ Region.ready .any ops listed) : Down ops (listed.setIfInBounds i true) := by
  intro j oj hj hl e he hb
  by_cases hji : j = i
  · subst hji
    obtain ⟨_, oj', hoj', hall⟩ := mem_ready.1 hi
    rw [hj] at hoj'; cases hoj'
    exact getD_set_true (hall e he hb)
  · rw [getD_set_ne false (Ne.symm hji)] at hl
    exact getD_set_true (hd j oj hj hl e he hb)
theorem unlisted_false {ops : Array Oper} {listed : Array Bool} {i : Nat} (hi : i ∈ Region.ready .any ops listed) : listed.getD i false = false := by
  have := (mem_ready.1 hi).1
  rcases Nat.lt_or_ge i listed.size with h | h
  · simp [h] at this ⊢; exact this
  · simp [Array.getElem?_eq_none h]
theorem absAny_first {ops : Array Oper} {base : Nat} {fps : Nat → FP} {K : St → Prop} {i : Nat} {oi : Oper} (hoi : ops[i]? = some oi) {vi : V} {wi : List (Nat × HB)} {ri : List Nat} (hfp : fps i = (ri, wi.map (·.1))) :
    ∀ (fuel : Nat) (listed : Array Bool) (st : St), Down ops listed → (∀ j, j ≠ i → listed.getD j true = false → Indep ops fps i j) → i ∈ Region.ready .any ops listed → Step E ops (base + room * i) oi st vi wi ri →
      absAny E ops base fps K fuel (listed.setIfInBounds i true) (st.app oi.dst vi wi) → absAny E ops base fps K (fuel + 1) listed st := by
  intro fuel
  induction fuel with
  | zero =>
    intro listed st hd hind hr hst H
    refine ⟨fun h => (by rw [h] at hr; cases hr), fun j hj => ?_⟩
    by_cases hji : j = i
    · subst hji; exact ⟨oi, vi, wi, ri, hoi, hst, hfp, H⟩
    · have := ready_mono hj hji
      rw [H.1] at this; cases this
  | succ fuel ih =>
    intro listed st hd hind hr hst H
    refine ⟨fun h => (by rw [h] at hr; cases hr), fun j hj => ?_⟩
    by_cases hji : j = i
    · subst hji; exact ⟨oi, vi, wi, ri, hoi, hst, hfp, H⟩
    · obtain ⟨oj, vj, wj, rj, hoj, hsj, hfj, H2⟩ := H.2 j (ready_mono hj hji)
      have hun : listed.getD j true = false := (mem_ready.1 hj).1
      have nanc : ∀ {p q : Nat}, p ∈ Region.ready .any ops listed → q ∈ Region.ready .any ops listed → ¬ Anc ops p q := fun {p q} hp hq hA => by
        obtain ⟨_, oq, hoq, hall⟩ := mem_ready.1 hq
        have := anc_listed hd hA (fun o' ho' e he hb => by rw [hoq] at ho'; cases ho'; exact hall e he hb)
        rw [unlisted_false hp] at this; cases this
      have hin : (∀ oi' oj', ops[i]? = some oi' → ops[j]? = some oj' → oi'.apart ops oj' = true) ∧ fpFree (fps i) (fps j) = true := by
        rcases hind j hji hun with h | h | h
        · exact absurd h (nanc hr hj)
        · exact absurd h (nanc hj hr)
        · exact h
      obtain ⟨c1, c2, c3⟩ := step_comm hst hsj (hin.1 oi oj hoi hoj) (by rw [← hfp, ← hfj]; exact hin.2)
      refine ⟨oj, vj, wj, rj, hoj, c1, hfj, ih (listed.setIfInBounds j true) _ (down_set hd hj) (fun k hk hunk => ?_) (ready_mono hr (Ne.symm hji)) c2 ?_⟩
      · refine hind k hk ?_
        by_cases hjk : j = k
        · subst hjk; exact hun
        · rw [getD_set_ne true hjk] at hunk; exact hunk
      · rw [c3, Array.setIfInBounds_comm _ _ hji]
        exact H2
end
end Go.Proofs.Ytpglfnkkmafhbaa
