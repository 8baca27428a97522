/- The abstract machine, part 16b: a region that has an own row of an own block of slices written. -/
import Derived.Test.YtpglfnkkmafhbaaEp
set_option linter.unusedVariables false
set_option linter.unusedSimpArgs false
set_option linter.constructorNameAsVariable false
namespace Go.Proofs.Ytpglfnkkmafhbaa
open Go.RowKit
section
variable {P : Program} {E : Env} {w0 : World} {M S0 : Nat → Prop} {β : Bt} {S : Nat → Prop} {st : St} {a : Act} {w : World} {o : Oper}
/-- A row of an own block of slices may turn. -/
theorem Sim.rowTurn (hs : Sim w0 M S0 β S st a w) {id i b : Nat} {r : List Ck} {xss : List (DR [.osl r])} {x' : List (DR r)} {w' : World} (hh : st.h id = some ⟨.arr [.osl r] xss, false⟩) {σ : Nat → Nat → Option Nat} (q : HidS w0.heap.size M S β σ st.h w) (hb : σ id i = some b) {M' : Nat → Prop} (hM' : ∀ k, M' k → k = b)
    (k : Kept M' w w') (hsub : ∀ cv, (∃ blk n, β id = some (blk, n) ∧ w.cell? ⟨blk, i, none⟩ = some cv) → SubOk w' (some b) cv r x') : Sim w0 M S0 β S (st.setH id ⟨.arr [.osl r] (xss.set i x'), false⟩) a w' := by
  have hol : OL st.h id := ⟨r, xss, hh⟩
  obtain ⟨oS, oM, oL⟩ := q.own id i b hol hb
  have hk : ∀ c, c < w.heap.size → c ≠ b → w'.heap[c]? = w.heap[c]? := fun c hc hne => k.block c hc fun hm => hne (hM' c hm)
  have hc : ∀ c, S c → ∀ oo, w'.cell? ⟨c, oo, none⟩ = w.cell? ⟨c, oo, none⟩ := fun c hc oo => cell_of_heap (hk c (hs.sb c hc).1 fun e => oS (e ▸ hc)) oo
  obtain ⟨zr, hzr, hzl, hzg⟩ := set_facts (α := DR [Ck.osl r]) xss i x'
  rw [← hzr]
  have hlv : ∀ j, Live (st.setH id ⟨.arr [.osl r] zr, false⟩) j → Live st j := fun j hl => by
    by_cases e : j = id
    · subst e; exact ⟨_, hh, by simp, rfl⟩
    · exact (live_other e).1 hl
  have hol' : ∀ j, OL (st.setH id ⟨.arr [.osl r] zr, false⟩).h j → OL st.h j := fun j ⟨row, yss, e⟩ => by
    by_cases ej : j = id
    · subst ej; exact hol
    · rw [setH_other st _ ej] at e; exact ⟨row, yss, e⟩
  have hblkb : ∀ j hb' c n, st.h j = some hb' → hb'.blk ≠ .dead → β j = some (c, n) → c ≠ b := fun j hb' c n hj hd e ec => by
    subst ec
    cases hf : hb'.fz with
    | true => exact oS (hs.fzn j hb' c n hj hd hf e)
    | false => exact q.sep id i c j hb' n hol hj hd hf hb e
  refine ⟨⟨k.os.trans hs.kept.os, k.tape.trans hs.kept.tape, k.output.trans hs.kept.output, Nat.le_trans hs.kept.size k.size, fun c hc' hM => ?_, hs.kept.szs.trans k.szs⟩, fun j => (hs.tm j).mono (fun _ _ e => e) (fun _ e => e) hc k.szs, hs.n, hs.df, fun j hb' hj => ?_,
    fun j c n hl e => hs.own j c n (hlv j hl) e, fun j hb' c n hj hd hf e => ?_, fun j j' c n n' hj hj' e e' => hs.inj j j' c n n' (hlv j hj) (hlv j' hj') e e', fun c hc' => ⟨Nat.lt_of_lt_of_le (hs.sb c hc').1 k.size, (hs.sb c hc').2⟩, fun j hj => ?_, ?_⟩
  · rw [hk c (Nat.lt_of_lt_of_le hc' hs.kept.size) (fun e => by subst e; rcases oM with h | h; omega; exact hM h)]
    exact hs.kept.block c hc' hM
  · by_cases e : j = id
    · subst e; rw [setH_same] at hj; cases hj
      obtain ⟨blk, c, t, b1, b2, b3, b4⟩ := hs.blk j _ hh
      refine ⟨blk, c, t, by rw [hzl]; exact b1, by rw [hk blk (hs.blk_lt hh (by simp) b1) (hblkb j _ blk _ hh (by simp) b1)]; exact b2, by rw [hzl]; exact b3, undefRows (f := fun j => c.getD j undef)⟩
    · rw [setH_other st _ e] at hj
      by_cases hd : hb'.blk = .dead
      · rw [hd]; trivial
      exact (hs.blk j hb' hj).mono (fun _ _ e => e) (fun _ e => e) hc k.szs fun c n e1 => hk c (hs.blk_lt hj hd e1) (hblkb j hb' c n hj hd e1)
  · by_cases e1 : j = id
    · subst e1; rw [setH_same] at hj; cases hj; cases hf
    · rw [setH_other st _ e1] at hj; exact hs.fzn j hb' c n hj hd hf e
  · by_cases e1 : j = id
    · subst e1; rw [setH_same] at hj; cases hj
    · rw [setH_other st _ e1] at hj; exact hs.fresh j hj
  · refine ⟨σ, fun j row yss e blk n e1 i' y hy => ?_, fun j i' c ho e => ?_, fun j j' i' i'' c ho ho' e e' => q.inj j j' i' i'' c (hol' j ho) (hol' j' ho') e e', fun j i' c j' hb' n ho hj hd hf e => ?_⟩
    · have hout : ∀ {yss0 : List (DR [.osl row])}, st.h j = some ⟨.arr [.osl row] yss0, false⟩ → ∀ oo, w'.cell? ⟨blk, oo, none⟩ = w.cell? ⟨blk, oo, none⟩ := fun h0 oo => cell_of_heap (hk blk (hs.blk_lt h0 (by simp) e1) (hblkb j _ blk n h0 (by simp) e1)) oo
      by_cases ej : j = id
      · subst ej
        rw [setH_same] at e
        cases e
        rcases hzg i' y hy with ⟨rfl, rfl⟩ | ⟨hne, hy'⟩
        · have hil : i' < zr.length := (List.getElem?_eq_some_iff.1 hy).1
          obtain ⟨blk', c, t, b1, b2, b3, b4⟩ := hs.blk j _ hh
          rw [e1] at b1; cases b1
          have h1 : [Ck.osl r].length = 1 := rfl
          rw [h1, Nat.mul_one] at b3
          have hcell := cell_row b2 (j := i') (by omega)
          refine ⟨_, by rw [hout hh]; exact hcell, ?_⟩
          rw [hb]
          exact hsub _ ⟨blk, _, e1, hcell⟩
        · obtain ⟨cv, c1, c2⟩ := q.sub j r xss hh blk n e1 i' y hy'
          exact ⟨cv, by rw [hout hh]; exact c1, c2.mono k.szs fun c hc' => hk c (q.own j i' c hol hc').2.2 fun ec => hne (q.inj j j i' i c hol hol hc' (by rw [ec]; exact hb)).2⟩
      · rw [setH_other st _ ej] at e
        obtain ⟨cv, c1, c2⟩ := q.sub j row yss e blk n e1 i' y hy
        exact ⟨cv, by rw [hout e]; exact c1, c2.mono k.szs fun c hc' => hk c (q.own j i' c ⟨row, yss, e⟩ hc').2.2 fun ec => ej (q.inj j id i' i c ⟨row, yss, e⟩ hol hc' (by rw [ec]; exact hb)).1⟩
    · obtain ⟨g1, g2, g3⟩ := q.own j i' c (hol' j ho) e
      exact ⟨g1, g2, Nat.lt_of_lt_of_le g3 k.size⟩
    · by_cases ej : j' = id
      · subst ej; exact q.sep j i' c j' _ n (hol' j ho) hh (by simp) rfl e
      · rw [setH_other st _ ej] at hj; exact q.sep j i' c j' hb' n (hol' j ho) hj hd hf e
theorem wpOps_pre (hE : EnvOk P E) (hM : E.frz = true → ∀ b, ¬ M b) {ops : Array Oper} {base : Nat} {Q : Exit → Act → World → Prop} {rest : List Nat} :
    ∀ (l : List Oper) (k : Nat) (st : St) (acc : List FP) (q : St × List FP) (β : Bt) (S : Nat → Prop) (a : Act) (w : World), (∀ j : Nat, j < l.length → l[j]? = ops[k + j]?) → (evOps E true ops base k l st acc).sem = some q → Sim w0 M S0 β S st a w →
      (∀ i, k ≤ i → ∀ j, j < room → st.h (base + room * i + j) = none) → (∀ β' S' a' w', Ext β β' → Sim w0 M S0 β' S' q.1 a' w' → (∀ i, k + l.length ≤ i → ∀ j, j < room → q.1.h (base + room * i + j) = none) → q.1.nx = st.nx → q.1.n = st.n → wpOps P ops Q rest a' w') →
      wpOps P ops Q (List.range' k l.length ++ rest) a w
  | [], k, st, acc, q, β, S, a, w, hl, h, hs, hf, hQ => by
    simp only [evOps, Tr.sem, Option.some.injEq] at h
    subst h
    exact hQ β S a w (Ext.refl β) hs (fun i hi => hf i (by simpa using hi)) rfl rfl
  | o :: l, k, st, acc, q, β, S, a, w, hl, h, hs, hf, hQ => by
    have h0 : ops[k]? = some o := by have := hl 0 (by simp); simpa using this.symm
    obtain ⟨stk, v, wr, rs, hk0, h1, h2⟩ := evOps_cons h
    obtain ⟨kh, kx, kn'⟩ := know_h hk0
    rw [List.length_cons, List.range'_succ, List.cons_append, wpOps_cons]
    refine step_sim hE hM (hs.knows hk0) h0 (by rw [kh]; exact hf k (Nat.le_refl _)) h1 fun β' S' a' w' hx' hs' => wpOps_pre hE hM l (k + 1) _ _ q β' S' a' w' (fun j hj => ?_) h2 hs' (fun i hi j hj => ?_) (fun β2 S2 a2 w2 hx2 hs2 hf2 e1 e2 => hQ β2 S2 a2 w2 (Ext.trans hx' hx2) hs2 (fun i hi => hf2 i (by simp at hi; omega)) (by rw [e1, app_nx, kx]) (by rw [e2, app_n, kn']))
    · have := hl (j + 1) (by simp; omega); simp only [List.getElem?_cons_succ] at this; rw [this]; congr 1; omega
    · rw [app_h, setHs_h_other, kh]
      · exact hf i (by omega) j hj
      · intro hid
        rcases step_writes h1 _ hid with ⟨g1, g2⟩ | g1
        · have : room * (k + 1) ≤ room * i := Nat.mul_le_mul_left _ hi
          rw [Nat.mul_succ] at this; omega
        · rw [kh] at g1; exact g1 (hf i (by omega) j hj)
theorem wpOp_plain {ops : Array Oper} {Q : Exit → Act → World → Prop} {K : Act → World → Prop} {i : Nat} (hi : ops[i]? = some o) (hg : o.guard = none) (h : o.wp P a w K Q) : wpOp P ops Q i K a w := by
  unfold wpOp
  rw [hi]
  simp only
  have hw : Region.wanted o (yielded ops a.tmps) = true := by unfold Region.wanted; rw [hg]
  rw [hw]
  exact .inl h
theorem eval_put (d t : Nat) (v : Value) : (a.put (some d) v).eval (.tmp t) = if t = d ∧ d < a.tmps.size then v else a.eval (.tmp t) := by
  simp only [Act.put, Act.eval]
  by_cases e : t = d
  · subst e
    by_cases h : t < a.tmps.size
    · simp [h]
    · simp [h]
  · simp [e, Array.getElem?_setIfInBounds_ne (Ne.symm e)]
theorem flat_noO {r : List Ck} (hf : r.all Ck.flat = true) (row : List Ck) : r ≠ [Ck.osl row] := fun e => by
  subst e; simp [Ck.flat] at hf
theorem ent_mono {f : FuncId} {cargs : Array Value} {R R' : Ending → World → Prop} (h : Entered P f cargs w R) (hm : ∀ e w', R e w' → R' e w') : Entered P f cargs w R' := by
  unfold Entered at *
  cases hr : (callFunc f cargs).run P w with
  | halt x w' => rw [hr] at h; exact h.elim
  | ok n w' =>
    rw [hr] at h
    cases n <;> first | exact h.elim | exact hm _ _ h | exact Calls.mono h hm
/-- A row of an own block of slices is handed to a call that writes. -/
theorem call_row (hE : EnvOk P E) (hs : Sim w0 M S0 β S st a w) {σ : Nat → Nat → Option Nat} (q : HidS w0.heap.size M S β σ st.h w) {id i b cap : Nat} {r : List Ck} (hr0 : r ≠ []) (hflat : r.all Ck.flat = true) {xss : List (DR [.osl r])} (hh : st.h id = some ⟨.arr [.osl r] xss, false⟩)
    (hb : σ id i = some b) {x x' : List (DR r)} {cv cx : Value} {c0 : Array Value} {t0 : TypeId} (hcv : cv = .slice (some ⟨b, 0, none⟩) x.length cap) (hl : x.length ≤ cap) (hheap : w.heap[b]? = some (.cells c0 t0 (0, 0))) (hcap : cap * r.length ≤ c0.size)
    (hrows : ∀ i y, x[i]? = some y → ∀ j v, (encR r y)[j]? = some v → Rel N0 (fun _ => False) w (c0.getD (i * r.length + j) undef) v) (hcell : ∀ blk n, β id = some (blk, n) → ∀ cv', w.cell? ⟨blk, i, none⟩ = some cv' → cv' = cv)
    {v5 : V} (hv5 : Rel β S w cx v5) (hno : v5.noRef = true) {f : FuncId} {k : IntKind} {n : Int} (hm : (E.callM f [.slw 0 r.length, v5] [.arr r x]).sem = some (.i k n, [.arr r x'])) :
    Entered P f #[cv, cx] w fun e w' => e = .returned (.int k n) ∧ x'.length = x.length ∧ Sim w0 M S0 β S (st.setH id ⟨.arr [.osl r] (xss.set i x'), false⟩) a w' := by
  have hol : OL st.h id := ⟨r, xss, hh⟩
  obtain ⟨oS, oM, oL⟩ := q.own id i b hol hb
  have hxle : x.length * r.length ≤ c0.size := Nat.le_trans (Nat.mul_le_mul_right _ hl) hcap
  let βc : Bt := fun k => if k = 0 then some (b, x.length * r.length) else none
  have bc0 : βc 0 = some (b, x.length * r.length) := rfl
  have only : ∀ {j : Nat} {y : HB}, ([(⟨.arr r x, false⟩ : HB)])[j]? = some y → j = 0 ∧ y = ⟨.arr r x, false⟩ := fun {j y} h => by
    cases j with
    | zero => simp at h; exact ⟨rfl, h.symm⟩
    | succ j => simp at h
  have hstart : Sim w (fun c => c = b) S βc S (mkSt (#[cv, cx] : Array Value).size (List.range (#[cv, cx] : Array Value).size) [.slw 0 r.length, v5] ([Blk.arr r x].map fun b => (⟨b, false⟩ : HB))) ⟨#[cv, cx], []⟩ w := by
    refine sim_mk (Kept.refl _ w) ⟨fun j y hj => ?_, fun j y c m hj hd hf e => ?_, fun j y c m hj hd hf e => ?_, fun j j' y y' c m m' hj hj' _ _ _ _ _ _ => ?_, fun j hj => ?_, ⟨fun _ _ => none, ⟨fun j row yss e => ?_, fun _ _ _ _ e => (by cases e), fun _ _ _ _ _ _ _ e => (by cases e), fun _ _ _ _ _ _ _ _ _ _ e => (by cases e)⟩⟩⟩ (fun c hc => ⟨(hs.sb c hc).1, .inl hc⟩) rfl rfl fun j => ?_
    · obtain ⟨rfl, rfl⟩ := only hj
      exact ⟨b, c0, t0, bc0, hheap, hxle, rowsFlat hflat hrows⟩
    · obtain ⟨rfl, rfl⟩ := only hj
      rw [bc0] at e; cases e
      exact ⟨oS, .inr rfl⟩
    · obtain ⟨rfl, rfl⟩ := only hj
      cases hf
    · exact (only hj).1.trans (only hj').1.symm
    · show (if j = 0 then _ else none) = none
      cases j with
      | zero => simp at hj
      | succ j => rw [if_neg (by omega)]
    · obtain ⟨rfl, e2⟩ := only e
      cases e2
      exact absurd rfl (flat_noO hflat row)
    · refine assoc_rel (R := fun i v => Rel βc S w ((#[cv, cx] : Array Value).getD i undef) v) (fun i => .undef _) _ _ (fun k t u e1 e2 => ?_) j
      match k with
      | 0 =>
        have ht : t = 0 := by simpa using e1.symm
        subst ht
        simp at e2; subst e2
        show Rel βc S w cv (.slw 0 r.length)
        rw [hcv]
        exact .slw bc0 ⟨c0, t0, _, hheap, hcap⟩ hl
      | 1 =>
        have ht : t = 1 := by simpa using e1.symm
        subst ht
        simp at e2; subst e2
        exact hv5.noref hno
      | k + 2 => simp at e2
  have hmok := hE.callM f _ _ _ hm w S βc (fun c => c = b) #[cv, cx] hstart rfl (fun c hc => by rw [List.mem_singleton.1 hc]; simp)
  refine ent_mono hmok fun e w' ⟨cvr, S1, β1, hβ1, he, hsim⟩ => ?_
  have hr : Rel β1 S1 w' cvr (.i k n) := by simpa [mkSt, assocV] using hsim.tm 0
  rw [rel_i hr] at he
  have hbr := hsim.blk 0 ⟨.arr r x', false⟩ rfl
  obtain ⟨b', c', t', g1, g2, g3, g4⟩ := hbr
  rw [hβ1 0 (by simp), bc0] at g1
  simp only [Option.some.injEq, Prod.mk.injEq] at g1
  obtain ⟨rfl, g1⟩ := g1
  have hrp : 0 < r.length := List.length_pos_iff.2 hr0
  have hll : x'.length = x.length := (Nat.eq_of_mul_eq_mul_right hrp g1).symm
  obtain ⟨c2, fr2, z1, z2⟩ := hsim.kept.szs _ _ _ _ hheap
  rw [g2] at z1
  simp only [Option.some.injEq, Obj.cells.injEq] at z1
  obtain ⟨rfl, _, _⟩ := z1
  refine ⟨he, hll, hs.rowTurn hh q hb (fun _ h => h) hsim.kept fun cv' ⟨blk, m, e1, e2⟩ => ?_⟩
  rw [hcell blk m e1 cv' e2, hcv]
  exact .inr ⟨b, cap, c', t', rfl, by rw [hll], by rw [hll]; exact hl, g2, by rw [z2]; exact hcap, rowsFlat hflat g4⟩
/-- .. and the nil slice. -/
theorem call_nil (hE : EnvOk P E) (hs : Sim w0 M S0 β S st a w) {cx : Value} {v5 : V} (hv5 : Rel β S w cx v5) (hno : v5.noRef = true) {f : FuncId} {k : IntKind} {n : Int} (hm : (E.callM f [.nils, v5] []).sem = some (.i k n, [])) :
    Entered P f #[.slice none 0 0, cx] w fun e w' => e = .returned (.int k n) ∧ Sim w0 M S0 β S st a w' := by
  have hstart : Sim w (fun _ => False) S B0 S (mkSt (#[.slice none 0 0, cx] : Array Value).size (List.range (#[.slice none 0 0, cx] : Array Value).size) [.nils, v5] (([] : List Blk).map fun b => (⟨b, false⟩ : HB))) ⟨#[.slice none 0 0, cx], []⟩ w := by
    refine sim_mk (Kept.refl _ w) ⟨fun id hb h => by simp at h, fun id hb blk n h => by simp at h, fun id hb blk n h => by simp at h, fun id id' hb hb' blk n n' h => by simp at h, fun _ _ => rfl, ⟨fun _ _ => none, ⟨fun _ _ _ e => (by simp at e), fun _ _ _ _ e => (by cases e), fun _ _ _ _ _ _ _ e => (by cases e), fun _ _ _ _ _ _ _ _ _ _ e => (by cases e)⟩⟩⟩ (fun c hc => ⟨(hs.sb c hc).1, .inl hc⟩) rfl rfl fun j => ?_
    refine assoc_rel (R := fun i v => Rel B0 S w ((#[.slice none 0 0, cx] : Array Value).getD i undef) v) (fun i => .undef _) _ _ (fun k t u e1 e2 => ?_) j
    match k with
    | 0 =>
      have ht : t = 0 := by simpa using e1.symm
      subst ht
      simp at e2; subst e2
      exact .nils
    | 1 =>
      have ht : t = 1 := by simpa using e1.symm
      subst ht
      simp at e2; subst e2
      exact hv5.noref hno
    | k + 2 => simp at e2
  have hmok := hE.callM f _ _ _ hm w S B0 (fun _ => False) #[.slice none 0 0, cx] hstart rfl (fun c hc => by cases hc)
  refine ent_mono hmok fun e w' ⟨cvr, S1, β1, hβ1, he, hsim⟩ => ?_
  have hr : Rel β1 S1 w' cvr (.i k n) := by simpa [mkSt, assocV] using hsim.tm 0
  rw [rel_i hr] at he
  exact ⟨he, hs.below (below_of_kept hsim.kept)⟩
theorem set_same {α : Type} {l : List α} {i : Nat} {x : α} (h : l[i]? = some x) : l.set i x = l := by
  apply List.ext_getElem?
  intro j
  rw [List.getElem?_set]
  by_cases e : i = j
  · subst e
    have := (List.getElem?_eq_some_iff.1 h).1
    have h2 := (List.getElem?_eq_some_iff.1 h).2
    simp [this, h2]
  · rw [if_neg e]
theorem getD_in {α : Type} {l : List α} {i : Nat} (h : i < l.length) (d : α) : l[i]? = some (l.getD i d) := by simp [h]
theorem Sim.same {st' : St} (hs : Sim w0 M S0 β S st a w) (ht : st'.t = st.t) (hh : st'.h = st.h) (hn : st'.n = st.n) : Sim w0 M S0 β S st' a w := by
  obtain ⟨t, h, nx, n⟩ := st
  obtain ⟨t', h', nx', n'⟩ := st'
  simp only at ht hh hn
  subst ht; subst hh; subst hn
  exact ⟨hs.kept, hs.tm, hs.n, hs.df, hs.blk, hs.own, hs.fzn, hs.inj, hs.sb, hs.fresh, hs.hid⟩
set_option maxHeartbeats 1000000 in
/-- **A REGION** that has a row written. -/
theorem mark_sound (hE : EnvOk P E) (hM : E.frz = true → ∀ b, ¬ M b) {rid : Nat} {ops : Array Oper} {st' : St} (hg : Good st) (h : (evMark E ops st).sem = some st') (hs : Sim w0 M S0 β S st a w)
    {Q : Exit → Act → World → Prop} (hQ : ∀ β' S' a' w', Ext β β' → Sim w0 M S0 β' S' st' a' w' → Q .normal a' w') : (Code.region rid ops false).wp P Q a w := by
  unfold evMark at h
  split at h
  case h_2 => simp [Tr.sem] at h
  rename_i o0 o1 o2 o3 o4 o5 o6 hops
  rw [Tr.sem_bind] at h
  obtain ⟨⟨st1, fp1⟩, h1, h2⟩ := bind_some h
  clear h
  have hget : ∀ j : Nat, ops[j]? = ([o0, o1, o2, o3, o4, o5, o6] : List Oper)[j]? := fun j => by rw [← hops]; simp
  have hsize : ops.size = 7 := by rw [← Array.length_toList, hops]; rfl
  have hs0 : Sim w0 M S0 β S { st with nx := st.nx + room * ops.size } a w := hs.same rfl rfl rfl
  refine wp_region ?_
  rw [hsize, show List.range 7 = List.range' 0 ([o0, o1, o2] : List Oper).length ++ [3, 4, 5, 6] from rfl]
  refine wpOps_pre hE hM [o0, o1, o2] 0 _ [] _ β S a w (fun j hj => by
    rw [Nat.zero_add, hget]
    match j, hj with
    | 0, _ => rfl
    | 1, _ => rfl
    | 2, _ => rfl) h1 hs0 (fun i _ j _ => hg _ (by omega)) fun β1 S1 a1 w1 hx1 hs1 hf1 e1nx e1n => ?_
  simp only at h2 hs1 hf1 e1n
  unfold markMid at h2
  split at h2
  case h_2 => simp [Tr.sem] at h2
  rename_i d3 t ad d4 x4 d5 c q3g q3d q3o q4g q4d q4o q5g q5d q5o
  split at h2
  case h_2 => simp [Tr.sem] at h2
  rename_i f d3' x5 hcc hca
  cases hck : (Nat.beq d3' d3 && !Nat.beq d4 d3 && Nat.blt d3 st1.n && Nat.blt d4 st1.n && Nat.blt d5 st1.n && E.mutF f) with
  | false => rw [hck] at h2; simp [Tr.sem] at h2
  | true =>
  rw [hck] at h2
  simp only [cond_true] at h2
  simp only [Bool.and_eq_true, Bool.not_eq_true', Nat.blt_eq] at hck
  obtain ⟨⟨⟨⟨⟨k1, k2⟩, k3⟩, k4⟩, k5⟩, k6⟩ := hck
  obtain rfl := Nat.eq_of_beq_eq_true k1
  have hd43 : d4 ≠ d3' := fun e => by rw [e, Nat.beq_refl] at k2; cases k2
  split at h2
  case h_2 => simp [Tr.sem] at h2
  rename_i id s i j ty had het
  split at h2
  case h_2 => simp [Tr.sem] at h2
  rename_i te r xss hk hh
  cases hck2 : (Nat.beq s 1 && Nat.beq j 0 && !r.isEmpty && r.all Ck.flat && (((st1.setT (some d3') .undef).setT (some d4) ((st1.setT (some d3') .undef).op x4)).op x5).noRef && !(((st1.setT (some d3') .undef).setT (some d4) ((st1.setT (some d3') .undef).op x4)).op x5).deep) with
  | false => simp only [hck2, cond_false, Tr.sem] at h2; cases h2
  | true =>
  simp only [hck2, cond_true] at h2
  simp only [Bool.and_eq_true, Bool.not_eq_true', List.isEmpty_eq_false_iff] at hck2
  obtain ⟨⟨⟨⟨⟨m1, m2⟩, m3⟩, m4⟩, m5⟩, m6⟩ := hck2
  obtain rfl := Nat.eq_of_beq_eq_true m1
  obtain rfl := Nat.eq_of_beq_eq_true m2
  -- the fourth operation
  have hadr := hs1.op ad
  rw [had] at hadr
  obtain ⟨blk, nn, c1, hbt, hi⟩ := rel_rel hadr
  obtain ⟨blk', cc, tt, b1, b2, b3, b4⟩ := hs1.blk id _ hh
  rw [hbt] at b1
  simp only [Option.some.injEq, Prod.mk.injEq] at b1
  obtain ⟨rfl, b1⟩ := b1
  have hl1 : [Ck.osl r].length = 1 := rfl
  rw [hl1, Nat.mul_one] at b1 b3
  have hi' : i < List.length (α := DR [Ck.osl r]) xss := by omega
  have hcell := cell_row b2 (j := i) (by omega)
  obtain ⟨i3, z3, hi3, hz3, hk3, _, _, _⟩ := ty_inv (hE.ty _ _ het)
  have hagg := run_isAgg_no (P := P) (t := t) (fun fs e => by rw [← hk3, hk] at e; cases e) (fun e => by rw [← hk3, hk] at e; cases e) w1
  have hg3 : ops[3]? = some o3 := hget 3
  have hg4 : ops[4]? = some o4 := hget 4
  have hg5 : ops[5]? = some o5 := hget 5
  generalize hcv : cc.getD i undef = cv at hcell
  rw [wpOps_cons]
  refine wpOp_plain hg3 q3g ?_
  unfold Oper.wp
  rw [show (execOp a1.eval o3).run P w1 = .ok (.value cv) w1 from by
    unfold execOp
    rw [Nat.mul_one, Nat.add_zero] at c1
    simp [q3o, Instr.loadAt, Instr.sureAddr, c1, loadVar, hagg, hcell]]
  rw [Oper.upon_value, q3d, wpOps_cons]
  have n1 : a1.tmps.size = st1.n := hs1.n
  have hs2 : Sim w0 M S0 β1 S1 (st1.setT (some d3') .undef) (a1.put (some d3') cv) w1 := hs1.setT (by rw [dstOk, Nat.blt_eq]; exact k3) (.undef cv)
  refine wpOp_plain hg4 q4g ?_
  unfold Oper.wp
  rw [show (execOp (a1.put (some d3') cv).eval o4).run P w1 = .ok (.value ((a1.put (some d3') cv).eval x4)) w1 from by unfold execOp; simp [q4o]]
  rw [Oper.upon_value, q4d, wpOps_cons]
  have hs3 : Sim w0 M S0 β1 S1 ((st1.setT (some d3') .undef).setT (some d4) ((st1.setT (some d3') .undef).op x4)) ((a1.put (some d3') cv).put (some d4) ((a1.put (some d3') cv).eval x4)) w1 := hs2.setT (by rw [dstOk, Nat.blt_eq]; exact k4) (hs2.op x4)
  have hh3 : ((st1.setT (some d3') .undef).setT (some d4) ((st1.setT (some d3') .undef).op x4)).h id = some ⟨.arr [.osl r] xss, false⟩ := hh
  generalize hst3 : (st1.setT (some d3') V.undef).setT (some d4) ((st1.setT (some d3') .undef).op x4) = st3 at *
  have hn3 : st3.n = st1.n := by rw [← hst3]; rfl
  have hx3 : st3.nx = st1.nx := by rw [← hst3]; rfl
  have hhh3 : st3.h = st1.h := by rw [← hst3]; rfl
  have hv3 : ((a1.put (some d3') cv).put (some d4) ((a1.put (some d3') cv).eval x4)).eval (.tmp d3') = cv := by
    rw [eval_put, if_neg (fun e => hd43 e.1.symm), eval_put, if_pos ⟨rfl, by rw [n1]; exact k3⟩]
  generalize ha3 : (a1.put (some d3') cv).put (some d4) ((a1.put (some d3') cv).eval x4) = a3 at *
  refine wpOp_plain hg5 q5g ?_
  have hargs : c.args.map a3.eval ++ #[] = #[cv, a3.eval x5] := by
    apply Array.ext'
    simp [hca, hv3]
  have hexec : execOp a3.eval o5 = callFunc f #[cv, a3.eval x5] := by
    rw [← hargs]
    exact exec_call q5o hcc rfl
  have hx5 := hs3.op x5
  obtain ⟨σ, q⟩ := hs3.hid
  have hxi := getD_in hi' ([] : List (DR r))
  obtain ⟨x, hxx⟩ : ∃ x : List (DR r), x = xss.getD i ([] : List (DR r)) := ⟨_, rfl⟩
  rw [← hxx] at h2 hxi
  obtain ⟨cv', z1, hsub⟩ := q.sub id r xss hh3 blk _ hbt i x hxi
  rw [hcell] at z1
  cases z1
  have hcellu : ∀ b n, β1 id = some (b, n) → ∀ cv', w1.cell? ⟨b, i, none⟩ = some cv' → cv' = cv := fun b n e cv' e2 => by
    rw [hbt] at e; cases e; rw [hcell] at e2; cases e2; rfl
  -- what comes behind the call
  have tail : ∀ {k : IntKind} {n : Int} {y : List (DR r)} {w2 : World}, (markFin E ops o6 st.nx id d5 st3 r xss i (.i k n) y).sem = some st' → Sim w0 M S0 β1 S1 (st3.setH id ⟨.arr [.osl r] (xss.set i y), false⟩) a3 w2 → wpOps P ops Q [6] (a3.put o5.dst (.int k n)) w2 := by
    intro k n y w2 hfin hsim
    unfold markFin at hfin
    rw [Tr.sem_bind] at hfin
    obtain ⟨⟨st6, fp6⟩, f1, f2⟩ := bind_some hfin
    simp only [Tr.sem, Option.some.injEq] at f2
    subst f2
    rw [q5d]
    have hsim2 := hsim.setT (d := some d5) (by rw [dstOk, Nat.blt_eq]; show d5 < st3.n; rw [hn3]; exact k5) (Rel.i k n)
    have := wpOps_pre (rest := []) hE hM [o6] 6 _ [] _ β1 S1 _ w2 (fun j hj => by
      rw [hget]
      match j, hj with
      | 0, _ => rfl) f1 hsim2 (fun i' hi2 j hj => by
        show ((st3.setH id _).h _) = none
        have h0 := hf1 i' (by simp; omega) j hj
        rw [setH_other _ _ (fun e => by
          rw [e, hh] at h0; cases h0), hhh3]
        exact h0) (Q := Q) (fun β2 S2 a2 w3 hx2 hs4 _ _ _ => hQ β2 S2 a2 w3 (Ext.trans hx1 hx2) hs4)
    simpa using this
  unfold markRow at h2
  rw [Tr.sem_bind] at h2
  obtain ⟨⟨v1, bs1⟩, hm1, h3⟩ := bind_some h2
  clear h2
  split at h3
  case h_2 => simp [Tr.sem] at h3
  rename_i k n r' x' hv1 hbs1
  split at h3
  case isFalse => simp [Tr.sem] at h3
  rename_i hbe
  obtain rfl := beqR_eq hbe
  simp only at hv1 hbs1
  subst hv1
  subst hbs1
  simp only [Tr.sem] at h3
  have right : ∀ {b cap : Nat} {c0 : Array Value} {t0 : TypeId}, σ id i = some b → cv = .slice (some ⟨b, 0, none⟩) x.length cap → x.length ≤ cap → w1.heap[b]? = some (.cells c0 t0 (0, 0)) → cap * r'.length ≤ c0.size →
      (∀ i y, x[i]? = some y → ∀ j v, (encR r' y)[j]? = some v → Rel N0 (fun _ => False) w1 (c0.getD (i * r'.length + j) undef) v) →
      Entered P f #[cv, a3.eval x5] w1 fun e w' => e = .returned (.int k n) ∧ x'.length = x.length ∧ Sim w0 M S0 β1 S1 (st3.setH id ⟨.arr [.osl r'] (xss.set i x'), false⟩) a3 w' := fun e1 e2 e3 e4 e5 e6 =>
    call_row hE hs3 q m3 m4 hh3 e1 e2 e3 e4 e5 e6 hcellu hx5 m5 hm1
  cases hxe : x.isEmpty with
  | true =>
    rw [hxe] at h3
    simp only [cond_true] at h3
    rw [Tr.sem_bind] at h3
    obtain ⟨⟨v2, bs2⟩, hm2, h4⟩ := bind_some h3
    clear h3
    split at h4
    case h_2 => simp [Tr.sem] at h4
    rename_i k' n' hv2 hbs2
    simp only at hv2 hbs2
    subst hv2; subst hbs2
    cases hkk : decide (k = k') with
    | false => rw [hkk] at h4; simp [Tr.sem] at h4
    | true =>
    rw [hkk] at h4
    obtain rfl := of_decide_eq_true hkk
    simp only [cond_true, Tr.sem] at h4
    cases hnn : (n == n') with
    | false => rw [hnn] at h4; simp at h4
    | true =>
    rw [hnn] at h4
    obtain rfl : n = n' := by simpa using hnn
    simp only [cond_true] at h4
    have hx0 : x = [] := by simpa using hxe
    rcases hsub with ⟨_, _, e⟩ | ⟨b, cap, c0, t0, e1, e2, e3, e4, e5, e6⟩
    · subst e
      refine wp_of_entered hexec (call_nil hE hs3 hx5 m5 hm2) fun e w2 ⟨he, hsim⟩ => ⟨_, he, tail h4 ?_⟩
      have hset : xss.set i x = xss := set_same hxi
      rw [hset]
      refine hsim.same rfl ?_ rfl
      funext k
      by_cases ek : k = id
      · subst ek; rw [setH_same]; exact hh3.symm
      · rw [setH_other _ _ ek]
    · refine wp_of_entered hexec (right e1 e2 e3 e4 e5 e6) fun e w2 ⟨he, hlen, hsim⟩ => ⟨_, he, tail h4 ?_⟩
      have : x' = x := by rw [hx0] at hlen ⊢; exact List.eq_nil_of_length_eq_zero hlen
      rw [← this]; exact hsim
  | false =>
    rw [hxe] at h3
    simp only [cond_false] at h3
    rcases hsub with ⟨e0, _, _⟩ | ⟨b, cap, c0, t0, e1, e2, e3, e4, e5, e6⟩
    · rw [e0] at hxe; cases hxe
    · exact wp_of_entered hexec (right e1 e2 e3 e4 e5 e6) fun e w2 ⟨he, hlen, hsim⟩ => ⟨_, he, tail h3 hsim⟩
theorem evOps_good' {ops : Array Oper} {base N : Nat} : ∀ (l : List Oper) (k : Nat) (st : St) (acc : List FP) (q : St × List FP), k + l.length ≤ N → st.nx = base + room * N → Good st → (evOps E true ops base k l st acc).sem = some q → Good q.1 ∧ q.1.nx = st.nx
  | [], k, st, acc, q, hk, hnx, hg, h => by simp only [evOps, Tr.sem, Option.some.injEq] at h; subst h; exact ⟨hg, rfl⟩
  | o :: l, k, st, acc, q, hk, hnx, hg, h => by
    obtain ⟨stk, v, wr, rs, hk0, h1, h2⟩ := evOps_cons h
    obtain ⟨kh, kx, kn'⟩ := know_h hk0
    have := evOps_good' (N := N) l (k + 1) _ _ q (by simp at hk; omega) (by rw [app_nx, kx]; exact hnx) (fun id hid => by
      rw [app_nx, kx] at hid
      rw [app_h, setHs_h_other, kh]
      · exact hg id hid
      · intro hm
        rcases step_writes h1 _ hm with ⟨g1, g2⟩ | g1
        · have : room * (k + 1) ≤ room * N := Nat.mul_le_mul_left _ (by simp at hk; omega)
          rw [Nat.mul_succ] at this; omega
        · rw [kh] at g1; exact g1 (hg id hid)) h2
    exact ⟨this.1, by rw [this.2, app_nx, kx]⟩
theorem mark_good {ops : Array Oper} {st' : St} (hg : Good st) (h : (evMark E ops st).sem = some st') : Good st' := by
  unfold evMark at h
  split at h
  case h_2 => simp [Tr.sem] at h
  rename_i o0 o1 o2 o3 o4 o5 o6 hops
  rw [Tr.sem_bind] at h
  obtain ⟨⟨st1, fp1⟩, h1, h2⟩ := bind_some h
  clear h
  have hsize : ops.size = 7 := by rw [← Array.length_toList, hops]; rfl
  obtain ⟨g1, x1⟩ := evOps_good' (N := ops.size) (base := st.nx) [o0, o1, o2] 0 { st with nx := st.nx + room * ops.size } [] _ (by rw [hsize]; simp) rfl (fun id hid => hg id (Nat.le_trans (Nat.le_add_right _ _) hid)) h1
  simp only at h2 g1 x1
  unfold markMid at h2
  split at h2
  case h_2 => simp [Tr.sem] at h2
  rename_i d3 t ad d4 x4 d5 c q3g q3d q3o q4g q4d q4o q5g q5d q5o
  split at h2
  case h_2 => simp [Tr.sem] at h2
  rename_i f d3' x5 hcc hca
  cases hck : (Nat.beq d3' d3 && !Nat.beq d4 d3 && Nat.blt d3 st1.n && Nat.blt d4 st1.n && Nat.blt d5 st1.n && E.mutF f) with
  | false => rw [hck] at h2; simp [Tr.sem] at h2
  | true =>
  rw [hck] at h2
  simp only [cond_true] at h2
  split at h2
  case h_2 => simp [Tr.sem] at h2
  rename_i id s i j ty had het
  split at h2
  case h_2 => simp [Tr.sem] at h2
  rename_i te r xss hk hh
  cases hck2 : (Nat.beq s 1 && Nat.beq j 0 && !r.isEmpty && r.all Ck.flat && (((st1.setT (some d3) .undef).setT (some d4) ((st1.setT (some d3) .undef).op x4)).op x5).noRef && !(((st1.setT (some d3) .undef).setT (some d4) ((st1.setT (some d3) .undef).op x4)).op x5).deep) with
  | false => simp only [hck2, cond_false, Tr.sem] at h2; cases h2
  | true =>
  simp only [hck2, cond_true] at h2
  have hlt : id < st1.nx := by
    rcases Nat.lt_or_ge id st1.nx with h | h
    · exact h
    · rw [g1 id h] at hh; cases hh
  have tail : ∀ {v : V} {y : List (DR r)}, (markFin E ops o6 st.nx id d5 ((st1.setT (some d3) .undef).setT (some d4) ((st1.setT (some d3) .undef).op x4)) r xss i v y).sem = some st' → Good st' := by
    intro v y hfin
    unfold markFin at hfin
    rw [Tr.sem_bind] at hfin
    obtain ⟨⟨st6, fp6⟩, f1, f2⟩ := bind_some hfin
    simp only [Tr.sem, Option.some.injEq] at f2
    subst f2
    refine (evOps_good' (N := ops.size) (base := st.nx) [o6] 6 _ [] _ (by rw [hsize]; simp) ?_ (fun k hk => ?_) f1).1
    · exact x1
    have hk' : st1.nx ≤ k := hk
    show ((St.setH _ id _).h k) = none
    rw [setH_other _ _ (show k ≠ id by omega)]
    exact g1 k hk'
  unfold markRow at h2
  rw [Tr.sem_bind] at h2
  obtain ⟨⟨v1, bs1⟩, hm1, h3⟩ := bind_some h2
  clear h2
  split at h3
  case h_2 => simp [Tr.sem] at h3
  rename_i k n r' x' hv1 hbs1
  split at h3
  case isFalse => simp [Tr.sem] at h3
  simp only [Tr.sem] at h3
  cases hxe : (xss.getD i ([] : List (DR r))).isEmpty with
  | true =>
    rw [hxe] at h3
    simp only [cond_true] at h3
    rw [Tr.sem_bind] at h3
    obtain ⟨⟨v2, bs2⟩, hm2, h4⟩ := bind_some h3
    split at h4
    case h_2 => simp [Tr.sem] at h4
    rename_i k' n' hv2 hbs2
    cases hkk : decide (k = k') with
    | false => rw [hkk] at h4; simp [Tr.sem] at h4
    | true =>
    rw [hkk] at h4
    simp only [cond_true, Tr.sem] at h4
    cases hnn : (n == n') with
    | false => rw [hnn] at h4; simp at h4
    | true =>
    rw [hnn] at h4
    exact tail h4
  | false =>
    rw [hxe] at h3
    exact tail h3
end
end Go.Proofs.Ytpglfnkkmafhbaa
