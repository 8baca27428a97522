/- The abstract machine, part 11b: own rows that are put into rows of slices are only read from now on; slices built; writing. -/
import Derived.Test.YtpglfnkkmafhbaaEk
set_option linter.unusedVariables false
set_option linter.unusedSimpArgs false
set_option linter.constructorNameAsVariable false
namespace Go.Proofs.Ytpglfnkkmafhbaa
open Go.RowKit
section
variable {P : Program} {E : Env} {w0 : World} {M S0 : Nat → Prop} {β : Bt} {S : Nat → Prop} {st : St} {a : Act} {w : World} {o : Oper}
theorem map_some' {α β : Type} {o : Option α} {f : α → β} {b : β} (h : o.map f = some b) : ∃ a, o = some a ∧ f a = b := by cases o <;> simp at h ⊢; exact h
theorem freezeAll_other : ∀ (ids : List Nat) (fz : List (Nat × HB)) (st1 : St), (freezeAll ids).ev st.h = some fz → ∀ i, i ∉ ids → (st1.setHs fz).h i = st1.h i
  | [], fz, st1, h, i, hi => by
    simp only [freezeAll, RM.ev, Option.some.injEq] at h
    subst h; rfl
  | id :: ids, fz, st1, h, i, hi => by
    simp only [freezeAll, RM.ev] at h
    split at h
    case h_2 => cases h
    rename_i hb hh
    rw [RM.ev_bind] at h
    obtain ⟨fz', h1, h2⟩ := bind_some h
    simp only [RM.ev, Option.some.injEq] at h2
    subst h2
    simp only [List.mem_cons, not_or] at hi
    simp only [St.setHs]
    rw [freezeAll_other ids fz' _ h1 i hi.2, setH_other _ _ hi.1]
theorem snapF_sim (hM : E.frz = true → ∀ b, ¬ M b) (hs : Sim w0 M S0 β S st a w) {l l' : List V} {ids : List Nat} {fz : List (Nat × HB)} {f : Nat → Value} (h : (snapF E.frz l).ev st.h = some (l', ids, fz)) (hl : ∀ j v, l[j]? = some v → Rel β S w (f j) v) :
    ∃ S', Sim w0 M S0 β S' (st.setHs fz) a w ∧ (∀ b, S b → S' b) ∧ l'.length = l.length ∧ (∀ j v, l'[j]? = some v → Rel β S' w (f j) v) ∧ (∀ i, (st.setHs fz).h i = none ↔ st.h i = none) ∧ (∀ i, i ∉ ids → (st.setHs fz).h i = st.h i) := by
  unfold snapF at h
  rw [RM.ev_bind] at h
  obtain ⟨⟨us, is⟩, h1, h2⟩ := bind_some h
  rw [RM.ev_bind] at h2
  obtain ⟨fz', h3, h4⟩ := bind_some h2
  simp only [RM.ev, Option.some.injEq, Prod.mk.injEq] at h4
  obtain ⟨rfl, rfl, rfl⟩ := h4
  obtain ⟨sl, sr, sd⟩ := snapL_rel (snap_rel hs 4) _ _ _ f h1 hl
  simp only at h3
  cases is with
  | nil =>
    simp only [List.isEmpty_nil, cond_true, RM.ev, Option.some.injEq] at h3
    subst h3
    refine ⟨S, hs, fun _ e => e, sl, fun j v hv => (sr j v hv).mono (fun _ _ e => by cases e) (fun b hb => ?_) (fun _ _ _ => rfl) (Szs.refl _), fun i => Iff.rfl, fun i _ => rfl⟩
    rcases hb with hb | ⟨id, hid, _⟩
    · exact hb
    · cases hid
  | cons id is =>
    simp only [List.isEmpty_cons, cond_false] at h3
    cases hf : E.frz with
    | false => rw [hf] at h3; simp [RM.ev] at h3
    | true =>
      rw [hf] at h3
      simp only [cond_true] at h3
      obtain ⟨S', g1, g2, g3, g4⟩ := freezeAll_sim (hM hf) (id :: is) fz' S st h3 sd (fun i hb e => ⟨hb, e, rfl⟩) hs
      refine ⟨S', g1, g2, sl, fun j v hv => (sr j v hv).mono (fun _ _ e => by cases e) (fun b hb => ?_) (fun _ _ _ => rfl) (Szs.refl _), g4, fun i hi => freezeAll_other _ _ st h3 i hi⟩
      rcases hb with hb | ⟨i, hid, n, e⟩
      · exact g2 b hb
      · exact g3 i hid b n e
theorem done_buildSlice (hE : ∀ t x, E.ty t = some x → tyOf P t = some x) (hM : E.frz = true → ∀ b, ¬ M b) (hs : Sim w0 M S0 β S st a w) {nb : Nat} (hn : st.h nb = none) {t : TypeId} {len : Nat} {parts : Array (Nat × Operand)} (ho : o.op = .buildSlice t len parts) {e : Eff}
    (h : (opA E nb st.op (.buildSlice t len parts)).ev st.h = some e) : Done P w0 M S0 β st o a w e := by
  simp only [opA] at h
  split at h
  case h_2 => simp [RM.ev] at h
  rename_i el _ _ _ _ et
  split at h
  case h_2 => simp [RM.ev] at h
  rename_i ty eel
  rw [RM.ev_bind] at h
  obtain ⟨⟨vs, ids, fz⟩, h0, h⟩ := bind_some h
  rw [RM.ev_bind, RM.ev_ofOpt] at h
  obtain ⟨l, hl, h⟩ := bind_some h
  obtain ⟨S', hs', hS, hvl, hvr, hnone, _⟩ := snapF_sim (f := fun j => a.eval ((parts.toList.map (·.2)).getD j (.func 0))) hM hs h0 (fun j v hv => by
    rw [List.getElem?_map] at hv
    obtain ⟨p, hp, rfl⟩ := map_some' hv
    simp only [List.getD, List.getElem?_map, hp, Option.map_some, Option.getD_some]
    exact hs.op p.2)
  have hn' : (st.setHs fz).h nb = none := (hnone nb).2 hn
  obtain ⟨hc, h⟩ := ev_cond h
  simp only [Bool.and_eq_true] at hc
  have hrow := Nat.eq_of_beq_eq_true hc.1.1
  have hzl := Nat.eq_of_beq_eq_true hc.1.2
  have hle := Nat.le_of_ble_eq_true hc.2
  rw [RM.ev_bind, RM.ev_ofOpt] at h
  obtain ⟨xs, hxs, h⟩ := bind_some h
  simp only [RM.ev, Option.some.injEq] at h
  subst h
  obtain ⟨_, _, _, _, hk, _⟩ := ty_inv (hE _ _ et)
  have hu := tk_sl hk.symm
  obtain ⟨i, z, hi, hz, hkk, hsz, hby, hzz⟩ := ty_inv (hE _ _ eel)
  have hz0 : CellsRel β S' w z.cells ty.zero := zero_rel (z := z) ty.zero hzz
  have hz1 := zeros_rel hz0 len
  rw [hzl] at hz1
  have hpl : ((parts.map fun p => (p.1, a.eval p.2)).toList).length = ((parts.toList.map (·.1)).zip vs).length := by
    rw [List.length_zip, hvl]; simp
  have hpr : ∀ (k : Nat) (p : Nat × Value) (q : Nat × V), (parts.map fun p => (p.1, a.eval p.2)).toList[k]? = some p → ((parts.toList.map (·.1)).zip vs)[k]? = some q → p.1 = q.1 ∧ Rel β S' w p.2 q.2 := fun k p q hp hq => by
    rw [List.getElem?_zip_eq_some, List.getElem?_map] at hq
    simp only [Array.toList_map, List.getElem?_map] at hp
    obtain ⟨x, hx, rfl⟩ := map_some' hp
    obtain ⟨hq1, hq2⟩ := hq
    rw [hx] at hq1
    simp only [Option.map_some, Option.some.injEq] at hq1
    refine ⟨hq1, ?_⟩
    have := hvr k q.2 hq2
    simpa only [List.getD, List.getElem?_map, hx, Option.map_some, Option.getD_some] using this
  obtain ⟨c', g1, g2⟩ := fill_rel (β := β) (S := S') (w := w) _ _ _ _ l hz1 hpl hpr hl
  obtain ⟨l1, l2, l3⟩ := decRows_rel (β := β) (S := S') (w := w) _ _ _ _ hxs
  have hrows := l3 (fun j => c'.getD j undef) g2.2
  have hsize : xs.length * ty.row.length ≤ c'.size := by rw [g2.1, l2, l1]; exact Nat.le_refl _
  have hnew := hs'.newArr (w1 := w) (t := el) hn' (Below.refl _ _) rfl hsize hrows (.inl (ty_noO (hE _ _ eel) _))
  refine Done.value (cv := .slice (some ⟨w.heap.size, 0, none⟩) len len) ?_ (by rw [setHs_append]; exact hnew) ?_ (upd_ext _ (hs.fresh _ hn))
  · unfold execOp
    have hlim : ¬ (len * ty.size > 2 ^ 24) := by omega
    by_cases h0 : len * ty.size = 0
    · have hcells : (Array.range (len * ty.size)).map (fun x => (#[] : Array Value)[x % (#[] : Array Value).size]!) = (Array.range (len * ty.size)).map (z.cells[· % z.cells.size]!) := by rw [h0]; simp
      rw [← hcells] at g1
      simp only [ho, Instr.buildSlice, Sem.run_bind, run_underlying hu, Result.andThen_ok, ty_size (hE _ _ eel), Sem.run_ite, hlim, if_false, Sem.run_pure, if_pos h0, g1, newRow, run_newObj]
      rfl
    · simp only [ho, Instr.buildSlice, Sem.run_bind, run_underlying hu, Result.andThen_ok, ty_size (hE _ _ eel), Sem.run_ite, hlim, if_false, Sem.run_pure, if_neg h0, zeroValue, typeInfo, run_program, hi, hz, g1, newRow, run_newObj]
      rfl
  · have e1 : xs.length * ty.row.length = len * ty.size := by rw [l1, hrow]
    refine .slw (len := len) (by rw [upd_same, e1]) ⟨c', el, (0, 0), heap_new rfl _, by rw [g2.1, l2, hrow]; exact Nat.le_refl _⟩ (Nat.le_refl _)
theorem decR_osl {r : List Ck} {l : List V} {y : DR [.osl r]} (h : decR [.osl r] l = some y) : False := by
  match l, h with
  | [], h => exact decR_nil1 h
  | [v], h =>
    have h' : decC (.osl r) v = some y := h
    cases v <;> simp [decC] at h'
  | _ :: _ :: _, h => exact decR_two h
theorem done_store (hE : ∀ t x, E.ty t = some x → tyOf P t = some x) (hM : E.frz = true → ∀ b, ¬ M b) (hs : Sim w0 M S0 β S st a w) {nb : Nat} {t : TypeId} {ad x : Operand} (ho : o.op = .store t ad x) {e : Eff} (h : (opA E nb st.op (.store t ad x)).ev st.h = some e) : Done P w0 M S0 β st o a w e := by
  have hx := hs.op x
  have ha := hs.op ad
  simp only [opA] at h
  generalize st.op x = vx at h hx
  generalize st.op ad = va at h ha
  split at h
  case h_2 => simp [RM.ev] at h
  rename_i ty vs et hvs
  obtain ⟨hc, h2⟩ := ev_cond h
  clear h
  simp only [Bool.and_eq_true] at hc
  have hlen := Nat.eq_of_beq_eq_true hc.1
  obtain ⟨k1, k2⟩ := cellsOf_rel hvs hx
  have hone := scalars_one hc.2 k1 k2
  have hq : (a.eval x).cells.toList.length = vs.length := by rw [Array.length_toList]; exact k1
  have hsz := ty_size (hE _ _ et) w
  -- the run
  have run : ∀ {g oo : Nat} {cur : Array Value} {tt : TypeId}, a.eval ad = .pointer (some ⟨g, oo, none⟩) → w.heap[g]? = some (.cells cur tt (0, 0)) → oo + vs.length ≤ cur.size →
      (execOp a.eval o).run P w = .ok .skip (w.setRow g (spliced cur oo (a.eval x).cells.toList)) := by
    intro g oo cur tt he hg hfit
    have hst := run_storeCells_at P g oo tt (a.eval x).cells.toList 0 cur w hg (by rw [Nat.add_zero, Array.length_toList, k1]; exact hfit) hone
    simp only [Nat.add_zero] at hst
    unfold execOp
    have hne : ¬ ((a.eval x).cells.size ≠ ty.size) := by rw [k1, hlen]; simp
    simp only [ho, Instr.storeAt, he, Instr.sureAddr, Sem.run_bind, Sem.run_pure, Result.andThen_ok, storeVar, hsz, Sem.run_ite, hne, if_false, hst]
    rfl
  split at h2
  · rename_i id off
    simp only [RM.ev] at h2
    split at h2
    case h_2 => cases h2
    rename_i hb hh
    split at h2
    case h_2 => simp [RM.ev] at h2
    rename_i l hl
    obtain ⟨hc2, h3⟩ := ev_cond h2
    simp only [Bool.and_eq_true, Bool.not_eq_true'] at hc2
    have hfit := Nat.le_of_ble_eq_true hc2.2
    simp only [RM.ev, Option.some.injEq] at h3
    subst h3
    obtain ⟨blk, n, c1, hbt⟩ := rel_ref ha
    have hr := hs.blk id hb hh
    rw [hl] at hr
    obtain ⟨blk', c, tt, b1, b2, b3, b4⟩ := hr
    have hlive : Live st id := ⟨hb, hh, by rw [hl]; simp, hc2.1⟩
    rw [hbt] at b1; cases b1
    have hfit' : off + (a.eval x).cells.toList.length ≤ c.size := by rw [Array.length_toList, k1, b3]; exact hfit
    have hsp := spliced_size hfit'
    have hw := Wrote.setRow (cs := spliced c off (a.eval x).cells.toList) b2 hsp
    have hcS : ∀ b, S b → ∀ oo, (w.setRow blk (spliced c off (a.eval x).cells.toList)).cell? ⟨b, oo, none⟩ = w.cell? ⟨b, oo, none⟩ := fun b hb' oo => cell_of_heap (hw.block b (fun e => (hs.own id blk _ hlive hbt).1 (e ▸ hb'))) oo
    refine Done.skip (run c1 b2 (by rw [b3]; exact hfit)) (hs.wrote hlive hbt hw ⟨blk, spliced c off (a.eval x).cells.toList, tt, by rw [hbt, setMany_length], setRow_heap w blk c _ tt _ b2, by rw [hsp, setMany_length]; exact b3, fun j v hv => ?_⟩ (.inl fun _ _ e => by cases e)) (fun _ _ e => e)
    refine Rel.mono (fun _ _ e => e) (fun _ e => e) hcS hw.szs ?_
    rw [spliced_get hfit', Array.length_toList, k1]
    rw [setMany_get] at hv
    split at hv
    · rename_i hcc
      rw [if_pos ⟨hcc.1, hcc.2.1⟩]
      have := k2 _ v hv
      simpa [List.getD] using this
    · rename_i hcc
      have hjl : j < l.length := (List.getElem?_eq_some_iff.1 hv).1
      rw [if_neg (by omega)]
      exact b4 j v hv
  · rename_i id s i j
    simp only [RM.ev] at h2
    split at h2
    case h_2 => cases h2
    rename_i hb hh
    split at h2
    case h_2 => simp [RM.ev] at h2
    rename_i row xs hl
    obtain ⟨hc2, h3⟩ := ev_cond h2
    simp only [Bool.and_eq_true, Bool.not_eq_true'] at hc2
    have hre : row.length = s := Nat.eq_of_beq_eq_true hc2.1.2
    have hfit := Nat.le_of_ble_eq_true hc2.2
    rw [RM.ev_bind] at h3
    obtain ⟨⟨us, ids, fz⟩, h0, h3⟩ := bind_some h3
    simp only at h3
    cases hci : ids.contains id with
    | true => rw [hci] at h3; simp [RM.ev] at h3
    | false =>
    rw [hci] at h3
    simp only [cond_false] at h3
    obtain ⟨S', hs', hS, hul, hur, hnone, hoth⟩ := snapF_sim (f := fun j => (a.eval x).cells.getD j undef) hM hs h0 k2
    have hnid : id ∉ ids := by simpa using hci
    have hh' : (st.setHs fz).h id = some hb := by rw [hoth id hnid]; exact hh
    rw [RM.ev_bind, RM.ev_ofOpt] at h3
    obtain ⟨y, hy, h4⟩ := bind_some h3
    simp only [RM.ev, Option.some.injEq] at h4
    subst h4
    subst hre
    obtain ⟨blk, n, c1, hbt, hn⟩ := rel_rel ha
    have hr := hs'.blk id hb hh'
    rw [hl] at hr
    obtain ⟨blk', c, tt, b1, b2, b3, b4⟩ := hr
    have hlive : Live (st.setHs fz) id := ⟨hb, hh', by rw [hl]; simp, hc2.1.1⟩
    rw [hbt] at b1; cases b1
    have hfit' : i * row.length + j + (a.eval x).cells.toList.length ≤ c.size := by rw [hq]; omega
    have hsp := spliced_size hfit'
    have hw := Wrote.setRow (cs := spliced c (i * row.length + j) (a.eval x).cells.toList) b2 hsp
    have hcS : ∀ b, S' b → ∀ oo, (w.setRow blk (spliced c (i * row.length + j) (a.eval x).cells.toList)).cell? ⟨b, oo, none⟩ = w.cell? ⟨b, oo, none⟩ := fun b hb' oo => cell_of_heap (hw.block b (fun e => (hs'.own id blk _ hlive hbt).1 (e ▸ hb'))) oo
    refine Done.skip (S' := S') (run c1 b2 (by rw [hq] at hfit'; exact hfit')) ?_ (fun _ _ e => e)
    rw [setHs_append]
    refine hs'.wrote hlive hbt hw ⟨blk, spliced c (i * row.length + j) (a.eval x).cells.toList, tt, by rw [hbt, List.length_set], setRow_heap w blk c _ tt _ b2, by rw [hsp, List.length_set]; exact b3, fun i' y' hy' j' v hv => ?_⟩ (.inl fun r xss e => by cases e; exact decR_osl hy)
    refine Rel.mono (fun _ _ e => e) (fun _ e => e) hcS hw.szs ?_
    rw [List.getElem?_set] at hy'
    split at hy'
    · rename_i hii
      subst hii
      split at hy'
      · rename_i hlt
        cases hy'
        have hxi : xs[i]? = some (xs.getD i (dflR row)) := by simp [hlt]
        refine decR_rel row _ _ (fun k => (spliced c (i * row.length + j) (a.eval x).cells.toList).getD (i * row.length + k) undef) hy (fun k u hu => ?_) j' v hv
        rw [spliced_get hfit', hq]
        rw [setMany_get, hul] at hu
        split at hu
        · rename_i hcc
          rw [if_pos ⟨by omega, by omega⟩]
          have := hur _ u hu
          rw [show i * row.length + k - (i * row.length + j) = k - j from by omega]
          simpa [List.getD] using this
        · rename_i hcc
          have hkl : k < (encR row (xs.getD i (dflR row))).length := (List.getElem?_eq_some_iff.1 hu).1
          rw [if_neg (by omega)]
          exact b4 i _ hxi k u hu
      · cases hy'
    · rename_i hii
      have hj' : j' < row.length := by rw [← encR_length row y']; exact (List.getElem?_eq_some_iff.1 hv).1
      rw [spliced_get hfit', hq]
      rw [if_neg ?_]
      · exact b4 i' y' hy' j' v hv
      · rcases Nat.lt_or_gt_of_ne hii with hlt | hlt
        · have : (i + 1) * row.length ≤ i' * row.length := Nat.mul_le_mul_right _ hlt
          rw [Nat.succ_mul] at this
          omega
        · have : (i' + 1) * row.length ≤ i * row.length := Nat.mul_le_mul_right _ hlt
          rw [Nat.succ_mul] at this
          omega
  · simp [RM.ev] at h2
end
end Go.Proofs.Ytpglfnkkmafhbaa
