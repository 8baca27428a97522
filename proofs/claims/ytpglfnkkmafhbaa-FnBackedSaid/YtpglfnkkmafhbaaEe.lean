/- The abstract machine, part 5: making memory, reading it, writing it. -/
import Derived.Test.YtpglfnkkmafhbaaEd
import Derived.Laws.MakeOwn
import Derived.Laws.Append
set_option linter.unusedVariables false
set_option linter.unusedSimpArgs false
set_option linter.constructorNameAsVariable false
namespace Go.Proofs.Ytpglfnkkmafhbaa
open Go.RowKit
section
variable {P : Program} {E : Env} {w0 : World} {M S0 : Nat → Prop} {β : Bt} {S : Nat → Prop} {st : St} {a : Act} {w : World} {o : Oper}
/-- Cells of rows. -/
def RowsAt (β : Bt) (S : Nat → Prop) (w : World) (f : Nat → Value) (row : List Ck) (xs : List (DR row)) : Prop := ∀ i x, xs[i]? = some x → ∀ j v, (encR row x)[j]? = some v → Rel β S w (f (i * row.length + j)) v
theorem below_alloc {w w1 : World} (hb : Below w.heap.size w w1) (h1 : w1.heap = w.heap) (ob : Obj) : Below w.heap.size w (w1.alloc ob) :=
  hb.trans ((Below.refl _ w1).alloc (by rw [h1]; exact Nat.le_refl _) ob)
theorem rel_grow (hs : Sim w0 M S0 β S st a w) {w' : World} (hb : Below w.heap.size w w') {id : Nat} {p : Nat × Nat} (hn : st.h id = none) {cv : Value} {v : V} (h : Rel β S w cv v) : Rel (upd β id p) S w' cv v :=
  h.mono (upd_ext p (hs.fresh id hn)) (fun _ e => e) (fun b hb' o => cell_of_heap (hb.block b (hs.sb b hb').1) o) (below_szs hb)
theorem heap_new {w1 : World} (h1 : w1.heap = w.heap) (ob : Obj) : (w1.alloc ob).heap[w.heap.size]? = some ob := by rw [← h1]; exact heap_alloc_new w1 ob
/-- No type's row holds slices that are owned. -/
theorem rowOf_noO (P : Program) : ∀ (n : Nat) (t : TypeId), ∀ c ∈ rowOf P n t, ∀ r, c ≠ Ck.osl r
  | 0, t, c, h, r => by cases h
  | n + 1, t, c, h, r => by
    unfold rowOf at h
    split at h
    · rw [List.mem_singleton.1 h]; simp
    · rw [List.mem_singleton.1 h]; simp
    · rw [List.mem_singleton.1 h]; simp
    · rw [List.mem_singleton.1 h]; simp
    · rw [List.mem_singleton.1 h]; simp
    · obtain ⟨f, _, hf⟩ := List.mem_flatMap.1 h
      exact rowOf_noO P n f.2 c hf r
    · cases h
theorem ty_row {t : TypeId} {x : Ty} (h : tyOf P t = some x) : x.row = rowOf P 4 t := by
  unfold tyOf at h
  cases hi : P.info? t with
  | none => simp [hi] at h
  | some i =>
    cases hz : i.zero with
    | none => simp [hi, hz] at h
    | some z => simp [hi, hz] at h; subst h; rfl
theorem noO_of {row : List Ck} (h : ∀ c ∈ row, ∀ r, c ≠ Ck.osl r) (xs : List (DR row)) : NotO (.arr row xs) := fun r xss e => by
  cases e
  exact h (.osl r) (List.mem_singleton.2 rfl) r rfl
theorem ty_noO {t : TypeId} {x : Ty} (h : tyOf P t = some x) (xs : List (DR x.row)) : NotO (.arr x.row xs) := noO_of (by rw [ty_row h]; exact rowOf_noO P 4 t) xs
theorem Sim.newCells (hs : Sim w0 M S0 β S st a w) {id : Nat} (hn : st.h id = none) {w1 : World} (hb : Below w.heap.size w w1) (h1 : w1.heap = w.heap) {c : Array Value} {t : TypeId} {l : List V} (hl : c.size = l.length) (hv : ∀ j v, l[j]? = some v → Rel β S w (c.getD j undef) v) :
    Sim w0 M S0 (upd β id (w.heap.size, l.length)) S (st.setH id ⟨.cells l, false⟩) a (w1.alloc (.cells c t)) := by
  have hbb := below_alloc hb h1 (.cells c t)
  exact hs.grow hbb hn (Nat.le_refl _) ⟨_, c, t, upd_same _ _ _, heap_new h1 _, hl, fun j v h => rel_grow hs hbb hn (hv j v h)⟩ (by simp [World.alloc, h1]) (.inl fun _ _ e => by cases e)
theorem Sim.newArr (hs : Sim w0 M S0 β S st a w) {id : Nat} (hn : st.h id = none) {w1 : World} (hb : Below w.heap.size w w1) (h1 : w1.heap = w.heap) {c : Array Value} {t : TypeId} {row : List Ck} {xs : List (DR row)} (hl : xs.length * row.length ≤ c.size)
    (hv : RowsAt β S w (fun j => c.getD j undef) row xs) (hq : NotO (.arr row xs) ∨ Hid w0.heap.size M S (upd β id (w.heap.size, xs.length * row.length)) (st.setH id ⟨.arr row xs, false⟩).h (w1.alloc (.cells c t))) : Sim w0 M S0 (upd β id (w.heap.size, xs.length * row.length)) S (st.setH id ⟨.arr row xs, false⟩) a (w1.alloc (.cells c t)) := by
  have hbb := below_alloc hb h1 (.cells c t)
  exact hs.grow hbb hn (Nat.le_refl _) ⟨_, c, t, upd_same _ _ _, heap_new h1 _, hl, fun i x hx j v h => rel_grow hs hbb hn (hv i x hx j v h)⟩ (by simp [World.alloc, h1]) hq
theorem rel_scalar {cv : Value} {v : V} (h : Rel β S w cv v) (hv : isScalar v = true) : cv.oneCell' = true := by
  cases h <;> simp [isScalar] at hv <;> try rfl
  cases cv <;> simp [isScalar] at hv <;> rfl
theorem oneCell_cells {cv : Value} (h : cv.oneCell' = true) : cv.cells = #[cv] := by cases cv <;> simp [Value.oneCell'] at h <;> rfl
theorem cellsOf_rel {cv : Value} {v : V} {l : List V} (hc : cellsOf v = some l) (h : Rel β S w cv v) : cv.cells.size = l.length ∧ ∀ j u, l[j]? = some u → Rel β S w (cv.cells.getD j undef) u := by
  by_cases hag : ∃ l', v = .agg l'
  · obtain ⟨l', rfl⟩ := hag
    simp [cellsOf] at hc; subst hc
    obtain ⟨cs, rfl, h1, h2⟩ := rel_agg h
    exact ⟨h1, h2⟩
  · have hsc : isScalar v = true ∧ l = [v] := by
      cases v <;> simp [cellsOf] at hc <;> simp [isScalar, hc] <;> try exact absurd ⟨_, rfl⟩ hag
      rename_i q
      cases q <;> simp [cellsOf] at hc <;> simp [hc]
    obtain ⟨h1, rfl⟩ := hsc
    rw [oneCell_cells (rel_scalar h h1)]
    refine ⟨rfl, fun j u hu => ?_⟩
    cases j with
    | zero => simp at hu; subst hu; exact h
    | succ j => simp at hu
theorem done_box (hs : Sim w0 M S0 β S st a w) {nb : Nat} (hn : st.h nb = none) {t : TypeId} {x : Operand} (ho : o.op = .box t x) {e : Eff} (h : (opA E nb st.op (.box t x)).ev st.h = some e) : Done P w0 M S0 β st o a w e := by
  have hx := hs.op x
  simp only [opA] at h
  generalize st.op x = vx at h hx
  split at h
  case h_2 => simp [RM.ev] at h
  rename_i l hl
  simp only [RM.ev, Option.some.injEq] at h
  subst h
  obtain ⟨h1, h2⟩ := cellsOf_rel hl hx
  exact Done.value (cv := .pointer (some ⟨w.heap.size, 0, none⟩)) (by unfold execOp; simp [ho, Instr.box, newVar, newRow]; rfl) (hs.newCells (w1 := w) hn (Below.refl _ _) rfl h1 h2) (.ref (upd_same _ _ _)) (upd_ext _ (hs.fresh _ hn))
theorem zero_rel {z : Value} (l : List V) (hl : l = z.cells.toList.map ofValue) : z.cells.size = l.length ∧ ∀ j u, l[j]? = some u → Rel β S w (z.cells.getD j undef) u := by
  subst hl
  refine ⟨by simp, fun j u hu => ?_⟩
  rw [List.getElem?_map] at hu
  cases hj : z.cells.toList[j]? with
  | none => simp [hj] at hu
  | some q =>
    simp [hj] at hu; subst hu
    have : z.cells[j]? = some q := by simpa using hj
    simpa [this] using ofValue_rel (β := β) (S := S) (w := w) q
theorem done_alloc (hE : ∀ t x, E.ty t = some x → tyOf P t = some x) (hs : Sim w0 M S0 β S st a w) {nb : Nat} (hn : st.h nb = none) {t : TypeId} (ho : o.op = .alloc t) {e : Eff} (h : (opA E nb st.op (.alloc t)).ev st.h = some e) : Done P w0 M S0 β st o a w e := by
  simp only [opA] at h
  split at h
  case h_2 => simp [RM.ev] at h
  rename_i ty et
  simp only [RM.ev, Option.some.injEq] at h
  subst h
  obtain ⟨i, z, hi, hz, _, _, _, hzz⟩ := ty_inv (hE _ _ et)
  obtain ⟨h1, h2⟩ := zero_rel (β := β) (S := S) (w := w) ty.zero hzz
  exact Done.value (cv := .pointer (some ⟨w.heap.size, 0, none⟩)) (by unfold execOp; simp [ho, Instr.alloc, zeroValue, typeInfo, hi, hz, newVar, newRow]; rfl) (hs.newCells (w1 := w) hn (Below.refl _ _) rfl h1 h2) (.ref (upd_same _ _ _)) (upd_ext _ (hs.fresh _ hn))

/-! ### Reading -/
theorem run_loadVar_at {t : TypeId} {x : Ty} (hx : tyOf P t = some x) {b oo : Nat} {g : Nat → Value} {l : List V} {off : Nat} (hc : ∀ j, j < l.length → w.cell? ⟨b, oo + j, none⟩ = some (g j)) (hr : ∀ j v, l[j]? = some v → Rel β S w (g j) v) {v : V}
    (h : (match x.k with | .st _ => (bif Nat.ble (off + x.size) l.length then ret (V.agg ((l.drop off).take x.size)) else .bad) | .other => .bad | _ => (RM.ofOpt (l[off]?)).bind ret).ev st.h = some (v, [])) :
    ∃ cv, (loadVar t ⟨b, oo + off, none⟩).run P w = .ok cv w ∧ Rel β S w cv v := by
  obtain ⟨i, z, hi, hz, hk, hsz, _, _⟩ := ty_inv hx
  have hs' := ty_size hx w
  split at h
  · rename_i fs hfk
    obtain ⟨hle, h⟩ := ev_cond h
    have hle' := Nat.le_of_ble_eq_true hle
    obtain h := ev_ret h
    simp only [Prod.mk.injEq, and_true] at h
    subst h
    have hagg := run_isAgg_st (hk.symm.trans hfk) w
    have hld := run_loadCells (P := P) w ⟨b, oo + off, none⟩ x.size (fun j => g (off + j)) (fun j hj => by rw [addr_add_lit, Nat.add_assoc]; exact hc _ (by omega))
    refine ⟨_, by simp [loadVar, hagg, hs', hld]; rfl, .agg (by simp; omega) fun j v hv => ?_⟩
    obtain ⟨hj, hv'⟩ := take_drop_get hv
    simpa [hj] using hr _ v hv'
  · simp [RM.ev] at h
  · rename_i h1 h2
    have hagg := run_isAgg_no (P := P) (t := t) (fun fs hh => h1 fs (hk.trans hh)) (fun hh => h2 (hk.trans hh)) w
    rw [RM.ev_bind, RM.ev_ofOpt] at h
    cases hv : l[off]? with
    | none => simp [hv] at h
    | some u =>
      simp only [hv, Option.bind_some] at h
      obtain h := ev_ret h
      simp only [Prod.mk.injEq, and_true] at h
      subst h
      have hlt : off < l.length := (List.getElem?_eq_some_iff.1 hv).1
      exact ⟨g off, by simp [loadVar, hagg, hc off hlt], hr off v hv⟩
theorem ev_snd {e : Eff} {x : Ty} {l : List V} {off : Nat} (h : (match x.k with | .st _ => (bif Nat.ble (off + x.size) l.length then ret (V.agg ((l.drop off).take x.size)) else .bad) | .other => .bad | _ => (RM.ofOpt (l[off]?)).bind ret).ev st.h = some e) : e = (e.1, []) := by
  split at h
  · obtain ⟨_, h⟩ := ev_cond h; rw [ev_ret h]
  · simp [RM.ev] at h
  · rw [RM.ev_bind, RM.ev_ofOpt] at h
    cases hv : l[off]? with
    | none => simp [hv] at h
    | some u => simp only [hv, Option.bind_some] at h; rw [ev_ret h]
theorem cell_row {c : Array Value} {t : TypeId} {fr : Nat × Nat} {b : Nat} (h : w.heap[b]? = some (.cells c t fr)) {j : Nat} (hj : j < c.size) : w.cell? ⟨b, j, none⟩ = some (c.getD j undef) := by
  rw [cell_of_row w b j c t fr h]; simp [hj]
theorem load_run (hE : ∀ t x, E.ty t = some x → tyOf P t = some x) (hs : Sim w0 M S0 β S st a w) {nb : Nat} {t : TypeId} {x : Operand} {e : Eff} (h : (opA E nb st.op (.load t x)).ev st.h = some e) :
    ∃ v ad cv, e = (v, []) ∧ a.eval x = .pointer (some ad) ∧ (loadVar t ad).run P w = .ok cv w ∧ Rel β S w cv v := by
  have hx := hs.op x
  simp only [opA] at h
  generalize st.op x = vx at h hx
  split at h
  case h_2 => simp [RM.ev] at h
  rename_i ty et
  have hty := hE _ _ et
  have fin : ∀ {v : V} {b oo : Nat} {cv : Value}, e = (v, []) → a.eval x = .pointer (some ⟨b, oo, none⟩) → (loadVar t ⟨b, oo, none⟩).run P w = .ok cv w → Rel β S w cv v → ∃ v ad cv, e = (v, []) ∧ a.eval x = .pointer (some ad) ∧ (loadVar t ad).run P w = .ok cv w ∧ Rel β S w cv v :=
    fun h1 h2 h3 h4 => ⟨_, _, _, h1, h2, h3, h4⟩
  split at h
  · rename_i id off
    simp only [RM.ev] at h
    split at h
    case h_2 => cases h
    rename_i hb hh
    split at h
    case h_2 => simp [RM.ev] at h
    rename_i l hl
    have he := ev_snd h
    rw [he] at h
    obtain ⟨blk, n, c1, hbt⟩ := rel_ref hx
    have hr := hs.blk id hb hh
    rw [hl] at hr
    obtain ⟨blk', c, tt, b1, b2, b3, b4⟩ := hr
    rw [hbt] at b1; cases b1
    obtain ⟨cv, hrun, hv⟩ := run_loadVar_at (P := P) hty (b := blk) (oo := 0) (g := fun j => c.getD j undef) (fun j hj => by rw [Nat.zero_add]; exact cell_row b2 (by omega)) b4 h
    exact fin he c1 (by simpa using hrun) hv
  · rename_i id s i j
    simp only [RM.ev] at h
    split at h
    case h_2 => cases h
    rename_i hb hh
    split at h
    case h_2 => simp [RM.ev] at h
    rename_i row xs hl
    obtain ⟨hre, h2⟩ := ev_cond h
    clear h
    simp only [Bool.and_eq_true] at hre
    have hs0 : 0 < s := by have := hre.2; rwa [Nat.blt_eq] at this
    have hre' : row.length = s := Nat.eq_of_beq_eq_true hre.1
    have he := ev_snd h2
    rw [he] at h2
    obtain ⟨blk, n, c1, hbt, hn⟩ := rel_rel hx
    have hr := hs.blk id hb hh
    rw [hl] at hr
    obtain ⟨blk', c, tt, b1, b2, b3, b4⟩ := hr
    rw [hbt] at b1; cases b1
    subst hre'
    have hlt : i < xs.length := by rw [← Nat.succ_mul] at hn; exact Nat.le_of_mul_le_mul_right hn hs0
    have hxi : xs[i]? = some (xs.getD i (dflR row)) := by simp [hlt]
    obtain ⟨cv, hrun, hv⟩ := run_loadVar_at (P := P) hty (b := blk) (oo := i * row.length) (g := fun j => c.getD (i * row.length + j) undef) (fun j hj => by rw [encR_length] at hj; exact cell_row b2 (by omega)) (fun j v hv => b4 i _ hxi j v hv) h2
    exact fin he c1 hrun hv
  · rename_i l off
    have he := ev_snd h
    rw [he] at h
    obtain ⟨blk, oo, g, c1, h1, h2, h3⟩ := rel_dpt hx
    obtain ⟨cv, hrun, hv⟩ := run_loadVar_at (P := P) hty (b := blk) (oo := oo) (g := g) h2 h3 h
    exact fin he c1 hrun hv
  · simp [RM.ev] at h
theorem done_load (hE : ∀ t x, E.ty t = some x → tyOf P t = some x) (hs : Sim w0 M S0 β S st a w) {nb : Nat} {t : TypeId} {x : Operand} (ho : o.op = .load t x) {e : Eff} (h : (opA E nb st.op (.load t x)).ev st.h = some e) : Done P w0 M S0 β st o a w e := by
  obtain ⟨v, ad, cv, rfl, h2, h3, h4⟩ := load_run hE hs h
  exact Done.pure hs (by unfold execOp; simp [ho, h2, Instr.loadAt, Instr.sureAddr, h3]) h4
end
end Go.Proofs.Ytpglfnkkmafhbaa
