/- The abstract machine, part 13b: blocks of slices that are owned with their cells: made, built, written, appended to, read by a call. -/
import Derived.Test.YtpglfnkkmafhbaaEm
set_option linter.unusedVariables false
set_option linter.unusedSimpArgs false
set_option linter.constructorNameAsVariable false
namespace Go.Proofs.Ytpglfnkkmafhbaa
open Go.RowKit
section
variable {P : Program} {E : Env} {w0 : World} {M S0 : Nat → Prop} {β : Bt} {S : Nat → Prop} {st : St} {a : Act} {w : World} {o : Oper}
theorem oslR_inv {row r : List Ck} (h : oslR row = some r) : row = [.sl r] ∧ r ≠ [] ∧ r.all Ck.flat = true := by
  unfold oslR at h
  split at h
  · rename_i r'
    cases hc : (!r'.isEmpty && r'.all Ck.flat) with
    | false => rw [hc] at h; cases h
    | true =>
      rw [hc] at h
      simp only [cond_true, Option.some.injEq] at h
      subst h
      simp only [Bool.and_eq_true, Bool.not_eq_true', List.isEmpty_eq_false_iff] at hc
      exact ⟨rfl, hc.1, hc.2⟩
  · cases h
theorem rel_flat {β' : Bt} {S' : Nat → Prop} {w' : World} {c : Ck} (hc : c.flat = true) {x : c.D} {cv : Value} (h : Rel β S w cv (encC c x)) : Rel β' S' w' cv (encC c x) := by
  cases c with
  | f k => obtain ⟨r, rfl, hr⟩ := rel_f h; exact .f hr
  | i k => have := rel_i h; subst this; exact .i _ _
  | b => have := rel_b h; subst this; exact .b _
  | c k => obtain ⟨r, s, rfl, h1, h2⟩ := rel_c h; exact .c h1 h2
  | sl r => cases hc
  | osl r => cases hc
theorem encR_flat (row : List Ck) (h : row.all Ck.flat = true) : ∀ (x : DR row) (v : V), v ∈ encR row x → ∃ c, ∃ y : c.D, c.flat = true ∧ v = encC c y := by
  induction row with
  | nil => intro x v hv; cases hv
  | cons c r ih =>
    simp only [List.all_cons, Bool.and_eq_true] at h
    intro x v hv
    cases r with
    | nil =>
      have hv' : v ∈ [encC c x] := hv
      rw [List.mem_singleton] at hv'
      exact ⟨c, x, h.1, hv'⟩
    | cons d r =>
      have hv' : v ∈ encC c x.1 :: encR (d :: r) x.2 := hv
      rcases List.mem_cons.1 hv' with h' | h'
      · exact ⟨c, x.1, h.1, h'⟩
      · exact ih h.2 x.2 v h'
theorem rowsFlat {β' : Bt} {S' : Nat → Prop} {w' : World} {row : List Ck} (hf : row.all Ck.flat = true) {xs : List (DR row)} {c : Array Value}
    (h : ∀ i x, xs[i]? = some x → ∀ j v, (encR row x)[j]? = some v → Rel β S w (c.getD (i * row.length + j) undef) v) : ∀ i x, xs[i]? = some x → ∀ j v, (encR row x)[j]? = some v → Rel β' S' w' (c.getD (i * row.length + j) undef) v := fun i x hx j v hv => by
  obtain ⟨ck, y, h1, rfl⟩ := encR_flat row hf x v (List.mem_of_getElem? hv)
  exact rel_flat h1 (h i x hx j _ hv)
theorem takeO_inv (hs : Sim w0 M S0 β S st a w) {r : List Ck} (hr0 : r ≠ []) (hf : r.all Ck.flat = true) {v : V} {id : Nat} {xs : List (DR r)} (h : (takeO r v).ev st.h = some (id, xs)) {cv : Value} (hv : Rel β S w cv v) :
    Live st id ∧ ∃ blk n, β id = some (blk, n) ∧ SubOk w (some blk) cv r xs ∧ ∃ cap, cv = .slice (some ⟨blk, 0, none⟩) xs.length cap := by
  unfold takeO at h
  split at h
  case h_2 => simp [RM.ev] at h
  rename_i id' st'
  simp only [RM.ev] at h
  split at h
  case h_2 => cases h
  rename_i hb hh
  split at h
  case h_2 => simp [RM.ev] at h
  rename_i row xs' hl
  split at h
  case isFalse => simp [RM.ev] at h
  rename_i hbe
  obtain rfl := beqR_eq hbe
  obtain ⟨hc, h⟩ := ev_cond h
  simp only [Bool.and_eq_true, Bool.not_eq_true'] at hc
  have hst := Nat.eq_of_beq_eq_true hc.2
  have h' : some (id', xs') = some (id, xs) := h
  simp only [Option.some.injEq, Prod.mk.injEq] at h'
  obtain ⟨rfl, rfl⟩ := h'
  obtain ⟨blk, len, cap, c1, hb1, ⟨c, t, fr, hh2, hcs⟩, hlc⟩ := rel_slw hv
  have hr := hs.blk id' hb hh
  rw [hl] at hr
  obtain ⟨blk', cc, tt, b1, b2, b3, b4⟩ := hr
  rw [hb1] at b1
  simp only [Option.some.injEq, Prod.mk.injEq] at b1
  obtain ⟨rfl, b1⟩ := b1
  rw [hh2] at b2
  simp only [Option.some.injEq, Obj.cells.injEq] at b2
  obtain ⟨rfl, rfl, rfl⟩ := b2
  have h0 : 0 < row.length := List.length_pos_iff.2 hr0
  rw [hst] at b1 hcs
  have hll : len = xs'.length := Nat.eq_of_mul_eq_mul_right h0 b1
  subst hll
  exact ⟨⟨hb, hh, by rw [hl]; simp, hc.1⟩, blk, _, hb1, .inr ⟨blk, cap, c, t, rfl, c1, hlc, hh2, hcs, rowsFlat hf b4⟩, cap, c1⟩
theorem asO_inv {v : V} {id : Nat} {r : List Ck} {xss : List (DR [.osl r])} (h : (asO v).ev st.h = some (some (id, ⟨r, xss⟩))) : v = .slw id 1 ∧ st.h id = some ⟨.arr [.osl r] xss, false⟩ := by
  unfold asO at h
  split at h
  · rename_i id' s'
    simp only [RM.ev] at h
    split at h
    case h_2 => cases h
    rename_i hb hh
    split at h
    · rename_i r' xss'
      simp only [RM.ev, Option.some.injEq] at h
      cases hs : Nat.beq s' 1 with
      | false => rw [hs] at h; cases h
      | true =>
        rw [hs] at h
        simp only [cond_true, Option.some.injEq, Prod.mk.injEq] at h
        obtain ⟨rfl, h⟩ := h
        cases h
        exact ⟨by rw [Nat.eq_of_beq_eq_true hs], hh⟩
    · simp [RM.ev] at h
  · simp [RM.ev] at h
theorem asO_none {v : V} (h : (asO v).ev st.h = some none) : True := trivial
/-- What an own block of owned slices is in memory. -/
theorem osl_cells (hs : Sim w0 M S0 β S st a w) {id : Nat} {r : List Ck} {xss : List (DR [.osl r])} (hh : st.h id = some ⟨.arr [.osl r] xss, false⟩) {cv : Value} (hv : Rel β S w cv (.slw id 1)) :
    ∃ blk cap c t, cv = .slice (some ⟨blk, 0, none⟩) xss.length cap ∧ β id = some (blk, xss.length * 1) ∧ w.heap[blk]? = some (.cells c t (0, 0)) ∧ xss.length ≤ cap ∧ cap ≤ c.size := by
  obtain ⟨blk, len, cap, c1, hb1, ⟨c, t, fr, hh2, hcs⟩, hlc⟩ := rel_slw hv
  obtain ⟨blk', cc, tt, b1, b2, b3, b4⟩ := hs.blk id _ hh
  rw [hb1] at b1
  simp only [Option.some.injEq, Prod.mk.injEq] at b1
  obtain ⟨rfl, b1⟩ := b1
  rw [hh2] at b2
  simp only [Option.some.injEq, Obj.cells.injEq] at b2
  obtain ⟨rfl, rfl, rfl⟩ := b2
  have hll : len = List.length (α := DR [Ck.osl r]) xss := by rw [show [Ck.osl r].length = 1 from rfl] at b1; omega
  subst hll
  exact ⟨blk, cap, c, t, c1, hb1, hh2, hlc, by rw [Nat.mul_one] at hcs; exact hcs⟩
theorem HidS.put {n0 : Nat} {M S : Nat → Prop} {β β' : Bt} {σ : Nat → Nat → Option Nat} {h h' : Nat → Option HB} {w w' : World} (q : HidS n0 M S β σ h w) {nb blk n : Nat} {row : List Ck} {xss : List (DR [.osl row])} {f : Nat → Option Nat}
    (hnb : h' nb = some ⟨.arr [.osl row] xss, false⟩) (hβ : β' nb = some (blk, n))
    (ho : ∀ id row (xss : List (DR [.osl row])), id ≠ nb → h' id = some ⟨.arr [.osl row] xss, false⟩ → h id = some ⟨.arr [.osl row] xss, false⟩ ∧ β' id = β id)
    (hl : ∀ id hb, id ≠ nb → h' id = some hb → hb.blk ≠ .dead → hb.fz = false → ∃ hb0, h id = some hb0 ∧ hb0.blk ≠ .dead ∧ hb0.fz = false ∧ β' id = β id)
    (hsub : ∀ (i : Nat) (x : List (DR row)), xss[i]? = some x → ∃ cv, w'.cell? ⟨blk, i, none⟩ = some cv ∧ SubOk w' (f i) cv row x)
    (hf : ∀ i b, f i = some b → ¬ S b ∧ (n0 ≤ b ∨ M b) ∧ b < w'.heap.size ∧ b ≠ blk)
    (hfi : ∀ i j b, f i = some b → f j = some b → i = j)
    (hfo : ∀ i b, f i = some b → (∀ id j, id ≠ nb → OL h' id → OL h id → σ id j ≠ some b) ∧ (∀ id hb n, id ≠ nb → h' id = some hb → hb.blk ≠ .dead → hb.fz = false → β id ≠ some (b, n)))
    (hblk : ∀ id j, id ≠ nb → OL h id → σ id j ≠ some blk)
    (hw : ∀ b, b < w.heap.size → b ≠ blk → w'.heap[b]? = w.heap[b]?)
    (hout : ∀ id b n, id ≠ nb → OL h' id → OL h id → β id = some (b, n) → b < w.heap.size ∧ b ≠ blk)
    (hsz : w.heap.size ≤ w'.heap.size) (hz : Szs w w') : HidS n0 M S β' (fun j i => if j = nb then f i else σ j i) h' w' := by
  have ol : ∀ {id}, id ≠ nb → OL h' id → OL h id := fun hn ⟨row, xss, e⟩ => ⟨row, xss, (ho _ row xss hn e).1⟩
  refine ⟨fun id row' xss' e blk' n' e1 i x hx => ?_, fun id i b hol e => ?_, fun id id' i j b ho1 ho2 e e' => ?_, fun id i b id' hb n' ho1 hh hd hff e e' => ?_⟩
  · by_cases hid : id = nb
    · subst hid
      rw [hnb] at e
      cases e
      rw [hβ] at e1; cases e1
      simp only [if_pos]
      exact hsub i x hx
    · obtain ⟨g1, g2⟩ := ho id row' xss' hid e
      rw [g2] at e1
      obtain ⟨cv, c1, c2⟩ := q.sub id row' xss' g1 blk' n' e1 i x hx
      obtain ⟨l1, l2⟩ := hout id blk' n' hid ⟨row', xss', e⟩ ⟨row', xss', g1⟩ e1
      have hu := hw blk' l1 l2
      simp only [if_neg hid]
      refine ⟨cv, ?_, c2.mono hz fun b hb => hw b (q.own id i b ⟨row', xss', g1⟩ hb).2.2 fun eb => hblk id i hid ⟨row', xss', g1⟩ (eb ▸ hb)⟩
      unfold World.cell? at c1 ⊢
      simp only [hu] at c1 ⊢; exact c1
  · by_cases hid : id = nb
    · simp only [if_pos hid] at e
      obtain ⟨g1, g2, g3, _⟩ := hf i b e
      exact ⟨g1, g2, g3⟩
    · simp only [if_neg hid] at e
      obtain ⟨g1, g2, g3⟩ := q.own id i b (ol hid hol) e
      exact ⟨g1, g2, Nat.lt_of_lt_of_le g3 hsz⟩
  · by_cases h1 : id = nb
    · simp only [if_pos h1] at e
      by_cases h2 : id' = nb
      · simp only [if_pos h2] at e'
        exact ⟨h1.trans h2.symm, hfi i j b e e'⟩
      · simp only [if_neg h2] at e'
        exact absurd e' ((hfo i b e).1 id' j h2 ho2 (ol h2 ho2))
    · simp only [if_neg h1] at e
      by_cases h2 : id' = nb
      · simp only [if_pos h2] at e'
        exact absurd e ((hfo j b e').1 id i h1 ho1 (ol h1 ho1))
      · simp only [if_neg h2] at e'
        exact q.inj id id' i j b (ol h1 ho1) (ol h2 ho2) e e'
  · by_cases h1 : id = nb
    · simp only [if_pos h1] at e
      by_cases h2 : id' = nb
      · subst h2
        rw [hβ] at e'; cases e'
        exact (hf i _ e).2.2.2 rfl
      · obtain ⟨hb0, q1, q2, q3, q4⟩ := hl id' hb h2 hh hd hff
        rw [q4] at e'
        exact (hfo i b e).2 id' hb n' h2 hh hd hff e'
    · simp only [if_neg h1] at e
      by_cases h2 : id' = nb
      · subst h2
        rw [hβ] at e'; cases e'
        exact hblk id i h1 (ol h1 ho1) e
      · obtain ⟨hb0, q1, q2, q3, q4⟩ := hl id' hb h2 hh hd hff
        rw [q4] at e'
        exact q.sep id i b id' hb0 n' (ol h1 ho1) q1 q2 q3 e e'
theorem undefRows {r : List Ck} {xss : List (DR [.osl r])} {f : Nat → Value} : RowsAt β S w f [.osl r] xss := fun i x hx j v hv => by
  have : v = .undef := by
    have hm := List.mem_of_getElem? hv
    have hm' : v ∈ [encC (.osl r) x] := hm
    rw [List.mem_singleton] at hm'
    exact hm'
  subst this; exact .undef _
theorem reps {r : List Ck} (n : Nat) : ∃ zr : List (DR [Ck.osl r]), zr = List.replicate n ([] : List (DR r)) ∧ zr.length = n ∧ ∀ (k : Nat) (x : List (DR r)), zr[k]? = some x → k < n ∧ x = [] := by
  refine ⟨(List.replicate n ([] : List (DR r)) : List (List (DR r))), rfl, List.length_replicate, fun k x h => ?_⟩
  have h' : (List.replicate n ([] : List (DR r)))[k]? = some x := h
  rw [List.getElem?_replicate] at h'
  split at h'
  · rename_i hk
    cases h'; exact ⟨hk, rfl⟩
  · cases h'
/-- A slice of slices is made: they have no cells. -/
theorem done_makeO (hE : ∀ t x, E.ty t = some x → tyOf P t = some x) (hs : Sim w0 M S0 β S st a w) {nb : Nat} (hn : st.h nb = none) {t : TypeId} {lo co : Operand} (ho : o.op = .makeSlice t lo co) {e : Eff}
    (h : (oslOp E nb st.op (.makeSlice t lo co)).ev st.h = some (some e)) : Done P w0 M S0 β st o a w e := by
  have h1 := hs.op lo
  have h2 := hs.op co
  simp only [oslOp] at h
  generalize st.op lo = vl at h h1
  generalize st.op co = vc at h h2
  split at h
  case h_2 => simp [RM.ev] at h
  rename_i el _ _ _ _ et
  split at h
  case h_2 => simp [RM.ev] at h
  rename_i ty eel
  split at h
  case h_2 => simp [RM.ev] at h
  case h_3 => simp [RM.ev] at h
  rename_i r n m hro hzero
  obtain ⟨hrow, hr0, hflat⟩ := oslR_inv hro
  obtain ⟨hg, hh⟩ := ev_guard h
  clear h
  simp only [Bool.and_eq_true, decide_eq_true_eq] at hg
  obtain ⟨⟨hnm, hpos⟩, hby⟩ := hg
  obtain ⟨hc, h4⟩ := ev_cond hh
  clear hh
  simp only [Bool.and_eq_true] at hc
  have hsz1 := Nat.eq_of_beq_eq_true hc.1
  have hb0 : 0 < ty.bytes := by have := hc.2; rwa [Nat.blt_eq] at this
  simp only [RM.ev, Option.some.injEq] at h4
  obtain ⟨zr, hzr, hzl, hzg⟩ := reps (r := r) n.toNat
  have h4' : (V.slw nb 1, [(nb, (⟨.arr [.osl r] zr, false⟩ : HB))]) = e := by rw [hzr]; exact h4
  clear h4 hzr
  subst h4'
  have c1 := rel_i h1
  have c2 := rel_i h2
  rw [← hnm] at c2
  obtain ⟨_, _, _, _, hk, _⟩ := ty_inv (hE _ _ et)
  have hu := tk_sl hk.symm
  obtain ⟨i, z, hi, hz, hkk, hsz, hbb, hzz⟩ := ty_inv (hE _ _ eel)
  have hz0 : CellsRel β S w z.cells ty.zero := zero_rel (z := z) ty.zero hzz
  have hb48 : (i.bytes : Int) * n ≤ 281474976710656 := by
    rw [← hbb, Int.mul_comm]; omega
  have h63 : n ≤ 9223372036854775807 := by
    have : n * 1 ≤ n * (ty.bytes : Int) := Int.mul_le_mul_of_nonneg_left (by omega) hpos
    omega
  have hrun := run_make (P := P) w t el i z hu hi hz .i64 .i64 n n hpos (Int.le_refl _) hb48 h63
  have hz1 := zeros_rel hz0 n.toNat
  have his : i.size = 1 := by rw [← hsz]; exact hsz1
  rw [hzero] at hz1
  simp only [List.length_singleton] at hz1
  have hsize : zr.length * [Ck.osl r].length ≤ (madeCells z.cells (n.toNat * i.size)).size := by
    rw [size_madeCells, hzl, his]; exact Nat.le_refl _
  have hcell : ∀ k, k < n.toNat → (madeCells z.cells (n.toNat * i.size)).getD k undef = .slice none 0 0 := fun k hk => by
    have := hz1.2 k .nils (by rw [flat_get]; simp [hk, Nat.mod_one])
    rw [his]
    exact rel_nils this
  obtain ⟨σ, q⟩ := hs.hid
  have hbel : Below w.heap.size w (w.alloc (.cells (madeCells z.cells (n.toNat * i.size)) el)) := below_alloc (Below.refl _ _) rfl _
  have hnn : ∀ {id}, id ≠ nb → (st.setH nb ⟨.arr [.osl r] zr, false⟩).h id = st.h id := fun hid => setH_other _ _ hid
  have hnew := hs.newArr (w1 := w) (t := el) (row := [.osl r]) (xs := zr) hn (Below.refl _ _) rfl hsize undefRows (.inr ⟨_, q.put (f := fun _ => none) (setH_same _ _ _) (upd_same _ _ _)
    (fun id row xss hid e => ⟨by rwa [hnn hid] at e, upd_other _ _ hid⟩) (fun id hb hid hh hd hf => ⟨hb, by rwa [hnn hid] at hh, hd, hf, upd_other _ _ hid⟩)
    (fun k x hx => by
      obtain ⟨hk, rfl⟩ := hzg k x hx
      refine ⟨.slice none 0 0, ?_, .inl ⟨rfl, rfl, rfl⟩⟩
      rw [cell_row (heap_new rfl _) (by rw [size_madeCells, his]; omega), hcell k hk])
    (fun _ _ e => by cases e) (fun _ _ _ e => by cases e) (fun _ _ e => by cases e) (fun id j _ ho e => by have := (q.own id j _ ho e).2.2; omega) (fun b hlt _ => hbel.block b hlt)
    (fun id b n _ _ ⟨row, xss, e⟩ e1 => by have := hs.blk_lt e (by simp) e1; exact ⟨this, by omega⟩) hbel.size (below_szs hbel)⟩)
  refine Done.value (cv := .slice (some ⟨w.heap.size, 0, none⟩) n.toNat n.toNat) ?_ hnew ?_ (upd_ext _ (hs.fresh _ hn))
  · unfold execOp
    simp only [ho, c1, c2, Sem.run_bind, hrun, Result.andThen_ok, Sem.run_pure]
  · refine .slw (len := n.toNat) (by rw [upd_same, hzl]; rfl) ⟨_, el, (0, 0), heap_new rfl _, by rw [size_madeCells, his]; exact Nat.le_refl _⟩ (Nat.le_refl _)
theorem setH_comm (st : St) {i j : Nat} (x y : HB) (h : i ≠ j) : (st.setH i x).setH j y = (st.setH j y).setH i x := by
  unfold St.setH
  congr 1
  funext k
  simp only
  by_cases h1 : k = i
  · have h2 : k ≠ j := fun e => h (h1.symm.trans e)
    rw [beq_ne h2, show Nat.beq k i = true from by rw [h1]; exact Nat.beq_refl i]; rfl
  · rw [beq_ne h1]; rfl
theorem zrow {r : List Ck} (x : List (DR r)) : ∃ zr : List (DR [Ck.osl r]), zr = [x] ∧ zr.length = 1 ∧ ∀ (k : Nat) (y : List (DR r)), zr[k]? = some y → k = 0 ∧ y = x := by
  refine ⟨([x] : List (List (DR r))), rfl, rfl, fun k y h => ?_⟩
  have h' : ([x] : List (List (DR r)))[k]? = some y := h
  cases k with
  | zero => simp at h'; exact ⟨rfl, h'.symm⟩
  | succ k => simp at h'
theorem slice_cells (b : Option Addr) (n c : Nat) : (Value.slice b n c).cells = #[Value.slice b n c] := rfl
theorem run_buildO (hE : ∀ t x, E.ty t = some x → tyOf P t = some x) {t el : TypeId} {len : Nat} {parts : Array (Nat × Operand)} (ho : o.op = .buildSlice t len parts) {k : TK} (hu : P.underlying t = some (.slice el)) {ty : Ty} (eel : E.ty el = some ty) (hs1 : ty.size = 1) (hz1 : ty.zero.length = 1)
    {cs : List Value} (hcs : (len = 0 ∧ parts.toList = [] ∧ cs = []) ∨ ∃ x b n c, len = 1 ∧ parts.toList = [(0, x)] ∧ a.eval x = .slice b n c ∧ cs = [.slice b n c]) :
    ∃ c' : Array Value, (execOp a.eval o).run P w = .ok (.value (.slice (some ⟨w.heap.size, 0, none⟩) len len)) (w.alloc (.cells c' el)) ∧ c'.size = len ∧ ∀ (j : Nat) (v : Value), cs[j]? = some v → c'.getD j undef = v := by
  obtain ⟨i, z, hi, hz, hkk, hsz, hby, hzz⟩ := ty_inv (hE _ _ eel)
  have hz0 : CellsRel B0 (fun _ => False) w z.cells ty.zero := zero_rel (z := z) ty.zero hzz
  have hz2 := zeros_rel hz0 len
  rw [hz1] at hz2
  have hpm : (parts.map fun p => (p.1, a.eval p.2)).toList = parts.toList.map fun p => (p.1, a.eval p.2) := by simp
  have fin : ∀ {c' : Array Value}, Instr.fill (fun i => some (i * ty.size, ty.size)) ((Array.range (len * ty.size)).map (z.cells[· % z.cells.size]!)) (parts.map fun p => (p.1, a.eval p.2)).toList = some c' → len ≤ 1 →
      (execOp a.eval o).run P w = .ok (.value (.slice (some ⟨w.heap.size, 0, none⟩) len len)) (w.alloc (.cells c' el)) := by
    intro c' g1 hl1
    unfold execOp
    have hlim : ¬ (len * ty.size > 2 ^ 24) := by rw [hs1, Nat.mul_one]; omega
    by_cases h0 : len * ty.size = 0
    · have hcells : (Array.range (len * ty.size)).map (fun x => (#[] : Array Value)[x % (#[] : Array Value).size]!) = (Array.range (len * ty.size)).map (z.cells[· % z.cells.size]!) := by rw [h0]; simp
      rw [← hcells] at g1
      simp only [ho, Instr.buildSlice, Sem.run_bind, run_underlying hu, Result.andThen_ok, ty_size (hE _ _ eel), Sem.run_ite, hlim, if_false, Sem.run_pure, if_pos h0, g1, newRow, run_newObj]
      rfl
    · simp only [ho, Instr.buildSlice, Sem.run_bind, run_underlying hu, Result.andThen_ok, ty_size (hE _ _ eel), Sem.run_ite, hlim, if_false, Sem.run_pure, if_neg h0, zeroValue, typeInfo, run_program, hi, hz, g1, newRow, run_newObj]
      rfl
  rcases hcs with ⟨rfl, hp, rfl⟩ | ⟨x, b, n, c, rfl, hp, hx, rfl⟩
  · refine ⟨_, fin (by rw [hpm, hp]; rfl) (by omega), by simp, fun j v hv => by simp at hv⟩
  · have hzl : ∃ u, ty.zero = [u] := by
      match ty.zero, hz1 with
      | [u], _ => exact ⟨u, rfl⟩
    obtain ⟨u, hu1⟩ := hzl
    obtain ⟨c', g1, g2⟩ := fill_rel (β := B0) (S := fun _ => False) (w := w) (place := fun i => some (i * ty.size, ty.size)) [(0, a.eval x)] [(0, V.x (a.eval x))] ((Array.range (1 * ty.size)).map (z.cells[· % z.cells.size]!)) ty.zero [V.x (a.eval x)]
      (by have := hz2; rw [hs1]; simpa using this) rfl (fun k p q hp hq => by
        cases k with
        | zero => simp at hp hq; subst hp; subst hq; exact ⟨rfl, .x _⟩
        | succ k => simp at hp) (by rw [hu1, hx, hs1]; rfl)
    refine ⟨c', fin (by rw [hpm, hp]; exact g1) (by omega), by rw [g2.1]; rfl, fun j v hv => ?_⟩
    cases j with
    | zero =>
      simp at hv; subst hv
      have := g2.2 0 (V.x (a.eval x)) rfl
      generalize c'.getD 0 undef = q at this
      cases this
      exact hx
    | succ j => simp at hv
theorem done_buildO (hE : ∀ t x, E.ty t = some x → tyOf P t = some x) (hs : Sim w0 M S0 β S st a w) {nb : Nat} (hn : st.h nb = none) {t : TypeId} {len : Nat} {parts : Array (Nat × Operand)} (ho : o.op = .buildSlice t len parts) {e : Eff}
    (h : (oslOp E nb st.op (.buildSlice t len parts)).ev st.h = some (some e)) : Done P w0 M S0 β st o a w e := by
  simp only [oslOp] at h
  split at h
  case h_2 => simp [RM.ev] at h
  rename_i el _ _ _ _ et
  split at h
  case h_2 => simp [RM.ev] at h
  rename_i ty eel
  split at h
  case h_2 => simp [RM.ev] at h
  rename_i r hro
  obtain ⟨hrow, hr0, hflat⟩ := oslR_inv hro
  obtain ⟨hc, h3⟩ := ev_cond h
  clear h
  simp only [Bool.and_eq_true] at hc
  have hs1 := Nat.eq_of_beq_eq_true hc.1
  have hz1 := Nat.eq_of_beq_eq_true hc.2
  obtain ⟨_, _, _, _, hk, _⟩ := ty_inv (hE _ _ et)
  have hu := tk_sl hk.symm
  obtain ⟨σ, q⟩ := hs.hid
  split at h3
  case h_3 => simp [RM.ev] at h3
  · rename_i hp
    simp only [RM.ev, Option.some.injEq] at h3
    subst h3
    obtain ⟨c', hrun, hcs, _⟩ := run_buildO (P := P) (w := w) (a := a) (k := .b) hE ho hu eel hs1 hz1 (.inl ⟨rfl, hp, rfl⟩)
    obtain ⟨zr, hzr, hzl, hzg⟩ := reps (r := r) 0
    have hzr' : zr = ([] : List (DR [Ck.osl r])) := List.eq_nil_of_length_eq_zero hzl
    have hbel : Below w.heap.size w (w.alloc (.cells c' el)) := below_alloc (Below.refl _ _) rfl _
    have hnn : ∀ {id}, id ≠ nb → (st.setH nb ⟨.arr [.osl r] zr, false⟩).h id = st.h id := fun hid => setH_other _ _ hid
    have hnew := hs.newArr (w1 := w) (t := el) (row := [.osl r]) (xs := zr) (c := c') hn (Below.refl _ _) rfl (by rw [hzl]; simp) undefRows (.inr ⟨_, q.put (f := fun _ => none) (setH_same _ _ _) (upd_same _ _ _)
      (fun id row xss hid e => ⟨by rwa [hnn hid] at e, upd_other _ _ hid⟩) (fun id hb hid hh hd hf => ⟨hb, by rwa [hnn hid] at hh, hd, hf, upd_other _ _ hid⟩)
      (fun k x hx => by
        obtain ⟨hk, _⟩ := hzg k x hx
        omega)
      (fun _ _ e => by cases e) (fun _ _ _ e => by cases e) (fun _ _ e => by cases e) (fun id j _ ho e => by have := (q.own id j _ ho e).2.2; omega) (fun b hlt _ => hbel.block b hlt)
      (fun id b n _ _ ⟨row, xss, e⟩ e1 => by have := hs.blk_lt e (by simp) e1; exact ⟨this, by omega⟩) hbel.size (below_szs hbel)⟩)
    refine Done.value (cv := .slice (some ⟨w.heap.size, 0, none⟩) 0 0) hrun (by rw [hzr'] at hnew; exact hnew) ?_ (upd_ext _ (hs.fresh _ hn))
    refine .slw (len := 0) (upd_same _ _ _) ⟨_, el, (0, 0), heap_new rfl _, by omega⟩ (Nat.le_refl _)
  · rename_i x hp
    rw [RM.ev_bind] at h3
    obtain ⟨⟨id, xs⟩, h1, h2⟩ := bind_some h3
    simp only [RM.ev, Option.some.injEq] at h2
    subst h2
    obtain ⟨hlive, blk, n, hbt, hsub, cap, hxv⟩ := takeO_inv hs hr0 hflat h1 (hs.op x)
    obtain ⟨c', hrun, hcs, hcc⟩ := run_buildO (P := P) (w := w) (a := a) (k := .b) hE ho hu eel hs1 hz1 (.inr ⟨x, _, _, _, rfl, hp, hxv, rfl⟩)
    obtain ⟨zr, hzr, hzl, hzg⟩ := zrow (r := r) xs
    obtain ⟨hb0, hh0, hd0, hf0⟩ := hlive
    have hne : nb ≠ id := fun e => by subst e; rw [hn] at hh0; cases hh0
    have hk := hs.kill id false (by rw [hh0]; simp)
    have hbel : Below w.heap.size w (w.alloc (.cells c' el)) := below_alloc (Below.refl _ _) rfl _
    have hltb : blk < w.heap.size := hs.blk_lt hh0 hd0 hbt
    obtain ⟨oS, oM⟩ := hs.own id blk n ⟨hb0, hh0, hd0, hf0⟩ hbt
    have hst : ∀ {i}, i ≠ nb → i ≠ id → ((st.setH id ⟨.dead, false⟩).setH nb ⟨.arr [.osl r] zr, false⟩).h i = st.h i := fun h1 h2 => by rw [setH_other _ _ h1, setH_other _ _ h2]
    have hdd : ∀ {i : Nat} {hb : HB}, i ≠ nb → ((st.setH id ⟨.dead, false⟩).setH nb ⟨.arr [.osl r] zr, false⟩).h i = some hb → hb.blk ≠ .dead → i ≠ id := fun g1 g2 g3 e => by
      rw [e, setH_other _ _ (fun q => hne q.symm), setH_same] at g2; cases g2; exact g3 rfl
    have hnew := hk.newArr (w1 := w) (t := el) (row := [.osl r]) (xs := zr) (c := c') (by rw [setH_other _ _ hne]; exact hn) (Below.refl _ _) rfl (by rw [hzl, hcs]; exact Nat.le_refl _) undefRows (.inr ⟨_, q.put (f := fun k => if k = 0 then some blk else none) (setH_same _ _ _) (upd_same _ _ _)
      (fun i row xss hi e => by
        have h1 := hdd hi e (by simp)
        rw [hst hi h1] at e; exact ⟨e, upd_other _ _ hi⟩)
      (fun i hb hi hh hd hf => by
        have h1 := hdd hi hh hd
        rw [hst hi h1] at hh; exact ⟨hb, hh, hd, hf, upd_other _ _ hi⟩)
      (fun k y hy => by
        obtain ⟨rfl, rfl⟩ := hzg k y hy
        refine ⟨a.eval x, ?_, by simp only [if_pos]; exact hsub.mono (below_szs hbel) fun b hb => by cases hb; exact hbel.block _ hltb⟩
        rw [cell_row (heap_new rfl _) (by rw [hcs]; omega), hcc 0 _ rfl, hxv])
      (fun k b e => by
        simp only [Option.ite_none_right_eq_some, Option.some.injEq] at e
        obtain ⟨_, rfl⟩ := e
        exact ⟨oS, oM, Nat.lt_of_lt_of_le hltb hbel.size, by omega⟩)
      (fun k k' b e e' => by
        simp only [Option.ite_none_right_eq_some, Option.some.injEq] at e e'
        omega)
      (fun k b e => by
        simp only [Option.ite_none_right_eq_some, Option.some.injEq] at e
        obtain ⟨_, rfl⟩ := e
        refine ⟨fun i j hi hol hol' e => q.sep i j blk id hb0 n hol' hh0 hd0 hf0 e hbt, fun i hb m hi hh hd hf e => ?_⟩
        have h1 := hdd hi hh hd
        rw [hst hi h1] at hh
        exact h1 (hs.inj i id blk m n ⟨hb, hh, hd, hf⟩ ⟨hb0, hh0, hd0, hf0⟩ e hbt))
      (fun i j _ hol e => by have := (q.own i j _ hol e).2.2; omega) (fun b hlt _ => hbel.block b hlt)
      (fun i b m _ _ ⟨row, xss, e⟩ e1 => by have := hs.blk_lt e (by simp) e1; exact ⟨this, by omega⟩) hbel.size (below_szs hbel)⟩)
    refine Done.value (cv := .slice (some ⟨w.heap.size, 0, none⟩) 1 1) hrun (by rw [hzr] at hnew; exact hnew) ?_ (upd_ext _ (hs.fresh _ hn))
    refine .slw (len := 1) (upd_same _ _ _) ⟨_, el, (0, 0), heap_new rfl _, by omega⟩ (Nat.le_refl _)
theorem SubOk.slice {w : World} {sb : Option Nat} {cv : Value} {row : List Ck} {x : List (DR row)} (h : SubOk w sb cv row x) : ∃ b n c, cv = .slice b n c := by
  rcases h with ⟨_, _, e⟩ | ⟨b, cap, _, _, _, e, _⟩
  · exact ⟨_, _, _, e⟩
  · exact ⟨_, _, _, e⟩
theorem set_facts {α : Type} (l : List α) (i : Nat) (x : α) : ∃ z : List α, z = l.set i x ∧ z.length = l.length ∧ ∀ (k : Nat) (y : α), z[k]? = some y → (k = i ∧ y = x) ∨ (k ≠ i ∧ l[k]? = some y) := by
  refine ⟨_, rfl, List.length_set, fun k y hy => ?_⟩
  rw [List.getElem?_set] at hy
  split at hy
  · rename_i hik
    split at hy
    · cases hy; exact .inl ⟨hik.symm, rfl⟩
    · cases hy
  · rename_i hik
    exact .inr ⟨fun e => hik e.symm, hy⟩
/-- An own row is put into a block of owned slices. -/
theorem done_storeO (hE : ∀ t x, E.ty t = some x → tyOf P t = some x) (hs : Sim w0 M S0 β S st a w) {nb : Nat} {t : TypeId} {ad x : Operand} (ho : o.op = .store t ad x) {e : Eff} (h : (oslOp E nb st.op (.store t ad x)).ev st.h = some (some e)) : Done P w0 M S0 β st o a w e := by
  have hx := hs.op x
  have ha := hs.op ad
  simp only [oslOp] at h
  generalize st.op x = vx at h hx
  generalize st.op ad = va at h ha
  split at h
  case h_2 => simp [RM.ev] at h
  rename_i id s i j
  rw [RM.ev_bind] at h
  obtain ⟨r0, h1, h2⟩ := bind_some h
  clear h
  split at h2
  case h_2 => simp [RM.ev] at h2
  rename_i id' r xss
  obtain ⟨e1, hh⟩ := asO_inv h1
  cases e1
  split at h2
  case h_2 => simp [RM.ev] at h2
  rename_i ty et
  obtain ⟨hc, h3⟩ := ev_cond h2
  clear h2
  simp only [Bool.and_eq_true] at hc
  have hsz1 := Nat.eq_of_beq_eq_true hc.1.1.1
  have hj0 : j = 0 := Nat.eq_of_beq_eq_true hc.1.1.2
  have hr0 : r ≠ [] := by have := hc.1.2; simpa using this
  have hflat := hc.2
  subst hj0
  rw [RM.ev_bind] at h3
  obtain ⟨⟨id2, xs⟩, h4, h5⟩ := bind_some h3
  clear h3
  simp only at h5
  cases hne0 : Nat.beq id2 id with
  | true => rw [hne0] at h5; simp [RM.ev] at h5
  | false =>
  rw [hne0] at h5
  simp only [cond_false, RM.ev, Option.some.injEq] at h5
  have hne : id2 ≠ id := fun e => by rw [e, Nat.beq_refl] at hne0; cases hne0
  subst h5
  obtain ⟨hlive2, bk2, n2, hb2, hsub2, cap2, hxv⟩ := takeO_inv hs hr0 hflat h4 hx
  obtain ⟨blk, n, c1, hbt, hi⟩ := rel_rel ha
  obtain ⟨blk', c, tt, b1, b2, b3, b4⟩ := hs.blk id _ hh
  rw [hbt] at b1; cases b1
  have hlive : Live st id := ⟨_, hh, by simp, rfl⟩
  have hl1 : [Ck.osl r].length = 1 := rfl
  rw [hl1, Nat.mul_one] at b3
  have hi' : i < xss.length := by simp only [hl1] at hi; omega
  rw [Nat.mul_one, Nat.add_zero] at c1
  have hcell : (a.eval x).cells.toList = [a.eval x] := by rw [hxv]; rfl
  have hone : ∀ v ∈ (a.eval x).cells.toList, v.oneCell' = true := by
    rw [hcell]; intro v hv; rw [List.mem_singleton.1 hv, hxv]; rfl
  have hfit : i + (a.eval x).cells.toList.length ≤ c.size := by rw [hcell]; simp only [List.length_singleton]; omega
  have hst := run_storeCells_at P blk i tt (a.eval x).cells.toList 0 c w b2 (by rw [Nat.add_zero]; exact hfit) hone
  simp only [Nat.add_zero] at hst
  have hrun : (execOp a.eval o).run P w = .ok .skip (w.setRow blk (spliced c i (a.eval x).cells.toList)) := by
    unfold execOp
    have hne1 : ¬ ((a.eval x).cells.size ≠ ty.size) := by rw [← Array.length_toList, hcell, hsz1]; simp
    simp only [ho, Instr.storeAt, c1, Instr.sureAddr, Sem.run_bind, Sem.run_pure, Result.andThen_ok, storeVar, ty_size (hE _ _ et) w, Sem.run_ite, hne1, if_false, hst]
    rfl
  have hsp := spliced_size hfit
  have hw := Wrote.setRow (cs := spliced c i (a.eval x).cells.toList) b2 hsp
  have hh2 := setRow_heap w blk c (spliced c i (a.eval x).cells.toList) tt _ b2
  obtain ⟨hb0, hh0, hd0, hf0⟩ := hlive2
  obtain ⟨oS, oM⟩ := hs.own id2 bk2 n2 ⟨hb0, hh0, hd0, hf0⟩ hb2
  have hltb := hs.blk_lt hh0 hd0 hb2
  have hbb : bk2 ≠ blk := fun e => hne (hs.inj id2 id bk2 n2 _ ⟨hb0, hh0, hd0, hf0⟩ hlive hb2 (by rw [e]; exact hbt))
  obtain ⟨σ, q⟩ := hs.hid
  have hol : OL st.h id := ⟨r, xss, hh⟩
  have hk := hs.kill id2 false (by rw [hh0]; simp)
  have hlive1 : Live (st.setH id2 ⟨.dead, false⟩) id := (live_other (Ne.symm hne)).2 hlive
  obtain ⟨zr, hzr, hzl, hzg⟩ := set_facts (α := DR [Ck.osl r]) xss i xs
  have hst2 : ∀ {k}, k ≠ id → k ≠ id2 → ((st.setH id2 ⟨.dead, false⟩).setH id ⟨.arr [.osl r] zr, false⟩).h k = st.h k := fun g1 g2 => by rw [setH_other _ _ g1, setH_other _ _ g2]
  have hdd : ∀ {k : Nat} {hb : HB}, k ≠ id → ((st.setH id2 ⟨.dead, false⟩).setH id ⟨.arr [.osl r] zr, false⟩).h k = some hb → hb.blk ≠ .dead → k ≠ id2 := fun g1 g2 g3 e => by
    rw [e, setH_other _ _ hne, setH_same] at g2; cases g2; exact g3 rfl
  have hsim := hk.wrote hlive1 hbt hw (b := .arr [.osl r] zr) ⟨blk, spliced c i (a.eval x).cells.toList, tt, by rw [hbt, hzl], hh2, by rw [hsp, hzl, hl1, Nat.mul_one]; exact b3, undefRows (f := fun j => (spliced c i (a.eval x).cells.toList).getD j undef)⟩
    (.inr ⟨_, q.put (β' := β) (f := fun k => if k = i then some bk2 else σ id k) (setH_same _ _ _) hbt
      (fun k row yss hk1 e => by
        have g1 := hdd hk1 e (by simp)
        rw [hst2 hk1 g1] at e; exact ⟨e, rfl⟩)
      (fun k hb hk1 hh1 hd hf => by
        have g1 := hdd hk1 hh1 hd
        rw [hst2 hk1 g1] at hh1; exact ⟨hb, hh1, hd, hf, rfl⟩)
      (fun k y hy => by
        rcases hzg k y hy with ⟨rfl, rfl⟩ | ⟨hki, hy'⟩
        · refine ⟨a.eval x, ?_, by simp only [if_pos]; exact hsub2.mono hw.szs fun b hb => by cases hb; exact hw.block _ hbb⟩
          rw [cell_row hh2 (by rw [hsp]; omega), spliced_get hfit, hcell, if_pos ⟨Nat.le_refl _, by simp⟩, Nat.sub_self]; rfl
        · obtain ⟨cv, g1, g2⟩ := q.sub id r xss hh blk _ hbt k y hy'
          have hkl : k < xss.length := (List.getElem?_eq_some_iff.1 hy').1
          refine ⟨cv, ?_, by simp only [if_neg hki]; exact g2.mono hw.szs fun b hb => hw.block _ fun eb => by subst eb; exact q.sep id k _ id _ _ hol hh (by simp) rfl hb hbt⟩
          rw [cell_row b2 (by omega)] at g1
          rw [cell_row hh2 (by rw [hsp]; omega), spliced_get hfit, hcell, if_neg (by simp only [List.length_singleton]; omega)]
          exact g1)
      (fun k b e => by
        split at e
        · cases e; exact ⟨oS, oM, by rw [hw.size]; exact hltb, hbb⟩
        · obtain ⟨g1, g2, g3⟩ := q.own id k b hol e
          exact ⟨g1, g2, by rw [hw.size]; exact g3, fun eb => by subst eb; exact q.sep id k _ id _ _ hol hh (by simp) rfl e hbt⟩)
      (fun k k' b e e' => by
        split at e
        · cases e
          split at e'
          · omega
          · exact absurd hb2 (q.sep id k' bk2 id2 hb0 n2 hol hh0 hd0 hf0 e')
        · split at e'
          · cases e'
            exact absurd hb2 (q.sep id k bk2 id2 hb0 n2 hol hh0 hd0 hf0 e)
          · exact (q.inj id id k k' b hol hol e e').2)
      (fun k b e => by
        split at e
        · cases e
          refine ⟨fun k1 j1 hk1 _ ho1 e1 => q.sep k1 j1 bk2 id2 hb0 n2 ho1 hh0 hd0 hf0 e1 hb2, fun k1 hb m hk1 hh1 hd hf e1 => ?_⟩
          have g1 := hdd hk1 hh1 hd
          rw [hst2 hk1 g1] at hh1
          exact g1 (hs.inj k1 id2 bk2 m n2 ⟨hb, hh1, hd, hf⟩ ⟨hb0, hh0, hd0, hf0⟩ e1 hb2)
        · refine ⟨fun k1 j1 hk1 _ ho1 e1 => hk1 (q.inj k1 id j1 k b ho1 hol e1 e).1, fun k1 hb m hk1 hh1 hd hf e1 => ?_⟩
          have g1 := hdd hk1 hh1 hd
          rw [hst2 hk1 g1] at hh1
          exact q.sep id k b k1 hb m hol hh1 hd hf e e1)
      (fun k1 j1 _ ho1 e1 => q.sep k1 j1 blk id _ _ ho1 hh (by simp) rfl e1 hbt) (fun b _ hb => hw.block b hb)
      (fun k1 b m hk1 ho2 ⟨row, yss, e⟩ e1 => ⟨hs.blk_lt e (by simp) e1, fun eb => by subst eb; exact hk1 (hs.inj k1 id _ m _ ⟨_, e, by simp, rfl⟩ hlive e1 hbt)⟩) (by rw [hw.size]; exact Nat.le_refl _) hw.szs⟩)
  exact Done.skip (S' := S) hrun (by rw [hzr] at hsim; exact hsim) (fun _ _ e => e)
theorem firstCells_own {blk cap n : Nat} {c : Array Value} {t : TypeId} {fr : Nat × Nat} (hh : w.heap[blk]? = some (.cells c t fr)) (hn : n ≤ c.size) (w' : World) (hw' : w'.heap = w.heap) :
    (Builtin.firstCells 1 n (.slice (some ⟨blk, 0, none⟩) n cap)).run P w' = .ok (c.toList.take n).toArray w' := by
  have hlen : (c.toList.take n).length = n * 1 := by rw [List.length_take, Array.length_toList, Nat.mul_one]; exact Nat.min_eq_left hn
  refine run_firstCells_some (P := P) w' _ _ _ _ _ _ hlen (fun k v hk => ?_)
  rw [List.getElem?_take] at hk
  split at hk
  case isFalse => cases hk
  rw [addr_add_lit, cell_of_heap (w := w) (by rw [hw']), Nat.zero_add, cell_of_row w _ _ _ _ _ hh]
  simpa using hk
theorem app_facts {α : Type} (l m : List α) : ∃ z : List α, z = l ++ m ∧ z.length = l.length + m.length ∧ ∀ (k : Nat) (y : α), z[k]? = some y → (k < l.length ∧ l[k]? = some y) ∨ (l.length ≤ k ∧ m[k - l.length]? = some y) := by
  refine ⟨_, rfl, List.length_append, fun k y hy => ?_⟩
  rcases Nat.lt_or_ge k l.length with h | h
  · rw [List.getElem?_append_left h] at hy; exact .inl ⟨h, hy⟩
  · rw [List.getElem?_append_right h] at hy; exact .inr ⟨h, hy⟩
set_option maxHeartbeats 1000000 in
/-- Blocks of owned slices, one behind the other. -/
theorem done_appO (hE : ∀ t x, E.ty t = some x → tyOf P t = some x) (hs : Sim w0 M S0 β S st a w) {nb : Nat} (hn : st.h nb = none) {c : Call} {s x : Operand} {t u : TypeId} (ho : o.op = .call c) (hc : c.callee = .builtin .append)
    (hs0 : c.args[0]? = some s) (hx0 : c.args[1]? = some x) (ht0 : c.argTypes[0]? = some t) (hu0 : c.argTypes[1]? = some u) (hz2 : c.args.size = 2) (hz2' : c.argTypes.size = 2) {el' : TypeId} (huu : P.underlying u = some (.slice el')) {e : Eff}
    (h : (appO E nb t (st.op s) (st.op x)).ev st.h = some (some e)) : Done P w0 M S0 β st o a w e := by
  have hsr := hs.op s
  have hxr := hs.op x
  unfold appO at h
  split at h
  case h_2 => simp [RM.ev] at h
  rename_i el _ _ _ _ et
  split at h
  case h_2 => simp [RM.ev] at h
  rename_i ty eel
  split at h
  case h_2 => simp [RM.ev] at h
  rename_i r hro
  obtain ⟨hrow, hr0, hflat⟩ := oslR_inv hro
  obtain ⟨hcc, h1⟩ := ev_cond h
  clear h
  simp only [Bool.and_eq_true] at hcc
  have hrl := Nat.eq_of_beq_eq_true hcc.1.1.1
  have hzl0 := Nat.eq_of_beq_eq_true hcc.1.1.2
  have hby0 : 0 < ty.bytes := by have := hcc.2; rwa [Nat.blt_eq] at this
  have hsz1 : ty.size = 1 := by rw [← hrl, hrow]; rfl
  rw [RM.ev_bind] at h1
  obtain ⟨p1, g1, h2⟩ := bind_some h1
  rw [RM.ev_bind] at h2
  obtain ⟨p2, g2, h3⟩ := bind_some h2
  clear h1 h2
  split at h3
  case h_2 => simp [RM.ev] at h3
  rename_i id r1 xss id' r2 yss
  split at h3
  case isFalse => simp [RM.ev] at h3
  rename_i hbe
  obtain ⟨q1, q2⟩ := hbe
  obtain rfl := beqR_eq q1
  obtain rfl := beqR_eq q2
  obtain ⟨hne0, h4⟩ := ev_cond h3
  clear h3
  obtain ⟨hfit, h5⟩ := ev_guard h4
  clear h4
  have hfit' : (xss.length + yss.length) * ty.bytes ≤ 140737488355328 := of_decide_eq_true hfit
  have hne : id ≠ id' := fun e => by rw [e, Nat.beq_refl] at hne0; cases hne0
  obtain ⟨e1, hh1⟩ := asO_inv g1
  obtain ⟨e2, hh2⟩ := asO_inv g2
  obtain ⟨zr, hzr, hzl, hzg⟩ := app_facts (α := DR [Ck.osl r2]) xss yss
  have h6 : some (some ((V.slw nb 1, [(id', ⟨.dead, false⟩), (nb, ⟨.arr [.osl r2] zr, false⟩), (id, ⟨.dead, false⟩)]) : Eff)) = some (some e) := by rw [hzr]; exact h5
  simp only [Option.some.injEq] at h6
  clear h5
  subst h6
  rw [e1] at hsr
  rw [e2] at hxr
  obtain ⟨bA, capA, cA, tA, cvA, btA, heA, lA1, lA2⟩ := osl_cells hs hh1 hsr
  obtain ⟨bB, capB, cB, tB, cvB, btB, heB, lB1, lB2⟩ := osl_cells hs hh2 hxr
  obtain ⟨σ, q⟩ := hs.hid
  have olA : OL st.h id := ⟨_, _, hh1⟩
  have olB : OL st.h id' := ⟨_, _, hh2⟩
  have lvA : Live st id := ⟨_, hh1, by simp, rfl⟩
  have lvB : Live st id' := ⟨_, hh2, by simp, rfl⟩
  have ltA := hs.blk_lt hh1 (by simp) btA
  have ltB := hs.blk_lt hh2 (by simp) btB
  have nA : nb ≠ id := fun e => by rw [e, hh1] at hn; cases hn
  have nB : nb ≠ id' := fun e => by rw [e, hh2] at hn; cases hn
  have bAB : bB ≠ bA := fun e => hne (hs.inj id id' bA _ _ lvA lvB btA (by rw [← e]; exact btB))
  obtain ⟨_, _, _, _, hk, _⟩ := ty_inv (hE _ _ et)
  have hu := tk_sl hk.symm
  obtain ⟨i, z, hi, hz, hkk, hsz, hbb, hzz⟩ := ty_inv (hE _ _ eel)
  have his : i.size = 1 := by rw [← hsz]; exact hsz1
  have hargs : c.args.map a.eval = #[a.eval s, a.eval x] := by rw [arr2 hz2 hs0 hx0]; simp
  have htys : c.argTypes = #[t, u] := arr2 hz2' ht0 hu0
  have exec : ∀ {rv : Value} {w' : World}, (Builtin.append_ #[t, u] o.type #[a.eval s, a.eval x]).run P w = .ok rv w' → (execOp a.eval o).run P w = .ok (.value rv) w' := by
    intro rv w' hrun
    unfold execOp
    simp only [ho, resolve, hc, hargs, htys, Sem.run_bind, Sem.run_pure, Result.andThen_ok, invoke, builtin, hrun]
  have nl : (cB.toList.take yss.length).length = yss.length := by
    have h1 : cB.toList.length = cB.size := Array.length_toList
    have h2 : yss.length ≤ cB.toList.length := by rw [h1]; omega
    rw [List.length_take]; exact Nat.min_eq_left h2
  have ol : (cA.toList.take xss.length).length = xss.length := by
    have h1 : cA.toList.length = cA.size := Array.length_toList
    have h2 : xss.length ≤ cA.toList.length := by rw [h1]; omega
    rw [List.length_take]; exact Nat.min_eq_left h2
  have nf : ∀ w' : World, w'.heap = w.heap → (Builtin.firstCells i.size yss.length (.slice (some ⟨bB, 0, none⟩) yss.length capB)).run P w' = .ok (cB.toList.take yss.length).toArray w' := fun w' hw' => by
    rw [his]; exact firstCells_own heB (by omega) w' hw'
  have of : ∀ w' : World, w'.heap = w.heap → (Builtin.firstCells i.size xss.length (.slice (some ⟨bA, 0, none⟩) xss.length capA)).run P w' = .ok (cA.toList.take xss.length).toArray w' := fun w' hw' => by
    rw [his]; exact firstCells_own heA (by omega) w' hw'
  -- the cells of both
  have celA : ∀ (k : Nat) (y : List (DR r2)), xss[k]? = some y → SubOk w (σ id k) (cA.getD k undef) r2 y := fun k y hy => by
    obtain ⟨cv, w1, w2⟩ := q.sub id r2 xss hh1 bA _ btA k y hy
    have : k < xss.length := (List.getElem?_eq_some_iff.1 hy).1
    have w3 := cell_row heA (j := k) (by omega)
    rw [w3] at w1; cases w1; exact w2
  have celB : ∀ (k : Nat) (y : List (DR r2)), yss[k]? = some y → SubOk w (σ id' k) (cB.getD k undef) r2 y := fun k y hy => by
    obtain ⟨cv, w1, w2⟩ := q.sub id' r2 yss hh2 bB _ btB k y hy
    have : k < yss.length := (List.getElem?_eq_some_iff.1 hy).1
    have w3 := cell_row heB (j := k) (by omega)
    rw [w3] at w1; cases w1; exact w2
  have hone : ∀ v ∈ cB.toList.take yss.length, v.oneCell' = true := fun v hv => by
    obtain ⟨k, hk⟩ := List.getElem?_of_mem hv
    rw [List.getElem?_take] at hk
    split at hk
    case isFalse => cases hk
    rename_i hkl
    obtain ⟨b, n, cc, e3⟩ := (celB k _ (List.getElem?_eq_getElem hkl)).slice
    have : cB.getD k undef = v := by simp only [Array.getElem?_toList] at hk; simp [hk]
    rw [this] at e3; rw [e3]; rfl
  let f : Nat → Option Nat := fun k => if k < xss.length then σ id k else if k < xss.length + yss.length then σ id' (k - xss.length) else none
  have fcase : ∀ {k b : Nat}, f k = some b → (∃ j, k < xss.length ∧ j = k ∧ σ id j = some b) ∨ (∃ j, xss.length ≤ k ∧ j = k - xss.length ∧ σ id' j = some b) := fun {k b} e => by
    simp only [f] at e
    split at e
    · rename_i hkl; exact .inl ⟨k, hkl, rfl, e⟩
    · rename_i hkl
      split at e
      · exact .inr ⟨k - xss.length, by omega, rfl, e⟩
      · cases e
  have fown : ∀ {k b : Nat}, f k = some b → ∃ i1 j, (i1 = id ∨ i1 = id') ∧ OL st.h i1 ∧ σ i1 j = some b := fun {k b} e => by
    rcases fcase e with ⟨j, _, _, h⟩ | ⟨j, _, _, h⟩
    · exact ⟨id, j, .inl rfl, olA, h⟩
    · exact ⟨id', j, .inr rfl, olB, h⟩
  have finj : ∀ (k k' b : Nat), f k = some b → f k' = some b → k = k' := fun k k' b e e' => by
    rcases fcase e with ⟨j, h1, h2, h3⟩ | ⟨j, h1, h2, h3⟩ <;> rcases fcase e' with ⟨j', h1', h2', h3'⟩ | ⟨j', h1', h2', h3'⟩
    · have := (q.inj id id j j' b olA olA h3 h3').2; omega
    · exact absurd (q.inj id id' j j' b olA olB h3 h3').1 hne
    · exact absurd (q.inj id id' j' j b olA olB h3' h3).1 hne
    · have := (q.inj id' id' j j' b olB olB h3 h3').2; omega
  have fsubA : ∀ {k : Nat}, k < xss.length → f k = σ id k := fun {k} h => by simp only [f, if_pos h]
  have fsubB : ∀ {k : Nat}, xss.length ≤ k → k < xss.length + yss.length → f k = σ id' (k - xss.length) := fun {k} h h' => by simp only [f, if_neg (show ¬ k < xss.length by omega), if_pos h']
  -- which of the state's blocks live on
  let stf : St := ((st.setH id' ⟨.dead, false⟩).setH nb ⟨.arr [.osl r2] zr, false⟩).setH id ⟨.dead, false⟩
  have hst : ∀ {k}, k ≠ nb → k ≠ id → k ≠ id' → stf.h k = st.h k := fun a1 a2 a3 => by show (((st.setH id' _).setH nb _).setH id _).h _ = _; rw [setH_other _ _ a2, setH_other _ _ a1, setH_other _ _ a3]
  have hstn : stf.h nb = some ⟨.arr [.osl r2] zr, false⟩ := by show (((st.setH id' _).setH nb _).setH id _).h nb = _; rw [setH_other _ _ nA, setH_same]
  have hdd : ∀ {k : Nat} {hb : HB}, k ≠ nb → stf.h k = some hb → hb.blk ≠ .dead → k ≠ id ∧ k ≠ id' := fun {k hb} a1 a2 a3 => by
    have b1 : k ≠ id := fun e => by
      have : stf.h id = some ⟨.dead, false⟩ := setH_same _ _ _
      rw [e, this] at a2; cases a2; exact a3 rfl
    refine ⟨b1, fun e => ?_⟩
    have : stf.h id' = some ⟨.dead, false⟩ := by show (((st.setH id' _).setH nb _).setH id _).h id' = _; rw [setH_other _ _ (Ne.symm hne), setH_other _ _ (Ne.symm nB), setH_same]
    rw [e, this] at a2; cases a2; exact a3 rfl
  have put : ∀ {β' : Bt} {w' : World} {blk n : Nat}, β' nb = some (blk, n) → (∀ k, k ≠ nb → β' k = β k) → (∀ k (y : List (DR r2)), zr[k]? = some y → ∃ cv, w'.cell? ⟨blk, k, none⟩ = some cv ∧ SubOk w' (f k) cv r2 y) → (∀ k b, f k = some b → b ≠ blk) →
      (∀ k j, k ≠ nb → OL st.h k → σ k j ≠ some blk) → (∀ b, b < w.heap.size → b ≠ blk → w'.heap[b]? = w.heap[b]?) → (∀ k b n, k ≠ nb → k ≠ id → OL st.h k → β k = some (b, n) → b ≠ blk) → w.heap.size ≤ w'.heap.size → Szs w w' → Hid w0.heap.size M S β' stf.h w' := by
    intro β' w' blk n hβn hβo hsub hfb hblk hw hout hsz hzs
    refine ⟨_, q.put (f := f) hstn hβn (fun k row yss hk1 e => ?_) (fun k hb hk1 hh hd hf => ?_) hsub (fun k b e => ?_) finj (fun k b e => ?_) hblk hw (fun k b m hk1 ⟨row, yss, e2⟩ ho1 e => ?_) hsz hzs⟩
    · obtain ⟨a1, a2⟩ := hdd hk1 e (by simp)
      rw [hst hk1 a1 a2] at e; exact ⟨e, hβo k hk1⟩
    · obtain ⟨a1, a2⟩ := hdd hk1 hh hd
      rw [hst hk1 a1 a2] at hh; exact ⟨hb, hh, hd, hf, hβo k hk1⟩
    · obtain ⟨i1, j, _, o1, s1⟩ := fown e
      obtain ⟨a1, a2, a3⟩ := q.own i1 j b o1 s1
      exact ⟨a1, a2, Nat.lt_of_lt_of_le a3 hsz, hfb k b e⟩
    · obtain ⟨i1, j, hi1, o1, s1⟩ := fown e
      refine ⟨fun k1 j1 hk1 ⟨row, yss, e2⟩ ho1 s2 => ?_, fun k1 hb m hk1 hh hd hf => q.sep i1 j b k1 hb m o1 ?_ hd hf s1⟩
      · obtain ⟨a1, a2⟩ := hdd hk1 e2 (by simp)
        obtain ⟨rfl, _⟩ := q.inj k1 i1 j1 j b ho1 o1 s2 s1
        exact hi1.elim a1 a2
      · obtain ⟨a1, a2⟩ := hdd hk1 hh hd
        rw [hst hk1 a1 a2] at hh; exact hh
    · obtain ⟨a1, a2⟩ := hdd hk1 e2 (by simp)
      obtain ⟨row', yss', e3⟩ := ho1
      exact ⟨hs.blk_lt e3 (by simp) e, hout k b m hk1 a1 ⟨row', yss', e3⟩ e⟩
  have hkB := hs.kill id' false (by rw [hh2]; simp)
  have hnB : (st.setH id' ⟨.dead, false⟩).h nb = none := by rw [setH_other _ _ nB]; exact hn
  have lvA' : Live (st.setH id' ⟨.dead, false⟩) id := (live_other hne).2 lvA
  have hx := upd_ext (bA, zr.length * [Ck.osl r2].length) (hs.fresh nb hn)
  by_cases hroom : xss.length + yss.length ≤ capA
  · have hfitc : xss.length * i.size + (cB.toList.take yss.length).length ≤ cA.size := by rw [nl, his, Nat.mul_one]; omega
    have hrun := run_append_in (P := P) w t u o.type el el' i hu huu hi bA xss.length capA cA tA heA (cB.toList.take yss.length) (some ⟨bB, 0, none⟩) yss.length capB nf hone hroom hfitc
    rw [his, Nat.mul_one] at hfitc hrun
    have hsp := spliced_size hfitc
    have hw := Wrote.setRow (cs := spliced cA xss.length (cB.toList.take yss.length)) heA hsp
    have hh3 := setRow_heap w bA cA (spliced cA xss.length (cB.toList.take yss.length)) tA _ heA
    have noA : ∀ {k j b : Nat}, OL st.h k → σ k j = some b → b ≠ bA := fun {k j b} o1 s1 e => by subst e; exact q.sep k j _ id _ _ o1 hh1 (by simp) rfl s1 btA
    refine Done.value (cv := .slice (some ⟨bA, 0, none⟩) (xss.length + yss.length) capA) (exec (by rw [cvA, cvB]; exact hrun)) (hkB.move (n' := zr.length * [Ck.osl r2].length) lvA' btA hw hnB ⟨bA, spliced cA xss.length (cB.toList.take yss.length), tA, upd_same _ _ _, hh3, by rw [hsp, hzl]; show _ * 1 ≤ _; omega, undefRows (f := fun j => (spliced cA xss.length (cB.toList.take yss.length)).getD j undef)⟩ (.inr ?_)) ?_ hx
    · refine put (upd_same _ _ _) (fun k hk => upd_other _ _ hk) (fun k y hy => ?_) (fun k b e => by obtain ⟨i1, j, _, o1, s1⟩ := fown e; exact noA o1 s1) (fun k j _ o1 s1 => noA o1 s1 rfl) (fun b _ hb => hw.block b hb)
        (fun k b m _ hk2 ⟨row, yss', e3⟩ e4 eb => by subst eb; exact hk2 (hs.inj k id _ _ _ ⟨_, e3, by simp, rfl⟩ lvA e4 btA)) (by rw [hw.size]; exact Nat.le_refl _) hw.szs
      rcases hzg k y hy with ⟨hkl, hy'⟩ | ⟨hkl, hy'⟩
      · refine ⟨cA.getD k undef, ?_, by rw [fsubA hkl]; exact (celA k y hy').mono hw.szs fun b hb => hw.block b (noA olA hb)⟩
        rw [cell_row hh3 (j := k) (by rw [hsp]; omega), spliced_get hfitc, if_neg (by omega)]
      · have hkb : k - xss.length < yss.length := (List.getElem?_eq_some_iff.1 hy').1
        refine ⟨cB.getD (k - xss.length) undef, ?_, by rw [fsubB hkl (by omega)]; exact (celB _ y hy').mono hw.szs fun b hb => hw.block b (noA olB hb)⟩
        rw [cell_row hh3 (j := k) (by rw [hsp]; omega), spliced_get hfitc, nl, if_pos ⟨hkl, by omega⟩]
        simp only [List.getD, List.getElem?_take, if_pos hkb, Array.getElem?_toList, Array.getD_eq_getD_getElem?]
    · exact .slw (len := xss.length + yss.length) (by rw [upd_same, hzl]; rfl) ⟨_, _, _, hh3, by rw [hsp, Nat.mul_one]; exact lA2⟩ hroom
  · have hrun := run_append_gen (P := P) w t u o.type el el' i z hu huu hi hz (some ⟨bA, 0, none⟩) xss.length capA (cA.toList.take xss.length) (cB.toList.take yss.length) (some ⟨bB, 0, none⟩) yss.length capB of nf (by omega) (by rw [← hbb]; exact hfit') (by rw [← hbb]; exact hby0)
    generalize hgc : grownCap w (xss.length + yss.length) capA el = gc at hrun
    have hcap : xss.length + yss.length ≤ gc := by rw [← hgc]; exact grownCap_ge _ _ _ _
    generalize hcn : ((cA.toList.take xss.length).toArray ++ (cB.toList.take yss.length).toArray ++ Builtin.zeroCells z.cells (gc - (xss.length + yss.length))) = cn at hrun
    have hz1 : z.cells.size = 1 := by rw [← hsz1, ← hzl0, hzz]; simp
    have hcz : cn.size = gc := by
      rw [← hcn]
      simp only [Array.size_append, List.size_toArray, ol, nl, size_zeroCells, hz1]; omega
    have hcA : ∀ k, k < xss.length → cn.getD k undef = cA.getD k undef := fun k hk => by
      rw [← hcn]
      simp only [Array.getD_eq_getD_getElem?]
      rw [Array.append_assoc, Array.getElem?_append_left (by simp only [List.size_toArray, ol]; exact hk)]
      simp only [List.getElem?_toArray, List.getElem?_take, if_pos hk, Array.getElem?_toList]
    have hcB : ∀ k, xss.length ≤ k → k < xss.length + yss.length → cn.getD k undef = cB.getD (k - xss.length) undef := fun k hk hk' => by
      rw [← hcn]
      simp only [Array.getD_eq_getD_getElem?]
      rw [Array.getElem?_append_left (by simp only [Array.size_append, List.size_toArray, ol, nl]; exact hk'), Array.getElem?_append_right (by simp only [List.size_toArray, ol]; exact hk)]
      simp only [List.size_toArray, ol, List.getElem?_toArray, List.getElem?_take, if_pos (show k - xss.length < yss.length by omega), Array.getElem?_toList]
    have hkA := hkB.kill id false (by rw [setH_other _ _ hne, hh1]; simp)
    have hd : Below w.heap.size w w.drew := (Below.refl _ w).drew
    have hbel : Below w.heap.size w (w.drew.alloc (.cells cn el)) := below_alloc hd rfl _
    have hnh : (w.drew.alloc (.cells cn el)).heap[w.heap.size]? = some (.cells cn el (0, 0)) := heap_new (w := w) (w1 := w.drew) rfl _
    have hstc : ((st.setH id' ⟨.dead, false⟩).setH id ⟨.dead, false⟩).setH nb ⟨.arr [.osl r2] zr, false⟩ = stf := setH_comm _ _ _ (Ne.symm nA)
    have hnew := hkA.newArr (w1 := w.drew) (t := el) (row := [.osl r2]) (xs := zr) (c := cn) (by rw [setH_other _ _ nA]; exact hnB) hd rfl (by rw [hzl, hcz]; show _ * 1 ≤ _; omega) undefRows (.inr (by
      rw [hstc]
      refine put (upd_same _ _ _) (fun k hk => upd_other _ _ hk) (fun k y hy => ?_) (fun k b e => by obtain ⟨i1, j, _, o1, s1⟩ := fown e; have := (q.own i1 j b o1 s1).2.2; omega) (fun k j _ o1 s1 => by have := (q.own k j _ o1 s1).2.2; omega) (fun b hlt _ => hbel.block b hlt)
        (fun k b m _ _ ⟨row, yss', e3⟩ e4 => by have := hs.blk_lt e3 (by simp) e4; omega) hbel.size (below_szs hbel)
      have hsb : ∀ {i1 j b : Nat}, OL st.h i1 → σ i1 j = some b → (w.drew.alloc (.cells cn el)).heap[b]? = w.heap[b]? := fun o1 s1 => hbel.block _ (q.own _ _ _ o1 s1).2.2
      rcases hzg k y hy with ⟨hkl, hy'⟩ | ⟨hkl, hy'⟩
      · refine ⟨cA.getD k undef, ?_, by rw [fsubA hkl]; exact (celA k y hy').mono (below_szs hbel) fun b hb => hsb olA hb⟩
        rw [cell_row hnh (j := k) (by omega), hcA k hkl]
      · have hkb : k - xss.length < yss.length := (List.getElem?_eq_some_iff.1 hy').1
        refine ⟨cB.getD (k - xss.length) undef, ?_, by rw [fsubB hkl (by omega)]; exact (celB _ y hy').mono (below_szs hbel) fun b hb => hsb olB hb⟩
        rw [cell_row hnh (j := k) (by omega), hcB k hkl (by omega)]))
    rw [hstc] at hnew
    refine Done.value (exec (by rw [cvA, cvB]; exact hrun)) hnew (.slw (len := xss.length + yss.length) (by rw [upd_same, hzl]; rfl) ⟨_, el, (0, 0), heap_new rfl _, by rw [hcz, Nat.mul_one]; exact Nat.le_refl _⟩ hcap) (upd_ext _ (hs.fresh _ hn))
/-- What is read from, with all owned slices. -/
def Plus (S : Nat → Prop) (σ : Nat → Nat → Option Nat) (h : Nat → Option HB) (b : Nat) : Prop := S b ∨ ∃ id i, OL h id ∧ σ id i = some b
theorem snapO_rel (hs : Sim w0 M S0 β S st a w) {σ : Nat → Nat → Option Nat} (q : HidS w0.heap.size M S β σ st.h w) (v v' : V) (ids : List Nat) (cv : Value) (h : (snapO v).ev st.h = some (v', ids)) (hr : Rel β S w cv v) : Rel B0 (With β (Plus S σ st.h) ids) w cv v' ∧ NotDead st ids := by
  unfold snapO at h
  rw [RM.ev_bind] at h
  obtain ⟨r0, h1, h2⟩ := bind_some h
  clear h
  split at h2
  · rename_i id r xss
    obtain ⟨e1, hh⟩ := asO_inv h1
    subst e1
    have h3 : some ((V.ds [.sl r] xss, [id]) : V × List Nat) = some (v', ids) := h2
    simp only [Option.some.injEq, Prod.mk.injEq] at h3
    obtain ⟨rfl, rfl⟩ := h3
    obtain ⟨bA, capA, cA, tA, cvA, btA, heA, lA1, lA2⟩ := osl_cells hs hh hr
    subst cvA
    have hol : OL st.h id := ⟨_, _, hh⟩
    have hin : With β (Plus S σ st.h) [id] bA := .inr ⟨id, List.mem_singleton.2 rfl, _, btA⟩
    refine ⟨?_, fun i hi => by rw [List.mem_singleton.1 hi]; exact ⟨_, hh, by simp⟩⟩
    refine Rel.ds (row := [.sl r]) (xs := xss) (o := 0) hin (fun i c => cA.getD (i * 1 + c) undef) (fun i hi c hc => ?_) (fun i x hx c v hv => ?_) lA1
    · have hc0 : c = 0 := by have : [Ck.sl r].length = 1 := rfl; omega
      subst hc0
      rw [Nat.zero_add]
      have hi' : i < List.length (α := DR [Ck.osl r]) xss := hi
      have := cell_row heA (j := i * 1 + 0) (by omega)
      exact this
    · have hv' : ([V.ds r x] : List V)[c]? = some v := hv
      cases c with
      | succ c => simp at hv'
      | zero =>
      simp at hv'
      subst hv'
      have hx' : (show List (DR [Ck.osl r]) from xss)[i]? = some x := hx
      obtain ⟨cv, c1, c2⟩ := q.sub id r xss hh bA _ btA i x hx'
      have hil : i < List.length (α := DR [Ck.osl r]) xss := (List.getElem?_eq_some_iff.1 hx').1
      have c3 := cell_row heA (j := i) (by omega)
      rw [c3] at c1
      cases c1
      simp only [Nat.mul_one, Nat.add_zero]
      rcases c2 with ⟨rfl, _, e⟩ | ⟨b, cap, c, t, s1, s2, s3, s4, s5, s6⟩
      · rw [e]; exact .dsnil
      · rw [s2]
        refine Rel.ds (o := 0) (.inl (.inr ⟨id, i, hol, s1⟩)) (fun i' c' => c.getD (i' * r.length + c') undef) (fun i' hi' c' hc' => ?_) (fun i' y hy c' u hu => ?_) s3
        · rw [Nat.zero_add]
          refine cell_row s4 ?_
          have : (i' + 1) * r.length ≤ cap * r.length := Nat.mul_le_mul_right _ (by omega)
          rw [Nat.succ_mul] at this; omega
        · exact (s6 i' y hy c' u hu).mono (fun _ _ e => by cases e) (fun _ e => e.elim) (fun _ _ _ => rfl) (Szs.refl _)
  · obtain ⟨r1, r2⟩ := snap_rel hs 4 v v' ids cv h2 hr
    exact ⟨r1.grow fun b hb => hb.imp .inl id, r2⟩
theorem done_callO (hE : EnvOk P E) (hs : Sim w0 M S0 β S st a w) {nb : Nat} (hn : ∀ j, j < room → st.h (nb + j) = none) {c : Call} {fo : Operand} {f : FuncId} {caps : List V} (ho : o.op = .call c) (hc : c.callee = .value fo)
    (hf : st.op fo = .fn f caps) {e : Eff} (h : (callO E nb f (c.args.toList.map st.op ++ caps)).ev st.h = some e) : Done P w0 M S0 β st o a w e := by
  have hfr := hs.op fo
  rw [hf] at hfr
  obtain ⟨cs, hcs, hcl, hcr⟩ := rel_fn hfr
  have hargs := args_rel hs (args := c.args) hcl hcr
  unfold callO at h
  cases hm : E.mutF f with
  | true => rw [hm] at h; simp [RM.ev] at h
  | false =>
  rw [hm] at h
  simp only [cond_false] at h
  rw [RM.ev_bind] at h
  obtain ⟨⟨args', ids⟩, h1, h2⟩ := bind_some h
  rw [RM.ev_bind, RM.ev_ofTr] at h2
  obtain ⟨⟨v, bs⟩, h3, h4⟩ := bind_some h2
  obtain ⟨hroom, h5⟩ := ev_cond h4
  simp only [Bool.and_eq_true, Bool.not_eq_true', Bool.or_eq_false_iff] at hroom
  have hroom' := Nat.le_of_ble_eq_true hroom.1
  simp only [RM.ev, Option.some.injEq] at h5
  subst h5
  obtain ⟨σ, q⟩ := hs.hid
  obtain ⟨sl, sr, sd⟩ := snapL_rel (β := β) (S := S) (T := Plus S σ st.h) (w := w) (st := st) (sn := snapO) (snapO_rel hs q) _ _ _ (fun j => (c.args.map a.eval ++ cs).getD j undef) h1 hargs.2
  have hcok := hE.call f args' (v, bs) h3 w (With β (Plus S σ st.h) ids) (c.args.map a.eval ++ cs) (fun b hb => by
    rcases hb with (hb | ⟨id, i, hol, e⟩) | ⟨id, hid, n, e⟩
    · exact (hs.sb b hb).1
    · exact (q.own id i b hol e).2.2
    · obtain ⟨hb, hh, hd⟩ := sd id hid; exact hs.blk_lt hh hd e) ⟨by rw [hargs.1, sl], sr⟩
  intro K Q hK
  refine wp_of_entered (exec_call ho hc hcs) hcok fun e w' ⟨cv, β1, S1, he, hsim⟩ => ⟨cv, he, ?_⟩
  have hbel := below_of_kept hsim.kept
  obtain ⟨β', S', g1, g2, g3⟩ := hs.add hbel hsim (nb := nb) (fun j hj => hn j (Nat.lt_of_lt_of_le hj hroom')) (.inr hroom.2)
  exact hK β' S' cv w' g3 g1 g2
theorem ev_some {α : Type} {h : Nat → Option HB} {m : RM α} {e : α} (hh : (m.bind fun x => (RM.ok (some x) : RM (Option α))).ev h = some (some e)) : m.ev h = some e := by
  rw [RM.ev_bind] at hh
  obtain ⟨x, h1, h2⟩ := bind_some hh
  simp only [RM.ev, Option.some.injEq] at h2
  rw [← h2]; exact h1
theorem osl_done (hE : EnvOk P E) (hs : Sim w0 M S0 β S st a w) {nb : Nat} (hn : ∀ j, j < room → st.h (nb + j) = none) {e : Eff} (h : (oslOp E nb st.op o.op).ev st.h = some (some e)) : Done P w0 M S0 β st o a w e := by
  have hn0 : st.h nb = none := hn 0 (by decide)
  cases ho : o.op with
  | makeSlice t l c => rw [ho] at h; exact done_makeO hE.ty hs hn0 ho h
  | buildSlice t n ps => rw [ho] at h; exact done_buildO hE.ty hs hn0 ho h
  | store t x y => rw [ho] at h; exact done_storeO (nb := nb) hE.ty hs ho h
  | call c =>
    rw [ho] at h
    simp only [oslOp] at h
    split at h
    · rename_i fo hc
      split at h
      · rename_i f caps hf
        rw [RM.ev_bind] at h
        obtain ⟨b, h1, h2⟩ := bind_some h
        cases hb : b && !E.mutF f with
        | false => rw [hb] at h2; simp [RM.ev] at h2
        | true =>
          rw [hb] at h2
          exact done_callO hE hs hn ho hc hf (ev_some h2)
      · simp [RM.ev] at h
    · rename_i hc
      split at h
      · rename_i s x t u hs0 hx0 ht0 hu0
        split at h
        · rename_i el' _ _ _ _ eu
          cases hz : Nat.beq c.args.size 2 && Nat.beq c.argTypes.size 2 with
          | false => rw [hz] at h; simp [RM.ev] at h
          | true =>
            rw [hz] at h
            simp only [Bool.and_eq_true] at hz
            obtain ⟨_, _, _, _, hku, _⟩ := ty_inv (hE.ty _ _ eu)
            exact done_appO hE.ty hs hn0 ho hc hs0 hx0 ht0 hu0 (Nat.eq_of_beq_eq_true hz.1) (Nat.eq_of_beq_eq_true hz.2) (tk_sl hku.symm) h
        · simp [RM.ev] at h
      · simp [RM.ev] at h
    · simp [RM.ev] at h
  | _ => rw [ho] at h; simp [oslOp, RM.ev] at h
end
end Go.Proofs.Ytpglfnkkmafhbaa
