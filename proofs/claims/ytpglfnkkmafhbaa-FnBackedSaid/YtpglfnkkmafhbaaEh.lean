/- The abstract machine, part 8: writing; slices made, cut, measured. -/
import Derived.Test.YtpglfnkkmafhbaaEg
set_option linter.unusedVariables false
set_option linter.unusedSimpArgs false
set_option linter.constructorNameAsVariable false
namespace Go.Proofs.Ytpglfnkkmafhbaa
open Go.RowKit
section
variable {P : Program} {E : Env} {w0 : World} {M S0 : Nat → Prop} {β : Bt} {S : Nat → Prop} {st : St} {a : Act} {w : World} {o : Oper}
def spliced (cur : Array Value) (oo : Nat) (vs : List Value) : Array Value := (cur.toList.take oo ++ vs ++ cur.toList.drop (oo + vs.length)).toArray
theorem spliced_size {cur : Array Value} {oo : Nat} {vs : List Value} (h : oo + vs.length ≤ cur.size) : (spliced cur oo vs).size = cur.size := by
  simp only [spliced, List.size_toArray, List.length_append, List.length_take, List.length_drop, Array.length_toList]; omega
theorem spliced_get {cur : Array Value} {oo : Nat} {vs : List Value} (h : oo + vs.length ≤ cur.size) (k : Nat) : (spliced cur oo vs).getD k undef = if oo ≤ k ∧ k < oo + vs.length then vs.getD (k - oo) undef else cur.getD k undef := by
  simp only [spliced, Array.getD_eq_getD_getElem?, List.getElem?_toArray, List.append_assoc]
  have htk : (cur.toList.take oo).length = oo := by simp; omega
  by_cases h1 : k < oo
  · rw [if_neg (by omega), List.getElem?_append_left (by rw [htk]; exact h1), List.getElem?_take, if_pos h1]; simp
  · rw [List.getElem?_append_right (by rw [htk]; omega), htk]
    by_cases h2 : k < oo + vs.length
    · rw [if_pos ⟨by omega, h2⟩, List.getElem?_append_left (by omega)]
      rfl
    · rw [if_neg (by omega), List.getElem?_append_right (by omega), List.getElem?_drop, show oo + vs.length + (k - oo - vs.length) = k from by omega]; simp
theorem Wrote.setRow {g : Nat} {cur cs : Array Value} {t : TypeId} {fr : Nat × Nat} (hg : w.heap[g]? = some (.cells cur t fr)) (hz : cs.size = cur.size) : Wrote g w (w.setRow g cs) :=
  ⟨rfl, rfl, rfl, by simp, fun k hk => setRow_other w g k cs hk, fun b c t' fr' hb => by
    by_cases e : b = g
    · subst e
      rw [hg] at hb; cases hb
      exact ⟨cs, _, setRow_heap w b _ cs _ _ hg, hz⟩
    · exact ⟨c, fr', by rw [setRow_other w g b cs e]; exact hb, rfl⟩⟩
theorem setMany_get : ∀ (vs l : List V) (off j : Nat), (setMany l off vs)[j]? = if off ≤ j ∧ j < off + vs.length ∧ j < l.length then vs[j - off]? else l[j]?
  | [], l, off, j => by rw [if_neg (by simp; omega)]; rfl
  | v :: vs, l, off, j => by
    rw [setMany, setMany_get vs (l.set off v) (off + 1) j, List.length_set, List.getElem?_set]
    by_cases h1 : off + 1 ≤ j ∧ j < off + 1 + vs.length ∧ j < l.length
    · rw [if_pos h1, if_pos ⟨by omega, by simp; omega, h1.2.2⟩, show j - off = (j - (off + 1)) + 1 from by omega, List.getElem?_cons_succ]
    · rw [if_neg h1]
      by_cases h2 : off = j
      · subst h2
        rw [if_pos rfl]
        by_cases h3 : off < l.length
        · rw [if_pos h3, if_pos ⟨Nat.le_refl _, by simp, h3⟩]; simp
        · rw [if_neg h3, if_neg (by omega), List.getElem?_eq_none (by omega)]
      · rw [if_neg h2, if_neg (by simp; omega)]
theorem scalars_one {vs : List V} {q : Array Value} (hsc : vs.all isScalar = true) (hl : q.size = vs.length) (hr : ∀ j v, vs[j]? = some v → Rel β S w (q.getD j undef) v) : ∀ v ∈ q.toList, v.oneCell' = true := by
  intro v hv
  obtain ⟨j, hj⟩ := List.getElem?_of_mem hv
  have hlt : j < vs.length := by have := (List.getElem?_eq_some_iff.1 hj).1; rw [← hl]; simpa using this
  have hu : vs[j]? = some vs[j] := List.getElem?_eq_getElem hlt
  have := hr j _ hu
  have hq : q.getD j undef = v := by
    have hj' : q[j]? = some v := by simpa using hj
    simp [hj']
  rw [hq] at this
  exact rel_scalar this (List.all_eq_true.1 hsc _ (List.mem_of_getElem? hu))
theorem done_makeSlice (hE : ∀ t x, E.ty t = some x → tyOf P t = some x) (hs : Sim w0 M S0 β S st a w) {nb : Nat} (hn : st.h nb = none) {t : TypeId} {lo co : Operand} (ho : o.op = .makeSlice t lo co) {e : Eff}
    (h : (opA E nb st.op (.makeSlice t lo co)).ev st.h = some e) : Done P w0 M S0 β st o a w e := by
  have h1 := hs.op lo
  have h2 := hs.op co
  simp only [opA] at h
  generalize st.op lo = vl at h h1
  generalize st.op co = vc at h h2
  split at h
  case h_2 => simp [RM.ev] at h
  rename_i el _ _ _ _ et
  split at h
  case h_2 => simp [RM.ev] at h
  rename_i ty n m eel
  obtain ⟨hg, hh⟩ := ev_guard h
  clear h
  simp only [Bool.and_eq_true, decide_eq_true_eq] at hg
  obtain ⟨⟨hnm, hpos⟩, hby⟩ := hg
  obtain ⟨hc, h3⟩ := ev_cond hh
  clear hh
  simp only [Bool.and_eq_true] at hc
  have hrow := Nat.eq_of_beq_eq_true hc.1.1
  have hzl := Nat.eq_of_beq_eq_true hc.1.2
  have hb0 : 0 < ty.bytes := by have := hc.2; rwa [Nat.blt_eq] at this
  rw [RM.ev_bind, RM.ev_ofOpt] at h3
  obtain ⟨x, hx, h4⟩ := bind_some h3
  simp only [RM.ev, Option.some.injEq] at h4
  subst h4
  have c1 := rel_i h1
  have c2 := rel_i h2
  rw [← hnm] at c2
  obtain ⟨_, _, _, _, hk, _⟩ := ty_inv (hE _ _ et)
  have hu := tk_sl hk.symm
  obtain ⟨i, z, hi, hz, hkk, hsz, hbb, hzz⟩ := ty_inv (hE _ _ eel)
  have hz0 : CellsRel β S w z.cells ty.zero := zero_rel (z := z) ty.zero hzz
  have hb48 : (i.bytes : Int) * n ≤ 281474976710656 := by
    rw [← hbb, Int.mul_comm]; omega
  have h63 : n ≤ 9223372036854775807 := by
    have : n * 1 ≤ n * (ty.bytes : Int) := Int.mul_le_mul_of_nonneg_left (by omega) hpos
    omega
  have hrun := run_make (P := P) w t el i z hu hi hz .i64 .i64 n n hpos (Int.le_refl _) hb48 h63
  have hz1 := zeros_rel hz0 n.toNat
  rw [hzl, hsz] at hz1
  have hxl := decR_len _ _ _ hx
  have hrows : RowsAt β S w (fun j => (madeCells z.cells (n.toNat * i.size)).getD j undef) ty.row (List.replicate n.toNat x) := by
    intro k y hy j v hv
    rw [List.getElem?_replicate] at hy
    split at hy
    case isFalse => cases hy
    rename_i hk
    cases hy
    refine decR_rel ty.row _ _ (fun j => (madeCells z.cells (n.toNat * i.size)).getD (k * ty.row.length + j) undef) hx (fun j u hu => ?_) j v hv
    have hju := (List.getElem?_eq_some_iff.1 hu).1
    refine hz1.2 (k * ty.row.length + j) u ?_
    rw [flat_get, hzl, hrow]
    have hj' : j < ty.size := by rw [← hzl]; exact hju
    rw [if_pos ?_, Nat.mul_comm, Nat.mul_add_mod, Nat.mod_eq_of_lt hj']
    · exact hu
    · have : (k + 1) * ty.size ≤ n.toNat * ty.size := Nat.mul_le_mul_right _ hk
      rw [Nat.succ_mul] at this; omega
  have hsize : (List.replicate n.toNat x).length * ty.row.length ≤ (madeCells z.cells (n.toNat * i.size)).size := by
    rw [size_madeCells, List.length_replicate, hrow, hsz]; exact Nat.le_refl _
  have hnew := hs.newArr (w1 := w) (t := el) hn (Below.refl _ _) rfl hsize hrows (.inl (ty_noO (hE _ _ eel) _))
  refine Done.value (cv := .slice (some ⟨w.heap.size, 0, none⟩) n.toNat n.toNat) ?_ hnew ?_ (upd_ext _ (hs.fresh _ hn))
  · unfold execOp
    simp only [ho, c1, c2, Sem.run_bind, hrun, Result.andThen_ok, Sem.run_pure]
  · refine .slw (len := n.toNat) (by rw [upd_same, List.length_replicate, hrow]) ⟨_, el, (0, 0), heap_new rfl _, by rw [size_madeCells, hsz]; exact Nat.le_refl _⟩ (Nat.le_refl _)
end
end Go.Proofs.Ytpglfnkkmafhbaa
