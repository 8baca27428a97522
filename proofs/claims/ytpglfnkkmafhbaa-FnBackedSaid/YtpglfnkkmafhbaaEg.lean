/- The abstract machine, part 7: structs and slices built; writing; slicing; lengths. -/
import Derived.Test.YtpglfnkkmafhbaaEf
set_option linter.unusedVariables false
set_option linter.unusedSimpArgs false
set_option linter.constructorNameAsVariable false
namespace Go.Proofs.Ytpglfnkkmafhbaa
open Go.RowKit
section
variable {P : Program} {E : Env} {w0 : World} {M S0 : Nat → Prop} {β : Bt} {S : Nat → Prop} {st : St} {a : Act} {w : World} {o : Oper}
theorem parts_rel (hs : Sim w0 M S0 β S st a w) (parts : Array (Nat × Operand)) : (((parts.map fun p => (p.1, a.eval p.2)).toList).length = (parts.toList.map fun p => (p.1, st.op p.2)).length) ∧
    ∀ (k : Nat) (p : Nat × Value) (q : Nat × V), (parts.map fun p => (p.1, a.eval p.2)).toList[k]? = some p → (parts.toList.map fun p => (p.1, st.op p.2))[k]? = some q → p.1 = q.1 ∧ Rel β S w p.2 q.2 := by
  refine ⟨by simp, fun k p q hp hq => ?_⟩
  rw [List.getElem?_map] at hq
  simp only [Array.toList_map, List.getElem?_map] at hp
  cases hk : parts.toList[k]? with
  | none => simp [hk] at hq
  | some x =>
    simp [hk] at hp hq
    subst hp; subst hq
    exact ⟨rfl, hs.op x.2⟩
theorem run_mapM_fields (fs : List Field) : ∀ (places : List (Nat × Nat)), fs.length = places.length → (∀ (j : Nat) (f : Field) (p : Nat × Nat), fs[j]? = some f → places[j]? = some p → ∃ x, tyOf P f.type = some x ∧ p = (f.offset, x.size)) →
    (fs.mapM (m := Sem) fun f => do pure (f.offset, ← sizeOf f.type)).run P w = .ok places w := by
  induction fs with
  | nil => intro places hl h; have : places = [] := List.eq_nil_of_length_eq_zero (by simpa using hl.symm); subst this; simp
  | cons f fs ih =>
    intro places hl h
    cases places with
    | nil => simp at hl
    | cons p places =>
      obtain ⟨x, hx, rfl⟩ := h 0 f p rfl rfl
      have := ih places (by simpa using hl) (fun j f p hf hp => h (j + 1) f p (by simpa using hf) (by simpa using hp))
      simp only [List.mapM_cons, Sem.run_bind, ty_size hx w, Result.andThen_ok, Sem.run_pure, this]
theorem done_build (hE : ∀ t x, E.ty t = some x → tyOf P t = some x) (hs : Sim w0 M S0 β S st a w) {nb : Nat} {t : TypeId} {parts : Array (Nat × Operand)} (ho : o.op = .build t parts) {e : Eff} (h : (opA E nb st.op (.build t parts)).ev st.h = some e) :
    Done P w0 M S0 β st o a w e := by
  simp only [opA] at h
  split at h
  case h_2 => simp [RM.ev] at h
  rename_i fs size by_ zero row et
  obtain ⟨hall, h⟩ := ev_cond h
  rw [RM.ev_bind, RM.ev_ofOpt] at h
  obtain ⟨l, hl, h⟩ := bind_some h
  obtain rfl := ev_ret h
  obtain ⟨i, z, hi, hz, hk, hsz, hby, hzz⟩ := ty_inv (hE _ _ et)
  obtain ⟨fields, hu, hfs⟩ := tk_st hk.symm
  have hz0 := zero_rel (β := β) (S := S) (w := w) (z := z) zero hzz
  obtain ⟨hpl, hpr⟩ := parts_rel hs parts
  let pl : Nat × TypeId → Nat × Nat := fun f => (f.1, ((E.ty f.2).map (·.size)).getD 0)
  have hall' : ∀ f ∈ fs, ∃ ft, E.ty f.2 = some ft := fun f hf => by
    have := List.all_eq_true.1 hall f hf
    exact Option.isSome_iff_exists.1 this
  have hm : (fields.mapM (m := Sem) fun f => do pure (f.offset, ← sizeOf f.type)).run P w = .ok (fs.map pl).toArray w := by
    rw [← Array.toArray_toList (xs := fields), List.mapM_toArray]
    have := run_mapM_fields (P := P) (w := w) fields.toList (fs.map pl) (by rw [hfs]; simp) (fun j f p hf hp => by
      rw [hfs, List.map_map, List.getElem?_map, hf] at hp
      simp only [Option.map_some, Option.some.injEq] at hp
      obtain ⟨ft, hft⟩ := hall' (f.offset, f.type) (by rw [hfs]; exact List.mem_map.2 ⟨f, List.mem_of_getElem? hf, rfl⟩)
      refine ⟨ft, hE _ _ hft, ?_⟩
      rw [← hp]
      simp only [Function.comp, pl]
      simp only at hft
      rw [hft]; rfl)
    rw [Sem.run_map, this]; rfl
  have hplace : (fun i => (fs.map pl).toArray[i]?) = (fun i : Nat => (fs[i]?).bind fun f : Nat × TypeId => (E.ty f.2).bind fun ft => some (f.1, ft.size)) := by
    funext i
    rw [List.getElem?_toArray, List.getElem?_map]
    cases hf : fs[i]? with
    | none => rfl
    | some f =>
      obtain ⟨ft, hft⟩ := hall' f (List.mem_of_getElem? hf)
      simp [pl, hft]
  obtain ⟨c', g1, g2⟩ := fill_rel (β := β) (S := S) (w := w) _ _ z.cells zero l hz0 hpl hpr hl
  refine Done.pure hs (cv := .agg c') ?_ (.agg g2.1 g2.2)
  unfold execOp
  simp only [ho, Instr.build, Sem.run_bind, zeroValue, typeInfo, run_program, Result.andThen_ok, hi, hz, Sem.run_pure, run_underlying hu, hm]
  rw [show (fun x => (fs.map pl).toArray[x]?) = _ from hplace, g1]
  simp
theorem flat_get {α : Type} (l : List α) : ∀ (n k : Nat), (List.replicate n l).flatten[k]? = if k < n * l.length then l[k % l.length]? else none := by
  intro n
  induction n with
  | zero => intro k; simp
  | succ n ih =>
    intro k
    rw [List.replicate_succ, List.flatten_cons]
    by_cases hk : k < l.length
    · rw [List.getElem?_append_left hk, if_pos (by rw [Nat.succ_mul]; omega), Nat.mod_eq_of_lt hk]
    · rw [List.getElem?_append_right (by omega), ih]
      have e : (k - l.length) % l.length = k % l.length := by
        have hk' : l.length ≤ k := by omega
        rw [← Nat.sub_add_cancel hk', Nat.add_mod_right, Nat.sub_add_cancel hk']
      rw [e]
      by_cases h2 : k - l.length < n * l.length
      · rw [if_pos h2, if_pos (by rw [Nat.succ_mul]; omega)]
      · rw [if_neg h2, if_neg (by rw [Nat.succ_mul]; omega)]
/-- Cells of zeros. -/
theorem zeros_rel {z : Value} {zero : List V} (h : CellsRel β S w z.cells zero) (n : Nat) : CellsRel β S w ((Array.range (n * zero.length)).map (z.cells[· % z.cells.size]!)) (List.replicate n zero).flatten := by
  refine ⟨by simp, fun j v hv => ?_⟩
  rw [flat_get] at hv
  split at hv
  · rename_i hlt
    have hmod := (List.getElem?_eq_some_iff.1 hv).1
    have hj : ((Array.range (n * zero.length)).map (z.cells[· % z.cells.size]!)).getD j undef = z.cells.getD (j % zero.length) undef := by
      have hz : j % z.cells.size < z.cells.size := by rw [h.1]; exact hmod
      simp [hlt, h.1, hmod]
    rw [hj]
    exact h.2 _ v hv
  · cases hv
end
end Go.Proofs.Ytpglfnkkmafhbaa
