/- The abstract machine, part 4: addresses, reading, making memory. -/
import Derived.Test.YtpglfnkkmafhbaaEc
import Derived.Laws.CopyRow
set_option linter.unusedVariables false
set_option linter.unusedSimpArgs false
set_option linter.constructorNameAsVariable false
namespace Go.Proofs.Ytpglfnkkmafhbaa
open Go.RowKit
section
variable {P : Program} {E : Env} {w0 : World} {M S0 : Nat → Prop} {β : Bt} {S : Nat → Prop} {st : St} {a : Act} {w : World} {o : Oper}
theorem done_nilCheck (hs : Sim w0 M S0 β S st a w) {nb : Nat} {x : Operand} (ho : o.op = .nilCheck x) {e : Eff} (h : (opA E nb st.op (.nilCheck x)).ev st.h = some e) : Done P w0 M S0 β st o a w e := by
  have hx := hs.op x
  simp only [opA] at h
  generalize st.op x = vx at h hx
  have fin : e = (vx, []) → (∃ ad, a.eval x = .pointer (some ad)) ∨ (∃ f cs, a.eval x = .func (.func f) #[] cs) → Done P w0 M S0 β st o a w e := by
    intro he hc
    subst he
    refine Done.pure hs (cv := a.eval x) ?_ hx
    unfold execOp
    rcases hc with ⟨ad, hc⟩ | ⟨f, cs, hc⟩ <;> simp [ho, hc]
  split at h
  · obtain ⟨blk, n, c1, _⟩ := rel_ref hx; exact fin (ev_ret h) (.inl ⟨_, c1⟩)
  · obtain ⟨blk, n, c1, _⟩ := rel_rel hx; exact fin (ev_ret h) (.inl ⟨_, c1⟩)
  · obtain ⟨blk, oo, g, c1, _⟩ := rel_dpt hx; exact fin (ev_ret h) (.inl ⟨_, c1⟩)
  · obtain ⟨cs, c1, _⟩ := rel_fn hx; exact fin (ev_ret h) (.inr ⟨_, _, c1⟩)
  · simp [RM.ev] at h
theorem done_makeFunc (hs : Sim w0 M S0 β S st a w) {nb : Nat} {f : FuncId} {first caps : Array Operand} (ho : o.op = .makeFunc (.func f) first caps) {e : Eff} (h : (opA E nb st.op (.makeFunc (.func f) first caps)).ev st.h = some e) : Done P w0 M S0 β st o a w e := by
  simp only [opA] at h
  obtain ⟨hf, h⟩ := ev_cond h
  have hf' : first = #[] := by simpa using hf
  subst hf'
  obtain rfl := ev_ret h
  refine Done.pure hs (cv := .func (.func f) #[] (caps.map a.eval)) ?_ (.fn (by simp) fun j v hv => ?_)
  · unfold execOp; simp [ho, Instr.makeFunc]
  · simp only [List.getElem?_map] at hv
    cases hj : caps.toList[j]? with
    | none => simp [hj] at hv
    | some x =>
      simp [hj] at hv; subst hv
      have : caps[j]? = some x := by simpa using hj
      simpa [this] using hs.op x
theorem addr_add_lit (b o n : Nat) : (⟨b, o, none⟩ : Addr).add n = ⟨b, o + n, none⟩ := by unfold Addr.add; split <;> simp_all
theorem done_fieldAddr (hE : ∀ t x, E.ty t = some x → tyOf P t = some x) (hs : Sim w0 M S0 β S st a w) {nb : Nat} {s : TypeId} {x : Operand} {fi : Nat} (ho : o.op = .fieldAddr s x fi) {e : Eff} (h : (opA E nb st.op (.fieldAddr s x fi)).ev st.h = some e) :
    Done P w0 M S0 β st o a w e := by
  have hx := hs.op x
  simp only [opA] at h
  generalize st.op x = vx at h hx
  split at h
  case h_2 => simp [RM.ev] at h
  rename_i fs _ _ _ _ es
  split at h
  case h_2 => simp [RM.ev] at h
  rename_i f hf
  split at h
  case h_2 => simp [RM.ev] at h
  rename_i ft eft
  obtain ⟨_, _, _, _, hk, _⟩ := ty_inv (hE _ _ es)
  obtain ⟨fields, hu, hfs⟩ := tk_st hk.symm
  cases hz : Nat.beq ft.size 0 with
  | true => rw [hz] at h; simp [RM.ev] at h
  | false =>
  rw [hz] at h
  simp only [cond_false] at h
  have hz' : ft.size ≠ 0 := fun e => by rw [e] at hz; simp at hz
  have hf1 : ∃ fl, fields[fi]? = some fl ∧ f = (fl.offset, fl.type) := by
    rw [hfs, List.getElem?_map] at hf
    cases hq : fields.toList[fi]? with
    | none => simp [hq] at hf
    | some fl => simp [hq] at hf; exact ⟨fl, by simpa using hq, hf.symm⟩
  obtain ⟨fl, hfl, rfl⟩ := hf1
  have hsz := ty_size (hE _ _ eft) w
  have fin : ∀ {v : V} {b oo : Nat}, e = (v, []) → a.eval x = .pointer (some ⟨b, oo, none⟩) → Rel β S w (.pointer (some ⟨b, oo + fl.offset, none⟩)) v → Done P w0 M S0 β st o a w e := by
    intro v b oo he hc hv
    subst he
    refine Done.pure hs ?_ hv
    unfold execOp
    simp [ho, hc, Instr.fieldAt, run_underlying hu, hfl, Instr.sureAddr, fieldPlace, hsz, hz', addr_add_lit]
  split at h
  · obtain ⟨blk, n, c1, hb⟩ := rel_ref hx; exact fin (ev_ret h) c1 (.ref hb)
  · obtain ⟨blk, n, c1, hb, hi⟩ := rel_rel hx; exact fin (ev_ret h) c1 (by rw [Nat.add_assoc]; exact .rel hb hi)
  · obtain ⟨blk, oo, g, c1, h1, h2, h3⟩ := rel_dpt hx; exact fin (ev_ret h) c1 (by rw [Nat.add_assoc]; exact .dpt h1 g h2 h3)
  · simp [RM.ev] at h
theorem take_drop_get {α : Type} {l : List α} {i n j : Nat} {v : α} (h : ((l.drop i).take n)[j]? = some v) : j < n ∧ l[i + j]? = some v := by
  rw [List.getElem?_take] at h
  split at h
  · rw [List.getElem?_drop] at h; exact ⟨by assumption, h⟩
  · cases h
theorem done_field (hE : ∀ t x, E.ty t = some x → tyOf P t = some x) (hs : Sim w0 M S0 β S st a w) {nb : Nat} {s : TypeId} {x : Operand} {fi : Nat} (ho : o.op = .field s x fi) {e : Eff} (h : (opA E nb st.op (.field s x fi)).ev st.h = some e) :
    Done P w0 M S0 β st o a w e := by
  have hx := hs.op x
  simp only [opA] at h
  generalize st.op x = vx at h hx
  split at h
  case h_2 => simp [RM.ev] at h
  rename_i fs _ _ _ _ l es
  split at h
  case h_2 => simp [RM.ev] at h
  rename_i f hf
  split at h
  case h_2 => simp [RM.ev] at h
  rename_i ft eft
  obtain ⟨_, _, _, _, hk, _⟩ := ty_inv (hE _ _ es)
  obtain ⟨fields, hu, hfs⟩ := tk_st hk.symm
  have hf1 : ∃ fl, fields[fi]? = some fl ∧ f = (fl.offset, fl.type) := by
    rw [hfs, List.getElem?_map] at hf
    cases hq : fields.toList[fi]? with
    | none => simp [hq] at hf
    | some fl => simp [hq] at hf; exact ⟨fl, by simpa using hq, hf.symm⟩
  obtain ⟨fl, hfl, rfl⟩ := hf1
  obtain ⟨_, _, _, _, hkf, _⟩ := ty_inv (hE _ _ eft)
  have hsz := ty_size (hE _ _ eft) w
  obtain ⟨cs, c1, hl, hcs⟩ := rel_agg hx
  split at h
  · rename_i fs' hfk
    obtain ⟨hle, h⟩ := ev_cond h
    have hle' := Nat.le_of_ble_eq_true hle
    obtain rfl := ev_ret h
    have hagg := run_isAgg_st (hkf.symm.trans hfk) w
    refine Done.pure hs (cv := .agg (cs.extract fl.offset (fl.offset + ft.size))) ?_ (.agg ?_ fun j v hv => ?_)
    · unfold execOp
      simp [ho, c1, Instr.field, run_underlying hu, hfl, asAgg, part, hagg, hsz]
    · simp only [Array.size_extract, List.length_take, List.length_drop]; simp only at hle'; omega
    · obtain ⟨hj, hv'⟩ := take_drop_get hv
      have hr := hcs _ v hv'
      have hlt : fl.offset + j < cs.size := by rw [hl]; exact (List.getElem?_eq_some_iff.1 hv').1
      have : (cs.extract fl.offset (fl.offset + ft.size)).getD j undef = cs.getD (fl.offset + j) undef := by
        simp only [Array.getD_eq_getD_getElem?]
        rw [Array.getElem?_extract_of_lt (by simp only at hle'; omega), Array.getElem?_eq_getElem hlt]
      rw [this]; exact hr
  · simp [RM.ev] at h
  · rename_i h1 h2
    rw [RM.ev_bind, RM.ev_ofOpt] at h
    simp only at h
    cases hv : l[fl.offset]? with
    | none => simp [hv] at h
    | some v =>
      simp only [hv, Option.bind_some] at h
      obtain rfl := ev_ret h
      have hagg := run_isAgg_no (P := P) (t := fl.type) (fun fs hh => h1 fs (hkf.trans hh)) (fun hh => h2 (hkf.trans hh)) w
      have hlt : fl.offset < cs.size := by rw [hl]; exact (List.getElem?_eq_some_iff.1 hv).1
      refine Done.pure hs (cv := cs.getD fl.offset undef) ?_ (hcs _ v hv)
      unfold execOp
      simp [ho, c1, Instr.field, run_underlying hu, hfl, asAgg, part, hagg, hlt]
theorem done_indexAddr (hE : ∀ t x, E.ty t = some x → tyOf P t = some x) (hs : Sim w0 M S0 β S st a w) {nb : Nat} {t : TypeId} {x ix : Operand} (ho : o.op = .indexAddr t x ix) {e : Eff} (h : (opA E nb st.op (.indexAddr t x ix)).ev st.h = some e) :
    Done P w0 M S0 β st o a w e := by
  have hx := hs.op x
  have hi := hs.op ix
  simp only [opA] at h
  generalize st.op x = vx at h hx
  generalize st.op ix = vi at h hi
  split at h
  case h_2 => simp [RM.ev] at h
  rename_i el _ _ _ _ k n es
  split at h
  case h_2 => simp [RM.ev] at h
  rename_i ty eel
  obtain ⟨_, _, _, _, hk, _⟩ := ty_inv (hE _ _ es)
  have hu := tk_sl hk.symm
  have hsz := ty_size (hE _ _ eel) w
  have c2 := rel_i hi
  have fin : ∀ {v : V} {b oo len cap : Nat}, e = (v, []) → a.eval x = .slice (some ⟨b, oo, none⟩) len cap → 0 ≤ n → n < len → Rel β S w (.pointer (some ⟨b, oo + n.toNat * ty.size, none⟩)) v → Done P w0 M S0 β st o a w e := by
    intro v b oo len cap he hc h0 hn hv
    subst he
    refine Done.pure hs ?_ hv
    unfold execOp
    simp [ho, hc, c2, Instr.indexAt, asIntOf, run_underlying hu, hsz, h0, hn, addr_add_lit]
  split at h
  · rename_i id s
    obtain ⟨blk, len, cap, c1, hb, hsz', hlc⟩ := rel_slw hx
    obtain ⟨hse, h⟩ := ev_cond h
    have hse' : s = ty.size := Nat.eq_of_beq_eq_true hse
    simp only [RM.ev] at h
    split at h
    case h_2 => cases h
    rename_i hb0 hh
    split at h
    case h_2 => simp [RM.ev] at h
    rename_i row xs hblk
    obtain ⟨hre, h⟩ := ev_cond h
    simp only [Bool.and_eq_true] at hre
    have hs0 : 0 < s := by have := hre.2; rwa [Nat.blt_eq] at this
    have hre' : row.length = s := Nat.eq_of_beq_eq_true hre.1
    obtain ⟨hg, h⟩ := ev_guard h
    simp only [Bool.and_eq_true, decide_eq_true_eq] at hg
    have hr := hs.blk id hb0 hh
    rw [hblk] at hr
    obtain ⟨blk', c, tt, b1, b2, b3, b4⟩ := hr
    rw [hb] at b1
    simp only [Option.some.injEq, Prod.mk.injEq] at b1
    obtain ⟨rfl, b1⟩ := b1
    have hll : len = xs.length := by rw [hre'] at b1; exact Nat.eq_of_mul_eq_mul_right hs0 b1
    have hnl : n.toNat < xs.length := by omega
    refine fin (ev_ret h) c1 hg.1 (by omega) ?_
    rw [← hse', Nat.zero_add]
    refine Rel.rel (i := n.toNat) (st := s) (j := 0) (n := len * s) hb ?_
    rw [← Nat.succ_mul, hll]
    exact Nat.mul_le_mul_right _ hnl
  · rename_i row xs
    obtain ⟨hre, h⟩ := ev_cond h
    have hre' : row.length = ty.size := Nat.eq_of_beq_eq_true hre
    obtain ⟨hg, h⟩ := ev_guard h
    simp only [Bool.and_eq_true, decide_eq_true_eq] at hg
    rcases rel_ds hx with ⟨_, rfl⟩ | ⟨blk, oo, cap, g, c1, h1, h2, h3, h4⟩
    · simp at hg; omega
    · have hnl : n.toNat < xs.length := by omega
      have hx0 : xs[n.toNat]? = some (xs.getD n.toNat (dflR row)) := by simp [hnl]
      refine fin (ev_ret h) c1 hg.1 hg.2 ?_
      rw [← hre', ← Nat.add_zero (oo + n.toNat * row.length)]
      refine .dpt (off := 0) (o := oo + n.toNat * row.length) h1 (g n.toNat) (fun j hj => ?_) (fun j v hv => h3 _ _ hx0 j v hv)
      rw [encR_length] at hj
      exact h2 n.toNat hnl j hj
  · simp [RM.ev] at h
end
end Go.Proofs.Ytpglfnkkmafhbaa
