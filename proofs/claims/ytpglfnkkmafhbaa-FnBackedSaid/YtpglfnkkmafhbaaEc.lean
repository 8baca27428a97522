/- The abstract machine, part 3: its operations stand for those of the model (those that make no memory). -/
import Derived.Test.YtpglfnkkmafhbaaEb
set_option linter.unusedVariables false
set_option linter.unusedSimpArgs false
set_option linter.constructorNameAsVariable false
namespace Go.Proofs.Ytpglfnkkmafhbaa
open Go.RowKit

/-- What it is that an operation's doing is right. -/
def Done (P : Program) (w0 : World) (M S0 : Nat → Prop) (β : Bt) (st : St) (o : Oper) (a : Act) (w : World) (e : Eff) : Prop :=
  ∀ (K : Act → World → Prop) (Q : Exit → Act → World → Prop), (∀ β' S' cv w', (∀ id p, β id = some p → β' id = some p) → Sim w0 M S0 β' S' (st.setHs e.2) a w' → Rel β' S' w' cv e.1 → K (a.put o.dst cv) w') → o.wp P a w K Q
section
variable {P : Program} {E : Env} {w0 : World} {M S0 : Nat → Prop} {β : Bt} {S : Nat → Prop} {st : St} {a : Act} {w : World} {o : Oper}
theorem Done.value {e : Eff} {cv : Value} {w' : World} {β' : Bt} {S' : Nat → Prop} (h : (execOp a.eval o).run P w = .ok (.value cv) w') (hs : Sim w0 M S0 β' S' (st.setHs e.2) a w') (hr : Rel β' S' w' cv e.1) (hx : ∀ id p, β id = some p → β' id = some p) : Done P w0 M S0 β st o a w e :=
  fun K Q hK => by unfold Oper.wp; rw [h]; exact hK β' S' cv w' hx hs hr
theorem Done.skip {wr : List (Nat × HB)} {w' : World} {β' : Bt} {S' : Nat → Prop} (h : (execOp a.eval o).run P w = .ok .skip w') (hs : Sim w0 M S0 β' S' (st.setHs wr) a w') (hx : ∀ id p, β id = some p → β' id = some p) : Done P w0 M S0 β st o a w (.undef, wr) :=
  fun K Q hK => by unfold Oper.wp; rw [h]; exact hK β' S' undef w' hx hs (.undef _)
/-- A value, and some draws. -/
theorem Done.draws (hs : Sim w0 M S0 β S st a w) {v : V} {cv : Value} {n : Nat} (h : (execOp a.eval o).run P w = .ok (.value cv) (w.drewN n)) (hr : Rel β S w cv v) : Done P w0 M S0 β st o a w (v, []) := by
  have hb : Below w.heap.size w (w.drewN n) := ⟨rfl, rfl, rfl, Nat.le_refl _, fun _ _ => rfl⟩
  have hz : Szs w (w.drewN n) := below_szs hb
  have hr' : Rel β S (w.drewN n) cv v := Rel.mono (w := w) (w' := w.drewN n) (fun _ _ e => e) (fun _ e => e) (fun _ _ _ => rfl) hz hr
  exact Done.value (β' := β) (S' := S) h (hs.below hb) hr' (fun _ _ e => e)
theorem Done.pure (hs : Sim w0 M S0 β S st a w) {v : V} {cv : Value} (h : (execOp a.eval o).run P w = .ok (.value cv) w) (hr : Rel β S w cv v) : Done P w0 M S0 β st o a w (v, []) :=
  Done.value (β' := β) (S' := S) h hs hr (fun _ _ e => e)

theorem fl_lit' {k : FloatKind} {r : Nat} (h : Nat.blt r (2 ^ k.format.width) = true) : Fl k r (cn k r) := ⟨rfl, Nat.blt_eq.mp h⟩
theorem ofValue_rel (v : Value) : Rel β S w v (ofValue v) := by
  unfold ofValue
  split
  · exact .lb _
  · exact .i _ _
  · rename_i k r
    cases h : Nat.blt r (2 ^ k.format.width) with
    | true => exact .f (fl_lit' h)
    | false => exact .undef _
  · rename_i k r s
    cases h : Nat.blt r (2 ^ k.format.width) with
    | true =>
      cases h' : Nat.blt s (2 ^ k.format.width) with
      | true => exact .c (fl_lit' h) (fl_lit' h')
      | false => exact .undef _
    | false => exact .undef _
  · exact .nilp
  · exact .nils
  · exact .nilf
  · rename_i g first caps
    cases h : first.isEmpty && caps.isEmpty with
    | true =>
      simp only [Bool.and_eq_true, Array.isEmpty_iff] at h
      obtain ⟨rfl, rfl⟩ := h
      exact .fn (by simp) (fun j v hv => by simp at hv)
    | false => exact .undef _
  · exact .x _
theorem Sim.op (hs : Sim w0 M S0 β S st a w) (x : Operand) : Rel β S w (a.eval x) (st.op x) := by
  cases x with
  | tmp t => exact hs.tm t
  | const v => exact ofValue_rel v
  | global g => exact .x _
  | func f => exact .fn (by simp) (fun j v hv => by simp at hv)

theorem tk_sl {t e : TypeId} (h : tkOf P t = .sl e) : P.underlying t = some (.slice e) := by
  unfold tkOf at h; split at h <;> simp_all
theorem tk_b {t : TypeId} (h : tkOf P t = .b) : P.underlying t = some .bool := by
  unfold tkOf at h; split at h <;> simp_all
theorem tk_i {t : TypeId} {k : IntKind} (h : tkOf P t = .i k) : P.underlying t = some (.int k) := by
  unfold tkOf at h; split at h <;> simp_all
theorem tk_f {t : TypeId} {k : FloatKind} (h : tkOf P t = .f k) : P.underlying t = some (.float k) := by
  unfold tkOf at h; split at h <;> simp_all
theorem tk_st {t : TypeId} {fs : List (Nat × TypeId)} (h : tkOf P t = .st fs) : ∃ fields : Array Field, P.underlying t = some (.struct fields) ∧ fs = fields.toList.map fun f => (f.offset, f.type) := by
  unfold tkOf at h; split at h <;> simp_all
theorem run_isAgg_st {t : TypeId} {fs : List (Nat × TypeId)} (h : tkOf P t = .st fs) (w : World) : (isAgg t).run P w = .ok true w := by
  obtain ⟨fields, hu, _⟩ := tk_st h
  simp [isAgg, run_underlying hu]
theorem run_isAgg_no {t : TypeId} (h1 : ∀ fs, tkOf P t ≠ .st fs) (h2 : tkOf P t ≠ .other) (w : World) : (isAgg t).run P w = .ok false w := by
  unfold tkOf at h1 h2
  split at h1 <;> simp_all [isAgg, run_underlying]
theorem ty_inv {t : TypeId} {x : Ty} (h : tyOf P t = some x) : ∃ i z, P.info? t = some i ∧ i.zero = some z ∧ x.k = tkOf P t ∧ x.size = i.size ∧ x.bytes = i.bytes ∧ x.zero = z.cells.toList.map ofValue := by
  unfold tyOf at h
  cases hi : P.info? t with
  | none => simp [hi] at h
  | some i =>
    cases hz : i.zero with
    | none => simp [hi, hz] at h
    | some z => simp [hi, hz] at h; subst h; exact ⟨i, z, rfl, hz, rfl, rfl, rfl, rfl⟩
theorem ty_size {t : TypeId} {x : Ty} (h : tyOf P t = some x) (w : World) : (sizeOf t).run P w = .ok x.size w := by
  obtain ⟨i, z, hi, _, _, hs, _⟩ := ty_inv h
  simp [sizeOf, typeInfo, hi, hs]

theorem ev_ret {v : V} {e : Eff} (h : (ret v).ev st.h = some e) : e = (v, []) := by simp [ret, RM.ev] at h; exact h.symm
theorem ev_guard {α : Type} {b : Bool} {k : RM α} {e : α} {h : Nat → Option HB} (hh : (RM.guard b k).ev h = some e) : b = true ∧ k.ev h = some e := by
  cases b <;> simp [RM.guard, RM.ev] at hh ⊢; exact hh
theorem ev_cond {α : Type} {b : Bool} {k : RM α} {e : α} {h : Nat → Option HB} (hh : RM.ev h (bif b then k else .bad) = some e) : b = true ∧ k.ev h = some e := by
  cases b <;> simp [RM.ev] at hh ⊢; exact hh

/-! ### Numbers -/
theorem binA_int {op : BinOp} {t : TypeId} {k k' : IntKind} {m n : Int} {e : Eff} (h : (binA op (.i k m) (.i k' n)).ev st.h = some e) : ∃ v cv, e = (v, []) ∧ (binOp op t (.int k m) (.int k' n)).run P w = .ok cv w ∧ Rel β S w cv v := by
  simp only [binA] at h
  cases hsh : isShr op with
  | true =>
    rw [hsh] at h
    simp only [cond_true] at h
    obtain ⟨hg, h⟩ := ev_guard h
    have hn := of_decide_eq_true hg
    cases op <;> simp only [isShr] at hsh <;> try (cases hsh; done)
    refine ⟨_, _, ev_ret h, ?_, .i k (ishr k m n)⟩
    simp only [binOp, Op.shift, if_neg (show ¬ n < 0 by omega), ishr, Sem.run_pure]
  | false =>
  rw [hsh] at h
  simp only [cond_false] at h
  obtain ⟨hk, h⟩ := ev_cond h
  obtain rfl : k = k' := by simpa using hk
  cases op <;> simp only [cmpI] at h <;> try (simp only [isShr] at hsh; cases hsh; done)
  case and => exact ⟨_, _, ev_ret h, by simp [binOp, Op.intBits, iand], .i _ _⟩
  case add => exact ⟨_, _, ev_ret h, by simp [binOp, Op.intArith], .i _ _⟩
  case sub => exact ⟨_, _, ev_ret h, by simp [binOp, Op.intArith], .i _ _⟩
  case mul => exact ⟨_, _, ev_ret h, by simp [binOp, Op.intArith], .i _ _⟩
  case quo => obtain ⟨hg, h⟩ := ev_guard h; exact ⟨_, _, ev_ret h, by simp at hg; simp [binOp, Op.intDiv, hg], .i _ _⟩
  case rem => obtain ⟨hg, h⟩ := ev_guard h; exact ⟨_, _, ev_ret h, by simp at hg; simp [binOp, Op.intDiv, hg], .i _ _⟩
  case eql => exact ⟨_, _, ev_ret h, by simp [binOp, Op.intCmp], .b _⟩
  case neq => exact ⟨_, _, ev_ret h, by simp [binOp, Op.intCmp], .b _⟩
  case lss => exact ⟨_, _, ev_ret h, by simp [binOp, Op.intCmp], .b _⟩
  case leq => exact ⟨_, _, ev_ret h, by simp [binOp, Op.intCmp], .b _⟩
  case gtr => exact ⟨_, _, ev_ret h, by simp [binOp, Op.intCmp], .b _⟩
  case geq => exact ⟨_, _, ev_ret h, by simp [binOp, Op.intCmp], .b _⟩
  all_goals simp [RM.ev] at h
theorem binA_float {op : BinOp} {t : TypeId} {k k' : FloatKind} {r s c d : Nat} {e : Eff} (hr : Fl k r c) (hs : Fl k' s d) (h : (binA op (.f k c) (.f k' d)).ev st.h = some e) :
    ∃ v cv n, e = (v, []) ∧ (binOp op t (.float k r) (.float k' s)).run P w = .ok cv (w.drewN n) ∧ Rel β S w cv v := by
  simp only [binA] at h
  obtain ⟨hk, h⟩ := ev_cond h
  obtain rfl : k = k' := by simpa using hk
  cases ho : isArith op with
  | true =>
    simp only [ho, decide_true, cond_true] at h
    obtain ⟨r', n, h1, h2⟩ := run_farith (P := P) w op ho t k r s
    rw [hr.out, hs.out] at h2
    exact ⟨_, _, n, ev_ret h, h1, .f h2⟩
  | false =>
    simp only [ho, decide_true, cond_true, cond_false] at h
    have e1 := hr.out; have e2 := hs.out
    subst e1; subst e2
    cases op <;> simp [isArith] at ho <;> simp only [cmpF] at h
    case eql => exact ⟨_, .bool (feq k r s), 0, ev_ret h, (by show (binOp _ t _ _).run P w = Result.ok _ w; simp [binOp, Op.floatCmp, feq]; try rfl), by rw [feq_cn]; exact .b _⟩
    case neq => exact ⟨_, .bool (!feq k r s), 0, ev_ret h, (by show (binOp _ t _ _).run P w = Result.ok _ w; simp [binOp, Op.floatCmp, feq]; try rfl), by rw [feq_cn]; exact .b _⟩
    case lss => exact ⟨_, .bool (flt k r s), 0, ev_ret h, (by show (binOp _ t _ _).run P w = Result.ok _ w; simp [binOp, Op.floatCmp, flt]; try rfl), by rw [flt_cn]; exact .b _⟩
    case leq => exact ⟨_, .bool (fle k r s), 0, ev_ret h, (by show (binOp _ t _ _).run P w = Result.ok _ w; simp [binOp, Op.floatCmp, fle]; try rfl), by rw [fle_cn]; exact .b _⟩
    case gtr => exact ⟨_, .bool (fgt k r s), 0, ev_ret h, (by show (binOp _ t _ _).run P w = Result.ok _ w; simp [binOp, Op.floatCmp, fgt]; try rfl), by rw [fgt_cn]; exact .b _⟩
    case geq => exact ⟨_, .bool (fge k r s), 0, ev_ret h, (by show (binOp _ t _ _).run P w = Result.ok _ w; simp [binOp, Op.floatCmp, fge]; try rfl), by rw [fge_cn]; exact .b _⟩
    all_goals simp [RM.ev] at h
theorem eqB_ev {op : BinOp} {r : Bool} {e : Eff} (h : (eqB op r).ev st.h = some e) : (op = .eql ∧ e = (.b r, [])) ∨ (op = .neq ∧ e = (.b !r, [])) := by
  unfold eqB at h
  split at h
  · exact .inl ⟨rfl, ev_ret h⟩
  · exact .inr ⟨rfl, ev_ret h⟩
  · simp [RM.ev] at h

/-- What a value must be to stand for such a value. -/
theorem rel_i {cv : Value} {k : IntKind} {n : Int} (h : Rel β S w cv (.i k n)) : cv = .int k n := by cases h; rfl
theorem rel_b {cv : Value} {q : Bool} (h : Rel β S w cv (.b q)) : cv = .bool q := by cases h; rfl
theorem rel_lb {cv : Value} {q : Bool} (h : Rel β S w cv (.lb q)) : cv = .bool q := by cases h; rfl
theorem rel_boolOf {cv : Value} {v : V} {q : Bool} (hb : boolOf v = some q) (h : Rel β S w cv v) : cv = .bool q := by
  cases v <;> simp [boolOf] at hb
  · subst hb; exact rel_b h
  · subst hb; exact rel_lb h
theorem rel_f {cv : Value} {k : FloatKind} {c : Nat} (h : Rel β S w cv (.f k c)) : ∃ r, cv = .float k r ∧ Fl k r c := by cases h; rename_i r h; exact ⟨r, rfl, h⟩
theorem rel_c {cv : Value} {k : FloatKind} {p q : Nat} (h : Rel β S w cv (.c k p q)) : ∃ r s, cv = .complex k r s ∧ Fl k r p ∧ Fl k s q := by cases h; rename_i r s h h'; exact ⟨r, s, rfl, h, h'⟩
theorem rel_nils {cv : Value} (h : Rel β S w cv .nils) : cv = .slice none 0 0 := by cases h; rfl
theorem rel_slw {cv : Value} {id st : Nat} (h : Rel β S w cv (.slw id st)) : ∃ blk len cap, cv = .slice (some ⟨blk, 0, none⟩) len cap ∧ β id = some (blk, len * st) ∧ (∃ c t fr, w.heap[blk]? = some (.cells c t fr) ∧ cap * st ≤ c.size) ∧ len ≤ cap := by
  cases h; rename_i blk len cap h1 h2 h3; exact ⟨blk, len, cap, rfl, by assumption, by assumption, by assumption⟩
theorem rel_ds0 {cv : Value} (h : Rel β S w cv .ds0) : ∃ ad, cv = .slice ad 0 0 := by cases h; exact ⟨_, rfl⟩
theorem rel_ds {cv : Value} {row : List Ck} {xs : List (DR row)} (h : Rel β S w cv (.ds row xs)) : ((∃ a cap, cv = .slice a 0 cap) ∧ xs = []) ∨ ∃ blk oo cap, ∃ g : Nat → Nat → Value, cv = .slice (some ⟨blk, oo, none⟩) xs.length cap ∧ S blk ∧
    (∀ i, i < xs.length → ∀ c, c < row.length → w.cell? ⟨blk, oo + i * row.length + c, none⟩ = some (g i c)) ∧ (∀ i x, xs[i]? = some x → ∀ c v, (encR row x)[c]? = some v → Rel β S w (g i c) v) ∧ xs.length ≤ cap := by
  cases h
  · rename_i blk oo cap hS g hc hr hl; exact .inr ⟨blk, oo, cap, g, rfl, hS, hc, hr, hl⟩
  · exact .inl ⟨⟨_, _, rfl⟩, rfl⟩
theorem rel_ref {cv : Value} {id off : Nat} (h : Rel β S w cv (.ref id off)) : ∃ blk n, cv = .pointer (some ⟨blk, off, none⟩) ∧ β id = some (blk, n) := by cases h; rename_i blk n h; exact ⟨blk, n, rfl, h⟩
theorem rel_rel {cv : Value} {id st i j : Nat} (h : Rel β S w cv (.rel id st i j)) : ∃ blk n, cv = .pointer (some ⟨blk, i * st + j, none⟩) ∧ β id = some (blk, n) ∧ i * st + st ≤ n := by cases h; rename_i blk n h1 h2; exact ⟨blk, n, rfl, h1, h2⟩
theorem rel_dpt {cv : Value} {l : List V} {off : Nat} (h : Rel β S w cv (.dpt l off)) : ∃ blk oo, ∃ g : Nat → Value, cv = .pointer (some ⟨blk, oo + off, none⟩) ∧ S blk ∧ (∀ j, j < l.length → w.cell? ⟨blk, oo + j, none⟩ = some (g j)) ∧ ∀ j v, l[j]? = some v → Rel β S w (g j) v := by
  cases h; rename_i blk oo hS g hc hr; exact ⟨blk, oo, g, rfl, hS, hc, hr⟩
theorem rel_agg {cv : Value} {l : List V} (h : Rel β S w cv (.agg l)) : ∃ cs, cv = .agg cs ∧ cs.size = l.length ∧ ∀ j v, l[j]? = some v → Rel β S w (cs.getD j undef) v := by cases h; rename_i cs hl h; exact ⟨cs, rfl, hl, h⟩
theorem rel_tup {cv : Value} {l : List V} (h : Rel β S w cv (.tup l)) : ∃ cs, cv = .tuple cs ∧ cs.size = l.length ∧ ∀ j v, l[j]? = some v → Rel β S w (cs.getD j undef) v := by cases h; rename_i cs hl h; exact ⟨cs, rfl, hl, h⟩
theorem rel_fn {cv : Value} {g : FuncId} {l : List V} (h : Rel β S w cv (.fn g l)) : ∃ cs, cv = .func (.func g) #[] cs ∧ cs.size = l.length ∧ ∀ j v, l[j]? = some v → Rel β S w (cs.getD j undef) v := by cases h; rename_i cs hl h; exact ⟨cs, rfl, hl, h⟩
theorem run_eqGuard_plain {op : BinOp} {t : TypeId} {x y : Operand} {c d : Value} (h1 : c ≠ .nilIface) (h2 : ∀ l, c ≠ .agg l) : (eqGuard op t x y c d).run P w = .ok () w := by
  unfold eqGuard
  by_cases ho : op = .eql ∨ op = .neq
  · rcases ho with rfl | rfl
    all_goals
      simp
      cases c <;> cases d <;> first | rfl | exact absurd rfl h1 | exact absurd rfl (h2 _)
  · cases op <;> first | rfl | simp at ho
theorem eqOk_inv {t : TypeId} (h : eqOk P t = true) : P.stoodInHeld t = false ∧ P.eqGuardType P.depth t = false ∧ ∃ fs : Array Field, P.underlying t = some (.struct fs) ∧ ∀ f ∈ fs.toList, f.name ≠ "_" ∧ ∃ k, P.underlying f.type = some (.int k) := by
  unfold eqOk at h
  simp only [Bool.and_eq_true, Bool.not_eq_true'] at h
  obtain ⟨⟨h1, h2⟩, h3⟩ := h
  refine ⟨h1, h2, ?_⟩
  split at h3
  case h_2 => cases h3
  rename_i fs hu
  refine ⟨fs, hu, fun f hf => ?_⟩
  have := List.all_eq_true.1 h3 f hf
  simp only [Bool.and_eq_true] at this
  refine ⟨by simpa using this.1, ?_⟩
  have h4 := this.2
  split at h4
  · rename_i k hk; exact ⟨k, hk⟩
  · cases h4
theorem run_eqGuard_agg {op : BinOp} {t : TypeId} {x y : Operand} {cs ds : Array Value} (h : eqOk P t = true) : (eqGuard op t x y (.agg cs) (.agg ds)).run P w = .ok () w := by
  obtain ⟨_, h2, _⟩ := eqOk_inv h
  unfold eqGuard
  by_cases ho : op = .eql ∨ op = .neq
  · rcases ho with rfl | rfl
    all_goals simp [h2]
  · cases op <;> first | rfl | simp at ho
theorem eqLb_ev {op : BinOp} {r : Bool} {e : Eff} (h : (eqLb op r).ev st.h = some e) : (op = .eql ∧ e = (.lb r, [])) ∨ (op = .neq ∧ e = (.lb !r, [])) := by
  unfold eqLb at h
  split at h
  · exact .inl ⟨rfl, ev_ret h⟩
  · exact .inr ⟨rfl, ev_ret h⟩
  · simp [RM.ev] at h
theorem eqF_list (hE : ∀ t x, E.ty t = some x → tyOf P t = some x) {op : BinOp} {cs ds : Array Value} {l m : List V} (r1 : ∀ j v, l[j]? = some v → Rel β S w (cs.getD j undef) v) (r2 : ∀ j v, m[j]? = some v → Rel β S w (ds.getD j undef) v) {e : Eff} : ∀ (fs : List Field), (∀ f ∈ fs, f.name ≠ "_") →
    (eqF E op (fs.map fun f => (f.offset, f.type)) l m).ev st.h = some e → ∃ q : Bool, (∀ (d : Nat), (forIn (m := Sem) fs ((none, ()) : Option Bool × Unit) fun f r => do
      if f.name ≠ "_" then
        if (!(← Op.equalIn (d + 1) f.type (← part f.type cs f.offset) (← part f.type ds f.offset))) = true then pure (ForInStep.done (some false, ())) else pure (ForInStep.yield (none, ()))
      else pure (ForInStep.yield (none, ()))).run P w = .ok (if q then none else some false, ()) w) ∧ ((op = .eql ∧ e = (.lb q, [])) ∨ (op = .neq ∧ e = (.lb !q, [])))
  | [], _, h => ⟨true, fun d => by simp, eqLb_ev h⟩
  | f :: fs, hn, h => by
    simp only [List.map_cons, eqF] at h
    split at h
    case h_2 => simp [RM.ev] at h
    rename_i ki sz by_ z row k a k' b et e1 e2
    obtain ⟨hk, h⟩ := ev_cond h
    obtain rfl : k = k' := by simpa using hk
    have g1 := rel_i (r1 _ _ e1)
    have g2 := rel_i (r2 _ _ e2)
    obtain ⟨_, _, _, _, hkk, _⟩ := ty_inv (hE _ _ et)
    have hu := tk_i hkk.symm
    have hagg : (isAgg f.type).run P w = .ok false w := by simp [isAgg, run_underlying hu]
    have p1 : (part f.type cs f.offset).run P w = .ok (.int k a) w := by
      have : cs[f.offset]? = some (.int k a) := by
        rw [Array.getD_eq_getD_getElem?] at g1
        cases hc : cs[f.offset]? with
        | none => rw [hc] at g1; simp [undef] at g1
        | some v => rw [hc] at g1; simp at g1; rw [g1]
      simp [part, hagg, this]
    have p2 : (part f.type ds f.offset).run P w = .ok (.int k b) w := by
      have : ds[f.offset]? = some (.int k b) := by
        rw [Array.getD_eq_getD_getElem?] at g2
        cases hc : ds[f.offset]? with
        | none => rw [hc] at g2; simp [undef] at g2
        | some v => rw [hc] at g2; simp at g2; rw [g2]
      simp [part, hagg, this]
    have p3 : ∀ d, (Op.equalIn (d + 1) f.type (.int k a) (.int k b)).run P w = .ok (a == b) w := fun d => by
      unfold Op.equalIn
      simp [run_underlying hu]
    have hnm : f.name ≠ "_" := hn f List.mem_cons_self
    simp only [RM.ev] at h
    cases hab : (a == b) with
    | true =>
      rw [hab] at h
      obtain ⟨q, h1, h2⟩ := eqF_list hE r1 r2 fs (fun g hg => hn g (List.mem_cons_of_mem _ hg)) h
      refine ⟨q, fun d => ?_, h2⟩
      have := h1 d
      simp only [List.forIn_cons, if_pos hnm, Sem.run_bind, p1, p2, p3, hab, Result.andThen_ok, Bool.not_true, Bool.false_eq_true, if_false, Sem.run_pure]
      exact this
    | false =>
      rw [hab] at h
      refine ⟨false, fun d => ?_, eqLb_ev h⟩
      simp only [List.forIn_cons, if_pos hnm, Sem.run_bind, p1, p2, p3, hab, Result.andThen_ok, Bool.not_false, if_true, Sem.run_pure]
      rfl
theorem eqF_run (hE : ∀ t x, E.ty t = some x → tyOf P t = some x) {op : BinOp} {t : TypeId} {fs : List (Nat × TypeId)} (hq : eqOk P t = true) (hk : tkOf P t = .st fs) {cs ds : Array Value} {l m : List V} (r1 : ∀ j v, l[j]? = some v → Rel β S w (cs.getD j undef) v) (r2 : ∀ j v, m[j]? = some v → Rel β S w (ds.getD j undef) v) {e : Eff}
    (h : (eqF E op fs l m).ev st.h = some e) : ∃ q : Bool, (Op.equal t (.agg cs) (.agg ds)).run P w = .ok q w ∧ ((op = .eql ∧ e = (.lb q, [])) ∨ (op = .neq ∧ e = (.lb !q, []))) := by
  obtain ⟨h1, _, fields, hu, hf⟩ := eqOk_inv hq
  obtain ⟨fields', hu', rfl⟩ := tk_st hk
  rw [hu] at hu'
  cases hu'
  obtain ⟨q, g1, g2⟩ := eqF_list hE r1 r2 fields.toList (fun f hf' => (hf f hf').1) h
  refine ⟨q, ?_, g2⟩
  have := g1 9998
  unfold Op.equal Op.maxDepth
  rw [show (10000 : Nat) = 9999 + 1 from rfl]
  unfold Op.equalIn
  simp only [Sem.run_bind, run_underlying hu, Result.andThen_ok, run_program, h1, Bool.false_eq_true, if_false, Sem.run_pure]
  rw [← Array.forIn_toList]
  simp only [Sem.run_bind, this, Result.andThen_ok]
  cases q <;> simp
/-- A binary operation. -/
theorem done_bin (hE : ∀ t x, E.ty t = some x → tyOf P t = some x) (hQ : ∀ t, E.eqT t = true → eqOk P t = true) (hs : Sim w0 M S0 β S st a w) {nb : Nat} {op : BinOp} {t u : TypeId} {x y : Operand} (ho : o.op = .binOp op t x y u) {e : Eff} (h : (opA E nb st.op (.binOp op t x y u)).ev st.h = some e) :
    Done P w0 M S0 β st o a w e := by
  have hx := hs.op x
  have hy := hs.op y
  have fin : ∀ {v : V} {cv : Value} {n : Nat}, e = (v, []) → (∀ l, a.eval x ≠ .agg l) → a.eval x ≠ .nilIface → (binOp op t (a.eval x) (a.eval y)).run P w = .ok cv (w.drewN n) → Rel β S w cv v → Done P w0 M S0 β st o a w e := by
    intro v cv n he h1 h2 hr hv
    subst he
    refine Done.draws hs (n := n) ?_ hv
    unfold execOp
    simp only [ho, Sem.run_bind, run_eqGuard_plain h2 h1, Result.andThen_ok, hr, Sem.run_pure]
  simp only [opA] at h
  split at h
  · rename_i sz by_ z row et
    split at h
    case h_2 => simp [RM.ev] at h
    rename_i p q e1 e2
    have c1 := rel_boolOf e1 hx; have c2 := rel_boolOf e2 hy
    obtain ⟨_, _, _, _, hk, _⟩ := ty_inv (hE _ _ et)
    have hu := tk_b hk.symm
    have heq : (Op.equal t (.bool p) (.bool q)).run P w = .ok (p == q) w := by
      unfold Op.equal Op.maxDepth Op.equalIn
      simp [run_underlying hu]
    obtain ⟨rfl, rfl⟩ | ⟨rfl, rfl⟩ := eqB_ev h
    · exact fin (n := 0) (cv := .bool (p == q)) rfl (by rw [c1]; simp) (by rw [c1]; simp) (by rw [c1, c2]; show _ = Result.ok (Value.bool (p == q)) w; simp [binOp, heq]) (.b _)
    · exact fin (n := 0) (cv := .bool (!(p == q))) rfl (by rw [c1]; simp) (by rw [c1]; simp) (by rw [c1, c2]; show _ = Result.ok (Value.bool (!(p == q))) w; simp [binOp, heq]) (.b _)
  · rename_i el sz by_ z row et
    generalize hvx : st.op x = vx at h hx
    generalize hvy : st.op y = vy at h hy
    split at h
    · have c1 := rel_nils hx; have c2 := rel_nils hy
      obtain ⟨_, _, _, _, hk, _⟩ := ty_inv (hE _ _ et)
      have hu := tk_sl hk.symm
      have heq : (Op.equal t (.slice none 0 0) (.slice none 0 0)).run P w = .ok true w := by
        unfold Op.equal Op.maxDepth Op.equalIn
        simp [run_underlying hu]
      obtain ⟨rfl, rfl⟩ | ⟨rfl, rfl⟩ := eqB_ev h
      · exact fin (n := 0) (cv := .bool true) rfl (by rw [c1]; simp) (by rw [c1]; simp) (by rw [c1, c2]; show _ = Result.ok (Value.bool true) w; simp [binOp, heq]) (.b _)
      · exact fin (n := 0) (cv := .bool false) rfl (by rw [c1]; simp) (by rw [c1]; simp) (by rw [c1, c2]; show _ = Result.ok (Value.bool false) w; simp [binOp, heq]) (.b _)
    · rename_i id s
      obtain ⟨blk, len, cap, c1, _⟩ := rel_slw hx
      have c2 := rel_nils hy
      obtain ⟨_, _, _, _, hk, _⟩ := ty_inv (hE _ _ et)
      have hu := tk_sl hk.symm
      have heq : (Op.equal t (.slice (some ⟨blk, 0, none⟩) len cap) (.slice none 0 0)).run P w = .ok false w := by
        unfold Op.equal Op.maxDepth Op.equalIn
        simp [run_underlying hu]
      obtain ⟨rfl, rfl⟩ | ⟨rfl, rfl⟩ := eqB_ev h
      · exact fin (n := 0) (cv := .bool false) rfl (by rw [c1]; simp) (by rw [c1]; simp) (by rw [c1, c2]; show _ = Result.ok (Value.bool false) w; simp [binOp, heq]) (.b _)
      · exact fin (n := 0) (cv := .bool true) rfl (by rw [c1]; simp) (by rw [c1]; simp) (by rw [c1, c2]; show _ = Result.ok (Value.bool true) w; simp [binOp, heq]) (.b _)
    · rename_i row' xs
      obtain ⟨hne, h⟩ := ev_guard h
      rcases rel_ds hx with ⟨_, rfl⟩ | ⟨blk, oo, cap, g, c1, _⟩
      · simp at hne
      have c2 := rel_nils hy
      obtain ⟨_, _, _, _, hk, _⟩ := ty_inv (hE _ _ et)
      have hu := tk_sl hk.symm
      have heq : (Op.equal t (.slice (some ⟨blk, oo, none⟩) xs.length cap) (.slice none 0 0)).run P w = .ok false w := by
        unfold Op.equal Op.maxDepth Op.equalIn
        simp [run_underlying hu]
      obtain ⟨rfl, rfl⟩ | ⟨rfl, rfl⟩ := eqB_ev h
      · exact fin (n := 0) (cv := .bool false) rfl (by rw [c1]; simp) (by rw [c1]; simp) (by rw [c1, c2]; show _ = Result.ok (Value.bool false) w; simp [binOp, heq]) (.b _)
      · exact fin (n := 0) (cv := .bool true) rfl (by rw [c1]; simp) (by rw [c1]; simp) (by rw [c1, c2]; show _ = Result.ok (Value.bool true) w; simp [binOp, heq]) (.b _)
    · simp [RM.ev] at h
  · rename_i fs sz by_ z row et
    obtain ⟨hq, h⟩ := ev_cond h
    generalize hvx : st.op x = vx at h hx
    generalize hvy : st.op y = vy at h hy
    split at h
    case h_2 => simp [RM.ev] at h
    rename_i l m
    obtain ⟨cs, c1, l1, r1⟩ := rel_agg hx
    obtain ⟨ds, c2, l2, r2⟩ := rel_agg hy
    obtain ⟨_, _, _, _, hk, _⟩ := ty_inv (hE _ _ et)
    obtain ⟨q, h1, h2⟩ := eqF_run (P := P) (w := w) hE (hQ _ hq) hk.symm r1 r2 h
    have hg : (eqGuard op t x y (.agg cs) (.agg ds)).run P w = .ok () w := run_eqGuard_agg (hQ _ hq)
    rcases h2 with ⟨rfl, rfl⟩ | ⟨rfl, rfl⟩
    · refine Done.pure hs (cv := .bool q) ?_ (.lb _)
      unfold execOp
      simp only [ho, c1, c2, Sem.run_bind, hg, Result.andThen_ok]
      simp [binOp, h1]
    · refine Done.pure hs (cv := .bool (!q)) ?_ (.lb _)
      unfold execOp
      simp only [ho, c1, c2, Sem.run_bind, hg, Result.andThen_ok]
      simp [binOp, h1]
  · generalize hvx : st.op x = vx at h hx
    generalize hvy : st.op y = vy at h hy
    unfold binA at h
    split at h
    · rename_i k m k' n
      have c1 := rel_i hx; have c2 := rel_i hy
      obtain ⟨v, cv, he, hr, hv⟩ := binA_int (P := P) (β := β) (S := S) (w := w) (t := t) (st := st) (op := op) (k := k) (m := m) (k' := k') (n := n) (e := e) h
      exact fin (n := 0) he (by rw [c1]; simp) (by rw [c1]; simp) (by rw [c1, c2]; exact hr) hv
    · rename_i k c k' d
      obtain ⟨r, c1, h1⟩ := rel_f hx; obtain ⟨s, c2, h2⟩ := rel_f hy
      obtain ⟨v, cv, n, he, hr, hv⟩ := binA_float (P := P) (β := β) (S := S) (w := w) (t := t) (st := st) (op := op) (e := e) h1 h2 h
      exact fin (n := n) he (by rw [c1]; simp) (by rw [c1]; simp) (by rw [c1, c2]; exact hr) hv
    · simp [RM.ev] at h
/-- A change of kind. -/
theorem done_conv (hE : ∀ t x, E.ty t = some x → tyOf P t = some x) (hs : Sim w0 M S0 β S st a w) {nb : Nat} {s d : TypeId} {x : Operand} (ho : o.op = .convert s d x) {e : Eff} (h : (opA E nb st.op (.convert s d x)).ev st.h = some e) :
    Done P w0 M S0 β st o a w e := by
  have hx := hs.op x
  simp only [opA] at h
  split at h
  case h_2 => simp [RM.ev] at h
  rename_i ts td es ed
  obtain ⟨_, _, _, _, hks, _⟩ := ty_inv (hE _ _ es)
  obtain ⟨_, _, _, _, hkd, _⟩ := ty_inv (hE _ _ ed)
  have fin : ∀ {v : V} {cv : Value} {n : Nat}, e = (v, []) → (convert s d (a.eval x)).run P w = .ok cv (w.drewN n) → Rel β S w cv v → Done P w0 M S0 β st o a w e := by
    intro v cv n he hr hv
    subst he
    refine Done.draws hs (n := n) ?_ hv
    unfold execOp
    simp only [ho, Sem.run_bind, hr, Result.andThen_ok, Sem.run_pure]
  obtain ⟨hkn, h⟩ := ev_cond h
  have hss : (P.underlying s).isSome = true := by
    cases hq : P.underlying s with
    | some _ => rfl
    | none =>
      rw [hks] at hkn
      unfold tkOf at hkn
      rw [hq] at hkn
      cases hkn
  generalize hvx : st.op x = vx at h hx
  generalize htk : td.k = tk at h hkd
  unfold convA at h
  split at h
  · rename_i k k' n
    have c1 := rel_i hx
    exact fin (n := 0) (ev_ret h) (by rw [c1]; show _ = Result.ok (Value.int k (k.wrap n)) w; obtain ⟨d', hd'⟩ := Option.isSome_iff_exists.mp hss; simp [convert, run_underlying hd', run_underlying (tk_i hkd.symm), Conv.intToInt]) (.i _ _)
  · rename_i k k' n
    have c1 := rel_i hx
    exact fin (n := 0) (ev_ret h) (by rw [c1]; show _ = Result.ok (Value.float k (k.nearest n)) w; obtain ⟨d', hd'⟩ := Option.isSome_iff_exists.mp hss; cases d' <;> simp [convert, run_underlying hd', run_underlying (tk_f hkd.symm), Conv.intToFloat]) (.f (encode_fl _ _ rfl))
  · rename_i c
    obtain ⟨r, c1, h1⟩ := rel_f hx
    obtain ⟨r', n, hr, hf⟩ := run_up (P := P) w s d r hss (tk_f hkd.symm)
    rw [h1.out] at hf
    exact fin (n := n) (ev_ret h) (by rw [c1]; exact hr) (.f hf)
  · rename_i c
    obtain ⟨r, c1, h1⟩ := rel_f hx
    obtain ⟨hg, h⟩ := ev_guard h
    obtain ⟨r', n, hr, hlt, hf⟩ := run_down (P := P) w s d r hss (tk_f hkd.symm)
    rw [h1.out] at hf
    exact fin (n := n) (ev_ret h) (by rw [c1]; exact hr) (.f (hf (by simpa using hg)))
  · rename_i k k' c _ _
    obtain ⟨r, c1, h1⟩ := rel_f hx
    obtain ⟨hkk, h'⟩ := ev_cond h
    obtain rfl : k = k' := by simpa using hkk
    exact fin (n := 0) (ev_ret h') (by rw [c1]; exact run_same w s d k r hss (tk_f hkd.symm)) (.f h1)
  · simp [RM.ev] at h
/-- An operation on one operand. -/
theorem done_un (hs : Sim w0 M S0 β S st a w) {nb : Nat} {op : UnOp} {t : TypeId} {x : Operand} (ho : o.op = .unOp op t x) {e : Eff} (h : (opA E nb st.op (.unOp op t x)).ev st.h = some e) : Done P w0 M S0 β st o a w e := by
  have hx := hs.op x
  simp only [opA] at h
  have fin : ∀ {v : V} {cv : Value}, e = (v, []) → (Op.unary op (a.eval x)).run P w = .ok cv w → Rel β S w cv v → Done P w0 M S0 β st o a w e := by
    intro v cv he hr hv
    subst he
    refine Done.pure hs ?_ hv
    unfold execOp
    simp only [ho, Sem.run_bind, hr, Result.andThen_ok, Sem.run_pure]
  generalize hvx : st.op x = vx at h hx
  unfold unA at h
  split at h
  · have c1 := rel_i hx; exact fin (ev_ret h) (by rw [c1]; simp [Op.unary, Op.intArith]) (.i _ _)
  · obtain ⟨r, c1, h1⟩ := rel_f hx; exact fin (ev_ret h) (by rw [c1]; simp [Op.unary]) (.f (fl_neg h1))
  · obtain ⟨r, s, c1, h1, h2⟩ := rel_c hx; exact fin (ev_ret h) (by rw [c1]; simp [Op.unary]) (.c (fl_neg h1) (fl_neg h2))
  · have c1 := rel_b hx; exact fin (ev_ret h) (by rw [c1]; simp [Op.unary]) (.b _)
  · have c1 := rel_lb hx; exact fin (ev_ret h) (by rw [c1]; simp [Op.unary]) (.lb _)
  · simp [RM.ev] at h
theorem done_move (hs : Sim w0 M S0 β S st a w) {nb : Nat} {x : Operand} (ho : o.op = .move x) {e : Eff} (h : (opA E nb st.op (.move x)).ev st.h = some e) : Done P w0 M S0 β st o a w e := by
  obtain rfl := ev_ret h
  exact Done.pure hs (by unfold execOp; simp [ho]) (hs.op x)
theorem done_assign (hs : Sim w0 M S0 β S st a w) {nb : Nat} {x : Operand} (ho : o.op = .assign x) {e : Eff} (h : (opA E nb st.op (.assign x)).ev st.h = some e) : Done P w0 M S0 β st o a w e := by
  obtain rfl := ev_ret h
  exact Done.pure hs (by unfold execOp; simp [ho]) (hs.op x)
theorem done_pick (hs : Sim w0 M S0 β S st a w) {nb : Nat} {c x y : Operand} (ho : o.op = .pick c x y) {e : Eff} (h : (opA E nb st.op (.pick c x y)).ev st.h = some e) : Done P w0 M S0 β st o a w e := by
  have hc := hs.op c
  have hx := hs.op x
  have hy := hs.op y
  simp only [opA] at h
  generalize st.op c = vc at h hc
  generalize st.op x = vx at h hx
  generalize st.op y = vy at h hy
  have yes : a.eval c = .bool true → e = (vx, []) → Done P w0 M S0 β st o a w e := fun c1 he => by
    subst he
    exact Done.pure hs (cv := a.eval x) (by unfold execOp; simp [ho, c1, asBool]) hx
  have no : a.eval c = .bool false → e = (vy, []) → Done P w0 M S0 β st o a w e := fun c1 he => by
    subst he
    exact Done.pure hs (cv := a.eval y) (by unfold execOp; simp [ho, c1, asBool]) hy
  split at h
  · rename_i q
    have c1 := rel_lb hc
    cases q
    · exact no c1 (ev_ret h)
    · exact yes c1 (ev_ret h)
  · rename_i q
    have c1 := rel_b hc
    split at h
    · rename_i p r e2 e3
      have c2 := rel_boolOf e2 hx; have c3 := rel_boolOf e3 hy
      obtain rfl := ev_ret h
      refine Done.pure hs (cv := .bool (bif q then p else r)) ?_ (.b _)
      unfold execOp
      cases q <;> simp [ho, c1, c2, c3, asBool]
    · cases q
      · exact no c1 (ev_ret (st := st) (by simpa [RM.ev] using h))
      · exact yes c1 (ev_ret (st := st) (by simpa [RM.ev] using h))
  · simp [RM.ev] at h
theorem done_extract (hs : Sim w0 M S0 β S st a w) {nb : Nat} {x : Operand} {ix : Nat} (ho : o.op = .extract x ix) {e : Eff} (h : (opA E nb st.op (.extract x ix)).ev st.h = some e) : Done P w0 M S0 β st o a w e := by
  have hx := hs.op x
  simp only [opA] at h
  split at h
  · rename_i l e1
    rw [e1] at hx
    obtain ⟨cs, c1, hl, hcs⟩ := rel_tup hx
    rw [RM.ev_bind, RM.ev_ofOpt] at h
    cases hv : l[ix]? with
    | none => simp [hv] at h
    | some v =>
      simp only [hv, Option.bind_some] at h
      obtain rfl := ev_ret h
      have hlt : ix < cs.size := by rw [hl]; exact (List.getElem?_eq_some_iff.1 hv).1
      refine Done.pure hs (cv := cs.getD ix undef) ?_ (hcs ix v hv)
      unfold execOp
      simp [ho, c1, Instr.extract, hlt]
  · simp [RM.ev] at h
end
end Go.Proofs.Ytpglfnkkmafhbaa
