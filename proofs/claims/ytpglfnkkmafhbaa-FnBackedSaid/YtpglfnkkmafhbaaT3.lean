/- From what the abstract machine tells of a law to the law's row. -/
import Derived.Test.YtpglfnkkmafhbaaT0
import Derived.Deep.Slices
import Derived.Laws.Cover2
import Derived.WideShapes
set_option linter.unusedVariables false
set_option linter.unusedSimpArgs false
set_option linter.constructorNameAsVariable false
namespace Go.Proofs.Ytpglfnkkmafhbaa
open Go.RowKit
def isTrue : V → Bool
  | .b true => true
  | .lb true => true
  | _ => false
def saysTrue (t : Tr (V × List HB)) : Bool := match t.sem with
  | some p => isTrue p.1
  | none => false
theorem ret_true {w w' : World} {S : Nat → Prop} {v : V} {bs : List HB} {e : Ending} (hv : isTrue v = true) (h : Ret w S v bs e w') : BV w (.bool true) e w' := by
  obtain ⟨cv, β, S', rfl, h⟩ := h
  refine ⟨?_, ⟨h.kept.os, h.kept.tape, h.kept.output, h.kept.size, fun k hk => h.kept.block k hk (fun x => x)⟩⟩
  have h0 := h.tm 0
  have h1 : Rel β S' w' cv v := h0
  unfold isTrue at hv
  split at hv
  · cases h1; rfl
  · cases h1; rfl
  · cases hv
theorem calls_of_entered {P : Program} {f : FuncId} {fn : Func} (hf : P.funcs[f]? = some fn) (hname : (fn.name == "runtime.NumGoroutine") = false) (hb : fn.body.isNone = false) {args : Array Value} {w : World} {R : Ending → World → Prop} (h : Entered P f args w R) : Calls P f args w R := by
  have h1 : fn.name ≠ "runtime.NumGoroutine" := by simpa using hname
  have h2 : fn.body ≠ none := by intro h; rw [h] at hb; cases hb
  have hr : (callFunc f args).run P w = .ok (.enter f args) w := by simp [callFunc, hf, h1, h2]
  unfold Entered at h
  rw [hr] at h; exact h
/-- A law that says true. -/
theorem law_calls {P : Program} {f : FuncId} {fn : Func} {sp : Spec} (hf : P.funcs[f]? = some fn) (hfit : fnIn fn = true) (hsp : SpecOk P f sp) {args : List V} (h : saysTrue (sp args) = true) {w : World} {cargs : Array Value}
    (hc : CellsRel B0 (fun b => b < w.heap.size) w cargs args) : Calls P f cargs w (BV w (.bool true)) := by
  unfold saysTrue at h
  unfold fnIn at hfit
  simp only [Bool.and_eq_true, Bool.not_eq_true'] at hfit
  cases hs : (sp args).sem with
  | none => rw [hs] at h; cases h
  | some out =>
    rw [hs] at h
    have h1 := hsp args out hs w (fun b => b < w.heap.size) cargs (fun b hb => hb) hc
    exact (calls_of_entered hf hfit.1 hfit.2 h1).mono fun e w' h' => ret_true h h'
/-! ### What comes in -/
def offsOk (P : Program) (n : Nat) : Nat → List Field → Bool
  | _, [] => true
  | o, f :: l => Nat.beq f.offset o && Nat.beq (P.cellsOf f.type) (rowOf P n f.type).length && offsOk P n (o + (rowOf P n f.type).length) l
def goodT (P : Program) : Nat → TypeId → Bool
  | 0, _ => false
  | n + 1, t => match P.underlying t with
    | some .bool => true
    | some (.int _) => true
    | some (.float _) => true
    | some (.slice e) => goodT P n e && Nat.beq (P.cellsOf e) (rowOf P n e).length && Nat.blt 0 (P.cellsOf e)
    | some (.struct fs) => fs.toList.all (fun f => goodT P n f.type) && offsOk P n 0 fs.toList && Nat.beq (P.cellsOf t) (rowOf P (n + 1) t).length
    | _ => false
mutual
def Ck.small : (a : Ck) → a.D → Prop
  | .f _, _ => True
  | .i k, n => (Lit.int k n).wf = true
  | .b, _ => True
  | .c _, _ => True
  | .sl row, xs => List.length xs ≤ 9223372036854775807 ∧ ∀ x : DR row, List.Mem x xs → smallR row x
  | .osl _, _ => True
def smallR : (row : List Ck) → DR row → Prop
  | [], _ => True
  | [a], x => a.small x
  | a :: b :: l, x => a.small x.1 ∧ smallR (b :: l) x.2
end
theorem row_pick {R : Value → V → Prop} : ∀ (row : List Ck) (g : Nat → Value), (∀ c a, row[c]? = some a → ∃ x : a.D, R (g c) (encC a x) ∧ a.small x) → ∃ d : DR row, smallR row d ∧ ∀ c v, (encR row d)[c]? = some v → R (g c) v
  | [], g, h => ⟨(), by simp [smallR], fun c v hv => by simp [encR] at hv⟩
  | [a], g, h => by
    obtain ⟨x, hx, hsm⟩ := h 0 a rfl
    refine ⟨x, by simpa [smallR] using hsm, fun c v hv => ?_⟩
    match c with
    | 0 => simp [encR] at hv; subst hv; exact hx
    | c + 1 => simp [encR] at hv
  | a :: b :: l, g, h => by
    obtain ⟨x, hx, hsm⟩ := h 0 a rfl
    obtain ⟨d, hds, hd⟩ := row_pick (b :: l) (fun c => g (c + 1)) (fun c a ha => h (c + 1) a (by simpa using ha))
    refine ⟨(x, d), by simpa [smallR] using ⟨hsm, hds⟩, fun c v hv => ?_⟩
    match c with
    | 0 => simp [encR] at hv; subst hv; exact hx
    | c + 1 => exact hd c v (by simpa [encR] using hv)
abbrev Sz (w : World) : Nat → Prop := fun b => b < w.heap.size
def RowRel (w : World) (g : Nat → Value) (row : List Ck) : Prop := ∀ c a, row[c]? = some a → ∃ x : a.D, Rel B0 (Sz w) w (g c) (encC a x) ∧ a.small x
theorem rowOf_st {P : Program} {n : Nat} {t : TypeId} {fs : Array Field} (h : P.underlying t = some (.struct fs)) : rowOf P (n + 1) t = fs.toList.flatMap fun f => rowOf P n f.type := by
  simp [rowOf, tkOf, h, List.flatMap_map]
theorem row_fields {P : Program} {n : Nat} {w : World} {g : Nat → Value} : ∀ (fs : List Field) (o : Nat), offsOk P n o fs = true → (∀ f ∈ fs, RowRel w (fun c => g (f.offset + c)) (rowOf P n f.type)) → RowRel w (fun c => g (o + c)) (fs.flatMap fun f => rowOf P n f.type)
  | [], o, _, _ => fun c a h => by simp at h
  | f :: fs, o, ho, h => fun c a hc => by
    simp only [offsOk, Bool.and_eq_true] at ho
    have hoff : f.offset = o := Nat.eq_of_beq_eq_true ho.1.1
    rw [List.flatMap_cons] at hc
    rcases Nat.lt_or_ge c (rowOf P n f.type).length with hl | hl
    · rw [List.getElem?_append_left hl] at hc
      have := h f (List.mem_cons_self ..) c a hc
      rwa [hoff] at this
    · rw [List.getElem?_append_right hl] at hc
      have := row_fields fs _ ho.2 (fun f' hf' => h f' (List.mem_cons_of_mem _ hf')) _ a hc
      simp only at this
      rwa [show o + (rowOf P n f.type).length + (c - (rowOf P n f.type).length) = o + c from by omega] at this
theorem offs_cells {P : Program} {n : Nat} : ∀ (fs : List Field) (o : Nat), offsOk P n o fs = true → ∀ f ∈ fs, P.cellsOf f.type = (rowOf P n f.type).length
  | [], _, _, _, h => by cases h
  | f :: fs, o, ho, f', h => by
    simp only [offsOk, Bool.and_eq_true] at ho
    rcases List.mem_cons.1 h with rfl | h
    · exact Nat.eq_of_beq_eq_true ho.1.2
    · exact offs_cells fs _ ho.2 f' h
section
variable {H : Type} {enc : TypeId × Value → H} {P : Program} {w : World} {base : Nat} {spare : Nat → Bool} {held : Bool}
theorem trod_row : ∀ (n : Nat) (t : TypeId), goodT P n t = true → ∀ (fuel : Nat) (cs : List Value) (x : DataW H × List MemPlace), DataW.trod enc P w base spare held fuel t cs = some x → RowRel w (fun c => cs.getD c undef) (rowOf P n t)
  | 0, t, h => by simp [goodT] at h
  | n + 1, t, h => fun fuel cs x hx => by
    unfold goodT at h
    split at h
    · rename_i hu
      cases fuel with
      | zero => simp [DataW.trod] at hx
      | succ m =>
        unfold DataW.trod at hx
        rw [hu] at hx
        split at hx <;> simp_all
        intro c a hc
        simp [rowOf, tkOf, hu] at hc
        match c with
        | 0 => simp at hc; subst hc; exact ⟨_, .b _, by simp [Ck.small]⟩
        | c + 1 => simp at hc
    · rename_i k hu
      cases fuel with
      | zero => simp [DataW.trod] at hx
      | succ m =>
        unfold DataW.trod at hx
        rw [hu] at hx
        split at hx <;> simp_all
        intro c a hc
        simp [rowOf, tkOf, hu] at hc
        match c with
        | 0 => simp at hc; subst hc; exact ⟨_, .i _ _, by simp only [Ck.small]; exact hx.1.2⟩
        | c + 1 => simp at hc
    · rename_i k hu
      obtain ⟨b, rfl, hb⟩ := trod_float hu hx
      intro c a hc
      simp [rowOf, tkOf, hu] at hc
      match c with
      | 0 => simp at hc; subst hc; exact ⟨_, .f hb, by simp [Ck.small]⟩
      | c + 1 => simp at hc
    · rename_i e hu
      simp only [Bool.and_eq_true] at h
      obtain ⟨⟨hg, hce⟩, hpos⟩ := h
      have hce := Nat.eq_of_beq_eq_true hce
      have hpos : 0 < P.cellsOf e := Nat.le_of_ble_eq_true hpos
      intro c a hc
      simp only [rowOf, tkOf, hu] at hc
      match c with
      | c + 1 => simp at hc
      | 0 =>
      simp at hc
      subst hc
      rcases Go.Deep.open_slice hu hx with ⟨rfl, _⟩ | ⟨ad, len, cap, m, n', D, Pl, rfl, hb, hl, hm, hmm, _, hel⟩
      · exact ⟨([] : List (DR (rowOf P n e))), .dsnil, by simp only [Ck.small]; exact ⟨Nat.zero_le _, fun x hx => by cases hx⟩⟩
      · have hlm : len ≤ m := by rw [hmm]; split <;> omega
        rcases Nat.eq_zero_or_pos len with rfl | h0
        · exact ⟨([] : List (DR (rowOf P n e))), .dsnil, by simp only [Ck.small]; exact ⟨Nat.zero_le _, fun x hx => by cases hx⟩⟩
        · obtain ⟨b, o, sp⟩ := ad
          have hcell : ∀ i, i < len → ∃ cs', DataW.trod enc P w base spare held n' e cs' = some (D i, Pl i) ∧ ∀ c, c < P.cellsOf e → ∃ v, cs'.getD c undef = v ∧ w.cell? (((⟨b, o, sp⟩ : Addr).add (i * P.cellsOf e)).add c) = some v := fun i hi => by
            obtain ⟨cs', h1, h2⟩ := hel i (by omega)
            obtain ⟨_, h3, h4⟩ := World.cells?_some h1
            refine ⟨cs', h2, fun c hc => ⟨_, rfl, ?_⟩⟩
            rw [h4 c hc, List.getD_eq_getElem?_getD, List.getElem?_eq_getElem (by omega)]; rfl
          have hsp : sp = none := by
            obtain ⟨cs', _, h2⟩ := hcell 0 h0
            obtain ⟨v, _, hv⟩ := h2 0 hpos
            cases sp with
            | none => rfl
            | some k => simp [Addr.add, World.cell?] at hv; split at hv <;> simp at hv
          subst hsp
          have hadd : ∀ (i c : Nat), ((⟨b, o, none⟩ : Addr).add i).add c = ⟨b, o + i + c, none⟩ := fun i c => by
            unfold Addr.add
            split <;> split <;> simp_all
          have hrow : ∀ i, ∃ d : DR (rowOf P n e), i < len → smallR _ d ∧ ∀ c v, (encR _ d)[c]? = some v → Rel B0 (Sz w) w ((w.cell? ⟨b, o + i * P.cellsOf e + c, none⟩).getD undef) v := fun i => by
            rcases Nat.lt_or_ge i len with hi | hi
            · obtain ⟨cs', h1, h2⟩ := hcell i hi
              obtain ⟨d, hds, hd⟩ := row_pick (rowOf P n e) (fun c => cs'.getD c undef) (trod_row n e hg _ _ _ h1)
              refine ⟨d, fun _ => ⟨hds, fun c v hv => ?_⟩⟩
              have hcl : c < P.cellsOf e := by rw [hce, ← encR_length _ d]; exact (List.getElem?_eq_some_iff.1 hv).1
              obtain ⟨v', h3, h4⟩ := h2 c hcl
              rw [hadd] at h4
              rw [h4, Option.getD_some, ← h3]
              exact hd c v hv
            · exact ⟨dflR _, fun h => by omega⟩
          have hB : Sz w b := by
            obtain ⟨cs', _, h2⟩ := hcell 0 h0
            obtain ⟨v, _, hv⟩ := h2 0 hpos
            rw [hadd] at hv
            exact World.block_lt_of_cell? w _ hv
          let F := fun i => (hrow i).choose
          have hF : ∀ i, i < len → smallR _ (F i) ∧ ∀ c v, (encR _ (F i))[c]? = some v → Rel B0 (Sz w) w ((w.cell? ⟨b, o + i * P.cellsOf e + c, none⟩).getD undef) v := fun i => (hrow i).choose_spec
          refine ⟨((List.range len).map F : List (DR (rowOf P n e))), ?_, ?hsm⟩
          case hsm =>
            simp only [Ck.small]
            refine ⟨by simp; unfold maxLen at hm; omega, fun x hx => ?_⟩
            obtain ⟨i, hi, rfl⟩ := List.mem_map.1 hx
            exact (hF i (List.mem_range.1 hi)).1
          have hlen : ((List.range len).map F).length = len := by simp
          have key : Rel B0 (Sz w) w (.slice (some ⟨b, o, none⟩) ((List.range len).map F).length cap) (.ds (rowOf P n e) ((List.range len).map F)) := by
            refine .ds (S := Sz w) hB (fun i c => (w.cell? ⟨b, o + i * P.cellsOf e + c, none⟩).getD undef) (fun i hi c hc => ?_) (fun i y hy c v hv => ?_) (by rw [hlen]; exact hl)
            · rw [hlen] at hi
              obtain ⟨cs', _, h2⟩ := hcell i hi
              obtain ⟨v, _, hv⟩ := h2 c (by rw [hce]; exact hc)
              rw [hadd] at hv
              rw [← hce, hv]; rfl
            · rw [List.getElem?_map] at hy
              rcases Nat.lt_or_ge i len with hi | hi
              · rw [List.getElem?_range hi] at hy
                simp only [Option.map_some, Option.some.injEq] at hy
                subst hy
                exact (hF i hi).2 c v hv
              · rw [List.getElem?_eq_none (by simpa using hi)] at hy; cases hy
          rw [hlen] at key
          exact key
    · rename_i fs hu
      simp only [Bool.and_eq_true] at h
      obtain ⟨⟨h1, h2⟩, h3⟩ := h
      obtain ⟨xs, m, rfl, _, hl, hxl, hf⟩ := DataW.trod_struct hu hx
      rw [rowOf_st hu]
      have := row_fields (w := w) (g := fun c => cs.getD c undef) fs.toList 0 h2 (fun f hfm c a hc => ?_)
      · simpa using this
      · obtain ⟨i, hi⟩ := List.getElem?_of_mem hfm
        have hi' : fs[i]? = some f := by simpa using hi
        have hx1 := hf i f hi'
        have hil : i < xs.length := by rw [hxl]; exact (Array.getElem?_eq_some_iff.1 hi').1
        rw [List.getElem?_eq_getElem hil] at hx1
        have hg := List.all_eq_true.1 h1 f hfm
        obtain ⟨y, hy, hys⟩ := trod_row n f.type hg _ _ _ hx1 c a hc
        refine ⟨y, ?_, hys⟩
        have hcl : c < P.cellsOf f.type := by rw [offs_cells _ _ h2 f hfm]; exact (List.getElem?_eq_some_iff.1 hc).1
        have e : (List.take (P.cellsOf f.type) (List.drop f.offset cs)).getD c undef = cs.getD (f.offset + c) undef := by
          simp only [List.getD_eq_getElem?_getD, List.getElem?_take, hcl, if_true, List.getElem?_drop]
        simp only [e] at hy
        exact hy
    · simp at h
def isStT (P : Program) (t : TypeId) : Bool := match P.underlying t with
  | some (.struct _) => true
  | _ => false
/-- A parameter that is a struct. -/
theorem arg_st {n : Nat} {t : TypeId} {row : List Ck} (hg : goodT P n t = true) (hr : rowOf P n t = row) (hst : isStT P t = true) {r : Reach} {b0 : Nat} {v : Value} {d : DataW H} {p : List MemPlace} (hv : Value.okWide P w r b0 t v) (h : DataW.Trod enc P w base spare held t v d p) :
    ∃ x : DR row, Rel B0 (Sz w) w v (.agg (encR row x)) ∧ smallR row x := by
  subst hr
  unfold isStT at hst
  split at hst
  case h_2 => cases hst
  rename_i fs hu
  obtain ⟨cs, rfl, hsz⟩ := Go.WideShapes.okWide_struct hu hv
  obtain ⟨fuel, hf⟩ := h
  obtain ⟨x, hxs, hx⟩ := row_pick _ _ (trod_row n t hg _ _ _ hf)
  have hn : P.cellsOf t = (rowOf P n t).length := by
    cases n with
    | zero => simp [goodT] at hg
    | succ m =>
      simp only [goodT, hu, Bool.and_eq_true] at hg
      exact Nat.eq_of_beq_eq_true hg.2
  refine ⟨x, .agg (by rw [encR_length, hsz, hn]) fun j v hj => ?_, hxs⟩
  have := hx j v hj
  simpa [Value.cells] using this
/-- A parameter of one cell. -/
theorem arg_1 {n : Nat} {t : TypeId} {a : Ck} (hg : goodT P n t = true) (hr : rowOf P n t = [a]) (hst : isStT P t = false) {r : Reach} {b0 : Nat} {v : Value} {d : DataW H} {p : List MemPlace} (hv : Value.okWide P w r b0 t v) (h : DataW.Trod enc P w base spare held t v d p) :
    ∃ x : a.D, Rel B0 (Sz w) w v (encC a x) ∧ a.small x := by
  obtain ⟨fuel, hf⟩ := h
  obtain ⟨x, hx, hxs⟩ := trod_row n t hg _ _ _ hf 0 a (by rw [hr]; rfl)
  refine ⟨x, ?_, hxs⟩
  have hv1 : v.cells = #[v] := by
    cases v with
    | agg cs =>
      exfalso
      cases n with
      | zero => simp [goodT] at hg
      | succ m =>
        unfold goodT at hg
        unfold isStT at hst
        unfold Value.okWide at hv
        split at hg
        all_goals first
          | (rename_i hu; simp only [hu] at hst hv; first | (simp [Cell.okWide, Cell.ok, hu] at hv; done) | (cases hst; done))
          | (cases hg; done)
    | _ => rfl
  rw [hv1] at hx
  simpa using hx
end
def RelL (w : World) : List Value → List V → Prop
  | [], [] => True
  | v :: vs, a :: l => Rel B0 (Sz w) w v a ∧ RelL w vs l
  | _, _ => False
theorem cellsL {w : World} : ∀ {cs : List Value} {l : List V}, RelL w cs l → cs.length = l.length ∧ ∀ j v, l[j]? = some v → Rel B0 (Sz w) w (cs.getD j undef) v
  | [], [], _ => ⟨rfl, fun j v h => by simp at h⟩
  | c :: cs, a :: l, h => ⟨congrArg (· + 1) (cellsL h.2).1, fun j v hj => by
    match j with
    | 0 => simp at hj; subst hj; exact h.1
    | j + 1 => simpa using (cellsL h.2).2 j v (by simpa using hj)⟩
  | [], _ :: _, h => h.elim
  | _ :: _, [], h => h.elim
theorem cells_rel {w : World} {cs : List Value} {l : List V} (h : RelL w cs l) : CellsRel B0 (fun b => b < w.heap.size) w cs.toArray l := by
  obtain ⟨h1, h2⟩ := cellsL h
  exact ⟨by simpa using h1, fun j v hj => by simpa using h2 j v hj⟩
end Go.Proofs.Ytpglfnkkmafhbaa
