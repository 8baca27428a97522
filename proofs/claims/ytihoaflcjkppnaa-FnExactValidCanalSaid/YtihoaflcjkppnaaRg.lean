/- A region that draws its order, whose operations yield values that are known only up to a predicate (a float up to a not-a-number's bits) and lead from a class of worlds into it: one walk in the text's order serves every order. -/
import Derived.Test.YtihoaflcjkppnaaRl
import Derived.Deep.Quiet
import Derived.BigQuiet
set_option linter.unusedVariables false
set_option linter.unusedSimpArgs false
namespace Go.Proofs.Ytihoaflcjkppnaa
open Go.RowKit

section
variable {P : Program} {ops : Array Oper} {md : Region.Mode} {C : World → Prop} {G : FuncId → Array Value → Value → Prop}

/-- What is asked of one operation's run. -/
def relUpon (P : Program) (C : World → Prop) (G : FuncId → Array Value → Value → Prop) : Result Next → Prop
  | .ok (.value _) w' => C w'
  | .ok .skip w' => C w'
  | .ok (.enter f args) w' => Calls P f args w' (fun e w'' => ∃ v, e = .returned v ∧ G f args v ∧ C w'')
  | _ => False
def okAt (P : Program) (C : World → Prop) (G : FuncId → Array Value → Value → Prop) (s : Sem Next) : Prop := ∀ w, C w → relUpon P C G (s.run P w)
/-- What it may yield. -/
def yieldsV (P : Program) (C : World → Prop) (G : FuncId → Array Value → Value → Prop) (s : Sem Next) (v : Value) : Prop :=
  (∃ w w', C w ∧ s.run P w = .ok (.value v) w') ∨ (v = undef ∧ ∃ w w', C w ∧ s.run P w = .ok .skip w') ∨ (∃ w w' f args, C w ∧ s.run P w = .ok (.enter f args) w' ∧ G f args v)
/-- The lexical walk. -/
def wpRel (P : Program) (ops : Array Oper) (C : World → Prop) (G : FuncId → Array Value → Value → Prop) (Q : Act → Prop) : List Oper → Act → Prop
  | [], a => Q a
  | o :: rest, a => if Region.wanted o (yielded ops a.tmps) then okAt P C G (execOp a.eval o) ∧ ∀ v, yieldsV P C G (execOp a.eval o) v → wpRel P ops C G Q rest (a.put o.dst v) else wpRel P ops C G Q rest (a.put o.dst undef)
def rOp (P : Program) (ops : Array Oper) (C : World → Prop) (G : FuncId → Array Value → Value → Prop) (i : Nat) (K : Act → Prop) (a : Act) : Prop :=
  match ops[i]? with
  | none => K a
  | some o => if Region.wanted o (yielded ops a.tmps) then okAt P C G (execOp a.eval o) ∧ ∀ v, yieldsV P C G (execOp a.eval o) v → K (a.put o.dst v) else K (a.put o.dst undef)
theorem rOp_mono {i : Nat} {a : Act} {K K' : Act → Prop} (h : ∀ a, K a → K' a) (hh : rOp P ops C G i K a) : rOp P ops C G i K' a := by
  unfold rOp at *
  split
  · rename_i ho; simp only [ho] at hh; exact h _ hh
  · rename_i o ho
    simp only [ho] at hh
    split
    · rename_i hw; simp only [hw, if_true] at hh; exact ⟨hh.1, fun v hv => h _ (hh.2 v hv)⟩
    · rename_i hw; simp only [hw] at hh; exact h _ hh
def wpAnyR (P : Program) (md : Region.Mode) (ops : Array Oper) (C : World → Prop) (G : FuncId → Array Value → Value → Prop) (Q : Act → Prop) : Nat → Array Bool → Act → Prop
  | 0, listed, a => Region.ready md ops listed = [] ∧ Q a
  | fuel + 1, listed, a =>
    (Region.ready md ops listed = [] → Q a) ∧
    ∀ i ∈ Region.ready md ops listed, rOp P ops C G i (wpAnyR P md ops C G Q fuel (listed.setIfInBounds i true)) a
theorem wp_of_rel {o : Oper} {a : Act} {K : Act → Prop} {K' : Act → World → Prop} {Q' : Exit → Act → World → Prop} {w : World} (hw : C w) (h : ∀ a w', C w' → K a → K' a w')
    (h1 : okAt P C G (execOp a.eval o)) (h2 : ∀ v, yieldsV P C G (execOp a.eval o) v → K (a.put o.dst v)) : o.wp P a w K' Q' := by
  have h3 := h1 w hw
  unfold Oper.wp
  cases hr : (execOp a.eval o).run P w with
  | ok n w' =>
    rw [hr] at h3
    cases n <;> simp only [relUpon] at h3 <;> simp only [Oper.upon]
    case value u => exact h _ _ h3 (h2 u (.inl ⟨w, w', hw, hr⟩))
    case skip => exact h _ _ h3 (h2 _ (.inr (.inl ⟨rfl, w, w', hw, hr⟩)))
    case enter f args =>
      exact h3.mono fun e w'' ⟨v, he, hg, hc⟩ => by subst he; exact h _ _ hc (h2 v (.inr (.inr ⟨w, w', f, args, hw, hr, hg⟩)))
  | halt x w' => rw [hr] at h3; simp only [relUpon] at h3
theorem wpOp_of_rOp {i : Nat} {a : Act} {K : Act → Prop} {K' : Act → World → Prop} {Q' : Exit → Act → World → Prop} {w : World} (hC : C w) (h : ∀ a w', C w' → K a → K' a w') (hh : rOp P ops C G i K a) : wpOp P ops Q' i K' a w := by
  unfold rOp at hh
  unfold wpOp
  split
  · rename_i ho; simp only [ho] at hh; exact h _ _ hC hh
  · rename_i o ho
    simp only [ho] at hh
    split
    · rename_i hw; simp only [hw, if_true] at hh; exact .inl (wp_of_rel hC h hh.1 hh.2)
    · rename_i hw; simp only [hw] at hh; exact h _ _ hC hh
theorem wpAny_of_rel {Q : Act → Prop} {Q' : Exit → Act → World → Prop} (hQ : ∀ a w, C w → Q a → Q' .normal a w) : ∀ (fuel : Nat) (listed : Array Bool) (a : Act) (w : World), C w →
    wpAnyR P md ops C G Q fuel listed a → wpAny P md ops Q' fuel listed a w
  | 0, _, _, _, hw, h => ⟨h.1, hQ _ _ hw h.2⟩
  | fuel + 1, _, _, _, hw, h => ⟨fun h0 => hQ _ _ hw (h.1 h0), fun i hi => wpOp_of_rOp hw (fun a' w' hw' => wpAny_of_rel hQ fuel _ a' w' hw') (h.2 i hi)⟩

/-- What operation 'o' may leave in its temporary in state 'a'. -/
def leavesV (P : Program) (ops : Array Oper) (C : World → Prop) (G : FuncId → Array Value → Value → Prop) (o : Oper) (a : Act) (v : Value) : Prop :=
  if Region.wanted o (yielded ops a.tmps) then yieldsV P C G (execOp a.eval o) v else v = undef
/-- It is fit to run. -/
def fitV (P : Program) (ops : Array Oper) (C : World → Prop) (G : FuncId → Array Value → Value → Prop) (o : Oper) (a : Act) : Prop :=
  Region.wanted o (yielded ops a.tmps) = true → okAt P C G (execOp a.eval o)
theorem rOp_of {i : Nat} {o : Oper} {a : Act} (hi : ops[i]? = some o) {K : Act → Prop} (hf : fitV P ops C G o a) (h : ∀ v, leavesV P ops C G o a v → K (a.put o.dst v)) : rOp P ops C G i K a := by
  unfold rOp
  simp only [hi]
  unfold leavesV at h
  split
  · rename_i hw; simp only [hw, if_true] at h; exact ⟨hf hw, h⟩
  · rename_i hw; simp only [hw] at h; exact h undef rfl
theorem rOp_inv {i : Nat} {o : Oper} {a : Act} (hi : ops[i]? = some o) {K : Act → Prop} (h : rOp P ops C G i K a) : fitV P ops C G o a ∧ ∀ v, leavesV P ops C G o a v → K (a.put o.dst v) := by
  unfold rOp at h
  simp only [hi] at h
  unfold fitV leavesV
  split at h
  · rename_i hw
    refine ⟨fun _ => h.1, fun v hv => ?_⟩
    rw [if_pos hw] at hv
    exact h.2 v hv
  · rename_i hw
    refine ⟨fun hh => absurd hh hw, fun v hv => ?_⟩
    rw [if_neg hw] at hv
    rw [hv]; exact h
theorem inhabited_leaves {o : Oper} {a : Act} {w0 : World} (hC : C w0) (hf : fitV P ops C G o a) : ∃ v, leavesV P ops C G o a v := by
  unfold leavesV
  by_cases hw : Region.wanted o (yielded ops a.tmps) = true
  · simp only [hw, if_true]
    have h := hf hw w0 hC
    cases hr : (execOp a.eval o).run P w0 with
    | ok n w' =>
      rw [hr] at h
      cases n <;> simp only [relUpon] at h
      case value u => exact ⟨u, .inl ⟨w0, w', hC, hr⟩⟩
      case skip => exact ⟨undef, .inr (.inl ⟨rfl, w0, w', hC, hr⟩)⟩
      case enter f args =>
        obtain ⟨e, w'', fr, ⟨v, _, hg, _⟩, _⟩ := h []
        exact ⟨v, .inr (.inr ⟨w0, w', f, args, hC, hr, hg⟩)⟩
    | halt x w' => rw [hr] at h; simp only [relUpon] at h
  · exact ⟨undef, by simp [hw]⟩
theorem leaves_same {o : Oper} {a a' : Act} (he : execOp a'.eval o = execOp a.eval o) (hw : Region.wanted o (yielded ops a'.tmps) = Region.wanted o (yielded ops a.tmps)) (v : Value) :
    leavesV P ops C G o a' v = leavesV P ops C G o a v := by unfold leavesV; rw [he, hw]
theorem fit_same {o : Oper} {a a' : Act} (he : execOp a'.eval o = execOp a.eval o) (hw : Region.wanted o (yielded ops a'.tmps) = Region.wanted o (yielded ops a.tmps)) :
    fitV P ops C G o a' = fitV P ops C G o a := by unfold fitV; rw [he, hw]

theorem wpAnyR_first {Q : Act → Prop} {w0 : World} (hC : C w0) {i : Nat} {oi : Oper} (hi : ops[i]? = some oi) (hsel : ∀ (j : Nat) (o : Oper) cs b, ops[j]? = some o → o.op ≠ .select cs b) :
    ∀ (fuel : Nat) (listed : Array Bool) (a : Act),
      (∀ j oj, ops[j]? = some oj → j ≠ i → listed.getD j true = false → (∀ e ∈ oj.after, Region.binds md e = true → e.on ≠ i) → oi.apart ops oj = true) →
      i ∈ Region.ready md ops listed → fitV P ops C G oi a →
      (∀ v, leavesV P ops C G oi a v → wpAnyR P md ops C G Q fuel (listed.setIfInBounds i true) (a.put oi.dst v)) → wpAnyR P md ops C G Q (fuel + 1) listed a := by
  intro fuel
  induction fuel with
  | zero =>
    intro listed a _ hr hy H
    refine ⟨fun h => (by rw [h] at hr; cases hr), fun j hj => ?_⟩
    by_cases hji : j = i
    · subst hji; exact rOp_of hi hy H
    · have := ready_mono hj hji
      obtain ⟨v, hv⟩ := inhabited_leaves hC hy
      rw [(H v hv).1] at this
      cases this
  | succ fuel ih =>
    intro listed a hfree hr hy H
    refine ⟨fun h => (by rw [h] at hr; cases hr), fun j hj => ?_⟩
    by_cases hji : j = i
    · subst hji; exact rOp_of hi hy H
    · obtain ⟨hjun, oj, hoj, hall⟩ := mem_ready.1 hj
      have hnot : ∀ e ∈ oj.after, Region.binds md e = true → e.on ≠ i := fun e he hb heq => by
        have h1 := hall e he hb
        have h0 := (mem_ready.1 hr).1
        rw [heq] at h1
        rcases Nat.lt_or_ge i listed.size with h' | h'
        · simp [h'] at h0 h1; rw [h0] at h1; cases h1
        · simp [Array.getElem?_eq_none h'] at h1
      have hap := hfree j oj hoj hji hjun hnot
      obtain ⟨h1, h2, h3⟩ := Oper.apart_spec hap
      have hsi := fun cs b => hsel i oi cs b hi
      have hsj := fun cs b => hsel j oj cs b hoj
      -- the other operation, with 'oi's value already there or not
      have sj : ∀ v, execOp (a.put oi.dst v).eval oj = execOp a.eval oj := fun v => execOp_put oj hsj a oi.dst v h1
      have wj : ∀ v, Region.wanted oj (yielded ops (a.put oi.dst v).tmps) = Region.wanted oj (yielded ops a.tmps) := fun v => wanted_put oj a oi.dst v h1
      have si : ∀ u, execOp (a.put oj.dst u).eval oi = execOp a.eval oi := fun u => execOp_put oi hsi a oj.dst u h3
      have wi : ∀ u, Region.wanted oi (yielded ops (a.put oj.dst u).tmps) = Region.wanted oi (yielded ops a.tmps) := fun u => wanted_put oi a oj.dst u h3
      have HJ : ∀ v, leavesV P ops C G oi a v → fitV P ops C G oj a ∧ ∀ u, leavesV P ops C G oj a u → wpAnyR P md ops C G Q fuel ((listed.setIfInBounds i true).setIfInBounds j true) ((a.put oi.dst v).put oj.dst u) := fun v hv => by
        have := rOp_inv hoj ((H v hv).2 j (ready_mono hj hji))
        rw [fit_same (sj v) (wj v)] at this
        refine ⟨this.1, fun u hu => this.2 u ?_⟩
        rw [leaves_same (sj v) (wj v)]; exact hu
      obtain ⟨v0, hv0⟩ := inhabited_leaves hC hy
      have hfree' : ∀ k ok, ops[k]? = some ok → k ≠ i → (listed.setIfInBounds j true).getD k true = false →
          (∀ e ∈ ok.after, Region.binds md e = true → e.on ≠ i) → oi.apart ops ok = true := fun k ok hk hki hun hno => by
        refine hfree k ok hk hki ?_ hno
        by_cases hjk : j = k
        · subst hjk; exact hjun
        · rw [getD_set_ne true hjk] at hun; exact hun
      refine rOp_of hoj (HJ v0 hv0).1 fun u hu => ?_
      refine ih (listed.setIfInBounds j true) _ hfree' (ready_mono hr (Ne.symm hji)) (by rw [fit_same (si u) (wi u)]; exact hy) fun v hv => ?_
      rw [leaves_same (si u) (wi u)] at hv
      rw [Array.setIfInBounds_comm _ _ hji, ← Act.put_comm a v u h2]
      exact (HJ v hv).2 u hu

theorem wpAnyR_lex {Q : Act → Prop} {w0 : World} (hC : C w0) (hs : Region.noSelect ops = true) : ∀ (l : List Oper) (k : Nat) (listed : Array Bool) (a : Act), (∀ j, l[j]? = ops[k + j]?) →
    Region.lexFrom md ops l.length k listed = true → wpRel P ops C G Q l a → wpAnyR P md ops C G Q l.length listed a
  | [], _, _, _, _, hB, h => ⟨by simpa [Region.lexFrom] using hB, h⟩
  | o :: l, k, listed, a, hl, hB, h => by
    have h0 : ops[k]? = some o := by simpa using (hl 0).symm
    simp only [List.length_cons, Region.lexFrom, Bool.and_eq_true] at hB
    obtain ⟨⟨hr, hf⟩, hB'⟩ := hB
    have hst : rOp P ops C G k (wpRel P ops C G Q l) a := by unfold rOp; simp only [h0]; exact h
    obtain ⟨hy, hK⟩ := rOp_inv h0 hst
    exact wpAnyR_first hC h0 (Region.noSelect_spec hs) l.length listed a (Region.free_spec h0 hf) (by simpa using hr) hy
      fun v hv => wpAnyR_lex hC hs l (k + 1) _ _ (fun j => by have := hl (j + 1); simpa [Nat.add_assoc, Nat.add_comm 1 j] using this) hB' (hK v hv)

/-- **ONE WALK IN THE TEXT's ORDER SERVES EVERY ORDER.** -/
theorem wp_region_rel {id : Nat} {Q : Exit → Act → World → Prop} {a : Act} {w : World} {l : List Oper} (C : World → Prop) (G : FuncId → Array Value → Value → Prop) (hm : P.follows .mixedOrders = true) (hB : Region.lexB .any l.toArray = true) (hC : C (w.drewN 1))
    (h : wpRel P l.toArray C G (fun a' => ∀ w', C w' → Q .normal a' w') l a) : (Code.region id l.toArray true).wp P Q a w := by
  simp only [Region.lexB, Bool.and_eq_true] at hB
  refine wp_region_any hm (wpAny_of_rel (G := G) (Q := fun a' => ∀ w', C w' → Q .normal a' w') (fun _ w' hw' h => h w' hw') _ _ _ _ hC ?_)
  have := wpAnyR_lex (C := C) (G := G) (md := .any) hC hB.1 l 0 (Array.replicate l.toArray.size false) a (by simp) (by simpa using hB.2) h
  simpa using this
end

/-! ### The classes of worlds, and one step at a time -/
def ClsD (w : World) : World → Prop := fun w' => ∃ n, w' = w.drewN n
def ClsP (w : World) : World → Prop := fun w' => ∃ x : Nat × Array Obj, w' = World.plus w x.1 x.2
theorem ClsD.draws {w : World} : ∀ w' n, ClsD w w' → ClsD w (w'.drewN n) := fun _ n ⟨m, h⟩ => ⟨m + n, by rw [h, World.drewN_drewN]⟩
theorem ClsP.draws {w : World} : ∀ w' n, ClsP w w' → ClsP w (w'.drewN n) := fun _ n ⟨x, h⟩ => ⟨(x.1 + n, x.2), by rw [h]; rfl⟩
theorem ClsD.start (w : World) : ClsD w (w.drewN 1) := ⟨1, rfl⟩
theorem ClsP.start (w : World) : ClsP w (w.drewN 1) := ⟨(w.drawn + 1, #[]), by simp [World.plus, World.drewN]⟩
def plainUpon (w : World) (v : Value) : Result Next → Prop
  | .ok (.value u) w' => w' = w ∧ u = v
  | .ok .skip w' => w' = w ∧ v = undef
  | _ => False
def plainAt (P : Program) (o : Oper) (a : Act) (C : World → Prop) (v : Value) : Prop := ∀ w, C w → plainUpon w v ((execOp a.eval o).run P w)
def plain (P : Program) (o : Oper) (a : Act) (C : World → Prop) (next : Act → Prop) : Prop := ∃ v, plainAt P o a C v ∧ next (a.put o.dst v)
section
variable {P : Program} {ops : Array Oper} {C : World → Prop} {G : FuncId → Array Value → Value → Prop} {Q : Act → Prop} {o : Oper} {rest : List Oper} {a : Act}
theorem rel_of_plain {K : Act → Prop} (h : plain P o a C K) : okAt P C G (execOp a.eval o) ∧ ∀ v, yieldsV P C G (execOp a.eval o) v → K (a.put o.dst v) := by
  obtain ⟨v, h1, h2⟩ := h
  refine ⟨fun w hw => ?_, fun u hu => ?_⟩
  · have := h1 w hw
    cases hr : (execOp a.eval o).run P w with
    | ok n w' =>
      rw [hr] at this
      cases n <;> simp only [plainUpon] at this <;> simp only [relUpon]
      · rw [this.1]; exact hw
      · rw [this.1]; exact hw
    | halt x w' => rw [hr] at this; exact this.elim
  · rcases hu with ⟨w, w', hw, hr⟩ | ⟨rfl, w, w', hw, hr⟩ | ⟨w, w', f, args, hw, hr, _⟩
    · have := h1 w hw
      rw [hr] at this
      rw [this.2]; exact h2
    · have := h1 w hw
      rw [hr] at this
      rw [← this.2]; exact h2
    · have := h1 w hw
      rw [hr] at this
      exact this.elim
theorem wpRel_nil (h : Q a) : wpRel P ops C G Q [] a := h
theorem wpRel_plain (h : ∀ K : Act → Prop, (∀ a, wpRel P ops C G Q rest a → K a) → if Region.wanted o (yielded ops a.tmps) then plain P o a C K else K (a.put o.dst undef)) : wpRel P ops C G Q (o :: rest) a := by
  have h' := h _ (fun _ h => h)
  unfold wpRel
  split
  · rename_i hw; rw [if_pos hw] at h'; exact rel_of_plain h'
  · rename_i hw; rw [if_neg hw] at h'; exact h'
def plainP (P : Program) (o : Oper) (a : Act) (w : World) (next : Act → Prop) : Prop :=
  ∃ v, (∀ d e, plainUpon (World.plus w d e) v ((execOp a.eval o).run P (World.plus w d e))) ∧ next (a.put o.dst v)
theorem wpRel_plainP {w : World} (h : ∀ K : Act → Prop, (∀ a, wpRel P ops (ClsP w) G Q rest a → K a) → if Region.wanted o (yielded ops a.tmps) then plainP P o a w K else K (a.put o.dst undef)) : wpRel P ops (ClsP w) G Q (o :: rest) a :=
  wpRel_plain fun K hK => by
    have := h K hK
    split
    · rename_i hw
      rw [if_pos hw] at this
      obtain ⟨v, h1, h2⟩ := this
      exact ⟨v, fun w' ⟨x, hx⟩ => by subst hx; exact h1 _ _, h2⟩
    · rename_i hw
      rw [if_neg hw] at this
      exact this
theorem wpRel_skip (hw : Region.wanted o (yielded ops a.tmps) = false) (h : wpRel P ops C G Q rest (a.put o.dst undef)) : wpRel P ops C G Q (o :: rest) a := by
  unfold wpRel
  rw [if_neg (by rw [hw]; decide)]; exact h
/-- A value that is known up to a predicate. -/
theorem wpRel_set (hw : Region.wanted o (yielded ops a.tmps) = true) (S : Value → Prop) (hr : ∀ w, C w → ∃ v w', (execOp a.eval o).run P w = .ok (.value v) w' ∧ C w' ∧ S v) (h : ∀ v, S v → wpRel P ops C G Q rest (a.put o.dst v)) : wpRel P ops C G Q (o :: rest) a := by
  unfold wpRel
  rw [if_pos hw]
  refine ⟨fun w hC => ?_, fun u hu => ?_⟩
  · obtain ⟨v, w', e, hc, _⟩ := hr w hC
    rw [e]; exact hc
  · rcases hu with ⟨w, w', hC, e⟩ | ⟨rfl, w, w', hC, e⟩ | ⟨w, w', f, args, hC, e, _⟩
    all_goals obtain ⟨v, w2, e2, _, hs⟩ := hr w hC
    · rw [e2] at e; cases e; exact h _ hs
    · rw [e2] at e; cases e
    · rw [e2] at e; cases e
/-- One value, in every world of the class. -/
theorem wpRel_one (hw : Region.wanted o (yielded ops a.tmps) = true) (v : Value) (hr : ∀ w, (execOp a.eval o).run P w = .ok (.value v) w) (h : wpRel P ops C G Q rest (a.put o.dst v)) : wpRel P ops C G Q (o :: rest) a :=
  wpRel_set hw (· = v) (fun w hC => ⟨v, w, hr w, hC, rfl⟩) (fun _ e => by rw [e]; exact h)
theorem wpRel_move (hw : Region.wanted o (yielded ops a.tmps) = true) (x : Operand) (ho : o.op = .move x) (v : Value) (hx : a.eval x = v) (h : wpRel P ops C G Q rest (a.put o.dst v)) : wpRel P ops C G Q (o :: rest) a :=
  wpRel_one hw v (fun w => by unfold execOp; rw [ho, ← hx]; rfl) h
theorem wpRel_assign (hw : Region.wanted o (yielded ops a.tmps) = true) (x : Operand) (ho : o.op = .assign x) (v : Value) (hx : a.eval x = v) (h : wpRel P ops C G Q rest (a.put o.dst v)) : wpRel P ops C G Q (o :: rest) a :=
  wpRel_one hw v (fun w => by unfold execOp; rw [ho, ← hx]; rfl) h
theorem wpRel_call (hw : Region.wanted o (yielded ops a.tmps) = true) (f : FuncId) (args : Array Value) (hr : ∀ w, (execOp a.eval o).run P w = .ok (.enter f args) w)
    (hc : ∀ w, C w → Calls P f args w (fun e w' => ∃ v, e = .returned v ∧ G f args v ∧ C w')) (h : ∀ v, G f args v → wpRel P ops C G Q rest (a.put o.dst v)) : wpRel P ops C G Q (o :: rest) a := by
  unfold wpRel
  rw [if_pos hw]
  refine ⟨fun w hC => ?_, fun u hu => ?_⟩
  · rw [hr w]; exact hc w hC
  · rcases hu with ⟨w, w', hC, e⟩ | ⟨rfl, w, w', hC, e⟩ | ⟨w, w', f', args', hC, e, hg⟩
    · rw [hr w] at e; cases e
    · rw [hr w] at e; cases e
    · rw [hr w] at e; cases e; exact h _ hg
theorem wpRel_farith (hw : Region.wanted o (yielded ops a.tmps) = true) (hC : ∀ w n, C w → C (w.drewN n)) (op : BinOp) (t ty : TypeId) (x y : Operand) (ho : o.op = .binOp op t x y ty) (hop : isArith op = true) (k : FloatKind) (u v : Nat)
    (hx : a.eval x = .float k u) (hy : a.eval y = .float k v) (g : Nat → Nat → Nat) (hfg : fopC k op = some g) (h : ∀ r, (∀ cu cv, Fl k u cu → Fl k v cv → Fl k r (g cu cv)) → wpRel P ops C G Q rest (a.put o.dst (.float k r))) : wpRel P ops C G Q (o :: rest) a := by
  have e : fop k op = g := by cases op <;> first | (cases hop; done) | (injection hfg)
  refine wpRel_set hw (fun z => ∃ r, z = .float k r ∧ ∀ cu cv, Fl k u cu → Fl k v cv → Fl k r (g cu cv)) (fun w hc => ?_) (fun z hz => ?_)
  · obtain ⟨r, n, hr, hf⟩ := run_farith (P := P) w op hop t k u v
    exact ⟨_, _, by rw [exec_bin_float op t ty x y ho k u v hx hy w, hr]; rfl, hC _ _ hc, r, rfl, fun cu cv hu hv => by rw [← e, ← hu.out, ← hv.out]; exact hf⟩
  · obtain ⟨r, rfl, hf⟩ := hz
    exact h r hf
theorem run_fcmp (w : World) (op : BinOp) (t : TypeId) (k : FloatKind) (u v : Nat) (p : Nat → Nat → Bool) (hp : fcmp k op = some p) : (binOp op t (.float k u) (.float k v)).run P w = .ok (.bool (p (cn k u) (cn k v))) w := by
  cases op <;> simp only [fcmp] at hp <;> first | (cases hp; done) | skip
  all_goals
    cases hp
    simp [binOp, Op.floatCmp, flt, fle, fgt, fge, feq, bne, order_cn]
theorem wpRel_fcmp (hw : Region.wanted o (yielded ops a.tmps) = true) (op : BinOp) (t ty : TypeId) (x y : Operand) (ho : o.op = .binOp op t x y ty) (k : FloatKind) (u v : Nat)
    (hx : a.eval x = .float k u) (hy : a.eval y = .float k v) (p : Nat → Nat → Bool) (hp : fcmp k op = some p)
    (h : ∀ b, (∀ cu cv, Fl k u cu → Fl k v cv → p cu cv = b) → wpRel P ops C G Q rest (a.put o.dst (.bool b))) : wpRel P ops C G Q (o :: rest) a :=
  wpRel_one hw (.bool (p (cn k u) (cn k v))) (fun w => by rw [exec_bin_float op t ty x y ho k u v hx hy w, run_fcmp w op t k u v p hp]; rfl) (h _ fun cu cv hu hv => by rw [← hu.out, ← hv.out])
theorem wpRel_up (hw : Region.wanted o (yielded ops a.tmps) = true) (hC : ∀ w n, C w → C (w.drewN n)) (src dst : TypeId) (x : Operand) (ho : o.op = .convert src dst x) (u : Nat) (hx : a.eval x = .float .f32 u)
    (hs : (P.underlying src).isSome = true) (hd : P.underlying dst = some (.float .f64)) (h : ∀ r, (∀ cu, Fl .f32 u cu → Fl .f64 r (fup cu)) → wpRel P ops C G Q rest (a.put o.dst (.float .f64 r))) : wpRel P ops C G Q (o :: rest) a := by
  refine wpRel_set hw (fun z => ∃ r, z = .float .f64 r ∧ ∀ cu, Fl .f32 u cu → Fl .f64 r (fup cu)) (fun w hc => ?_) (fun z hz => ?_)
  · obtain ⟨r, n, hr, hf⟩ := run_up (P := P) w src dst u hs hd
    exact ⟨_, _, by rw [exec_conv src dst x ho _ hx w, hr]; rfl, hC _ _ hc, r, rfl, fun cu hu => by rw [← hu.out]; exact hf⟩
  · obtain ⟨r, rfl, hf⟩ := hz
    exact h r hf
theorem wpRel_fsame (hw : Region.wanted o (yielded ops a.tmps) = true) (src dst : TypeId) (x : Operand) (ho : o.op = .convert src dst x) (k : FloatKind) (u : Nat) (hx : a.eval x = .float k u)
    (hs : (P.underlying src).isSome = true) (hd : P.underlying dst = some (.float k)) (h : wpRel P ops C G Q rest (a.put o.dst (.float k u))) : wpRel P ops C G Q (o :: rest) a :=
  wpRel_one hw _ (fun w => by rw [exec_conv src dst x ho _ hx w, run_same w src dst k u hs hd]; rfl) h
theorem wpRel_fneg (hw : Region.wanted o (yielded ops a.tmps) = true) (t : TypeId) (x : Operand) (ho : o.op = .unOp .neg t x) (k : FloatKind) (u : Nat) (hx : a.eval x = .float k u)
    (h : ∀ r, (∀ cu, Fl k u cu → Fl k r (fneg k cu)) → wpRel P ops C G Q rest (a.put o.dst (.float k r))) : wpRel P ops C G Q (o :: rest) a :=
  wpRel_one hw (.float k (Op.negFloat k u)) (fun w => by unfold execOp; rw [ho]; simp [hx, Op.unary]) (h _ fun cu hu => fl_neg hu)
theorem wpRel_call2 (hw : Region.wanted o (yielded ops a.tmps) = true) (f : FuncId) (x y : Operand) (ats : Array TypeId) (ho : o.op = .call { callee := .value (.func f), args := #[x, y], argTypes := ats }) (k : FloatKind) (r s : Nat) (hx : a.eval x = .float k r) (hy : a.eval y = .float k s)
    (hcf : ∀ args w, (callFunc f args).run P w = .ok (.enter f args) w) (hc : ∀ w, C w → Calls P f #[.float k r, .float k s] w (fun e w' => ∃ z, e = .returned z ∧ G f #[.float k r, .float k s] z ∧ C w')) (h : ∀ z, G f #[.float k r, .float k s] z → wpRel P ops C G Q rest (a.put o.dst z)) : wpRel P ops C G Q (o :: rest) a :=
  wpRel_call hw f #[.float k r, .float k s] (fun w => by
    obtain ⟨dst, op, type, pos, after, guard⟩ := o
    subst ho
    rw [execOp_call_go]
    simp [hx, hy, hcf]) hc h
theorem wpRel_call1 (hw : Region.wanted o (yielded ops a.tmps) = true) (f : FuncId) (x : Operand) (ats : Array TypeId) (ho : o.op = .call { callee := .value (.func f), args := #[x], argTypes := ats }) (k : FloatKind) (r : Nat) (hx : a.eval x = .float k r)
    (hcf : ∀ args w, (callFunc f args).run P w = .ok (.enter f args) w) (hc : ∀ w, C w → Calls P f #[.float k r] w (fun e w' => ∃ z, e = .returned z ∧ G f #[.float k r] z ∧ C w')) (h : ∀ z, G f #[.float k r] z → wpRel P ops C G Q rest (a.put o.dst z)) : wpRel P ops C G Q (o :: rest) a :=
  wpRel_call hw f #[.float k r] (fun w => by
    obtain ⟨dst, op, type, pos, after, guard⟩ := o
    subst ho
    rw [execOp_call_go]
    simp [hx, hcf]) hc h
end
theorem run_enter {P : Program} {f : FuncId} {fn : Func} (hf : P.funcs[f]? = some fn) (hname : (fn.name == "runtime.NumGoroutine") = false) (hb : fn.body.isNone = false) (args : Array Value) (w : World) :
    (callFunc f args).run P w = .ok (.enter f args) w := by
  have h1 : fn.name ≠ "runtime.NumGoroutine" := by simpa using hname
  have h2 : fn.body ≠ none := by intro h; rw [h] at hb; cases hb
  simp [callFunc, hf, h1, h2]
/-- What a callee yields that answers true at two equal floats. -/
def GT (f0 : FuncId) (k : FloatKind) : FuncId → Array Value → Value → Prop := fun f args v =>
  f = f0 ∧ ∃ b, v = .bool b ∧ ∀ x y c, args = #[.float k x, .float k y] → Fl k x c → Fl k y c → b = true
theorem GT.of {P : Program} {w : World} {f0 : FuncId} {k : FloatKind} {x y c : Nat} (hx : Fl k x c) (hy : Fl k y c) (h : Calls P f0 #[.float k x, .float k y] w (RB w true)) {w0 : World} (hw : ClsD w0 w) :
    Calls P f0 #[.float k x, .float k y] w (fun e w' => ∃ v, e = .returned v ∧ GT f0 k f0 #[.float k x, .float k y] v ∧ ClsD w0 w') := by
  refine h.mono ?_
  rintro e w' ⟨b, hb, rfl, n, rfl⟩
  exact ⟨_, rfl, ⟨rfl, b, rfl, fun _ _ _ _ _ _ => hb.symm⟩, ClsD.draws _ _ hw⟩
/-- What a callee of two floats yields that answers by a bool. -/
def G2 (f0 : FuncId) (k : FloatKind) (p : Nat → Nat → Bool → Prop) : FuncId → Array Value → Value → Prop := fun f args v =>
  f = f0 ∧ ∃ b, v = .bool b ∧ ∀ x y cx cy, args = #[.float k x, .float k y] → Fl k x cx → Fl k y cy → p cx cy b
/-- .. of one float. -/
def G1 (f0 : FuncId) (k : FloatKind) (p : Nat → Bool → Prop) : FuncId → Array Value → Value → Prop := fun f args v =>
  f = f0 ∧ ∃ b, v = .bool b ∧ ∀ x cx, args = #[.float k x] → Fl k x cx → p cx b
theorem G1.of {P : Program} {w : World} {f0 : FuncId} {k : FloatKind} {p : Nat → Bool} {x c : Nat} (hx : Fl k x c) (h : Calls P f0 #[.float k x] w (RB w (p c))) {w0 : World} (hw : ClsD w0 w) :
    Calls P f0 #[.float k x] w (fun e w' => ∃ v, e = .returned v ∧ G1 f0 k (fun c b => p c = b) f0 #[.float k x] v ∧ ClsD w0 w') := by
  refine h.mono ?_
  rintro e w' ⟨b, hb, rfl, n, rfl⟩
  refine ⟨_, rfl, ⟨rfl, b, rfl, fun x' cx' he hx' => ?_⟩, ClsD.draws _ _ hw⟩
  have e1 : x = x' := by simpa using he
  subst e1
  rw [← hx'.out, hx.out]; exact hb
theorem G2.of {P : Program} {w : World} {f0 : FuncId} {k : FloatKind} {p : Nat → Nat → Bool} {x c y d : Nat} (hx : Fl k x c) (hy : Fl k y d) (h : Calls P f0 #[.float k x, .float k y] w (RB w (p c d))) {w0 : World} (hw : ClsD w0 w) :
    Calls P f0 #[.float k x, .float k y] w (fun e w' => ∃ v, e = .returned v ∧ G2 f0 k (fun c d b => p c d = b) f0 #[.float k x, .float k y] v ∧ ClsD w0 w') := by
  refine h.mono ?_
  rintro e w' ⟨b, hb, rfl, n, rfl⟩
  refine ⟨_, rfl, ⟨rfl, b, rfl, fun x' y' cx' cy' he hx' hy' => ?_⟩, ClsD.draws _ _ hw⟩
  have e1 : x = x' ∧ y = y' := by simpa using he
  obtain ⟨rfl, rfl⟩ := e1
  rw [← hx'.out, ← hy'.out, hx.out, hy.out]; exact hb
attribute [go_sem] plain plainAt plainUpon plainP ClsD
end Go.Proofs.Ytihoaflcjkppnaa
