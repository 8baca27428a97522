/- Shapes are right: what comes in and goes out may be taken for what stands in the holes; contracts that are told by functions; loops that are told by a fixpoint. -/
import Derived.Test.YtpglfnkkmafhbaaDa
import Derived.Test.YtpglfnkkmafhbaaT3
set_option linter.unusedVariables false
set_option linter.unusedSimpArgs false
set_option linter.constructorNameAsVariable false
namespace Go.Proofs.Ytpglfnkkmafhbaa
open Go.RowKit
/-- One value may be taken for another. -/
def Lw (u v : V) : Prop := ∀ (β : Bt) (S : Nat → Prop) (w : World) (c : Value), Rel β S w c u → Rel β S w c v
theorem Lw.refl (u : V) : Lw u u := fun _ _ _ _ h => h
def LwL (l m : List V) : Prop := l.length = m.length ∧ ∀ (j : Nat) (v : V), m[j]? = some v → ∃ u, l[j]? = some u ∧ Lw u v
theorem LwL.nil : LwL [] [] := ⟨rfl, fun j v h => by simp at h⟩
theorem LwL.cons {u v : V} {l m : List V} (h : Lw u v) (hl : LwL l m) : LwL (u :: l) (v :: m) := ⟨by simp [hl.1], fun j x hx => by
  cases j with
  | zero => simp at hx; subst hx; exact ⟨u, rfl, h⟩
  | succ j => simpa using hl.2 j x (by simpa using hx)⟩
/-- What stands in a hole, and what is put there. -/
def Cn (u v : V) : Prop := ∃ (a : Ck) (x : a.D), decC a u = some x ∧ v = encC a x
theorem Cn.lw {u v : V} (h : Cn u v) : Lw u v := by
  obtain ⟨a, x, h1, rfl⟩ := h
  exact fun β S w c hr => decC_rel h1 hr
theorem Cn.ds {row : List Ck} {xs : List (DR row)} {v : V} (h : Cn (.ds row xs) v) : v = .ds row xs := by
  obtain ⟨a, x, h1, rfl⟩ := h
  cases a <;> simp [decC] at h1
  rename_i row'
  obtain ⟨hb, h1⟩ := h1
  obtain rfl := beqR_eq hb
  cases h1; rfl
inductive CnL : List V → List V → Prop
  | nil : CnL [] []
  | cons {u v : V} {l m : List V} (h : Cn u v) (hl : CnL l m) : CnL (u :: l) (v :: m)
theorem CnL.append_inv : ∀ {a b m : List V}, CnL (a ++ b) m → ∃ m1 m2, m = m1 ++ m2 ∧ CnL a m1 ∧ CnL b m2
  | [], b, m, h => ⟨[], m, rfl, .nil, h⟩
  | u :: a, b, m, h => by
    cases h with
    | cons h hl =>
      obtain ⟨m1, m2, rfl, h1, h2⟩ := CnL.append_inv hl
      exact ⟨_ :: m1, m2, rfl, .cons h h1, h2⟩
theorem decR_cn (row : List Ck) : ∀ (l : List V) (x : DR row), decR row l = some x → CnL l (encR row x) := by
  induction row with
  | nil => intro l x h; cases l with
    | nil => exact .nil
    | cons _ _ => exact (decR_zero h).elim
  | cons c r ih =>
    intro l x h
    cases r with
    | nil =>
      obtain ⟨u, rfl, hu⟩ := decR_one h
      exact .cons ⟨c, x, hu, rfl⟩ .nil
    | cons d r =>
      cases l with
      | nil => exact (decR_nil h).elim
      | cons u us =>
        obtain ⟨h1, h2⟩ := decR_cons h
        exact .cons ⟨c, x.1, h1, rfl⟩ (ih us x.2 h2)
theorem lw_agg {l m : List V} (h : LwL l m) : Lw (.agg l) (.agg m) := fun β S w c hr => by
  cases hr with
  | agg hl hh => exact .agg (hl.trans h.1) fun j v hv => by obtain ⟨u, hu, hw⟩ := h.2 j v hv; exact hw _ _ _ _ (hh j u hu)
theorem lw_tup {l m : List V} (h : LwL l m) : Lw (.tup l) (.tup m) := fun β S w c hr => by
  cases hr with
  | tup hl hh => exact .tup (hl.trans h.1) fun j v hv => by obtain ⟨u, hu, hw⟩ := h.2 j v hv; exact hw _ _ _ _ (hh j u hu)
theorem lw_dpt {l m : List V} (h : LwL l m) (off : Nat) : Lw (.dpt l off) (.dpt m off) := fun β S w c hr => by
  cases hr with
  | dpt hS g hc hh => exact .dpt hS g (fun j hj => hc j (by rw [h.1]; exact hj)) fun j v hv => by obtain ⟨u, hu, hw⟩ := h.2 j v hv; exact hw _ _ _ _ (hh j u hu)
theorem lw_fn {l m : List V} (h : LwL l m) (g : FuncId) : Lw (.fn g l) (.fn g m) := fun β S w c hr => by
  cases hr with
  | fn hl hh => exact .fn (hl.trans h.1) fun j v hv => by obtain ⟨u, hu, hw⟩ := h.2 j v hv; exact hw _ _ _ _ (hh j u hu)
theorem bif_none {α : Type} {b : Bool} {a : Option α} {x : α} (h : (bif b then a else none) = some x) : b = true ∧ a = some x := by
  cases b with
  | true => exact ⟨rfl, h⟩
  | false => cases h
mutual
theorem get_put : ∀ (s : Sh) (v : V) (a : List V), s.get v = some a → ∀ a', CnL a a' → ∀ r, (s.put (a' ++ r)).2 = r ∧ Lw v (s.put (a' ++ r)).1
  | .h, v, a, h, a', hc, r => by
    simp only [Sh.get, Option.some.injEq] at h; subst h
    cases hc with
    | cons h1 h2 => cases h2; exact ⟨rfl, h1.lw⟩
  | .undef, v, a, h, a', hc, r => by
    simp only [Sh.get, Option.some.injEq] at h; subst h; cases hc
    exact ⟨rfl, fun β S w c hr => .undef _⟩
  | .nils, v, a, h, a', hc, r => by
    cases v <;> simp [Sh.get] at h
    subst h; cases hc; exact ⟨rfl, Lw.refl _⟩
  | .nilp, v, a, h, a', hc, r => by
    cases v <;> simp [Sh.get] at h
    subst h; cases hc; exact ⟨rfl, Lw.refl _⟩
  | .nilf, v, a, h, a', hc, r => by
    cases v <;> simp [Sh.get] at h
    subst h; cases hc; exact ⟨rfl, Lw.refl _⟩
  | .lb q, v, a, h, a', hc, r => by
    cases v <;> simp [Sh.get] at h
    obtain ⟨h1, h2⟩ := bif_none h
    have h1 := eq_of_beq h1
    subst h1
    cases h2; cases hc; exact ⟨rfl, Lw.refl _⟩
  | .agg l, v, a, h, a', hc, r => by
    cases v <;> simp [Sh.get] at h
    obtain ⟨h1, h2⟩ := getL_putL l _ a h a' hc r
    simp only [Sh.put]
    exact ⟨h1, lw_agg h2⟩
  | .tup l, v, a, h, a', hc, r => by
    cases v <;> simp [Sh.get] at h
    obtain ⟨h1, h2⟩ := getL_putL l _ a h a' hc r
    simp only [Sh.put]
    exact ⟨h1, lw_tup h2⟩
  | .ref id off, v, a, h, a', hc, r => by
    cases v <;> simp [Sh.get] at h
    obtain ⟨h1, h2⟩ := bif_none h
    simp only [Bool.and_eq_true] at h1
    obtain rfl := Nat.eq_of_beq_eq_true h1.1
    obtain rfl := Nat.eq_of_beq_eq_true h1.2
    cases h2; cases hc; exact ⟨rfl, Lw.refl _⟩
  | .slw id st, v, a, h, a', hc, r => by
    cases v <;> simp [Sh.get] at h
    obtain ⟨h1, h2⟩ := bif_none h
    simp only [Bool.and_eq_true] at h1
    obtain rfl := Nat.eq_of_beq_eq_true h1.1
    obtain rfl := Nat.eq_of_beq_eq_true h1.2
    cases h2; cases hc; exact ⟨rfl, Lw.refl _⟩
  | .dpt l off, v, a, h, a', hc, r => by
    cases v <;> simp [Sh.get] at h
    obtain ⟨h1, h0⟩ := bif_none h
    obtain rfl := Nat.eq_of_beq_eq_true h1
    obtain ⟨h1, h2⟩ := getL_putL l _ a h0 a' hc r
    simp only [Sh.put]
    exact ⟨h1, lw_dpt h2 _⟩
  | .fn g l, v, a, h, a', hc, r => by
    cases v <;> simp [Sh.get] at h
    obtain ⟨h1, h0⟩ := bif_none h
    obtain rfl := Nat.eq_of_beq_eq_true h1
    obtain ⟨h1, h2⟩ := getL_putL l _ a h0 a' hc r
    simp only [Sh.put]
    exact ⟨h1, lw_fn h2 _⟩
termination_by structural s => s
theorem getL_putL : ∀ (s : List Sh) (v : List V) (a : List V), Sh.getL s v = some a → ∀ a', CnL a a' → ∀ r, (Sh.putL s (a' ++ r)).2 = r ∧ LwL v (Sh.putL s (a' ++ r)).1
  | [], [], a, h, a', hc, r => by
    simp only [Sh.getL, Option.some.injEq] at h; subst h; cases hc
    exact ⟨rfl, LwL.nil⟩
  | [], v :: vs, a, h, a', hc, r => by simp [Sh.getL] at h
  | s :: l, [], a, h, a', hc, r => by simp [Sh.getL] at h
  | s :: l, v :: vs, a, h, a', hc, r => by
    simp only [Sh.getL] at h
    obtain ⟨a1, h1, h2⟩ := bind_some h
    obtain ⟨a2, h3, h4⟩ := bind_some h2
    cases h4
    obtain ⟨m1, m2, rfl, c1, c2⟩ := hc.append_inv
    obtain ⟨e1, e2⟩ := get_put s v a1 h1 m1 c1 (m2 ++ r)
    obtain ⟨e3, e4⟩ := getL_putL l vs a2 h3 m2 c2 r
    rw [List.append_assoc]
    simp only [Sh.putL, e1]
    exact ⟨e3, LwL.cons e2 e4⟩
termination_by structural s => s
end
/-- An own block may be taken for another. -/
def BLw (x y : HB) : Prop := y.fz = x.fz ∧ (y.blk = .dead ↔ x.blk = .dead) ∧ (∀ (β : Bt) (S : Nat → Prop) (w : World) (id : Nat), BRel β S w id x.blk → BRel β S w id y.blk) ∧ ∀ (row : List Ck) (xss : List (DR [.osl row])), y = ⟨.arr [.osl row] xss, false⟩ → x = ⟨.arr [.osl row] xss, false⟩
def BLwL (l m : List HB) : Prop := l.length = m.length ∧ ∀ (j : Nat) (y : HB), m[j]? = some y → ∃ x, l[j]? = some x ∧ BLw x y
theorem BLwL.nil : BLwL [] [] := ⟨rfl, fun j v h => by simp at h⟩
theorem BLwL.cons {u v : HB} {l m : List HB} (h : BLw u v) (hl : BLwL l m) : BLwL (u :: l) (v :: m) := ⟨by simp [hl.1], fun j x hx => by
  cases j with
  | zero => simp at hx; subst hx; exact ⟨u, rfl, h⟩
  | succ j => simpa using hl.2 j x (by simpa using hx)⟩
theorem blw_cells {l m : List V} (h : LwL l m) (fz : Bool) : BLw ⟨.cells l, fz⟩ ⟨.cells m, fz⟩ := ⟨rfl, by simp, fun β S w id hb => by
  obtain ⟨blk, c, t, h1, h2, h3, h4⟩ := hb
  exact ⟨blk, c, t, by rw [← h.1]; exact h1, h2, by rw [← h.1]; exact h3, fun j v hv => by obtain ⟨u, hu, hw⟩ := h.2 j v hv; exact hw _ _ _ _ (h4 j u hu)⟩, fun _ _ e => by cases e⟩
theorem bget_put (s : BSh) (hb : HB) (a : List V) (h : s.get hb = some a) (a' : List V) (hc : CnL a a') (r : List V) : (s.put (a' ++ r)).2 = r ∧ BLw hb (s.put (a' ++ r)).1 := by
  obtain ⟨blk, f⟩ := hb
  cases s with
  | cells l fz =>
    cases blk <;> cases fz <;> cases f <;> simp [BSh.get] at h
    all_goals
      obtain ⟨h1, h2⟩ := getL_putL l _ a h a' hc r
      simp only [BSh.put]
      exact ⟨h1, blw_cells h2 _⟩
  | arr row fz =>
    cases blk <;> cases fz <;> cases f <;> simp [BSh.get] at h
    all_goals
      obtain ⟨h1, h2⟩ := bif_none h
      cases h2
      cases hc with
      | cons h3 h4 =>
        cases h4
        obtain rfl := h3.ds
        exact ⟨rfl, rfl, by simp [BSh.put], fun β S w id hb => hb, fun _ _ e => e⟩
theorem bgetL_putL : ∀ (s : List BSh) (v : List HB) (a : List V), BSh.getL s v = some a → ∀ a', CnL a a' → ∀ r, (BSh.putL s (a' ++ r)).2 = r ∧ BLwL v (BSh.putL s (a' ++ r)).1
  | [], [], a, h, a', hc, r => by
    simp only [BSh.getL, Option.some.injEq] at h; subst h; cases hc
    exact ⟨rfl, BLwL.nil⟩
  | [], v :: vs, a, h, a', hc, r => by simp [BSh.getL] at h
  | s :: l, [], a, h, a', hc, r => by simp [BSh.getL] at h
  | s :: l, v :: vs, a, h, a', hc, r => by
    simp only [BSh.getL] at h
    obtain ⟨a1, h1, h2⟩ := bind_some h
    obtain ⟨a2, h3, h4⟩ := bind_some h2
    cases h4
    obtain ⟨m1, m2, rfl, c1, c2⟩ := hc.append_inv
    obtain ⟨e1, e2⟩ := bget_put s v a1 h1 m1 c1 (m2 ++ r)
    obtain ⟨e3, e4⟩ := bgetL_putL l vs a2 h3 m2 c2 r
    rw [List.append_assoc]
    simp only [BSh.putL, e1]
    exact ⟨e3, BLwL.cons e2 e4⟩
theorem shp_lw {p : Shp} {vs : List V} {bs : List HB} {x : DR p.hs} (h : p.dec vs bs = some x) : LwL vs (p.enc x).1 ∧ BLwL bs (p.enc x).2 := by
  unfold Shp.dec at h
  obtain ⟨a, h1, h2⟩ := bind_some h
  obtain ⟨b, h3, h4⟩ := bind_some h2
  have hc := decR_cn _ _ _ h4
  obtain ⟨m1, m2, hm, c1, c2⟩ := hc.append_inv
  obtain ⟨e1, e2⟩ := getL_putL p.vs vs a h1 m1 c1 m2
  obtain ⟨e3, e4⟩ := bgetL_putL p.bs bs b h3 m2 c2 []
  unfold Shp.enc
  rw [List.append_nil] at e3 e4
  rw [hm]
  simp only [e1]
  exact ⟨e2, e4⟩
theorem assocV_get : ∀ (lv : List Nat) (vs : List V) (i : Nat), (∃ j : Nat, lv[j]? = some i ∧ (∀ k : Nat, k < j → lv[k]? ≠ some i) ∧ ((∃ v, vs[j]? = some v ∧ assocV lv vs i = v) ∨ (vs.length ≤ j ∧ assocV lv vs i = .undef))) ∨ assocV lv vs i = .undef
  | [], vs, i => .inr (by cases vs <;> rfl)
  | t :: ts, [], i => .inr rfl
  | t :: ts, v :: vs, i => by
    simp only [assocV]
    cases hb : Nat.beq i t with
    | true =>
      obtain rfl := Nat.eq_of_beq_eq_true hb
      exact .inl ⟨0, rfl, fun k hk => by omega, .inl ⟨v, rfl, rfl⟩⟩
    | false =>
      simp only [cond_false]
      rcases assocV_get ts vs i with ⟨j, h1, h2, h3⟩ | h
      · refine .inl ⟨j + 1, by simpa using h1, fun k hk => ?_, ?_⟩
        · cases k with
          | zero => simp; intro e; subst e; simp at hb
          | succ k => simpa using h2 k (by omega)
        · rcases h3 with ⟨v', h4, h5⟩ | ⟨h4, h5⟩
          · exact .inl ⟨v', by simpa using h4, h5⟩
          · exact .inr ⟨by simpa using h4, h5⟩
      · exact .inr h
theorem assocV_lw (lv : List Nat) : ∀ {vs vs' : List V} (i : Nat), LwL vs vs' → Lw (assocV lv vs i) (assocV lv vs' i) := by
  induction lv with
  | nil => intro vs vs' i h; rw [show assocV [] vs i = .undef by cases vs <;> rfl, show assocV [] vs' i = .undef by cases vs' <;> rfl]; exact Lw.refl _
  | cons t ts ih =>
    intro vs vs' i h
    cases vs with
    | nil =>
      cases vs' with
      | nil => exact Lw.refl _
      | cons _ _ => have := h.1; simp at this
    | cons v vs =>
      cases vs' with
      | nil => have := h.1; simp at this
      | cons v' vs' =>
        simp only [assocV]
        cases Nat.beq i t with
        | true =>
          simp only [cond_true]
          obtain ⟨u, hu, hw⟩ := h.2 0 v' rfl
          simp at hu; subst hu; exact hw
        | false =>
          simp only [cond_false]
          exact ih i ⟨by simpa using h.1, fun j x hx => by simpa using h.2 (j + 1) x (by simpa using hx)⟩
theorem blwL_get {l m : List HB} (h : BLwL l m) (id : Nat) : (l[id]? = none ↔ m[id]? = none) := by
  rw [List.getElem?_eq_none_iff, List.getElem?_eq_none_iff, h.1]
theorem Sim.shape {w0 : World} {M S0 : Nat → Prop} {β : Bt} {S : Nat → Prop} {n : Nat} {lv : List Nat} {vs vs' : List V} {bs bs' : List HB} {a : Act} {w : World} (hv : LwL vs vs') (hb : BLwL bs bs') (h : Sim w0 M S0 β S (mkSt n lv vs bs) a w) : Sim w0 M S0 β S (mkSt n lv vs' bs') a w := by
  have key : ∀ (id : Nat) (y : HB), bs'[id]? = some y → ∃ x, bs[id]? = some x ∧ BLw x y := hb.2
  refine sim_mk h.kept ⟨fun id y hy => ?_, fun id y blk n hy hd hf e => ?_, fun id y blk n hy hd hf e => ?_, fun id id' y y' blk n n' hy hy' hd hd' hf hf' e e' => ?_, fun id hi => ?_, ?_⟩ h.sb h.n h.df fun i => ?_
  case refine_6 =>
    obtain ⟨σ, q⟩ := h.hid
    refine ⟨σ, q.mono (fun id row xss e => ?_) (fun id y b n hy hd hf e => ?_) (fun _ e => .inl e) (fun _ _ _ _ _ => rfl) (fun _ _ _ _ _ => rfl) (Nat.le_refl _) (Szs.refl _)⟩
    · obtain ⟨x, hx, hw⟩ := key id _ e
      rw [hw.2.2.2 row xss rfl] at hx
      exact ⟨hx, rfl⟩
    · obtain ⟨x, hx, hw⟩ := key id y hy
      exact .inl ⟨x, n, hx, fun hh => hd (hw.2.1.2 hh), by rw [← hw.1]; exact hf, e⟩
  · obtain ⟨x, hx, hw⟩ := key id y hy
    exact hw.2.2.1 _ _ _ _ (h.blk id x hx)
  · obtain ⟨x, hx, hw⟩ := key id y hy
    exact h.own id blk n ⟨x, hx, fun hh => hd (hw.2.1.2 hh), by rw [← hw.1]; exact hf⟩ e
  · obtain ⟨x, hx, hw⟩ := key id y hy
    exact h.fzn id x blk n hx (fun hh => hd (hw.2.1.2 hh)) (by rw [← hw.1]; exact hf) e
  · obtain ⟨x, hx, hw⟩ := key id y hy
    obtain ⟨x', hx', hw'⟩ := key id' y' hy'
    exact h.inj id id' blk n n' ⟨x, hx, fun hh => hd (hw.2.1.2 hh), by rw [← hw.1]; exact hf⟩ ⟨x', hx', fun hh => hd' (hw'.2.1.2 hh), by rw [← hw'.1]; exact hf'⟩ e e'
  · exact h.fresh id ((blwL_get hb id).2 hi)
  · exact assocV_lw lv i hv _ _ _ _ (h.tm i)
theorem decX_lw : ∀ {l : List XShp} {x : Xt} {vs : List V} {bs : List HB} {y : SumD (l.map (·.2))}, decX l x vs bs = some y → ((encX l y).1.beq x = true) ∧ LwL vs (encX l y).2.1 ∧ BLwL bs (encX l y).2.2
  | [], x, vs, bs, y, h => by simp [decX] at h
  | [p], x, vs, bs, y, h => by
    have h' : (bif p.1.beq x then p.2.dec vs bs else none) = some y := h
    obtain ⟨h1, h2⟩ := bif_none h'
    exact ⟨h1, shp_lw h2⟩
  | p :: q :: l, x, vs, bs, y, h => by
    have h' : (match (bif p.1.beq x then p.2.dec vs bs else none) with
      | some y => some (.inl y)
      | none => (decX (q :: l) x vs bs).map .inr : Option (DR p.2.hs ⊕ SumD ((q :: l).map (·.2)))) = some y := h
    split at h'
    · rename_i z hz
      obtain ⟨h1, h2⟩ := bif_none hz
      cases h'
      exact ⟨h1, shp_lw h2⟩
    · obtain ⟨z, h1, rfl⟩ := map_some h'
      exact decX_lw (l := q :: l) h1
theorem Xt.beq_eq {a b : Xt} (h : a.beq b = true) : a = b := by
  cases a <;> cases b <;> simp [Xt.beq] at h
  · rfl
  · rw [h]
  · rfl
theorem tellX_enc : ∀ (l : List XShp) {y : SumD (l.map (·.2))} {out : Xt × List V × List HB}, (tellX l y).sem = some out → out = encX l y := by
  intro l
  induction l with
  | nil => intro y out h; simp [tellX, Tr.sem] at h
  | cons p l ih =>
    cases l with
    | nil =>
      intro y out h
      have h' : some (p.1, p.2.enc y) = some out := h
      cases h'; rfl
    | cons q l =>
      intro y out h
      have h' : (bif isL y then some (p.1, p.2.enc (@unL _ _ (inhR p.2.hs) y)) else (tellX (q :: l) (@unR _ _ (inhS q.2 (List.map (fun p : XShp => p.2) l)) y)).sem) = some out := h
      have key : ∀ z : DR p.2.hs ⊕ SumD (List.map (fun p : XShp => p.2) (q :: l)), (bif isL z then some (p.1, p.2.enc (@unL _ _ (inhR p.2.hs) z)) else (tellX (q :: l) (@unR _ _ (inhS q.2 (List.map (fun p : XShp => p.2) l)) z)).sem) = some out → out = encX (p :: q :: l) z := fun z hz => by
        cases z with
        | inl x => simp only [isL, unL, cond_true, Option.some.injEq] at hz; subst hz; rfl
        | inr x => simp only [isL, unR, cond_false] at hz; exact ih hz
      exact key y h'
theorem tellO_enc : ∀ {l : List XShp} {o : Option (SumD (l.map (·.2)))} {out : Xt × List V × List HB}, (tellO l o).sem = some out → ∃ y, o = some y ∧ out = encX l y
  | [], o, out, h => by simp [tellO, Tr.sem] at h
  | p :: l, o, out, h => by
    have h' : (bif osome o then (tellX (p :: l) (@oget _ (inhS p.2 (List.map (fun p : XShp => p.2) l)) o)).sem else none) = some out := h
    cases o with
    | none => simp [osome] at h'
    | some y => exact ⟨y, rfl, tellX_enc _ h'⟩
/-! ### Tables -/
abbrev MSpec := List V → List Blk → Tr (V × List Blk)
abbrev MTab := FuncId → Option MSpec
def mtab0 : MTab := fun _ => none
def mtab (f0 : FuncId) (sp : MSpec) (rest : MTab) : MTab := fun f => bif Nat.beq f f0 then some sp else rest f
def mrest (T : MTab) (f : FuncId) : MSpec := match T f with
  | some g => g
  | none => fun _ _ => .bad
def MSpecOk (P : Program) (f : FuncId) (sp : MSpec) : Prop := ∀ args bs out, (sp args bs).sem = some out → MOk P f args bs out
def MTabOk (P : Program) (T : MTab) : Prop := ∀ f g, T f = some g → MSpecOk P f g
theorem mtab0_ok (P : Program) : MTabOk P mtab0 := fun f g h => by cases h
theorem mtab_ok {P : Program} {f0 : FuncId} {sp : MSpec} {rest : MTab} (h : MSpecOk P f0 sp) (hr : MTabOk P rest) : MTabOk P (mtab f0 sp rest) := fun f g hh => by
  unfold mtab at hh
  cases hb : Nat.beq f f0 with
  | true => rw [hb] at hh; obtain rfl := Nat.eq_of_beq_eq_true hb; cases hh; exact h
  | false => rw [hb] at hh; exact hr f g hh
theorem mrest_ok {P : Program} {T : MTab} (h : MTabOk P T) (f : FuncId) : MSpecOk P f (mrest T f) := fun args bs out hh => by
  unfold mrest at hh
  cases hg : T f with
  | some g => rw [hg] at hh; exact h f g hg args bs out hh
  | none => rw [hg] at hh; simp [Tr.sem] at hh
/-- The environment of a function that reads; of one that writes into n blocks that are given. -/
def envT (P : Program) (C : Tab) (T : MTab) : Env := ⟨tyOf P, C, fun f => (T f).isSome, mrest T, true, 0, eqOk P, false⟩
def envW (P : Program) (C : Tab) (T : MTab) (n : Nat) : Env := ⟨tyOf P, C, fun f => (T f).isSome, mrest T, false, n, eqOk P, false⟩
def envTo (P : Program) (C : Tab) (T : MTab) : Env := ⟨tyOf P, C, fun f => (T f).isSome, mrest T, true, 0, eqOk P, true⟩
def envWo (P : Program) (C : Tab) (T : MTab) (n : Nat) : Env := ⟨tyOf P, C, fun f => (T f).isSome, mrest T, false, n, eqOk P, true⟩
theorem envTo_ok {P : Program} {C : Tab} {T : MTab} (h : TabOk P C) (hT : MTabOk P T) : EnvOk P (envTo P C T) := ⟨fun _ _ e => e, h, fun f args bs out hh => mrest_ok hT f args bs out hh, fun _ e => e⟩
theorem envWo_ok {P : Program} {C : Tab} {T : MTab} {n : Nat} (h : TabOk P C) (hT : MTabOk P T) : EnvOk P (envWo P C T n) := ⟨fun _ _ e => e, h, fun f args bs out hh => mrest_ok hT f args bs out hh, fun _ e => e⟩
theorem envT_ok {P : Program} {C : Tab} {T : MTab} (h : TabOk P C) (hT : MTabOk P T) : EnvOk P (envT P C T) := ⟨fun _ _ e => e, h, fun f args bs out hh => mrest_ok hT f args bs out hh, fun _ e => e⟩
theorem envW_ok {P : Program} {C : Tab} {T : MTab} {n : Nat} (h : TabOk P C) (hT : MTabOk P T) : EnvOk P (envW P C T n) := ⟨fun _ _ e => e, h, fun f args bs out hh => mrest_ok hT f args bs out hh, fun _ e => e⟩
/-! ### Functions -/
def single1 (p : Xt × List V × List HB) : V × List HB := (single p.2.1, p.2.2)
/-- What a function comes to, in plain terms. -/
noncomputable def meanF (E : Env) (L : Loops) (fn : Func) (A : Shp) (R : List XShp) (x : DR A.hs) : Option (SumD (R.map (·.2))) :=
  ((evFn E L fn (A.enc x).1).sem).bind fun q => decX R .ret [q.1] q.2
/-- The contract that is told by a function that may fail. -/
def toldO (A : Shp) (R : List XShp) (F : DR A.hs → Option (SumD (R.map (·.2)))) (rest : Spec) : Spec := fun args => match A.dec args [] with
  | some x => (tellO R (F x)).bind fun q => .ok (single1 q)
  | none => rest args
/-- .. and that does not. -/
def toldT (A : Shp) (R : List XShp) (F : DR A.hs → SumD (R.map (·.2))) (rest : Spec) : Spec := fun args => match A.dec args [] with
  | some x => (tellX R (F x)).bind fun q => .ok (single1 q)
  | none => rest args
def oneV (R : List XShp) : Bool := R.all fun p => Nat.beq p.2.vs.length 1
theorem putL_len : ∀ (s : List Sh) (r : List V), (Sh.putL s r).1.length = s.length
  | [], r => rfl
  | s :: l, r => by simp only [Sh.putL, List.length_cons, putL_len l]
theorem encX_one : ∀ {R : List XShp} {y : SumD (R.map (·.2))}, oneV R = true → ∃ v, (encX R y).2.1 = [v]
  | [], y, h => nomatch y
  | [p], y, h => by
    simp only [oneV, List.all_cons, List.all_nil, Bool.and_true] at h
    have := putL_len p.2.vs (encR p.2.hs y)
    rw [Nat.eq_of_beq_eq_true h] at this
    exact List.length_eq_one_iff.1 (show (p.2.enc y).1.length = 1 from this)
  | p :: q :: l, .inl y, h => by
    simp only [oneV, List.all_cons, Bool.and_eq_true] at h
    have := putL_len p.2.vs (encR p.2.hs y)
    rw [Nat.eq_of_beq_eq_true h.1] at this
    exact List.length_eq_one_iff.1 (show (p.2.enc y).1.length = 1 from this)
  | p :: q :: l, .inr y, h => encX_one (R := q :: l) (y := y) (by simp only [oneV, List.all_cons, Bool.and_eq_true] at h ⊢; exact h.2)
theorem cells_lw {w : World} {S : Nat → Prop} {cargs : Array Value} {l m : List V} (h : LwL l m) (hc : CellsRel B0 S w cargs l) : CellsRel B0 S w cargs m :=
  ⟨hc.1.trans h.1, fun j v hv => by obtain ⟨u, hu, hw⟩ := h.2 j v hv; exact hw _ _ _ _ (hc.2 j u hu)⟩
theorem cok_in {P : Program} {f : FuncId} {args args' : List V} {out : V × List HB} (h : LwL args args') (hc : COk P f args' out) : COk P f args out := fun w S cargs hS ha => hc w S cargs hS (cells_lw h ha)
theorem entered_mono {P : Program} {f : FuncId} {cargs : Array Value} {w : World} {R R' : Ending → World → Prop} (h : Entered P f cargs w R) (hm : ∀ e w', R e w' → R' e w') : Entered P f cargs w R' := by
  unfold Entered at h ⊢
  split at h
  · exact hm _ _ h
  · exact h.mono hm
  · exact h.elim
theorem cok_out {P : Program} {f : FuncId} {args : List V} {u v : V} {bs cs : List HB} (hv : LwL [u] [v]) (hb : BLwL bs cs) (hc : COk P f args (u, bs)) : COk P f args (v, cs) := fun w S cargs hS ha =>
  entered_mono (hc w S cargs hS ha) fun e w' ⟨cv, β, S', he, hs⟩ => ⟨cv, β, S', he, hs.shape hv hb⟩
theorem mean_cok {P : Program} {E : Env} {L : Loops} {fn : Func} {f : FuncId} {A : Shp} {R : List XShp} (hR : oneV R = true) (hs : SpecOk P f (evFn E L fn)) {x : DR A.hs} {y : SumD (R.map (·.2))} (h : meanF E L fn A R x = some y) : COk P f (A.enc x).1 (single1 (encX R y)) := by
  unfold meanF at h
  obtain ⟨⟨u, bs⟩, h1, h2⟩ := bind_some h
  obtain ⟨e1, e2, e3⟩ := decX_lw h2
  obtain ⟨v, hv⟩ := encX_one (R := R) (y := y) hR
  have := hs _ _ h1
  rw [hv] at e2
  have h3 := cok_out e2 e3 this
  show COk P f _ (single (encX R y).2.1, (encX R y).2.2)
  rw [hv]
  exact h3
theorem toldO_ok {P : Program} {E : Env} {L : Loops} {fn : Func} {f : FuncId} {A : Shp} {R : List XShp} {F : DR A.hs → Option (SumD (R.map (·.2)))} {rest : Spec} (hR : oneV R = true) (hs : SpecOk P f (evFn E L fn)) (hr : SpecOk P f rest) (hF : ∀ x, meanF E L fn A R x = F x) : SpecOk P f (toldO A R F rest) := fun args out h => by
  unfold toldO at h
  split at h
  · rename_i x hx
    rw [Tr.sem_bind] at h
    obtain ⟨q, h1, h2⟩ := bind_some h
    cases h2
    obtain ⟨y, h3, rfl⟩ := tellO_enc h1
    exact cok_in (shp_lw hx).1 (mean_cok hR hs ((hF x).trans h3))
  · exact hr args out h
theorem toldT_ok {P : Program} {E : Env} {L : Loops} {fn : Func} {f : FuncId} {A : Shp} {R : List XShp} {F : DR A.hs → SumD (R.map (·.2))} {rest : Spec} (hR : oneV R = true) (hs : SpecOk P f (evFn E L fn)) (hr : SpecOk P f rest) (hF : ∀ x, meanF E L fn A R x = some (F x)) : SpecOk P f (toldT A R F rest) := fun args out h => by
  unfold toldT at h
  split at h
  · rename_i x hx
    rw [Tr.sem_bind] at h
    obtain ⟨q, h1, h2⟩ := bind_some h
    cases h2
    obtain rfl := tellX_enc _ h1
    exact cok_in (shp_lw hx).1 (mean_cok hR hs (hF x))
  · exact hr args out h
/-- The table's other words for a function. -/
theorem rest_ok {P : Program} {C : Tab} (h : TabOk P C) (f : FuncId) : SpecOk P f (C f) := fun args out hh => h f args out hh
/-! ### Loops -/
/-- What a round comes to, in plain terms. -/
noncomputable def meanS (E : Env) (L : Loops) (k : Nat) (body : Code) (S : Shp) (X : List XShp) (x : DR S.hs) : Option (DR S.hs ⊕ SumD (X.map (·.2))) :=
  ((loopStep E L k body (S.enc x).1 (S.enc x).2).sem).bind fun q => match q.1 with
    | .normal => (S.dec q.2.1 q.2.2).map .inl
    | xt => (decX X xt q.2.1 q.2.2).map .inr
/-- What is told of a loop. -/
def toldL (S : Shp) (X : List XShp) (run : DR S.hs → Option (SumD (X.map (·.2)))) (vs : List V) (bs : List HB) : Tr (Xt × List V × List HB) := match S.dec vs bs with
  | some x => tellO X (run x)
  | none => .bad
section
variable {P : Program} {E : Env} {L L1 : Loops} {k : Nat} {body : Code}
theorem toldL_ok (hE : EnvOk P E) (hm : P.follows .mixedOrders = true) {S : Shp} {X : List XShp} {run : DR S.hs → Option (SumD (X.map (·.2)))} (hn : L1.n = L.n) (hlv : L1.lv k = L.lv k) (hl : LoopsOk P E L1 body)
    (hrun : ∀ x, run x = runL (meanS E L1 k body S X) x) (hL : ∀ vs bs, L.loop k vs bs = toldL S X run vs bs) : LOk P E L k body := by
  intro vs bs out hout w0 M S0 hM β Sx a w hs Q hQ
  rw [hL] at hout
  unfold toldL at hout
  split at hout
  case h_2 => simp [Tr.sem] at hout
  rename_i x hx
  obtain ⟨y, h1, rfl⟩ := tellO_enc hout
  rw [hrun] at h1
  obtain ⟨n, hn1⟩ := runL_some h1
  obtain ⟨e1, e2⟩ := shp_lw hx
  rw [← hn, ← hlv] at hs hQ
  have hs1 := hs.shape e1 e2
  refine wp_loop_iter (fun n a w => ∃ x β' S', iterN (meanS E L1 k body S X) n x = some y ∧ Pin E.pin β β' ∧ Sim w0 M S0 β' S' (mkSt L1.n (L1.lv k) (S.enc x).1 (S.enc x).2) a w) (fun a w ⟨_, _, _, h, _⟩ => by simp [iterN] at h) (fun n a w ⟨x, β1, S1, hit, hx1, hs⟩ => ?_) n a w ⟨x, β, Sx, hn1, Pin.refl _ _, hs1⟩
  simp only [iterN] at hit
  cases hstep : meanS E L1 k body S X x with
  | none => rw [hstep] at hit; simp at hit
  | some r =>
    rw [hstep] at hit
    unfold meanS at hstep
    obtain ⟨⟨xt0, vs0, bs0⟩, g1, g2⟩ := bind_some hstep
    unfold loopStep at g1
    rw [Tr.sem_bind] at g1
    obtain ⟨⟨xt, st1⟩, h1, h2⟩ := bind_some g1
    cases hn1 : Nat.beq st1.n L1.n with
    | false => simp [hn1, Tr.sem] at h2
    | true =>
      simp only [hn1, cond_true] at h2
      have hn2 := Nat.eq_of_beq_eq_true hn1
      rw [Tr.sem_bind] at h2
      obtain ⟨⟨vs1, ids, bs1⟩, h3, h4⟩ := bind_some h2
      simp only [Tr.sem, Option.some.injEq, Prod.mk.injEq] at h4
      obtain ⟨rfl, rfl, rfl⟩ := h4
      obtain ⟨_, f1⟩ := ev_sound (L := L1) hm hE hM body _ _ hl (good_mk _ _ _ _) h1
      refine f1 β1 S1 a w hs _ fun β' S2 a' w' hx hs' => ?_
      obtain ⟨β2, S3, hs2, hp⟩ := cut_sim hM hs' h3
      have hx2 : Pin E.pin β β2 := (hx1.trans hx).trans fun id hid p e => by rw [hp id hid]; exact e
      simp only at hs2
      rw [hn2] at hs2
      have done : (decX X xt vs1 bs1).map Sum.inr = some r → Q xt.conc a' w' := fun hz => by
        obtain ⟨z', h5, rfl⟩ := map_some hz
        simp only [Option.some.injEq] at hit
        subst hit
        obtain ⟨d1, d2, d3⟩ := decX_lw h5
        have := Xt.beq_eq d1
        rw [← this]
        exact hQ β2 S3 a' w' hx2 (hs2.shape d2 d3)
      cases xt with
      | normal =>
        simp only at g2
        obtain ⟨s', h5, rfl⟩ := map_some g2
        obtain ⟨d1, d2⟩ := shp_lw h5
        exact ⟨s', β2, S3, hit, hx2, hs2.shape d1 d2⟩
      | exit id => exact done g2
      | ret => exact done g2
/-- A function whose loops are told. -/
theorem fnL_ok (hE : EnvOk P E) (hm : P.follows .mixedOrders = true) {f : FuncId} {fn : Func} (hf : P.funcs[f]? = some fn) (hname : (fn.name == "runtime.NumGoroutine") = false) {c : Code} (hb : fn.body = some c) (hl : LoopsOk P E L c) : SpecOk P f (evFn E L fn) := fun args out hh =>
  fn_sound hm hE hf hname hb hl hh
end
/-- The loops of a code, by number. -/
theorem loopsL {P : Program} {E : Env} {L : Loops} {c : Code} {l : List (Nat × Code)} (h : loopsIn c = l) (hl : ∀ p ∈ l, LOk P E L p.1 p.2) : LoopsOk P E L c := loops_ok fun p hp => hl p (by rw [← h]; exact hp)
/-- Two words that are the same. -/
def spSame (k : FloatKind) : Spec
  | [.f k' c, .f k'' d] => bif decide (k = k') && decide (k = k'') then .br (natEq c d) (.ok (.lb true, [])) .bad else .bad
  | _ => .bad
theorem spSame_ok {P : Program} {f : FuncId} {fn : Func} (hf : P.funcs[f]? = some fn) (hfit : fnIn fn = true) {k : FloatKind} (h : ∀ {x y c : Nat} (hx : Fl k x c) (hy : Fl k y c) {w : World}, Calls P f #[.float k x, .float k y] w (RB w true)) : SpecOk P f (spSame k) := fun args out hh => by
  unfold spSame at hh
  split at hh
  case h_2 => simp [Tr.sem] at hh
  rename_i k' c k'' d
  cases hk : (decide (k = k') && decide (k = k'')) with
  | false => rw [hk] at hh; simp [Tr.sem] at hh
  | true =>
    simp only [Bool.and_eq_true, decide_eq_true_eq] at hk
    obtain ⟨rfl, rfl⟩ := hk
    cases hcd : natEq c d with
    | false => rw [hcd] at hh; simp [Tr.sem] at hh
    | true =>
      rw [hcd] at hh
      obtain rfl : c = d := by simpa [natEq] using hcd
      simp only [decide_true, Bool.and_self, cond_true, Tr.sem, Option.some.injEq] at hh
      subst hh
      intro w S cargs hS hargs
      obtain ⟨c', d', rfl, hr, hr'⟩ := args2 hargs
      obtain ⟨r, rfl, hfl⟩ := rel_f hr
      obtain ⟨r', rfl, hfl'⟩ := rel_f hr'
      refine entered hf hfit ((h hfl hfl').mono ?_)
      rintro e w' ⟨b, hb, rfl, n, rfl⟩
      subst hb
      exact ret_quiet hS (drewN_below w n) (.lb _)
/-- The float with some bits. -/
def spFrom : Spec
  | [.i .u64 n] => bif Nat.blt n.toNat 18446744073709551616 then .ok (.f .f64 (cn .f64 n.toNat), []) else .bad
  | _ => .bad
theorem spFrom_ok {P : Program} {f : FuncId} (h : ∀ (n : Int) (w : World), ∃ v m, (callFunc f #[.int .u64 n]).run P w = .ok (.value v) (w.drewN m) ∧ v = .float .f64 n.toNat) : SpecOk P f spFrom := fun args out hh => by
  unfold spFrom at hh
  split at hh
  case h_2 => simp [Tr.sem] at hh
  rename_i n
  cases hk : Nat.blt n.toNat 18446744073709551616 with
  | false => rw [hk] at hh; simp [Tr.sem] at hh
  | true =>
    rw [hk] at hh
    simp only [cond_true, Tr.sem, Option.some.injEq] at hh
    subst hh
    intro w S cargs hS hargs
    obtain ⟨c', rfl, hr⟩ := args1 hargs
    cases hr
    obtain ⟨v, m, e, rfl⟩ := h n w
    unfold Entered
    rw [e]
    exact ret_quiet hS (drewN_below w m) (.f ⟨rfl, by rw [Nat.blt_eq] at hk; exact hk⟩)
theorem lk_nil {Q : Nat × Code → Prop} : ∀ p ∈ ([] : List (Nat × Code)), Q p := fun p h => by cases h
theorem lk_cons {Q : Nat × Code → Prop} {a : Nat × Code} {l : List (Nat × Code)} (h : Q a) (t : ∀ p ∈ l, Q p) : ∀ p ∈ a :: l, Q p := fun p hp => by
  rcases List.mem_cons.1 hp with rfl | hp
  · exact h
  · exact t p hp
/-! ### In plain terms -/
section
variable {E : Env} {L : Loops} {fn : Func} {A : Shp} {R : List XShp}
theorem meanF_of {x : DR A.hs} {t : Tr (SumD (R.map (·.2)))} (h : (evFn E L fn (A.enc x).1).to (fun q => decX R .ret [q.1] q.2) = t) : meanF E L fn A R x = t.sem := by
  unfold meanF; rw [← Tr.to_sem, h]
theorem meanF_tot {x : DR A.hs} {t : Tr (SumD (R.map (·.2)))} (h : (evFn E L fn (A.enc x).1).to (fun q => decX R .ret [q.1] q.2) = t) [Inhabited (SumD (R.map (·.2)))] (ht : t.tot = true) : meanF E L fn A R x = some t.val := (meanF_of h).trans (Tr.tot_val ht)
def stepD (S : Shp) (X : List XShp) (q : Xt × List V × List HB) : Option (DR S.hs ⊕ SumD (X.map (·.2))) := match q.1 with
  | .normal => (S.dec q.2.1 q.2.2).map .inl
  | xt => (decX X xt q.2.1 q.2.2).map .inr
theorem meanS_of {k : Nat} {body : Code} {S : Shp} {X : List XShp} {σ : Type} (e : σ → DR S.hs) {s : σ} {t : Tr (σ ⊕ SumD (X.map (·.2)))} (h : (loopStep E L k body (S.enc (e s)).1 (S.enc (e s)).2).to (stepD S X) = t.map (Sum.map e id)) : meanS E L k body S X (e s) = (t.sem).map (Sum.map e id) := by
  rw [← Tr.map_sem, ← h, Tr.to_sem]; rfl
theorem run_of {k : Nat} {body : Code} {S : Shp} {X : List XShp} {σ : Type} (e : σ → DR S.hs) {f : σ → Tr (σ ⊕ SumD (X.map (·.2)))} (h : ∀ s, (loopStep E L k body (S.enc (e s)).1 (S.enc (e s)).2).to (stepD S X) = (f s).map (Sum.map e id)) (s : σ) : runL (fun s => (f s).sem) s = runL (meanS E L k body S X) (e s) :=
  (runL_param e (fun s => meanS_of e (h s)) s).symm
end
/-! ### Functions that write -/
def hbs (bs : List Blk) : List HB := bs.map fun b => ⟨b, false⟩
def decM (R : List XShp) (q : V × List Blk) : Option (SumD (R.map (·.2))) := decX R .ret [q.1] (hbs q.2)
noncomputable def meanM (E : Env) (L : Loops) (fn : Func) (A : Shp) (R : List XShp) (x : DR A.hs) : Option (SumD (R.map (·.2))) :=
  ((evFnM E L fn (A.enc x).1 ((A.enc x).2.map (·.blk))).sem).bind (decM R)
def single2 (p : Xt × List V × List HB) : V × List Blk := (single p.2.1, p.2.2.map (·.blk))
def allLive (bs : List HB) : Bool := bs.all fun b => !b.fz && match b.blk with
  | .dead => false
  | _ => true
def toldMO (A : Shp) (R : List XShp) (F : DR A.hs → Option (SumD (R.map (·.2)))) (rest : MSpec) : MSpec := fun args bs => match A.dec args (hbs bs) with
  | some x => (tellO R (F x)).bind fun q => bif allLive q.2.2 && allLive (A.enc x).2 then .ok (single2 q) else .bad
  | none => rest args bs
def toldMT (A : Shp) (R : List XShp) (F : DR A.hs → SumD (R.map (·.2))) (rest : MSpec) : MSpec := fun args bs => match A.dec args (hbs bs) with
  | some x => (tellX R (F x)).bind fun q => bif allLive q.2.2 && allLive (A.enc x).2 then .ok (single2 q) else .bad
  | none => rest args bs
theorem hbs_blk {bs : List HB} (h : allLive bs = true) : hbs (bs.map (·.blk)) = bs := by
  unfold hbs allLive at *
  rw [List.map_map]
  refine (List.map_congr_left (g := fun hb => hb) fun hb hh => ?_).trans (List.map_id _)
  have := List.all_eq_true.1 h hb hh
  simp only [Bool.and_eq_true, Bool.not_eq_true'] at this
  cases hb; simp at this; simp [this.1]
theorem live_ne {bs : List HB} (h : allLive bs = true) : ∀ b ∈ bs.map (·.blk), b ≠ .dead := fun b hb e => by
  obtain ⟨x, hx, rfl⟩ := List.mem_map.1 hb
  have := List.all_eq_true.1 h x hx
  rw [e] at this
  simp at this
theorem mok_conv {P : Program} {f : FuncId} {args args' : List V} {bs bs' : List Blk} {u v : V} {cs cs' : List Blk} (ha : LwL args args') (hb : BLwL (hbs bs) (hbs bs')) (hv : LwL [u] [v]) (hc : BLwL (hbs cs) (hbs cs')) (hd : ∀ b ∈ bs', b ≠ .dead) (h : MOk P f args' bs' (u, cs)) : MOk P f args bs (v, cs') := by
  intro w S β M cargs hs hsz hnd
  have h1 := h w S β M cargs (Sim.shape ha hb hs) (hsz.trans ha.1) hd
  have hlen : bs.length = bs'.length := by have := hb.1; simpa [hbs] using this
  exact entered_mono h1 fun e w' ⟨cv, S', β', hβ, he, hs'⟩ => ⟨cv, S', β', (fun id hid => hβ id (by omega)), he, Sim.shape hv hc hs'⟩
theorem mean_mok {P : Program} {E : Env} {L : Loops} {fn : Func} {f : FuncId} {A : Shp} {R : List XShp} (hR : oneV R = true) (hs : MSpecOk P f (evFnM E L fn)) {args : List V} {bs : List Blk} {x : DR A.hs} {y : SumD (R.map (·.2))} (hx : A.dec args (hbs bs) = some x) (h : meanM E L fn A R x = some y) (hl : allLive (encX R y).2.2 = true) (hl2 : allLive (A.enc x).2 = true) : MOk P f args bs (single2 (encX R y)) := by
  unfold meanM at h
  obtain ⟨⟨u, cs⟩, h1, h2⟩ := bind_some h
  obtain ⟨e1, e2, e3⟩ := decX_lw h2
  obtain ⟨v, hv⟩ := encX_one (R := R) (y := y) hR
  have h3 := hs _ _ _ h1
  rw [hv] at e2
  show MOk P f args bs (single (encX R y).2.1, (encX R y).2.2.map (·.blk))
  rw [hv]
  obtain ⟨a1, a2⟩ := shp_lw hx
  exact mok_conv a1 (by rw [hbs_blk hl2]; exact a2) e2 (by rw [hbs_blk hl]; exact e3) (live_ne hl2) h3
theorem toldMO_ok {P : Program} {E : Env} {L : Loops} {fn : Func} {f : FuncId} {A : Shp} {R : List XShp} {F : DR A.hs → Option (SumD (R.map (·.2)))} {rest : MSpec} (hR : oneV R = true) (hs : MSpecOk P f (evFnM E L fn)) (hr : MSpecOk P f rest) (hF : ∀ x, meanM E L fn A R x = F x) : MSpecOk P f (toldMO A R F rest) := fun args bs out h => by
  unfold toldMO at h
  split at h
  · rename_i x hx
    rw [Tr.sem_bind] at h
    obtain ⟨q, h1, h2⟩ := bind_some h
    obtain ⟨y, h3, rfl⟩ := tellO_enc h1
    cases hb : (allLive (encX R y).2.2 && allLive (A.enc x).2) with
    | false => rw [hb] at h2; simp [Tr.sem] at h2
    | true =>
      rw [hb] at h2
      simp only [Bool.and_eq_true] at hb
      cases h2
      exact mean_mok hR hs hx ((hF x).trans h3) hb.1 hb.2
  · exact hr args bs out h
theorem toldMT_ok {P : Program} {E : Env} {L : Loops} {fn : Func} {f : FuncId} {A : Shp} {R : List XShp} {F : DR A.hs → SumD (R.map (·.2))} {rest : MSpec} (hR : oneV R = true) (hs : MSpecOk P f (evFnM E L fn)) (hr : MSpecOk P f rest) (hF : ∀ x, meanM E L fn A R x = some (F x)) : MSpecOk P f (toldMT A R F rest) := fun args bs out h => by
  unfold toldMT at h
  split at h
  · rename_i x hx
    rw [Tr.sem_bind] at h
    obtain ⟨q, h1, h2⟩ := bind_some h
    obtain rfl := tellX_enc _ h1
    cases hb : (allLive (encX R (F x)).2.2 && allLive (A.enc x).2) with
    | false => rw [hb] at h2; simp [Tr.sem] at h2
    | true =>
      rw [hb] at h2
      simp only [Bool.and_eq_true] at hb
      cases h2
      exact mean_mok hR hs hx (hF x) hb.1 hb.2
  · exact hr args bs out h
theorem fnM_ok {P : Program} {E : Env} {L : Loops} (hE : EnvOk P E) (hfz : E.frz = false) (hm : P.follows .mixedOrders = true) {f : FuncId} {fn : Func} (hf : P.funcs[f]? = some fn) (hname : (fn.name == "runtime.NumGoroutine") = false) {c : Code} (hb : fn.body = some c) (hl : LoopsOk P E L c) : MSpecOk P f (evFnM E L fn) := fun args bs out hh =>
  fnM_sound hm hE hfz hf hname hb hl hh
theorem meanM_of {E : Env} {L : Loops} {fn : Func} {A : Shp} {R : List XShp} {x : DR A.hs} {t : Tr (SumD (R.map (·.2)))} (h : (evFnM E L fn (A.enc x).1 ((A.enc x).2.map (·.blk))).to (decM R) = t) : meanM E L fn A R x = t.sem := by
  unfold meanM; rw [← Tr.to_sem, h]
theorem meanM_tot {E : Env} {L : Loops} {fn : Func} {A : Shp} {R : List XShp} {x : DR A.hs} {t : Tr (SumD (R.map (·.2)))} (h : (evFnM E L fn (A.enc x).1 ((A.enc x).2.map (·.blk))).to (decM R) = t) [Inhabited (SumD (R.map (·.2)))] (ht : t.tot = true) : meanM E L fn A R x = some t.val := (meanM_of h).trans (Tr.tot_val ht)
/-! ### Laws -/
theorem law_says {E : Env} {L : Loops} {fn : Func} {A : Shp} {x : DR A.hs} (h : meanF E L fn A [(.ret, ⟨[.h], [], [.b]⟩)] x = some true) : saysTrue (evFn E L fn (A.enc x).1) = true := by
  unfold meanF at h
  obtain ⟨⟨v, bs⟩, h1, h2⟩ := bind_some h
  have h3 : (bif Xt.beq .ret .ret then (⟨[.h], [], [.b]⟩ : Shp).dec [v] bs else none) = some true := h2
  simp only [Xt.beq, cond_true, Shp.dec, Sh.getL, Sh.get, Option.bind_some] at h3
  obtain ⟨l, _, h4⟩ := bind_some h3
  unfold saysTrue
  rw [h1]
  have h5 := decR_cn _ _ _ h4
  have key : ∀ (u : V) (l : List V), CnL (u :: l) [.b true] → isTrue u = true := fun u l hc => by
    cases hc with
    | cons h6 _ =>
      obtain ⟨a, y, h7, h8⟩ := h6
      cases a <;> simp only [encC] at h8 <;> cases h8
      cases u <;> simp [decC] at h7
      · cases h7; rfl
      · cases h7; rfl
  exact key v _ h5
end Go.Proofs.Ytpglfnkkmafhbaa
