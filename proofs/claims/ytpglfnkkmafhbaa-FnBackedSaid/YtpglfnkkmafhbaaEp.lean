/- The abstract machine, part 16: a region is right. -/
import Derived.Test.YtpglfnkkmafhbaaEo
set_option linter.unusedVariables false
set_option linter.unusedSimpArgs false
set_option linter.constructorNameAsVariable false
namespace Go.Proofs.Ytpglfnkkmafhbaa
open Go.RowKit
section
variable {P : Program} {E : Env} {w0 : World} {M S0 : Nat → Prop} {β : Bt} {S : Nat → Prop} {st : St} {a : Act} {w : World} {o : Oper}
def Ext (β β' : Bt) : Prop := ∀ id p, β id = some p → β' id = some p
theorem Ext.refl (β : Bt) : Ext β β := fun _ _ e => e
theorem Ext.trans {a b c : Bt} (h : Ext a b) (k : Ext b c) : Ext a c := fun i p e => k i p (h i p e)
/-- No block at or past the next number. -/
def Good (st : St) : Prop := ∀ id, st.nx ≤ id → st.h id = none
theorem run_reads {α : Type} {h : Nat → Option HB} : ∀ (m : RM α) (rs : List Nat) (p : α × List Nat), (m.run h rs).sem = some p → (∀ id ∈ rs, h id ≠ none) → ∀ id ∈ p.2, h id ≠ none
  | .ok a, rs, p, hr, hh => by simp only [RM.run, Tr.sem, Option.some.injEq] at hr; subst hr; exact hh
  | .read id k, rs, p, hr, hh => by
    simp only [RM.run] at hr
    cases hb : h id with
    | none => rw [hb] at hr; simp [Tr.sem] at hr
    | some b =>
      rw [hb] at hr
      exact run_reads (k b) (id :: rs) p hr (fun i hi => by rcases List.mem_cons.1 hi with rfl | hi; rw [hb]; simp; exact hh i hi)
  | .br b t e, rs, p, hr, hh => by
    simp only [RM.run, Tr.sem] at hr
    cases b
    · exact run_reads e rs p hr hh
    · exact run_reads t rs p hr hh
  | .bad, rs, p, hr, hh => by simp [RM.run, Tr.sem] at hr
theorem step_writes {ops : Array Oper} {nb : Nat} {v : V} {wr : List (Nat × HB)} {rs : List Nat} (h : Step E ops nb o st v wr rs) : ∀ id ∈ wr.map (·.1), (nb ≤ id ∧ id < nb + room) ∨ st.h id ≠ none := by
  cases h with
  | skip => intro id hid; cases hid
  | run hd hg h hw hu =>
    intro id hid
    obtain ⟨p, hp, rfl⟩ := List.mem_map.1 hid
    have := List.all_eq_true.1 hw p hp
    simp only [Bool.or_eq_true, Bool.and_eq_true] at this
    rcases this with ⟨h1, h2⟩ | h1
    · exact .inl ⟨Nat.le_of_ble_eq_true h1, by rwa [Nat.blt_eq] at h2⟩
    · exact .inr (run_reads _ [] _ h (fun i hi => by cases hi) p.1 (by simpa using h1))
theorem wpAny_of_abs (hE : EnvOk P E) (hM : E.frz = true → ∀ b, ¬ M b) {ops : Array Oper} {base : Nat} {fps : Nat → FP} {st' : St} {Q : Exit → Act → World → Prop} {βs : Bt} (hQ : ∀ β' S' a' w', Ext βs β' → Sim w0 M S0 β' S' st' a' w' → Q .normal a' w') :
    ∀ (fuel : Nat) (listed : Array Bool) (st : St) (β : Bt) (S : Nat → Prop) (a : Act) (w : World), absAny E ops base fps (fun s => s = st') fuel listed st → Ext βs β → Sim w0 M S0 β S st a w →
      (∀ i, listed.getD i true = false → ∀ j, j < room → st.h (base + room * i + j) = none) → wpAny P .any ops Q fuel listed a w
  | 0, listed, st, β, S, a, w, h, hx, hs, hf => ⟨h.1, hQ β S a w hx (h.2 ▸ hs)⟩
  | fuel + 1, listed, st, β, S, a, w, h, hx, hs, hf => ⟨fun h0 => hQ β S a w hx (h.1 h0 ▸ hs), fun i hi => by
      obtain ⟨o, v, wr, rs, ho, hst, _, hrest⟩ := h.2 i hi
      have hun := (mem_ready.1 hi).1
      refine step_sim hE hM hs ho (hf i hun) hst fun β' S' a' w' hx' hs' => wpAny_of_abs hE hM hQ fuel _ _ β' S' a' w' hrest (hx.trans hx') hs' fun k hk j hj => ?_
      have hki : k ≠ i := fun e => by
        subst e
        rcases Nat.lt_or_ge k listed.size with hlt | hge
        · simp [hlt] at hk
        · simp [Array.getElem?_eq_none hge] at hun
      rw [getD_set_ne true (Ne.symm hki)] at hk
      rw [app_h, setHs_h_other]
      · exact hf k hk j hj
      · intro hid
        rcases step_writes hst _ hid with ⟨h1, h2⟩ | h1
        · rcases Nat.lt_or_gt_of_ne hki with hlt | hlt
          · have : room * (k + 1) ≤ room * i := Nat.mul_le_mul_left _ hlt
            rw [Nat.mul_succ] at this; omega
          · have : room * (i + 1) ≤ room * k := Nat.mul_le_mul_left _ hlt
            rw [Nat.mul_succ] at this; omega
        · exact h1 (hf k hk j hj)⟩
/-! ### The text's order -/
theorem fold_anc {ops : Array Oper} {j : Nat} {oj : Oper} (hj : ops[j]? = some oj) {acc : List Nat} (hacc : ∀ k i, k < acc.length → Nat.testBit (acc.getD k 0) i = true → Anc ops i k) :
    ∀ (l : List Edge) (s : Nat), (∀ e ∈ l, e ∈ oj.after) → (∀ i, Nat.testBit s i = true → Anc ops i j) →
      ∀ i, Nat.testBit (l.foldl (fun s e => bif Region.binds .any e then Nat.lor (Nat.lor s (2 ^ e.on)) (acc.getD e.on 0) else s) s) i = true → Anc ops i j
  | [], s, hl, hs, i, h => hs i h
  | e :: l, s, hl, hs, i, h => by
    refine fold_anc hj hacc l _ (fun e' he' => hl e' (List.mem_cons_of_mem _ he')) (fun i' hi' => ?_) i h
    cases hb : Region.binds .any e with
    | false => simp only [hb, cond_false] at hi'; exact hs i' hi'
    | true =>
      simp only [hb, cond_true] at hi'
      have hi'' : Nat.testBit ((s ||| 2 ^ e.on) ||| acc.getD e.on 0) i' = true := hi'
      rw [Nat.testBit_or, Nat.testBit_or, Bool.or_eq_true, Bool.or_eq_true] at hi''
      have he := hl e List.mem_cons_self
      rcases hi'' with (h1 | h1) | h1
      · exact hs i' h1
      · rw [Nat.testBit_two_pow] at h1
        exact .one hj he hb (by simpa using h1)
      · rcases Nat.lt_or_ge e.on acc.length with hlt | hge
        · exact .more hj he hb rfl (hacc e.on i' hlt h1)
        · simp [List.getD, List.getElem?_eq_none hge] at h1
theorem befs_anc {ops : Array Oper} : ∀ (l : List Oper) (acc : List Nat), (∀ j : Nat, l[j]? = ops[acc.length + j]?) → (∀ k i, k < acc.length → Nat.testBit (acc.getD k 0) i = true → Anc ops i k) →
    ∀ k i, Nat.testBit ((befs l acc).getD k 0) i = true → Anc ops i k
  | [], acc, hl, hacc, k, i, h => by
    simp only [befs] at h
    rcases Nat.lt_or_ge k acc.length with hlt | hge
    · exact hacc k i hlt h
    · simp [List.getD, List.getElem?_eq_none hge] at h
  | o :: l, acc, hl, hacc, k, i, h => by
    simp only [befs] at h
    have h0 : ops[acc.length]? = some o := by have := hl 0; simpa using this.symm
    refine befs_anc l _ (fun j => ?_) (fun k' i' hk' hb' => ?_) k i h
    · have := hl (j + 1)
      simp only [List.getElem?_cons_succ] at this
      rw [this, List.length_append, List.length_singleton]
      congr 1; omega
    · rw [List.length_append, List.length_singleton] at hk'
      rcases Nat.lt_or_ge k' acc.length with hlt | hge
      · refine hacc k' i' hlt ?_
        simpa [List.getD, List.getElem?_append_left hlt] using hb'
      · have : k' = acc.length := by omega
        subst this
        have e : (acc ++ [o.after.toList.foldl (fun s e => bif Region.binds .any e then Nat.lor (Nat.lor s (2 ^ e.on)) (acc.getD e.on 0) else s) 0]).getD acc.length 0 = o.after.toList.foldl (fun s e => bif Region.binds .any e then Nat.lor (Nat.lor s (2 ^ e.on)) (acc.getD e.on 0) else s) 0 := by
          simp [List.getD]
        rw [e] at hb'
        exact fold_anc h0 hacc _ 0 (fun e he => by simpa using he) (fun i hi => by simp at hi) i' hb'
theorem evOps_cons {kn : Bool} {ops : Array Oper} {base i : Nat} {rest : List Oper} {acc : List FP} {q : St × List FP} (h : (evOps E kn ops base i (o :: rest) st acc).sem = some q) :
    ∃ stk v wr rs, (stk = st ∨ (kn = true ∧ ∃ t x, boolOf (st.t t) = some x ∧ stk = st.know t x)) ∧ Step E ops (base + room * i) o stk v wr rs ∧ (evOps E kn ops base (i + 1) rest (stk.app o.dst v wr) ((rs, wr.map (·.1)) :: acc)).sem = some q := by
  simp only [evOps] at h
  rw [Tr.sem_bind] at h
  obtain ⟨⟨st1, fp⟩, h1, h2⟩ := bind_some h
  obtain ⟨stk, v, wr, rs, h0, h3, rfl, rfl⟩ := step_of h1
  exact ⟨stk, v, wr, rs, h0, h3, h2⟩
theorem evOps_fps {kn : Bool} {ops : Array Oper} {base : Nat} : ∀ (l : List Oper) (i : Nat) (st : St) (acc : List FP) (q : St × List FP), (evOps E kn ops base i l st acc).sem = some q → ∃ rest, q.2 = acc.reverse ++ rest
  | [], i, st, acc, q, h => by simp only [evOps, Tr.sem, Option.some.injEq] at h; subst h; exact ⟨[], by simp⟩
  | o :: l, i, st, acc, q, h => by
    obtain ⟨stk, v, wr, rs, h0, h1, h2⟩ := evOps_cons h
    obtain ⟨rest, hr⟩ := evOps_fps l (i + 1) _ _ q h2
    exact ⟨(rs, wr.map (·.1)) :: rest, by rw [hr]; simp⟩
theorem lex_any {ops : Array Oper} {base : Nat} {q : St × List FP} (hlex : ∀ i oi, ops[i]? = some oi → ∀ e ∈ oi.after, Region.binds .any e = true → e.on < i) (hind : ∀ i j, i < j → j < ops.size → Indep ops (fun k => q.2.getD k ([], [])) i j) :
    ∀ (l : List Oper) (k : Nat) (listed : Array Bool) (st : St) (acc : List FP), (∀ j : Nat, l[j]? = ops[k + j]?) → k + l.length = ops.size → listed.size = ops.size → (∀ j, j < k → listed.getD j false = true) → (∀ j, k ≤ j → listed.getD j false = false) → acc.length = k →
      (evOps E false ops base k l st acc).sem = some q → absAny E ops base (fun k => q.2.getD k ([], [])) (fun s => s = q.1) l.length listed st
  | [], k, listed, st, acc, hl, hk, hsz, hin, hout, hacc, h => by
    simp only [evOps, Tr.sem, Option.some.injEq] at h
    subst h
    refine ⟨?_, rfl⟩
    refine List.eq_nil_iff_forall_not_mem.2 fun i hi => ?_
    have hun := (mem_ready.1 hi).1
    simp only [List.length_nil, Nat.add_zero] at hk
    rcases Nat.lt_or_ge i k with hlt | hge
    · have := hin i hlt
      have hs : i < listed.size := by omega
      simp [hs] at this hun; rw [this] at hun; cases hun
    · have hs : listed.size ≤ i := by omega
      simp [Array.getElem?_eq_none hs] at hun
  | o :: l, k, listed, st, acc, hl, hk, hsz, hin, hout, hacc, h => by
    have h0 : ops[k]? = some o := by have := hl 0; simpa using this.symm
    obtain ⟨stk, v, wr, rs, hk0, h1, h2⟩ := evOps_cons h
    have hk1 : st = stk := (hk0.resolve_right fun h => by cases h.1).symm
    subst hk1
    obtain ⟨rest, hr⟩ := evOps_fps l (k + 1) _ _ q h2
    have hklt : k < ops.size := (Array.getElem?_eq_some_iff.1 h0).1
    have hunl : listed.getD k true = false := by
      have := hout k (Nat.le_refl _)
      have hs : k < listed.size := by omega
      simp [hs] at this ⊢; exact this
    have hfp : q.2.getD k ([], []) = (rs, wr.map (·.1)) := by
      rw [hr, List.reverse_cons, List.append_assoc]
      simp [List.getD, ← hacc]
    refine absAny_first (i := k) h0 hfp l.length listed st (fun j oj hj hlj e he hb => ?_) (fun j hj hun => ?_) ?_ h1 ?_
    · rcases Nat.lt_or_ge j k with hlt | hge
      · exact hin _ (Nat.lt_trans (hlex j oj hj e he hb) hlt)
      · rw [hout j hge] at hlj; cases hlj
    · rcases Nat.lt_or_ge j listed.size with hlt | hge
      · rcases Nat.lt_or_ge j k with hjk | hjk
        · have := hin j hjk
          simp [hlt] at this hun; rw [this] at hun; cases hun
        · exact hind k j (by omega) (by omega)
      · simp [Array.getElem?_eq_none hge] at hun
    · exact mem_ready.2 ⟨hunl, o, h0, fun e he hb => hin _ (hlex k o h0 e he hb)⟩
    · refine lex_any hlex hind l (k + 1) _ _ _ (fun j => ?_) (by simp at hk; omega) (by simp [hsz]) (fun j hj => ?_) (fun j hj => ?_) (by simp [hacc]) h2
      · have := hl (j + 1); simp only [List.getElem?_cons_succ] at this; rw [this]; congr 1; omega
      · by_cases e : j = k
        · subst e; simp [hsz, hklt]
        · exact getD_set_true (hin j (by omega))
      · rw [getD_set_ne false (by omega)]; exact hout j (by omega)
theorem range_cons (n k : Nat) (h : k < n) : (List.range n).drop k = k :: (List.range n).drop (k + 1) := by
  rw [List.drop_eq_getElem_cons (by simpa using h)]; simp
theorem know_h {st stk : St} {kn : Bool} (h : stk = st ∨ (kn = true ∧ ∃ t x, boolOf (st.t t) = some x ∧ stk = st.know t x)) : stk.h = st.h ∧ stk.nx = st.nx ∧ stk.n = st.n := by
  rcases h with rfl | ⟨_, t, x, _, rfl⟩ <;> exact ⟨rfl, rfl, rfl⟩
theorem Sim.knows {stk : St} {kn : Bool} (h : stk = st ∨ (kn = true ∧ ∃ t x, boolOf (st.t t) = some x ∧ stk = st.know t x)) (hs : Sim w0 M S0 β S st a w) : Sim w0 M S0 β S stk a w := by
  rcases h with rfl | ⟨_, t, x, hx, rfl⟩
  · exact hs
  · exact hs.know hx
theorem wpOps_lex {kn : Bool} (hE : EnvOk P E) (hM : E.frz = true → ∀ b, ¬ M b) {ops : Array Oper} {base : Nat} {q : St × List FP} {Q : Exit → Act → World → Prop} {βs : Bt} (hQ : ∀ β' S' a' w', Ext βs β' → Sim w0 M S0 β' S' q.1 a' w' → Q .normal a' w') :
    ∀ (l : List Oper) (k : Nat) (st : St) (acc : List FP) (β : Bt) (S : Nat → Prop) (a : Act) (w : World), (∀ j : Nat, l[j]? = ops[k + j]?) → k + l.length = ops.size → (evOps E kn ops base k l st acc).sem = some q → Ext βs β → Sim w0 M S0 β S st a w →
      (∀ i, k ≤ i → ∀ j, j < room → st.h (base + room * i + j) = none) → wpOps P ops Q ((List.range ops.size).drop k) a w
  | [], k, st, acc, β, S, a, w, hl, hk, h, hx, hs, hf => by
    simp only [evOps, Tr.sem, Option.some.injEq] at h
    subst h
    simp only [List.length_nil, Nat.add_zero] at hk
    rw [List.drop_eq_nil_of_le (by simp; omega)]
    exact hQ β S a w hx hs
  | o :: l, k, st, acc, β, S, a, w, hl, hk, h, hx, hs, hf => by
    have h0 : ops[k]? = some o := by have := hl 0; simpa using this.symm
    have hklt : k < ops.size := (Array.getElem?_eq_some_iff.1 h0).1
    obtain ⟨stk, v, wr, rs, hk0, h1, h2⟩ := evOps_cons h
    obtain ⟨kh, kx, kn'⟩ := know_h hk0
    rw [range_cons _ _ hklt, wpOps_cons]
    refine step_sim hE hM (hs.knows hk0) h0 (by rw [kh]; exact hf k (Nat.le_refl _)) h1 fun β' S' a' w' hx' hs' => wpOps_lex hE hM hQ l (k + 1) _ _ β' S' a' w' (fun j => ?_) (by simp at hk; omega) h2 (hx.trans hx') hs' (fun i hi j hj => ?_)
    · have := hl (j + 1); simp only [List.getElem?_cons_succ] at this; rw [this]; congr 1; omega
    · rw [app_h, setHs_h_other, kh]
      · exact hf i (by omega) j hj
      · intro hid
        rcases step_writes h1 _ hid with ⟨g1, g2⟩ | g1
        · have : room * (k + 1) ≤ room * i := Nat.mul_le_mul_left _ hi
          rw [Nat.mul_succ] at this; omega
        · rw [kh] at g1; exact g1 (hf i (by omega) j hj)
theorem evOps_good {kn : Bool} {ops : Array Oper} {base : Nat} {q : St × List FP} : ∀ (l : List Oper) (k : Nat) (st : St) (acc : List FP), k + l.length = ops.size → st.nx = base + room * ops.size → Good st → (evOps E kn ops base k l st acc).sem = some q → Good q.1
  | [], k, st, acc, hk, hnx, hg, h => by simp only [evOps, Tr.sem, Option.some.injEq] at h; subst h; exact hg
  | o :: l, k, st, acc, hk, hnx, hg, h => by
    obtain ⟨stk, v, wr, rs, hk0, h1, h2⟩ := evOps_cons h
    obtain ⟨kh, kx, kn'⟩ := know_h hk0
    refine evOps_good l (k + 1) _ _ (by simp at hk; omega) (by rw [app_nx, kx]; exact hnx) (fun id hid => ?_) h2
    rw [app_nx, kx] at hid
    rw [app_h, setHs_h_other, kh]
    · exact hg id hid
    · intro hm
      rcases step_writes h1 _ hm with ⟨g1, g2⟩ | g1
      · have : room * (k + 1) ≤ room * ops.size := Nat.mul_le_mul_left _ (by simp at hk; omega)
        rw [Nat.mul_succ] at this; omega
      · rw [kh] at g1; exact g1 (hg id hid)
theorem lexOk_spec {ops : Array Oper} : ∀ (l : List Oper) (k : Nat), (∀ j : Nat, l[j]? = ops[k + j]?) → lexOk k l = true → ∀ i oi, k ≤ i → ops[i]? = some oi → ∀ e ∈ oi.after, Region.binds .any e = true → e.on < i
  | [], k, hl, h, i, oi, hi, ho, e, he, hb => by
    have := hl (i - k)
    rw [show k + (i - k) = i from by omega, ho] at this; cases this
  | o :: l, k, hl, h, i, oi, hi, ho, e, he, hb => by
    simp only [lexOk, Bool.and_eq_true] at h
    obtain ⟨⟨h1, h2⟩, h3⟩ := h
    by_cases e0 : i = k
    · subst e0
      have h0 : ops[i]? = some o := by have := hl 0; simpa using this.symm
      rw [ho] at h0; cases h0
      have := List.all_eq_true.1 h1 e (by simpa using he)
      simpa [hb] using this
    · refine lexOk_spec l (k + 1) (fun j => ?_) h3 i oi (by omega) ho e he hb
      have := hl (j + 1); simp only [List.getElem?_cons_succ] at this; rw [this]; congr 1; omega
/-- **A REGION**: what the abstract run comes to, every run of the model comes to. -/
theorem reg_sound (hm : P.follows .mixedOrders = true) (hE : EnvOk P E) (hM : E.frz = true → ∀ b, ¬ M b) {id : Nat} {ops : Array Oper} {draw : Bool} {st' : St} (hg : Good st) (h : (evReg E ops draw st).sem = some st') (hs : Sim w0 M S0 β S st a w)
    {Q : Exit → Act → World → Prop} (hQ : ∀ β' S' a' w', Ext β β' → Sim w0 M S0 β' S' st' a' w' → Q .normal a' w') : (Code.region id ops draw).wp P Q a w ∧ Good st' := by
  unfold evReg at h
  rw [Tr.sem_bind] at h
  obtain ⟨q, h1, h2⟩ := bind_some h
  have hl : ∀ j : Nat, ops.toList[j]? = ops[0 + j]? := fun j => by simp
  have hg0 : ∀ id, st.nx ≤ id → ({ st with nx := st.nx + room * ops.size } : St).h id = none := hg
  have hgq : Good q.1 := evOps_good (ops := ops) (base := st.nx) ops.toList 0 { st with nx := st.nx + room * ops.size } [] (by simp) rfl (fun id hid => hg id (Nat.le_trans (Nat.le_add_right _ _) hid)) h1
  have hs0 : Sim w0 M S0 β S { st with nx := st.nx + room * ops.size } a w := ⟨hs.kept, hs.tm, hs.n, hs.df, hs.blk, hs.own, hs.fzn, hs.inj, hs.sb, hs.fresh, hs.hid⟩
  have hfr : ∀ i j, ({ st with nx := st.nx + room * ops.size } : St).h (st.nx + room * i + j) = none := fun i j => hg _ (by omega)
  cases hc : (!draw || (lexOk 0 ops.toList && fpsOk ops q.2)) with
  | false => rw [hc] at h2; simp [Tr.sem] at h2
  | true =>
    rw [hc] at h2
    simp only [cond_true, Tr.sem, Option.some.injEq] at h2
    subst h2
    refine ⟨?_, hgq⟩
    cases draw with
    | false =>
      refine wp_region ?_
      have := wpOps_lex hE hM hQ ops.toList 0 _ _ β S a w hl (by simp) h1 (Ext.refl β) hs0 (fun i _ j _ => hfr i j)
      simpa using this
    | true =>
      simp only [Bool.not_true, Bool.false_or, Bool.and_eq_true] at hc
      have hlex := lexOk_spec ops.toList 0 hl hc.1
      have hd : Below w.heap.size w { w with drawn := w.drawn + 1 } := (Below.refl _ w).drew
      refine wp_region_any hm (wpAny_of_abs hE hM hQ ops.size _ _ β S a _ (fps := fun k => q.2.getD k ([], [])) ?_ (Ext.refl β) (hs0.below hd) fun i _ j _ => hfr i j)
      have := lex_any (E := E) (ops := ops) (base := st.nx) (q := q) (fun i oi ho e he hb => hlex i oi (Nat.zero_le _) ho e he hb) (fun i j hij hj => ?_) ops.toList 0 (Array.replicate ops.size false) _ [] hl (by simp) (by simp) (fun j hj => absurd hj (by omega)) (fun j _ => ?_) rfl h1
      · simpa using this
      · have := List.all_eq_true.1 (List.all_eq_true.1 hc.2 j (List.mem_range.2 hj)) i (List.mem_range.2 hij)
        simp only [Bool.or_eq_true, Bool.and_eq_true] at this
        rcases this with h3 | ⟨h3, h4⟩
        · exact .inl (befs_anc ops.toList [] (fun j => by simp) (fun k i hk => absurd hk (by simp)) j i h3)
        · refine .inr (.inr ⟨fun oi oj ho ho' => ?_, h4⟩)
          rw [ho, ho'] at h3; exact h3
      · by_cases hj : j < ops.size <;> simp [hj]
end
end Go.Proofs.Ytpglfnkkmafhbaa
