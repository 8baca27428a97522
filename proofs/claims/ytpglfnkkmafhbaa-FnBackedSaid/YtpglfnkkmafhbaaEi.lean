/- The abstract machine, part 9: slices cut, measured, appended to. -/
import Derived.Test.YtpglfnkkmafhbaaEh
set_option linter.unusedVariables false
set_option linter.unusedSimpArgs false
set_option linter.constructorNameAsVariable false
namespace Go.Proofs.Ytpglfnkkmafhbaa
open Go.RowKit
section
variable {P : Program} {E : Env} {w0 : World} {M S0 : Nat → Prop} {β : Bt} {S : Nat → Prop} {st : St} {a : Act} {w : World} {o : Oper}
theorem done_len (hE : ∀ t x, E.ty t = some x → tyOf P t = some x) (hs : Sim w0 M S0 β S st a w) {nb : Nat} {c : Call} (ho : o.op = .call c) (hc : c.callee = .builtin .len) {e : Eff} (h : (opRM0 E nb st.op (.call c)).ev st.h = some e) : Done P w0 M S0 β st o a w e := by
  simp only [opRM0, hc] at h
  split at h
  case h_2 => simp [RM.ev] at h
  rename_i x t hx ht
  split at h
  case h_2 => simp [RM.ev] at h
  rename_i el _ _ _ _ et
  obtain ⟨_, _, _, _, hk, _⟩ := ty_inv (hE _ _ et)
  have hu := tk_sl hk.symm
  have hv := hs.op x
  generalize st.op x = vx at h hv
  have hx' : (c.args.map a.eval)[0]? = some (a.eval x) := by simp [hx]
  have fin : ∀ {n cap : Nat} {b : Option Addr}, e = (.i .i64 n, []) → a.eval x = .slice b n cap → Done P w0 M S0 β st o a w e := by
    intro n cap b he hc'
    subst he
    refine Done.pure hs (cv := .int .i64 n) ?_ (.i _ _)
    unfold execOp
    simp [ho, resolve, hc, invoke, builtin, Builtin.len_, hx', ht, run_underlying hu, goInt, hx, hc']
  unfold lenA at h
  split at h
  · rename_i id s
    simp only [RM.ev] at h
    split at h
    case h_2 => cases h
    rename_i hb hh
    split at h
    case h_2 => simp [RM.ev] at h
    rename_i row xs hl
    obtain ⟨hcc, h2⟩ := ev_cond h
    simp only [Bool.and_eq_true] at hcc
    have hre : row.length = s := Nat.eq_of_beq_eq_true hcc.1
    have hs0 : 0 < s := by have := hcc.2; rwa [Nat.blt_eq] at this
    obtain ⟨blk, len, cap, c1, hb1, hsz, hlc⟩ := rel_slw hv
    have hr := hs.blk id hb hh
    rw [hl] at hr
    obtain ⟨blk', cc, tt, b1, b2, b3, b4⟩ := hr
    rw [hb1] at b1
    simp only [Option.some.injEq, Prod.mk.injEq] at b1
    have hll : len = xs.length := by rw [hre] at b1; exact Nat.eq_of_mul_eq_mul_right hs0 b1.2
    rw [hll] at c1
    exact fin (ev_ret h2) c1
  · rename_i row xs
    rcases rel_ds hv with ⟨⟨a0, cap0, c1⟩, rfl⟩ | ⟨blk, oo, cap, g, c1, _⟩
    · exact fin (n := 0) (ev_ret h) c1
    · exact fin (ev_ret h) c1
  · exact fin (n := 0) (ev_ret h) (rel_nils hv)
  · obtain ⟨ad, c1⟩ := rel_ds0 hv; exact fin (n := 0) (ev_ret h) c1
  · simp [RM.ev] at h

theorem opt_cond {α : Type} {b : Bool} {k : Option α} {e : α} (hh : (bif b then k else none) = some e) : b = true ∧ k = some e := by cases b <;> simp at hh ⊢; exact hh
theorem obind {α β : Type} {o : Option α} {f : α → Option β} {b : β} (h : o.bind f = some b) : ∃ a, o = some a ∧ f a = some b := by
  cases o with
  | none => cases h
  | some a => exact ⟨a, rfl, h⟩
theorem mm2_num {mx : Bool} {u v z : V} (h : mm2 mx u v = some z) {w' : World} {cz : Value} (hz : Rel β S w cz z) : Rel β S w' cz z := by
  unfold mm2 at h
  split at h
  · obtain ⟨_, h⟩ := opt_cond h; cases h; cases hz; rename_i hf; exact .f hf
  · obtain ⟨_, h⟩ := opt_cond h; cases h; cases hz; exact .i _ _
  · cases h
theorem mm2_arg {mx : Bool} {u v z : V} (h : mm2 mx u v = some z) {w' : World} {cu : Value} : (Rel β S w cu u → Rel β S w' cu u) ∧ (Rel β S w cu v → Rel β S w' cu v) := by
  unfold mm2 at h
  split at h
  · exact ⟨fun hz => by cases hz; rename_i hf; exact .f hf, fun hz => by cases hz; rename_i hf; exact .f hf⟩
  · exact ⟨fun hz => by cases hz; exact .i _ _, fun hz => by cases hz; exact .i _ _⟩
  · cases h
theorem mm2_run {mx : Bool} {u v z : V} (h : mm2 mx u v = some z) {cu cv : Value} (hu : Rel β S w cu u) (hv : Rel β S w cv v) : ∃ cz n, ((bif mx then Builtin.max2 else Builtin.min2) cu cv).run P w = .ok cz (w.drewN n) ∧ Rel β S w cz z := by
  unfold mm2 at h
  split at h
  · obtain ⟨hc, h2⟩ := opt_cond h
    obtain rfl := of_decide_eq_true hc
    obtain rfl := Option.some.inj h2
    obtain ⟨r, rfl, hr⟩ := rel_f hu
    obtain ⟨q, rfl, hq⟩ := rel_f hv
    cases mx
    · obtain ⟨c, n, hrun, hz⟩ := run_min2 (P := P) w hr hq
      exact ⟨_, n, hrun, .f hz⟩
    · obtain ⟨c, n, hrun, hz⟩ := run_max2 (P := P) w hr hq
      exact ⟨_, n, hrun, .f hz⟩
  · obtain ⟨hc, h2⟩ := opt_cond h
    obtain rfl := of_decide_eq_true hc
    obtain rfl := Option.some.inj h2
    have e1 := rel_i hu
    have e2 := rel_i hv
    subst e1; subst e2
    rename_i k a b
    cases mx
    · refine ⟨.int k (imin a b), 0, ?_, .i _ _⟩
      simp only [cond_false, Builtin.min2, imin, World.drewN_zero, Sem.run_pure]
      by_cases hab : b < a
      · simp [hab]
      · simp [hab]
    · refine ⟨.int k (imax a b), 0, ?_, .i _ _⟩
      simp only [cond_true, Builtin.max2, imax, World.drewN_zero, Sem.run_pure]
      by_cases hab : b > a
      · simp [hab]
      · simp [hab]
  · cases h
theorem mmL_run {mx : Bool} : ∀ (l : List V) (cl : List Value) (x z : V) (cx : Value) (w : World), mmL mx x l = some z → Rel β S w cx x → cl.length = l.length → (∀ j v, l[j]? = some v → Rel β S w (cl.getD j undef) v) →
    ∃ cz n, (cl.foldlM (bif mx then Builtin.max2 else Builtin.min2) cx).run P w = .ok cz (w.drewN n) ∧ Rel β S (w.drewN n) cz z
  | [], cl, x, z, cx, w, h, hx, hl, _ => by
    have : cl = [] := List.eq_nil_of_length_eq_zero (by simpa using hl)
    subst this
    simp only [mmL, Option.some.injEq] at h; subst h
    exact ⟨cx, 0, by simp [World.drewN_zero], hx⟩
  | y :: l, [], x, z, cx, w, h, hx, hl, _ => by simp at hl
  | y :: l, cy :: cl, x, z, cx, w, h, hx, hl, hr => by
    simp only [mmL] at h
    obtain ⟨u, h1, h2⟩ := obind h
    obtain ⟨cz, n, r1, r2⟩ := mm2_run (P := P) h1 hx (show Rel β S w cy y by simpa using hr 0 y rfl)
    have num : ∀ (l : List V) (x z : V), mmL mx x l = some z → ∀ (j : Nat) (v : V) (c : Value), l[j]? = some v → Rel β S w c v → Rel β S (w.drewN n) c v := by
      intro l
      induction l with
      | nil => intro x z _ j v c hv; simp at hv
      | cons y l ih =>
        intro x z h j v c hv hc
        simp only [mmL] at h
        obtain ⟨u, h1, h2⟩ := obind h
        cases j with
        | zero => simp at hv; subst hv; exact (mm2_arg h1).2 hc
        | succ j => exact ih u z h2 j v c (by simpa using hv) hc
    obtain ⟨ce, m, r3, r4⟩ := mmL_run l cl u z cz (w.drewN n) h2 (mm2_num h1 r2) (by simpa using hl) (fun j v hv => num l u z h2 j v _ hv (by simpa using hr (j + 1) v (by simpa using hv)))
    refine ⟨ce, n + m, ?_, by rw [← World.drewN_drewN]; exact r4⟩
    rw [List.foldlM_cons, Sem.run_bind, r1]
    simp only [Result.andThen_ok]
    rw [r3, World.drewN_drewN]
theorem done_mm (mx : Bool) (hs : Sim w0 M S0 β S st a w) {c : Call} (ho : o.op = .call c) (hc : c.callee = .builtin (bif mx then .max else .min)) {e : Eff} (h : (mmA mx (c.args.toList.map st.op)).ev st.h = some e) : Done P w0 M S0 β st o a w e := by
  unfold mmA at h
  split at h
  case h_2 => simp [RM.ev] at h
  rename_i x y l hl
  rw [RM.ev_bind, RM.ev_ofOpt] at h
  obtain ⟨z, hz, h⟩ := obind h
  have he := ev_ret h
  subst he
  have hcl : c.args.toList.length = l.length + 2 := by rw [← List.length_map (f := st.op), hl]; simp
  match hca : c.args.toList, hcl with
  | ox :: oy :: ol, hcl =>
    rw [hca] at hl
    simp only [List.map_cons, List.cons.injEq] at hl
    obtain ⟨rfl, rfl, rfl⟩ := hl
    obtain ⟨cz, n, r1, r2⟩ := mmL_run (P := P) (mx := mx) (st.op oy :: ol.map st.op) (a.eval oy :: ol.map a.eval) (st.op ox) z (a.eval ox) w (by simpa only [mmL] using hz) (hs.op ox) (by simp) (fun j v hv => by
      cases j with
      | zero => simp at hv; subst hv; simpa using hs.op oy
      | succ j =>
        simp only [List.getElem?_cons_succ, List.getElem?_map] at hv
        cases hj : ol[j]? with
        | none => rw [hj] at hv; simp at hv
        | some q => rw [hj] at hv; simp at hv; subst hv; simpa [List.getD, hj] using hs.op q)
    have hb : Below w.heap.size w (w.drewN n) := ⟨rfl, rfl, rfl, Nat.le_refl _, fun _ _ => rfl⟩
    refine Done.value (β' := β) (S' := S) (cv := cz) (w' := w.drewN n) ?_ (hs.below hb) r2 (fun _ _ e => e)
    have hargs : (c.args.map a.eval).toList = a.eval ox :: a.eval oy :: ol.map a.eval := by rw [Array.toList_map, hca]; rfl
    unfold execOp
    cases mx
    · simp only [cond_false] at hc r1
      simp only [ho, resolve, hc, Sem.run_bind, Sem.run_pure, Result.andThen_ok, invoke, builtin, Builtin.min_, hargs, r1]
    · simp only [cond_true] at hc r1
      simp only [ho, resolve, hc, Sem.run_bind, Sem.run_pure, Result.andThen_ok, invoke, builtin, Builtin.max_, hargs, r1]
/-! ### Appending -/
theorem encC_scalar (c : Ck) (hc : ∀ r, c ≠ Ck.osl r) (x : c.D) : isScalar (encC c x) = true := by cases c <;> first | rfl | exact absurd rfl (hc _)
theorem encR_scalar (row : List Ck) (hn : ∀ c ∈ row, ∀ r, c ≠ Ck.osl r) : ∀ (x : DR row), ∀ v ∈ encR row x, isScalar v = true := by
  induction row with
  | nil => intro x v hv; cases hv
  | cons c r ih =>
    intro x v hv
    cases r with
    | nil =>
      have hv' : v ∈ [encC c x] := hv
      rw [List.mem_singleton] at hv'
      subst hv'; exact encC_scalar c (hn c List.mem_cons_self) x
    | cons d r =>
      have hv' : v ∈ encC c x.1 :: encR (d :: r) x.2 := hv
      rcases List.mem_cons.1 hv' with rfl | h
      · exact encC_scalar c (hn c List.mem_cons_self) x.1
      · exact ih (fun c' hc' => hn c' (List.mem_cons_of_mem _ hc')) x.2 v h
theorem rows_one {row : List Ck} {xs : List (DR row)} {news : List Value} (hl : news.length = xs.length * row.length) (hn : ∀ c ∈ row, ∀ r, c ≠ Ck.osl r) (h : RowsAt β S w (fun j => news.getD j undef) row xs) : ∀ v ∈ news, v.oneCell' = true := by
  intro v hv
  obtain ⟨k, hk⟩ := List.getElem?_of_mem hv
  have hlt : k < xs.length * row.length := by rw [← hl]; exact (List.getElem?_eq_some_iff.1 hk).1
  have h0 : 0 < row.length := by
    rcases Nat.eq_zero_or_pos row.length with e | e
    · rw [e] at hlt; omega
    · exact e
  have hi : k / row.length < xs.length := Nat.div_lt_of_lt_mul (by rw [Nat.mul_comm]; exact hlt)
  have hj : k % row.length < row.length := Nat.mod_lt _ h0
  have hj' : k % row.length < (encR row xs[k / row.length]).length := by rw [encR_length]; exact hj
  have := h _ _ (List.getElem?_eq_getElem hi) (k % row.length) _ (List.getElem?_eq_getElem hj')
  simp only at this
  rw [show k / row.length * row.length + k % row.length = k from by rw [Nat.mul_comm]; exact Nat.div_add_mod k row.length] at this
  have e : news.getD k undef = v := by simp [List.getD, hk]
  rw [e] at this
  exact rel_scalar this (encR_scalar row hn _ _ (List.getElem_mem hj'))
theorem rows_of (hs : Sim w0 M S0 β S st a w) {row : List Ck} (h0 : 0 < row.length) {x : V} {ys : List (DR row)} (h : (rowsOf row x).ev st.h = some ys) {cv : Value} (hr : Rel β S w cv x) :
    ∃ b c, ∃ news : List Value, cv = .slice b ys.length c ∧ news.length = ys.length * row.length ∧ (∀ w' : World, w'.heap = w.heap → (Builtin.firstCells row.length ys.length cv).run P w' = .ok news.toArray w') ∧ RowsAt β S w (fun j => news.getD j undef) row ys := by
  unfold rowsOf at h
  split at h
  · rename_i id s
    simp only [RM.ev] at h
    split at h
    case h_2 => cases h
    rename_i hb hh
    split at h
    case h_2 => simp [RM.ev] at h
    rename_i row' xs hl
    split at h
    case isFalse => simp [RM.ev] at h
    rename_i hbe
    obtain rfl := beqR_eq hbe
    obtain ⟨hst, h⟩ := ev_cond h
    have hst' := Nat.eq_of_beq_eq_true hst
    have h' : some xs = some ys := h
    cases h'
    obtain ⟨blk, len, cap, c1, hb1, ⟨c, t, fr, hh2, hcs⟩, hlc⟩ := rel_slw hr
    have hrr := hs.blk id hb hh
    rw [hl] at hrr
    obtain ⟨blk', cc, tt, b1, b2, b3, b4⟩ := hrr
    rw [hb1] at b1
    simp only [Option.some.injEq, Prod.mk.injEq] at b1
    obtain ⟨rfl, b1⟩ := b1
    have hll : len = xs.length := by rw [← hst'] at b1; exact Nat.eq_of_mul_eq_mul_right h0 b1
    have hlen : (cc.toList.take (xs.length * row'.length)).length = xs.length * row'.length := by
      rw [List.length_take, show cc.toList.length = cc.size from Array.length_toList]; exact Nat.min_eq_left b3
    rw [hll] at c1
    refine ⟨_, cap, cc.toList.take (xs.length * row'.length), c1, hlen, fun w' hw' => ?_, fun i x hx j v hv => ?_⟩
    · rw [c1]
      refine run_firstCells_some (P := P) w' _ _ _ _ _ _ hlen (fun k v hk => ?_)
      rw [List.getElem?_take] at hk
      split at hk
      case isFalse => cases hk
      rw [addr_add_lit, cell_of_heap (w := w) (by rw [hw']), Nat.zero_add, cell_of_row w _ _ _ _ _ b2]
      simpa using hk
    · have hil : i < xs.length := (List.getElem?_eq_some_iff.1 hx).1
      have hjl : j < row'.length := by rw [← encR_length row' x]; exact (List.getElem?_eq_some_iff.1 hv).1
      have hkl : i * row'.length + j < xs.length * row'.length := by
        have : (i + 1) * row'.length ≤ xs.length * row'.length := Nat.mul_le_mul_right _ hil
        rw [Nat.succ_mul] at this; omega
      have e : (cc.toList.take (xs.length * row'.length)).getD (i * row'.length + j) undef = cc.getD (i * row'.length + j) undef := by
        simp only [List.getD, List.getElem?_take, if_pos hkl, Array.getElem?_toList, Array.getD_eq_getD_getElem?]
      simp only [e]
      exact b4 i x hx j v hv
  · rename_i row' xs
    split at h
    case isFalse => simp [RM.ev] at h
    rename_i hbe
    obtain rfl := beqR_eq hbe
    have h' : some xs = some ys := h
    cases h'
    rcases rel_ds hr with ⟨⟨a0, cap0, c1⟩, rfl⟩ | ⟨blk, oo, cap, g, c1, h1, h2, h3, h4⟩
    · refine ⟨a0, cap0, [], c1, by simp, fun w' _ => ?_, fun i x hx => by simp at hx⟩
      rw [c1]
      cases a0 with
      | none => exact run_firstCells_none w' _ _ _ _
      | some a => exact run_firstCells_some (P := P) w' _ _ _ _ _ _ (by simp) (fun k v hk => by simp at hk)
    · refine ⟨_, cap, (List.range (xs.length * row'.length)).map (fun k => g (k / row'.length) (k % row'.length)), c1, by simp, fun w' hw' => ?_, fun i x hx j v hv => ?_⟩
      · rw [c1]
        refine run_firstCells_some (P := P) w' _ _ _ _ _ _ (by simp) (fun k v hk => ?_)
        rw [List.getElem?_map] at hk
        have hkl : k < xs.length * row'.length := by
          rcases Nat.lt_or_ge k (xs.length * row'.length) with hlt | hge
          · exact hlt
          · rw [List.getElem?_eq_none (by simpa using hge)] at hk; cases hk
        rw [List.getElem?_range hkl] at hk
        simp only [Option.map_some, Option.some.injEq] at hk
        have hi : k / row'.length < xs.length := Nat.div_lt_of_lt_mul (by rw [Nat.mul_comm]; exact hkl)
        have := h2 _ hi _ (Nat.mod_lt k h0)
        rw [addr_add_lit, cell_of_heap (w := w) (by rw [hw'])]
        rw [show oo + k / row'.length * row'.length + k % row'.length = oo + k from by have := Nat.div_add_mod k row'.length; rw [Nat.mul_comm] at this; omega] at this
        rw [this, hk]
      · have hil : i < xs.length := (List.getElem?_eq_some_iff.1 hx).1
        have hjl : j < row'.length := by rw [← encR_length row' x]; exact (List.getElem?_eq_some_iff.1 hv).1
        have hkl : i * row'.length + j < xs.length * row'.length := by
          have : (i + 1) * row'.length ≤ xs.length * row'.length := Nat.mul_le_mul_right _ hil
          rw [Nat.succ_mul] at this; omega
        have e : ((List.range (xs.length * row'.length)).map (fun k => g (k / row'.length) (k % row'.length))).getD (i * row'.length + j) undef = g i j := by
          simp only [List.getD, List.getElem?_map, List.getElem?_range hkl, Option.map_some, Option.getD_some]
          rw [show (i * row'.length + j) / row'.length = i from by rw [Nat.mul_comm, Nat.mul_add_div h0, Nat.div_eq_of_lt hjl]; rfl, show (i * row'.length + j) % row'.length = j from by rw [Nat.mul_comm, Nat.mul_add_mod, Nat.mod_eq_of_lt hjl]]
        simp only [e]
        exact h3 i x hx j v hv
  · have h' : some [] = some ys := h
    cases h'
    exact ⟨none, 0, [], rel_nils hr, by simp, fun w' _ => by rw [rel_nils hr]; exact run_firstCells_none w' _ _ _ _, fun i x hx => by simp at hx⟩
  · have h' : some [] = some ys := h
    cases h'
    obtain ⟨ad, c1⟩ := rel_ds0 hr
    refine ⟨ad, 0, [], c1, by simp, fun w' _ => ?_, fun i x hx => by simp at hx⟩
    rw [c1]
    cases ad with
    | none => exact run_firstCells_none w' _ _ _ _
    | some ad => simp [Builtin.firstCells, loadCells, loadCellsFrom]
  · simp [RM.ev] at h
theorem run_append_gen (w : World) (t u ty e e' : TypeId) (i : TypeInfo) (z : Value) (ht : P.underlying t = some (.slice e)) (hu : P.underlying u = some (.slice e')) (hi : P.info? e = some i) (hz : i.zero = some z)
    (b : Option Addr) (sLen sCap : Nat) (olds news : List Value) (b' : Option Addr) (m c : Nat) (hfo : ∀ w' : World, w'.heap = w.heap → (Builtin.firstCells i.size sLen (.slice b sLen sCap)).run P w' = .ok olds.toArray w')
    (hf : ∀ w' : World, w'.heap = w.heap → (Builtin.firstCells i.size m (.slice b' m c)).run P w' = .ok news.toArray w') (hg : sCap < sLen + m) (hfit : (sLen + m) * i.bytes ≤ 140737488355328) (hb0 : 0 < i.bytes) :
    (Builtin.append_ #[t, u] ty #[.slice b sLen sCap, .slice b' m c]).run P w =
      .ok (.slice (some ⟨w.heap.size, 0, none⟩) (sLen + m) (grownCap w (sLen + m) sCap e)) (w.drew.alloc (.cells (olds.toArray ++ news.toArray ++ Builtin.zeroCells z.cells (grownCap w (sLen + m) sCap e - (sLen + m))) e)) := by
  have hn : ¬ (sLen + m ≤ sCap) := by omega
  have hle : sLen + m ≤ (sLen + m) * i.bytes := Nat.le_mul_of_pos_right _ hb0
  have h63' : ¬ (9223372036854775807 < ((sLen : Int) + (m : Int))) := by omega
  have hfit' := growslice_fits hg hfit
  have h48' : ¬ (281474976710656 < Builtin.nextslicecap (sLen + m) sCap * i.bytes) := by omega
  have h1 := hf w.drew rfl
  have h2 := hfo w.drew rfl
  simp [Builtin.append_, run_underlying ht, run_underlying hu, sizeOf, typeInfo, zeroValue, hi, hz, Builtin.lenOf, hn, h63', h48', Question.forced, h1, h2, newRow, grownCap]
  congr 2
  apply Array.ext'
  simp [List.append_assoc]
theorem run_append_in (w : World) (t u ty e e' : TypeId) (i : TypeInfo) (ht : P.underlying t = some (.slice e)) (hu : P.underlying u = some (.slice e')) (hi : P.info? e = some i)
    (g sLen sCap : Nat) (cur : Array Value) (tt : TypeId) (hg : w.heap[g]? = some (.cells cur tt (0, 0))) (news : List Value) (b' : Option Addr) (m c : Nat)
    (hf : ∀ w' : World, w'.heap = w.heap → (Builtin.firstCells i.size m (.slice b' m c)).run P w' = .ok news.toArray w') (h1 : ∀ v ∈ news, v.oneCell' = true) (hroom : sLen + m ≤ sCap) (hfit : sLen * i.size + news.length ≤ cur.size) :
    (Builtin.append_ #[t, u] ty #[.slice (some ⟨g, 0, none⟩) sLen sCap, .slice b' m c]).run P w = .ok (.slice (some ⟨g, 0, none⟩) (sLen + m) sCap) (w.setRow g (spliced cur (sLen * i.size) news)) := by
  have hst := run_storeCells_at P g (sLen * i.size) tt news 0 cur w hg (by simpa using hfit) h1
  simp only [Nat.add_zero] at hst
  have hf' := hf w rfl
  simp [Builtin.append_, run_underlying ht, run_underlying hu, sizeOf, typeInfo, hi, Builtin.lenOf, hroom, hf', Addr.add_lit, hst]
  simp only [spliced, List.append_assoc]
theorem run_append_none (w : World) (t u ty e e' : TypeId) (i : TypeInfo) (ht : P.underlying t = some (.slice e)) (hu : P.underlying u = some (.slice e')) (hi : P.info? e = some i) (b b' : Option Addr) (c : Nat)
    (hf : ∀ w' : World, w'.heap = w.heap → (Builtin.firstCells i.size 0 (.slice b' 0 c)).run P w' = .ok #[] w') :
    (Builtin.append_ #[t, u] ty #[.slice b 0 0, .slice b' 0 c]).run P w = .ok (.slice b 0 0) w := by
  have hf' := hf w rfl
  cases b <;> simp [Builtin.append_, run_underlying ht, run_underlying hu, sizeOf, typeInfo, hi, Builtin.lenOf, hf', storeCells]
theorem rows_app {row : List Ck} {xs ys : List (DR row)} {f : Nat → Value} (h1 : RowsAt β S w f row xs) (h2 : RowsAt β S w (fun j => f (xs.length * row.length + j)) row ys) : RowsAt β S w f row (xs ++ ys) := by
  intro i x hx j v hv
  by_cases hi : i < xs.length
  · rw [List.getElem?_append_left hi] at hx; exact h1 i x hx j v hv
  · rw [List.getElem?_append_right (by omega)] at hx
    have := h2 _ x hx j v hv
    simp only at this
    rw [show xs.length * row.length + ((i - xs.length) * row.length + j) = i * row.length + j from by rw [← Nat.add_assoc, ← Nat.add_mul]; congr 2; omega] at this
    exact this
theorem rows_congr {row : List Ck} {xs : List (DR row)} {f g : Nat → Value} (h : RowsAt β S w f row xs) (he : ∀ k, k < xs.length * row.length → g k = f k) : RowsAt β S w g row xs := by
  intro i x hx j v hv
  have hil : i < xs.length := (List.getElem?_eq_some_iff.1 hx).1
  have hjl : j < row.length := by rw [← encR_length row x]; exact (List.getElem?_eq_some_iff.1 hv).1
  rw [he]
  · exact h i x hx j v hv
  · have : (i + 1) * row.length ≤ xs.length * row.length := Nat.mul_le_mul_right _ hil
    rw [Nat.succ_mul] at this; omega
theorem rows_news {row : List Ck} {xs : List (DR row)} {news rest : List Value} (hl : news.length = xs.length * row.length) (h : RowsAt β S w (fun j => news.getD j undef) row xs) (pre : List Value) :
    RowsAt β S w (fun j => (pre ++ news ++ rest).toArray.getD (pre.length + j) undef) row xs := by
  refine rows_congr h fun k hk => ?_
  simp only [Array.getD_eq_getD_getElem?, List.getElem?_toArray, List.getD]
  rw [List.append_assoc, List.getElem?_append_right (by omega), Nat.add_sub_cancel_left, List.getElem?_append_left (by omega)]
theorem arr2 {α : Type} {c : Array α} {p q : α} (h : c.size = 2) (h0 : c[0]? = some p) (h1 : c[1]? = some q) : c = #[p, q] := by
  apply Array.ext'
  have hl : c.toList.length = 2 := h
  have g0 : c.toList[0]? = some p := by simpa using h0
  have g1 : c.toList[1]? = some q := by simpa using h1
  match hc : c.toList, hl with
  | [y, z], _ => rw [hc] at g0 g1; simp at g0 g1; rw [g0, g1]
set_option maxHeartbeats 2000000 in
theorem done_append (hE : ∀ t x, E.ty t = some x → tyOf P t = some x) (hs : Sim w0 M S0 β S st a w) {nb : Nat} (hn : st.h nb = none) {c : Call} (ho : o.op = .call c) (hc : c.callee = .builtin .append) {e : Eff}
    (h : (opRM0 E nb st.op (.call c)).ev st.h = some e) : Done P w0 M S0 β st o a w e := by
  simp only [opRM0, hc] at h
  split at h
  case h_2 => simp [RM.ev] at h
  rename_i s x t u hs0 hx0 ht0 hu0
  split at h
  case h_2 => simp [RM.ev] at h
  rename_i el' _ _ _ _ eu
  obtain ⟨hsz2, h⟩ := ev_cond h
  simp only [Bool.and_eq_true] at hsz2
  obtain ⟨_, _, _, _, hku, _⟩ := ty_inv (hE _ _ eu)
  have huu := tk_sl hku.symm
  unfold appendA at h
  split at h
  case h_2 => simp [RM.ev] at h
  rename_i el _ _ _ _ et
  split at h
  case h_2 => simp [RM.ev] at h
  rename_i ty eel
  obtain ⟨hcc, h1⟩ := ev_cond h
  clear h
  simp only [Bool.and_eq_true] at hcc
  have hrow := Nat.eq_of_beq_eq_true hcc.1.1.1
  have hzl0 := Nat.eq_of_beq_eq_true hcc.1.1.2
  have hsz0 : 0 < ty.size := by have := hcc.1.2; rwa [Nat.blt_eq] at this
  have hby0 : 0 < ty.bytes := by have := hcc.2; rwa [Nat.blt_eq] at this
  obtain ⟨_, _, _, _, hk, _⟩ := ty_inv (hE _ _ et)
  have hu := tk_sl hk.symm
  obtain ⟨i, z, hi, hz, hkk, hsz, hbb, hzz⟩ := ty_inv (hE _ _ eel)
  rw [RM.ev_bind] at h1
  obtain ⟨ys, hys, h2⟩ := bind_some h1
  clear h1
  have hxr := hs.op x
  have hsr := hs.op s
  generalize st.op s = vs at h2 hsr
  obtain ⟨b', c', news, cx, nl, nf, nr⟩ := rows_of hs (by rw [hrow]; exact hsz0) hys hxr
  have hone := rows_one nl (by rw [ty_row (hE _ _ eel)]; exact rowOf_noO P 4 _) nr
  have hargs : c.args.map a.eval = #[a.eval s, a.eval x] := by rw [arr2 (Nat.eq_of_beq_eq_true hsz2.1) hs0 hx0]; simp
  have htys : c.argTypes = #[t, u] := arr2 (Nat.eq_of_beq_eq_true hsz2.2) ht0 hu0
  have exec : ∀ {sv : Value} {r : Value} {w' : World}, a.eval s = sv → (Builtin.append_ #[t, u] o.type #[sv, .slice b' ys.length c']).run P w = .ok r w' → (execOp a.eval o).run P w = .ok (.value r) w' := by
    intro sv r w' hsv hrun
    unfold execOp
    simp only [ho, resolve, hc, hargs, htys, Sem.run_bind, Sem.run_pure, Result.andThen_ok, invoke, builtin, hsv, cx, hrun]
  rw [hrow] at nl
  rw [cx, hrow, hsz] at nf
  rw [hsz] at nl
  have hrl : ty.row.length = i.size := by rw [hrow, hsz]
  -- a new row
  have fresh : ∀ {b : Option Addr} {sLen sCap : Nat} {olds : List Value} {xs : List (DR ty.row)}, a.eval s = .slice b sLen sCap → sLen = xs.length → olds.length = xs.length * ty.row.length → RowsAt β S w (fun j => olds.getD j undef) ty.row xs →
      (∀ w' : World, w'.heap = w.heap → (Builtin.firstCells i.size sLen (.slice b sLen sCap)).run P w' = .ok olds.toArray w') → sCap < sLen + ys.length → (sLen + ys.length) * i.bytes ≤ 140737488355328 →
      ∃ cv w' β', (execOp a.eval o).run P w = .ok (.value cv) w' ∧ Sim w0 M S0 β' S (st.setH nb ⟨.arr ty.row (xs ++ ys), false⟩) a w' ∧ Rel β' S w' cv (.slw nb ty.size) ∧ (∀ id p, β id = some p → β' id = some p) := by
    intro b sLen sCap olds xs hsv hsl hol hor hfo hg hfit
    subst hsl
    have hrun := run_append_gen w t u o.type el el' i z hu huu hi hz b xs.length sCap olds news b' ys.length c' hfo nf hg hfit (by rw [← hbb]; exact hby0)
    have hcells : olds.toArray ++ news.toArray ++ Builtin.zeroCells z.cells (grownCap w (xs.length + ys.length) sCap el - (xs.length + ys.length)) = (olds ++ news ++ (Builtin.zeroCells z.cells (grownCap w (xs.length + ys.length) sCap el - (xs.length + ys.length))).toList).toArray := by
      apply Array.ext'; simp
    rw [hcells] at hrun
    generalize hcl : (Builtin.zeroCells z.cells (grownCap w (xs.length + ys.length) sCap el - (xs.length + ys.length))).toList = zs at hrun
    have hrows : RowsAt β S w (fun j => (olds ++ news ++ zs).toArray.getD j undef) ty.row (xs ++ ys) := by
      refine rows_app (rows_congr hor fun k hk => ?_) ?_
      · simp only [Array.getD_eq_getD_getElem?, List.getElem?_toArray, List.getD]
        rw [List.append_assoc, List.getElem?_append_left (by omega)]
      · rw [← hol]
        exact rows_news (by rw [nl, hrl]) nr olds
    have hd : Below w.heap.size w w.drew := (Below.refl _ w).drew
    have hsize : (xs ++ ys).length * ty.row.length ≤ (olds ++ news ++ zs).toArray.size := by
      simp only [List.length_append, List.size_toArray, Nat.add_mul, hol, nl, hrl]; omega
    have hnew := hs.newArr (w1 := w.drew) (t := el) hn hd rfl hsize hrows (.inl (ty_noO (hE _ _ eel) _))
    refine ⟨_, _, _, exec hsv hrun, hnew, .slw (len := xs.length + ys.length) (by rw [upd_same, List.length_append, hrow]) ⟨_, el, (0, 0), heap_new rfl _, ?_⟩ (grownCap_ge _ _ _ _), upd_ext _ (hs.fresh _ hn)⟩
    have hcap := grownCap_ge w (xs.length + ys.length) sCap el
    have hzl : zs.length = (grownCap w (xs.length + ys.length) sCap el - (xs.length + ys.length)) * z.cells.size := by rw [← hcl]; simp [size_zeroCells]
    have hz1 : z.cells.size = ty.size := by rw [← hzl0, hzz]; simp
    rw [hz1] at hzl
    have e1 : (olds ++ news ++ zs).toArray.size = (xs.length + ys.length) * ty.size + (grownCap w (xs.length + ys.length) sCap el - (xs.length + ys.length)) * ty.size := by
      simp only [List.length_append, List.size_toArray, hol, nl, hzl, hrow, ← hsz, Nat.add_mul]
    rw [e1, ← Nat.add_mul]
    exact Nat.mul_le_mul_right _ (by omega)
  split at h2
  · rename_i id sst
    obtain ⟨hss, h3⟩ := ev_cond h2
    have hss' : sst = ty.size := Nat.eq_of_beq_eq_true hss
    simp only [RM.ev] at h3
    split at h3
    case h_2 => cases h3
    rename_i hb hh
    split at h3
    case h_2 => simp [RM.ev] at h3
    rename_i row xs hl
    split at h3
    case isFalse => simp [RM.ev] at h3
    rename_i hbe
    obtain rfl := beqR_eq hbe
    obtain ⟨hfz, h4⟩ := ev_cond h3
    obtain ⟨hfit, h5⟩ := ev_guard h4
    simp only [RM.ev, Option.some.injEq] at h5
    subst h5
    simp only [Bool.not_eq_true'] at hfz
    have hfit' : (xs.length + ys.length) * ty.bytes ≤ 140737488355328 := of_decide_eq_true hfit
    obtain ⟨blk, len, cap, c1, hb1, ⟨c2, t2, fr2, hh2, hcs⟩, hlc⟩ := rel_slw hsr
    have hrr := hs.blk id hb hh
    rw [hl] at hrr
    obtain ⟨blk', cc, tt, b1, b2, b3, b4⟩ := hrr
    rw [hb1] at b1
    simp only [Option.some.injEq, Prod.mk.injEq] at b1
    obtain ⟨rfl, b1⟩ := b1
    rw [hh2] at b2
    simp only [Option.some.injEq, Obj.cells.injEq] at b2
    obtain ⟨rfl, rfl, rfl⟩ := b2
    rw [hss'] at b1 hcs
    have hll : len = xs.length := by rw [hrow] at b1; exact Nat.eq_of_mul_eq_mul_right hsz0 b1
    have hlive : Live st id := ⟨hb, hh, by rw [hl]; simp, hfz⟩
    by_cases hroom : len + ys.length ≤ cap
    · have hfitc : len * i.size + news.length ≤ c2.size := by
        rw [nl, ← hsz, ← Nat.add_mul]
        exact Nat.le_trans (Nat.mul_le_mul_right _ hroom) hcs
      have hrun := run_append_in w t u o.type el el' i hu huu hi blk len cap c2 t2 hh2 news b' ys.length c' nf hone hroom hfitc
      have hsp := spliced_size hfitc
      have hw := Wrote.setRow (cs := spliced c2 (len * i.size) news) hh2 hsp
      have hcS : ∀ b, S b → ∀ oo, (w.setRow blk (spliced c2 (len * i.size) news)).cell? ⟨b, oo, none⟩ = w.cell? ⟨b, oo, none⟩ := fun b hb' oo => cell_of_heap (hw.block b (fun e => (hs.own id blk _ hlive hb1).1 (e ▸ hb'))) oo
      have hrows : RowsAt β S w (fun j => (spliced c2 (len * i.size) news).getD j undef) ty.row (xs ++ ys) := by
        refine rows_app (rows_congr (f := fun j => c2.getD j undef) b4 fun k hk => ?_) (rows_congr nr fun k hk => ?_)
        · rw [spliced_get hfitc, if_neg]
          rw [hll, ← hrl]; omega
        · rw [spliced_get hfitc, hll, ← hrl, if_pos ⟨by omega, by rw [nl, ← hrl]; omega⟩, Nat.add_sub_cancel_left]
      have hx := upd_ext (blk, (xs ++ ys).length * ty.row.length) (hs.fresh nb hn)
      refine Done.value (cv := .slice (some ⟨blk, 0, none⟩) (len + ys.length) cap) (exec c1 hrun) (hs.move (n' := (xs ++ ys).length * ty.row.length) hlive hb1 hw hn ⟨blk, spliced c2 (len * i.size) news, t2, upd_same _ _ _, setRow_heap w blk c2 _ _ _ hh2, ?_, fun k y hy j v hv => ?_⟩ (.inl (ty_noO (hE _ _ eel) _))) ?_ hx
      · rw [hsp, List.length_append, hrow, ← hll]
        exact Nat.le_trans (Nat.mul_le_mul_right _ hroom) hcs
      · exact (hrows k y hy j v hv).mono hx (fun _ e => e) hcS hw.szs
      · rw [hss']
        exact .slw (len := len + ys.length) (by rw [upd_same, List.length_append, hrow, hll]) ⟨_, _, _, setRow_heap w blk c2 _ _ _ hh2, by rw [hsp]; exact hcs⟩ hroom
    · have hol : (c2.toList.take (xs.length * ty.row.length)).length = xs.length * ty.row.length := by
        rw [List.length_take, show c2.toList.length = c2.size from Array.length_toList]; exact Nat.min_eq_left b3
      obtain ⟨cv, w', β', r1, r2, r3, r4⟩ := fresh (olds := c2.toList.take (xs.length * ty.row.length)) (xs := xs) c1 hll hol
        (rows_congr (f := fun j => c2.getD j undef) b4 fun k hk => by simp only [List.getD, List.getElem?_take, if_pos hk, Array.getElem?_toList, Array.getD_eq_getD_getElem?])
        (fun w' hw' => run_firstCells_some (P := P) w' _ _ _ _ _ _ (by rw [hol, hll, hrl]) (fun k v hk => by
          rw [List.getElem?_take] at hk
          split at hk
          case isFalse => cases hk
          rw [addr_add_lit, cell_of_heap (w := w) (by rw [hw']), Nat.zero_add, cell_of_row w _ _ _ _ _ hh2]
          simpa using hk)) (by omega) (by rw [← hbb, hll]; exact hfit')
      exact Done.value r1 (r2.kill id false (by
        rw [setH_other st _ (fun e => by subst e; rw [hn] at hh; cases hh), hh]; simp)) (by rw [hss']; exact r3) r4
  · cases hys : ys with
    | nil =>
      rw [hys] at h2
      have h3 := ev_ret (st := st) (v := .nils) (e := e) (by simpa [RM.ev] using h2)
      subst h3
      have c1 := rel_nils hsr
      refine Done.pure hs (exec c1 ?_) .nils
      rw [hys] at nf nl
      have hn0 : news = [] := List.eq_nil_of_length_eq_zero (by simpa using nl)
      subst hn0
      rw [hys]
      exact run_append_none w t u o.type el el' i hu huu hi none b' c' nf
    | cons y ys' =>
      rw [hys] at h2
      have h2' : ((RM.guard (decide ((y :: ys').length * ty.bytes ≤ 140737488355328)) (.ok (.slw nb ty.size, [(nb, ⟨.arr ty.row (y :: ys'), false⟩)])) : RM Eff)).ev st.h = some e := by simpa [RM.ev] using h2
      rw [← hys] at h2'
      obtain ⟨hfit, h5⟩ := ev_guard h2'
      simp only [RM.ev, Option.some.injEq] at h5
      subst h5
      have hfit' : ys.length * ty.bytes ≤ 140737488355328 := of_decide_eq_true hfit
      have c1 := rel_nils hsr
      obtain ⟨cv, w', β', r1, r2, r3, r4⟩ := fresh (olds := []) (xs := []) c1 rfl (by simp) (fun k x hx => by simp at hx) (fun w' hw' => run_firstCells_none w' _ _ _ _) (by rw [hys]; simp) (by rw [← hbb, Nat.zero_add]; exact hfit')
      exact Done.value r1 (by simpa [St.setHs] using r2) r3 r4
  · obtain ⟨ad, c1⟩ := rel_ds0 hsr
    cases hys : ys with
    | nil =>
      rw [hys] at h2
      have h3 := ev_ret (st := st) (v := .ds0) (e := e) (by simpa [RM.ev] using h2)
      subst h3
      refine Done.pure hs (cv := .slice ad 0 0) (exec c1 ?_) .ds0
      rw [hys] at nf nl
      have hn0 : news = [] := List.eq_nil_of_length_eq_zero (by simpa using nl)
      subst hn0
      rw [hys]
      exact run_append_none w t u o.type el el' i hu huu hi ad b' c' nf
    | cons y ys' =>
      rw [hys] at h2
      have h2' : ((RM.guard (decide ((y :: ys').length * ty.bytes ≤ 140737488355328)) (.ok (.slw nb ty.size, [(nb, ⟨.arr ty.row (y :: ys'), false⟩)])) : RM Eff)).ev st.h = some e := by simpa [RM.ev] using h2
      rw [← hys] at h2'
      obtain ⟨hfit, h5⟩ := ev_guard h2'
      simp only [RM.ev, Option.some.injEq] at h5
      subst h5
      have hfit' : ys.length * ty.bytes ≤ 140737488355328 := of_decide_eq_true hfit
      obtain ⟨cv, w', β', r1, r2, r3, r4⟩ := fresh (olds := []) (xs := []) c1 rfl (by simp) (fun k x hx => by simp at hx) (fun w' hw' => by
        cases ad with
        | none => exact run_firstCells_none w' _ _ _ _
        | some ad => simp [Builtin.firstCells, loadCells, loadCellsFrom]) (by rw [hys]; simp) (by rw [← hbb, Nat.zero_add]; exact hfit')
      exact Done.value r1 (by simpa [St.setHs] using r2) r3 r4
  · simp [RM.ev] at h2
end
end Go.Proofs.Ytpglfnkkmafhbaa
