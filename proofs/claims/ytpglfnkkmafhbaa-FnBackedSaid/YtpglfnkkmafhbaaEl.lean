/- The abstract machine, part 12: own blocks renumbered; calls done. -/
import Derived.Test.YtpglfnkkmafhbaaEu
set_option linter.unusedVariables false
set_option linter.unusedSimpArgs false
set_option linter.constructorNameAsVariable false
namespace Go.Proofs.Ytpglfnkkmafhbaa
open Go.RowKit
section
variable {P : Program} {E : Env} {w0 : World} {M S0 : Nat → Prop} {β : Bt} {S : Nat → Prop} {st : St} {a : Act} {w : World} {o : Oper}
theorem idxN_get : ∀ {m : List Nat} {id k : Nat}, idxN id m = some k → m[k]? = some id
  | [], id, k, h => by simp [idxN] at h
  | x :: l, id, k, h => by
    simp only [idxN] at h
    cases hb : Nat.beq x id with
    | true => simp [hb] at h; subst h; simp [Nat.eq_of_beq_eq_true hb]
    | false =>
      simp [hb] at h
      obtain ⟨k', h1, rfl⟩ := h
      simpa using idxN_get h1
theorem idxN_none : ∀ {m : List Nat} {id : Nat}, idxN id m = none → id ∉ m
  | [], id, h, hm => by cases hm
  | x :: l, id, h, hm => by
    simp only [idxN] at h
    cases hb : Nat.beq x id with
    | true => simp [hb] at h
    | false =>
      simp [hb] at h
      rcases List.mem_cons.1 hm with rfl | hm
      · simp at hb
      · exact idxN_none h hm
theorem renL_get (m : List Nat) : ∀ {l l' : List V}, V.renL m l = some l' → l'.length = l.length ∧ ∀ (j : Nat) (v' : V), l'[j]? = some v' → ∃ v : V, l[j]? = some v ∧ v.ren m = some v'
  | [], l', h => by simp [V.renL] at h; subst h; exact ⟨rfl, fun j v' hv => by simp at hv⟩
  | v :: vs, l', h => by
    simp only [V.renL] at h
    obtain ⟨v', h1, h2⟩ := bind_some h
    obtain ⟨vs', h3, h4⟩ := bind_some h2
    simp only [Option.some.injEq] at h4
    subst h4
    obtain ⟨e, hg⟩ := renL_get m h3
    refine ⟨by simp [e], fun j u hu => ?_⟩
    cases j with
    | zero => simp at hu; subst hu; exact ⟨v, rfl, h1⟩
    | succ j => simpa using hg j u (by simpa using hu)
theorem encC_ren (m : List Nat) (c : Ck) (y : c.D) : (encC c y).ren m = some (encC c y) := by cases c <;> simp [encC, V.ren]
theorem map_some {α β : Type} {o : Option α} {f : α → β} {b : β} (h : o.map f = some b) : ∃ a, o = some a ∧ f a = b := by cases o <;> simp at h ⊢; exact h
theorem Rel.ren {β β' : Bt} {S : Nat → Prop} {w : World} {m : List Nat} (hβ : ∀ id k p, idxN id m = some k → β id = some p → β' k = some p) {cv : Value} {v : V} (h : Rel β S w cv v) : ∀ {v' : V}, v.ren m = some v' → Rel β' S w cv v' := by
  have key : ∀ {cs : Array Value} {l l' : List V}, (∀ j v, l[j]? = some v → ∀ {v' : V}, v.ren m = some v' → Rel β' S w (cs.getD j Go.undef) v') → V.renL m l = some l' → ∀ j v, l'[j]? = some v → Rel β' S w (cs.getD j Go.undef) v := fun h hl j v hv => by
    obtain ⟨_, hg⟩ := renL_get m hl
    obtain ⟨u, hu, hr⟩ := hg j v hv
    exact h j u hu hr
  induction h with
  | undef v => intro v' e; simp [V.ren] at e; subst e; exact .undef v
  | x v => intro v' e; simp [V.ren] at e; subst e; exact .x v
  | b q => intro v' e; simp [V.ren] at e; subst e; exact .b q
  | lb q => intro v' e; simp [V.ren] at e; subst e; exact .lb q
  | i k n => intro v' e; simp [V.ren] at e; subst e; exact .i k n
  | f h => intro v' e; simp [V.ren] at e; subst e; exact .f h
  | c h h' => intro v' e; simp [V.ren] at e; subst e; exact .c h h'
  | agg hl _ ih => intro v' e; simp only [V.ren] at e; obtain ⟨l', h1, rfl⟩ := map_some e; exact .agg (by rw [(renL_get m h1).1]; exact hl) (key ih h1)
  | tup hl _ ih => intro v' e; simp only [V.ren] at e; obtain ⟨l', h1, rfl⟩ := map_some e; exact .tup (by rw [(renL_get m h1).1]; exact hl) (key ih h1)
  | nilp => intro v' e; simp [V.ren] at e; subst e; exact .nilp
  | nils => intro v' e; simp [V.ren] at e; subst e; exact .nils
  | nilf => intro v' e; simp [V.ren] at e; subst e; exact .nilf
  | ref h => intro v' e; simp only [V.ren] at e; obtain ⟨k, h1, rfl⟩ := map_some e; exact .ref (hβ _ _ _ h1 h)
  | rel h hi => intro v' e; simp only [V.ren] at e; obtain ⟨k, h1, rfl⟩ := map_some e; exact .rel (hβ _ _ _ h1 h) hi
  | slw h hs hl => intro v' e; simp only [V.ren] at e; obtain ⟨k, h1, rfl⟩ := map_some e; exact .slw (hβ _ _ _ h1 h) hs hl
  | ds s gg hcell hr hl ih =>
    intro v' e; simp [V.ren] at e; subst e
    exact .ds s gg hcell (fun i x hx c v hv => ih i x hx c v hv (by obtain ⟨c, y, rfl⟩ := mem_encR _ x v (List.mem_of_getElem? hv); exact encC_ren m c y)) hl
  | dsnil => intro v' e; simp [V.ren] at e; subst e; exact .dsnil
  | ds0 => intro v' e; simp [V.ren] at e; subst e; exact .ds0
  | dpt s gg hcell hr ih =>
    intro v' e; simp only [V.ren] at e
    obtain ⟨l', h1, rfl⟩ := map_some e
    obtain ⟨hl, hg⟩ := renL_get m h1
    exact .dpt s gg (fun j hj => hcell j (by rwa [hl] at hj)) fun j v hv => by obtain ⟨u, hu, hr⟩ := hg j v hv; exact ih j u hu hr
  | fn hl _ ih => intro v' e; simp only [V.ren] at e; obtain ⟨l', h1, rfl⟩ := map_some e; exact .fn (by rw [(renL_get m h1).1]; exact hl) (key ih h1)
theorem renBs_get (m : List Nat) : ∀ {l : List (Nat × HB)} {bs : List HB}, renBs m l = some bs → bs.length = l.length ∧ ∀ (k : Nat) (hb' : HB), bs[k]? = some hb' → ∃ id : Nat, ∃ hb : HB, l[k]? = some (id, hb) ∧ hb.ren m = some hb'
  | [], bs, h => by simp [renBs] at h; subst h; exact ⟨rfl, fun j v' hv => by simp at hv⟩
  | p :: l, bs, h => by
    simp only [renBs] at h
    obtain ⟨b', h1, h2⟩ := bind_some h
    obtain ⟨bs', h3, h4⟩ := bind_some h2
    simp only [Option.some.injEq] at h4
    subst h4
    obtain ⟨e, hg⟩ := renBs_get m h3
    refine ⟨by simp [e], fun j u hu => ?_⟩
    cases j with
    | zero => simp at hu; subst hu; exact ⟨p.1, p.2, rfl, h1⟩
    | succ j => simpa using hg j u (by simpa using hu)
def GoodAcc (st : St) (acc : List (Nat × HB)) : Prop := (∀ p ∈ acc, st.h p.1 = some p.2 ∧ p.2.blk ≠ .dead) ∧ (acc.map (·.1)).Nodup
theorem GoodAcc.snoc {acc : List (Nat × HB)} (h : GoodAcc st acc) {id : Nat} {hb : HB} (hn : (acc.any fun p => Nat.beq p.1 id) = false) (hh : st.h id = some hb) (hd : hb.blk ≠ .dead) : GoodAcc st (acc ++ [(id, hb)]) := by
  refine ⟨fun p hp => ?_, ?_⟩
  · rcases List.mem_append.1 hp with hp | hp
    · exact h.1 p hp
    · rw [List.mem_singleton.1 hp]; exact ⟨hh, hd⟩
  · rw [List.map_append, List.nodup_append]
    refine ⟨h.2, by simp, fun x hx y hy => ?_⟩
    simp only [List.map_cons, List.map_nil, List.mem_singleton] at hy
    subst hy
    intro e
    subst e
    obtain ⟨p, hp, rfl⟩ := List.mem_map.1 hx
    have := List.any_eq_false.1 hn p hp
    simp at this
theorem collect_good : ∀ (n : Nat) (ws : List V) (acc l : List (Nat × HB)), GoodAcc st acc → (collectM n ws acc).ev st.h = some l → GoodAcc st l
  | 0, ws, acc, l, hg, h => by simp [collectM, RM.ev] at h
  | n + 1, [], acc, l, hg, h => by simp [collectM, RM.ev] at h; subst h; exact hg
  | n + 1, v :: ws, acc, l, hg, h => by
    have go : ∀ id, (bif acc.any (fun p => Nat.beq p.1 id) then collectM n ws acc else .read id fun hb => match hb.blk with
      | .cells l => collectM n (l ++ ws) (acc ++ [(id, hb)])
      | .arr _ _ => collectM n ws (acc ++ [(id, hb)])
      | .dead => .bad).ev st.h = some l → GoodAcc st l := fun id h => by
      cases hn : acc.any (fun p => Nat.beq p.1 id) with
      | true => rw [hn] at h; exact collect_good n _ _ l hg h
      | false =>
        rw [hn] at h
        simp only [cond_false, RM.ev] at h
        split at h
        case h_2 => cases h
        rename_i hb hh
        split at h
        · rename_i l' hl
          exact collect_good n _ _ l (hg.snoc hn hh (by rw [hl]; simp)) h
        · rename_i row xs hl
          exact collect_good n _ _ l (hg.snoc hn hh (by rw [hl]; simp)) h
        · simp [RM.ev] at h
    simp only [collectM] at h
    split at h
    · exact go _ h
    · exact go _ h
    · exact go _ h
    · exact collect_good n _ _ l hg h
    · exact collect_good n _ _ l hg h
    · exact collect_good n _ _ l hg h
    · exact collect_good n _ _ l hg h
theorem pin_ge : ∀ (n i : Nat) (l : List (Nat × HB)), (pinAcc i n).ev st.h = some l → ∀ p ∈ l, i ≤ p.1
  | 0, i, l, h => by simp only [pinAcc, RM.ev, Option.some.injEq] at h; subst h; exact fun p hp => by cases hp
  | n + 1, i, l, h => by
    simp only [pinAcc, RM.ev] at h
    split at h
    case h_2 => cases h
    rename_i hb hh
    have go : ∀ {l : List (Nat × HB)}, ((pinAcc (i + 1) n).bind fun l => (.ok ((i, hb) :: l) : RM (List (Nat × HB)))).ev st.h = some l → ∀ p ∈ l, i ≤ p.1 := fun {l} h => by
      rw [RM.ev_bind] at h
      obtain ⟨l', h1, h2⟩ := bind_some h
      simp only [RM.ev, Option.some.injEq] at h2
      subst h2
      intro p hp
      rcases List.mem_cons.1 hp with rfl | hp
      · exact Nat.le_refl _
      · have := pin_ge n (i + 1) l' h1 p hp; omega
    split at h
    · simp [RM.ev] at h
    · exact go h
theorem collect_ext : ∀ (n : Nat) (ws : List V) (acc l : List (Nat × HB)), (collectM n ws acc).ev st.h = some l → ∃ rest, l = acc ++ rest
  | 0, ws, acc, l, h => by simp [collectM, RM.ev] at h
  | n + 1, [], acc, l, h => by simp [collectM, RM.ev] at h; subst h; exact ⟨[], by simp⟩
  | n + 1, v :: ws, acc, l, h => by
    have go : ∀ id, (bif acc.any (fun p => Nat.beq p.1 id) then collectM n ws acc else .read id fun hb => match hb.blk with
      | .cells l => collectM n (l ++ ws) (acc ++ [(id, hb)])
      | .arr _ _ => collectM n ws (acc ++ [(id, hb)])
      | .dead => .bad).ev st.h = some l → ∃ rest, l = acc ++ rest := fun id h => by
      cases hn : acc.any (fun p => Nat.beq p.1 id) with
      | true => rw [hn] at h; exact collect_ext n _ _ l h
      | false =>
        rw [hn] at h
        simp only [cond_false, RM.ev] at h
        split at h
        case h_2 => cases h
        rename_i hb hh
        split at h
        · obtain ⟨r, hr⟩ := collect_ext n _ _ l h; exact ⟨(id, hb) :: r, by rw [hr]; simp⟩
        · obtain ⟨r, hr⟩ := collect_ext n _ _ l h; exact ⟨(id, hb) :: r, by rw [hr]; simp⟩
        · simp [RM.ev] at h
    simp only [collectM] at h
    split at h
    · exact go _ h
    · exact go _ h
    · exact go _ h
    · exact collect_ext n _ _ l h
    · exact collect_ext n _ _ l h
    · exact collect_ext n _ _ l h
    · exact collect_ext n _ _ l h
theorem pin_good : ∀ (n i : Nat) (l : List (Nat × HB)), (pinAcc i n).ev st.h = some l → GoodAcc st l ∧ ∀ k, k < n → ∃ hb, l[k]? = some (i + k, hb)
  | 0, i, l, h => by simp only [pinAcc, RM.ev, Option.some.injEq] at h; subst h; exact ⟨⟨(fun p hp => by cases hp), by simp⟩, fun k hk => absurd hk (by omega)⟩
  | n + 1, i, l, h => by
    simp only [pinAcc, RM.ev] at h
    split at h
    case h_2 => cases h
    rename_i hb hh
    have go : ∀ {l : List (Nat × HB)}, hb.blk ≠ .dead → ((pinAcc (i + 1) n).bind fun l => (.ok ((i, hb) :: l) : RM (List (Nat × HB)))).ev st.h = some l → GoodAcc st l ∧ ∀ k, k < n + 1 → ∃ hb, l[k]? = some (i + k, hb) := fun {l} hd h => by
      rw [RM.ev_bind] at h
      obtain ⟨l', h1, h2⟩ := bind_some h
      simp only [RM.ev, Option.some.injEq] at h2
      subst h2
      obtain ⟨⟨g1, g2⟩, g3⟩ := pin_good n (i + 1) l' h1
      refine ⟨⟨fun p hp => ?_, ?_⟩, fun k hk => ?_⟩
      · rcases List.mem_cons.1 hp with rfl | hp
        · exact ⟨hh, hd⟩
        · exact g1 p hp
      · rw [List.map_cons, List.nodup_cons]
        refine ⟨fun hm => ?_, g2⟩
        obtain ⟨p, hp, hpe⟩ := List.mem_map.1 hm
        have := pin_ge n (i + 1) l' h1 p hp
        simp only at hpe
        omega
      · cases k with
        | zero => exact ⟨hb, by simp⟩
        | succ k => obtain ⟨hb', e⟩ := g3 k (by omega); exact ⟨hb', by simp [e]; omega⟩
    split at h
    · simp [RM.ev] at h
    · rename_i hnd; exact go (fun e => hnd e) h
/-- Own blocks and what they stand for. -/
structure Blocks (w0 : World) (M : Nat → Prop) (β : Bt) (S : Nat → Prop) (bs : List HB) (w : World) : Prop where
  blk : ∀ id hb, bs[id]? = some hb → BRel β S w id hb.blk
  own : ∀ id hb blk n, bs[id]? = some hb → hb.blk ≠ .dead → hb.fz = false → β id = some (blk, n) → ¬ S blk ∧ (w0.heap.size ≤ blk ∨ M blk)
  fzn : ∀ id hb blk n, bs[id]? = some hb → hb.blk ≠ .dead → hb.fz = true → β id = some (blk, n) → S blk
  inj : ∀ id id' hb hb' blk n n', bs[id]? = some hb → bs[id']? = some hb' → hb.blk ≠ .dead → hb'.blk ≠ .dead → hb.fz = false → hb'.fz = false → β id = some (blk, n) → β id' = some (blk, n') → id = id'
  fresh : ∀ id, bs[id]? = none → β id = none
  hid : Hid w0.heap.size M S β (fun id => bs[id]?) w
theorem sim_mk {bs : List HB} (k : Kept M w0 w) (h : Blocks w0 M β S bs w) (hsb : ∀ b, S b → b < w.heap.size ∧ (S0 b ∨ w0.heap.size ≤ b)) {n : Nat} {lv : List Nat} {vs : List V} {a : Act} (ha : a.tmps.size = n) (hd : a.defers = [])
    (ht : ∀ i, Rel β S w (a.tmps.getD i undef) (assocV lv vs i)) : Sim w0 M S0 β S (mkSt n lv vs bs) a w :=
  ⟨k, ht, ha, hd, h.blk, fun id blk n ⟨hb, hh, hd, hf⟩ e => h.own id hb blk n hh hd hf e, h.fzn, fun id id' blk n n' ⟨hb, hh, hd, hf⟩ ⟨hb', hh', hd', hf'⟩ e e' => h.inj id id' hb hb' blk n n' hh hh' hd hd' hf hf' e e', hsb, h.fresh, h.hid⟩
theorem norm_core (hs : Sim w0 M S0 β S st a w) {roots vs' : List V} {ids : List Nat} {bs : List HB} {f : Nat → Value} (hr : ∀ j v, roots[j]? = some v → Rel β S w (f j) v) {m0 : Nat} (h : (normM m0 roots).ev st.h = some (vs', ids, bs)) :
    ∃ β', (∀ j v, vs'[j]? = some v → Rel β' S w (f j) v) ∧ vs'.length = roots.length ∧ Blocks w0 M β' S bs w ∧ bs.length = ids.length ∧ (∀ (k id : Nat), ids[k]? = some id → β' k = β id) ∧ ids.Nodup ∧
      (∀ (k id : Nat), ids[k]? = some id → ∃ hb hb' : HB, st.h id = some hb ∧ bs[k]? = some hb' ∧ hb.blk ≠ .dead ∧ hb'.fz = hb.fz ∧ hb'.blk ≠ .dead) ∧ (∀ k, k < m0 → ids[k]? = some k) ∧ (∀ σ, HidS w0.heap.size M S β σ st.h w → HidS w0.heap.size M S β' (fun k i => (ids[k]?).bind fun id => σ id i) (fun k => bs[k]?) w) ∧ (∀ (k id : Nat) (row : List Ck) (xss : List (DR [.osl row])), ids[k]? = some id → bs[k]? = some ⟨.arr [.osl row] xss, false⟩ → st.h id = some ⟨.arr [.osl row] xss, false⟩) := by
  unfold normM at h
  rw [RM.ev_bind] at h
  obtain ⟨acc, hacc, h⟩ := bind_some h
  rw [RM.ev_bind] at h
  obtain ⟨l, hl, h1⟩ := bind_some h
  rw [RM.ev_bind, RM.ev_ofOpt] at h1
  obtain ⟨vs, hvs, h2⟩ := bind_some h1
  rw [RM.ev_bind, RM.ev_ofOpt] at h2
  obtain ⟨bs', hbs, h3⟩ := bind_some h2
  simp only [RM.ev, Option.some.injEq, Prod.mk.injEq] at h3
  obtain ⟨rfl, rfl, rfl⟩ := h3
  obtain ⟨ha1, ha2⟩ := pin_good (st := st) m0 0 acc hacc
  have hg := collect_good (st := st) _ _ _ l ha1 hl
  obtain ⟨rest, hrest⟩ := collect_ext (st := st) _ _ _ l hl
  obtain ⟨lv, gv⟩ := renL_get _ hvs
  obtain ⟨lb, gb⟩ := renBs_get _ hbs
  let m := l.map (·.1)
  let β' : Bt := fun k => (m[k]?).bind β
  have hβ : ∀ id k p, idxN id m = some k → β id = some p → β' k = some p := fun id k p e1 e2 => by
    show (m[k]?).bind β = some p
    rw [idxN_get e1]; exact e2
  have hk : ∀ k id hb, l[k]? = some (id, hb) → β' k = β id ∧ st.h id = some hb ∧ hb.blk ≠ .dead := fun k id hb e => by
    have hm : m[k]? = some id := by show (l.map (·.1))[k]? = some id; rw [List.getElem?_map, e]; rfl
    refine ⟨by show (m[k]?).bind β = β id; rw [hm]; rfl, ?_⟩
    exact hg.1 (id, hb) (List.mem_of_getElem? e)
  have hdead : ∀ {hb hb' : HB}, hb.ren m = some hb' → (hb'.blk ≠ .dead ↔ hb.blk ≠ .dead) ∧ hb'.fz = hb.fz := fun {hb hb'} e => by
    simp only [HB.ren] at e
    obtain ⟨b, h1, rfl⟩ := map_some e
    refine ⟨?_, rfl⟩
    cases hb0 : hb.blk <;> rw [hb0] at h1 <;> simp only [Blk.ren] at h1
    · obtain ⟨l', _, rfl⟩ := map_some h1; simp
    · simp at h1; subst h1; simp
    · simp at h1; subst h1; simp
  have hren : ∀ {k : Nat} {hb' : HB}, bs'[k]? = some hb' → ∃ id hb, m[k]? = some id ∧ st.h id = some hb ∧ hb.blk ≠ .dead ∧ hb.ren m = some hb' ∧ β' k = β id := fun {k hb'} e => by
    obtain ⟨id, hb0, e0, hr0⟩ := gb k hb' e
    obtain ⟨e1, e2, e3⟩ := hk k id hb0 e0
    exact ⟨id, hb0, by show (l.map (·.1))[k]? = some id; rw [List.getElem?_map, e0]; rfl, e2, e3, hr0, e1⟩
  have rosl : ∀ {hb : HB} {row : List Ck} {xss : List (DR [.osl row])}, hb.ren m = some ⟨.arr [.osl row] xss, false⟩ → hb = ⟨.arr [.osl row] xss, false⟩ := fun {hb row xss} e => by
    obtain ⟨b, f⟩ := hb
    simp only [HB.ren] at e
    obtain ⟨b', h1, h2⟩ := map_some e
    simp only [HB.mk.injEq] at h2
    obtain ⟨rfl, rfl⟩ := h2
    cases b <;> simp only [Blk.ren] at h1
    · obtain ⟨l', _, h4⟩ := map_some h1; cases h4
    · simp only [Option.some.injEq] at h1; rw [h1]
    · simp only [Option.some.injEq] at h1; cases h1
  have hidr : ∀ σ, HidS w0.heap.size M S β σ st.h w → HidS w0.heap.size M S β' (fun k i => (m[k]?).bind fun id => σ id i) (fun k => bs'[k]?) w := fun σ q => by
    have ol : ∀ {k}, OL (fun k => bs'[k]?) k → ∃ id, m[k]? = some id ∧ OL st.h id ∧ β' k = β id := fun {k} ⟨row, xss, e⟩ => by
      obtain ⟨id, hb, e1, e2, e3, e4, e5⟩ := hren e
      rw [rosl e4] at e2
      exact ⟨id, e1, ⟨row, xss, e2⟩, e5⟩
    have minj : ∀ {k k' id : Nat}, m[k]? = some id → m[k']? = some id → k = k' := fun m1 m2 => (List.getElem?_inj (List.getElem?_eq_some_iff.1 m1).1 hg.2).1 (m1.trans m2.symm)
    refine ⟨fun k row xss e blk n e1 i x hx => ?_, fun k i b ho e => ?_, fun k k' i j b ho ho' e e' => ?_, fun k i b k' hb n ho hh hd hf e e' => ?_⟩
    · obtain ⟨id, hb, g1, g2, g3, g4, g5⟩ := hren e
      rw [rosl g4] at g2
      rw [g5] at e1
      simp only [g1, Option.bind_some]
      exact q.sub id row xss g2 blk n e1 i x hx
    · obtain ⟨id, g1, g2, g3⟩ := ol ho
      simp only [g1, Option.bind_some] at e
      exact q.own id i b g2 e
    · obtain ⟨id, g1, g2, g3⟩ := ol ho
      obtain ⟨id', g1', g2', g3'⟩ := ol ho'
      simp only [g1, Option.bind_some] at e
      simp only [g1', Option.bind_some] at e'
      obtain ⟨r1, r2⟩ := q.inj id id' i j b g2 g2' e e'
      subst r1
      exact ⟨minj g1 g1', r2⟩
    · obtain ⟨id, g1, g2, g3⟩ := ol ho
      simp only [g1, Option.bind_some] at e
      obtain ⟨id', hb0, g1', g2', g3', g4', g5'⟩ := hren hh
      rw [g5'] at e'
      exact q.sep id i b id' hb0 n g2 g2' g3' (by rw [← (hdead g4').2]; exact hf) e e'
  refine ⟨β', fun j v hv => ?_, lv, ⟨fun k hb hh => ?_, fun k hb blk n hh hd hf e => ?_, fun k hb blk n hh hd hf e => ?_, fun k k' hb hb' blk n n' hh hh' hd hd' hf hf' e e' => ?_, fun k hh => ?_, by obtain ⟨σ, q⟩ := hs.hid; exact ⟨_, hidr σ q⟩⟩, by rw [lb, List.length_map], fun k id e => ?_, hg.2, fun k id e => ?_, fun k hk0 => ?_, hidr, fun k id row xss e e' => ?_⟩
  · obtain ⟨u, hu, hren⟩ := gv j v hv
    exact (hr j u hu).ren hβ hren
  · obtain ⟨id, hb0, e, hren⟩ := gb k hb hh
    obtain ⟨e1, e2, e3⟩ := hk k id hb0 e
    have hbr := hs.blk id hb0 e2
    simp only [HB.ren] at hren
    obtain ⟨b, h1, rfl⟩ := map_some hren
    cases hb1 : hb0.blk <;> rw [hb1] at h1 hbr <;> simp only [Blk.ren] at h1
    · rename_i l0
      obtain ⟨l', h4, rfl⟩ := map_some h1
      obtain ⟨blk, c, t, b1, b2, b3, b4⟩ := hbr
      obtain ⟨e5, g5⟩ := renL_get _ h4
      exact ⟨blk, c, t, by rw [e1, b1, e5], b2, by rw [e5]; exact b3, fun j v hv => by obtain ⟨u, hu, hr'⟩ := g5 j v hv; exact (b4 j u hu).ren hβ hr'⟩
    · rename_i row xs
      simp only [Option.some.injEq] at h1
      subst h1
      obtain ⟨blk, c, t, b1, b2, b3, b4⟩ := hbr
      exact ⟨blk, c, t, by rw [e1, b1], b2, b3, fun i x hx j v hv => (b4 i x hx j v hv).ren hβ (by obtain ⟨c, y, rfl⟩ := mem_encR _ x v (List.mem_of_getElem? hv); exact encC_ren m c y)⟩
    · simp only [Option.some.injEq] at h1
      subst h1; trivial
  · obtain ⟨id, hb0, e0, hren⟩ := gb k hb hh
    obtain ⟨e1, e2, e3⟩ := hk k id hb0 e0
    rw [e1] at e
    exact hs.own id blk n ⟨hb0, e2, e3, by rw [← (hdead hren).2]; exact hf⟩ e
  · obtain ⟨id, hb0, e0, hren⟩ := gb k hb hh
    obtain ⟨e1, e2, e3⟩ := hk k id hb0 e0
    rw [e1] at e
    exact hs.fzn id hb0 blk n e2 e3 (by rw [← (hdead hren).2]; exact hf) e
  · obtain ⟨id, hb0, e0, hren⟩ := gb k hb hh
    obtain ⟨e1, e2, e3⟩ := hk k id hb0 e0
    obtain ⟨id', hb0', e0', hren'⟩ := gb k' hb' hh'
    obtain ⟨e1', e2', e3'⟩ := hk k' id' hb0' e0'
    rw [e1] at e; rw [e1'] at e'
    have := hs.inj id id' blk n n' ⟨hb0, e2, e3, by rw [← (hdead hren).2]; exact hf⟩ ⟨hb0', e2', e3', by rw [← (hdead hren').2]; exact hf'⟩ e e'
    subst this
    have m1 : m[k]? = some id := by show (l.map (·.1))[k]? = some id; rw [List.getElem?_map, e0]; rfl
    have m2 : m[k']? = some id := by show (l.map (·.1))[k']? = some id; rw [List.getElem?_map, e0']; rfl
    exact (List.getElem?_inj (List.getElem?_eq_some_iff.1 m1).1 hg.2).1 (m1.trans m2.symm)
  · show (m[k]?).bind β = none
    have : m[k]? = none := by
      rw [List.getElem?_eq_none_iff] at hh ⊢
      show (l.map (·.1)).length ≤ k
      rw [List.length_map, ← lb]; exact hh
    rw [this]; rfl
  · show ((l.map (·.1))[k]?).bind β = β id
    rw [e]; rfl
  · rw [List.getElem?_map] at e
    obtain ⟨p, hp, hpe⟩ := map_some e
    subst hpe
    obtain ⟨_, e2, e3⟩ := hk k p.1 p.2 hp
    have hkl : k < bs'.length := by rw [lb]; exact (List.getElem?_eq_some_iff.1 hp).1
    obtain ⟨id, hb0, e0, hren⟩ := gb k _ (List.getElem?_eq_getElem hkl)
    rw [hp] at e0
    cases e0
    exact ⟨hb0, bs'[k], e2, List.getElem?_eq_getElem hkl, e3, (hdead hren).2, (hdead hren).1.2 e3⟩
  · obtain ⟨hb, hq⟩ := ha2 k hk0
    rw [List.getElem?_map, hrest, List.getElem?_append_left (List.getElem?_eq_some_iff.1 hq).1, hq]
    simp
  · obtain ⟨id', hb, g1, g2, g3, g4, g5⟩ := hren e'
    have : id' = id := Option.some.inj (g1.symm.trans e)
    subst this
    rw [rosl g4] at g2; exact g2
theorem assoc_rel {R : Nat → V → Prop} (hu : ∀ i, R i .undef) : ∀ (lv : List Nat) (vs : List V), (∀ (j t : Nat) (v : V), lv[j]? = some t → vs[j]? = some v → R t v) → ∀ i, R i (assocV lv vs i)
  | [], vs, h, i => by rw [show assocV [] vs i = .undef by cases vs <;> rfl]; exact hu i
  | t :: ts, [], h, i => hu i
  | t :: ts, v :: vs, h, i => by
    simp only [assocV]
    cases hb : Nat.beq i t with
    | true =>
      obtain rfl := Nat.eq_of_beq_eq_true hb
      exact h 0 i v rfl rfl
    | false => exact assoc_rel hu ts vs (fun j t v h1 h2 => h (j + 1) t v (by simpa using h1) (by simpa using h2)) i
/-- A state with the temporaries of a list alone, own blocks renumbered. -/
theorem Sim.norm (hs : Sim w0 M S0 β S st a w) {lv : List Nat} {vs : List V} {ids : List Nat} {bs : List HB} {m0 : Nat} (h : (normM m0 (lv.map st.t)).ev st.h = some (vs, ids, bs)) : ∃ β', Sim w0 M S0 β' S (mkSt st.n lv vs bs) a w ∧ ∀ id, id < m0 → β' id = β id := by
  obtain ⟨β', h1, h2, h3, _, h5, _, _, h8, _, _⟩ := norm_core (f := fun j => a.tmps.getD (lv.getD j 0) undef) hs (fun j v hv => by
    rw [List.getElem?_map] at hv
    obtain ⟨t, ht, rfl⟩ := map_some hv
    simp only [List.getD, ht, Option.getD_some]
    exact hs.tm t) h
  refine ⟨β', sim_mk hs.kept h3 hs.sb hs.n hs.df fun i => assoc_rel (R := fun i v => Rel β' S w (a.tmps.getD i undef) v) (fun i => .undef _) lv vs (fun j t v e1 e2 => ?_) i, fun id hid => h5 id id (h8 id hid)⟩
  have := h1 j v e2
  simpa only [List.getD, e1, Option.getD_some] using this
end
end Go.Proofs.Ytpglfnkkmafhbaa
