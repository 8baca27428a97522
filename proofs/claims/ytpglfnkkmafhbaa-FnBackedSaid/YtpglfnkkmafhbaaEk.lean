/- The abstract machine, part 11: what is handed to a call. -/
import Derived.Test.YtpglfnkkmafhbaaEj
set_option linter.unusedVariables false
set_option linter.unusedSimpArgs false
set_option linter.constructorNameAsVariable false
namespace Go.Proofs.Ytpglfnkkmafhbaa
open Go.RowKit
section
variable {P : Program} {E : Env} {w0 : World} {M S0 : Nat → Prop} {β : Bt} {S : Nat → Prop} {st : St} {a : Act} {w : World} {o : Oper}
theorem noRefL_get : ∀ {l : List V}, V.noRefL l = true → ∀ {j : Nat} {v : V}, l[j]? = some v → v.noRef = true
  | [], _, j, v, h => by simp at h
  | u :: us, hd, 0, v, h => by simp [V.noRefL] at hd; simp at h; subst h; exact hd.1
  | u :: us, hd, j + 1, v, h => by simp [V.noRefL] at hd; simp at h; exact noRefL_get hd.2 h
theorem encC_noRef (c : Ck) (y : c.D) : (encC c y).noRef = true := by cases c <;> rfl
theorem Rel.noref {β β' : Bt} {S : Nat → Prop} {w : World} {cv : Value} {v : V} (h : Rel β S w cv v) (hd : v.noRef = true) : Rel β' S w cv v := by
  induction h with
  | undef v => exact .undef v
  | x v => exact .x v
  | b q => exact .b q
  | lb q => exact .lb q
  | i k n => exact .i k n
  | f h => exact .f h
  | c h h' => exact .c h h'
  | agg hl _ ih => exact .agg hl fun j v hv => ih j v hv (noRefL_get (by simpa [V.noRef] using hd) hv)
  | tup hl _ ih => exact .tup hl fun j v hv => ih j v hv (noRefL_get (by simpa [V.noRef] using hd) hv)
  | nilp => exact .nilp
  | nils => exact .nils
  | nilf => exact .nilf
  | ref h => simp [V.noRef] at hd
  | rel h hi => simp [V.noRef] at hd
  | slw h hs hl => simp [V.noRef] at hd
  | ds s gg hcell hr hl ih => exact .ds s gg hcell (fun i x hx c v hv => ih i x hx c v hv (by obtain ⟨c, y, rfl⟩ := mem_encR _ x v (List.mem_of_getElem? hv); exact encC_noRef c y)) hl
  | dsnil => exact .dsnil
  | ds0 => exact .ds0
  | dpt s gg hcell hr ih => exact .dpt s gg hcell fun j v hv => ih j v hv (noRefL_get (by simpa [V.noRef] using hd) hv)
  | fn hl _ ih => exact .fn hl fun j v hv => ih j v hv (noRefL_get (by simpa [V.noRef] using hd) hv)
/-- What is read from, with some own blocks. -/
def With (β : Bt) (S : Nat → Prop) (ids : List Nat) (b : Nat) : Prop := S b ∨ ∃ id ∈ ids, ∃ n, β id = some (b, n)
def NotDead (st : St) (ids : List Nat) : Prop := ∀ id ∈ ids, ∃ hb, st.h id = some hb ∧ hb.blk ≠ .dead
theorem With.app_l {ids ids' : List Nat} {b : Nat} (h : With β S ids b) : With β S (ids ++ ids') b := h.imp id fun ⟨i, hi, n, e⟩ => ⟨i, List.mem_append_left _ hi, n, e⟩
theorem With.app_r {ids ids' : List Nat} {b : Nat} (h : With β S ids' b) : With β S (ids ++ ids') b := h.imp id fun ⟨i, hi, n, e⟩ => ⟨i, List.mem_append_right _ hi, n, e⟩
theorem NotDead.app {ids ids' : List Nat} (h : NotDead st ids) (h' : NotDead st ids') : NotDead st (ids ++ ids') := fun id hid => (List.mem_append.1 hid).elim (h id) (h' id)
abbrev B0 : Bt := fun _ => none
theorem Rel.grow {β : Bt} {S S' : Nat → Prop} {w : World} {cv : Value} {v : V} (h : Rel β S w cv v) (hS : ∀ b, S b → S' b) : Rel β S' w cv v := h.mono (fun _ _ e => e) hS (fun _ _ _ => rfl) (Szs.refl _)
theorem snapL_rel {T : Nat → Prop} {sn : V → RM (V × List Nat)} (hsn : ∀ v v' ids cv, (sn v).ev st.h = some (v', ids) → Rel β S w cv v → Rel B0 (With β T ids) w cv v' ∧ NotDead st ids) : ∀ (l l' : List V) (ids : List Nat) (f : Nat → Value),
    (snapL sn l).ev st.h = some (l', ids) → (∀ j v, l[j]? = some v → Rel β S w (f j) v) → l'.length = l.length ∧ (∀ j v, l'[j]? = some v → Rel B0 (With β T ids) w (f j) v) ∧ NotDead st ids
  | [], l', ids, f, h, hf => by
    simp only [snapL, RM.ev, Option.some.injEq, Prod.mk.injEq] at h
    obtain ⟨rfl, rfl⟩ := h
    exact ⟨rfl, fun j v hv => by simp at hv, fun id hid => by cases hid⟩
  | v :: vs, l', ids, f, h, hf => by
    simp only [snapL, RM.ev_bind] at h
    obtain ⟨⟨v', i1⟩, h1, h2⟩ := bind_some h
    obtain ⟨⟨vs', i2⟩, h3, h4⟩ := bind_some h2
    simp only [RM.ev, Option.some.injEq, Prod.mk.injEq] at h4
    obtain ⟨rfl, rfl⟩ := h4
    obtain ⟨r1, n1⟩ := hsn v v' i1 (f 0) h1 (hf 0 v rfl)
    obtain ⟨e1, r2, n2⟩ := snapL_rel hsn vs vs' i2 (fun j => f (j + 1)) h3 (fun j u hu => hf (j + 1) u (by simpa using hu))
    refine ⟨by simp [e1], fun j u hu => ?_, n1.app n2⟩
    cases j with
    | zero => simp at hu; subst hu; exact r1.grow fun b hb => hb.app_l
    | succ j => exact (r2 j u (by simpa using hu)).grow fun b hb => hb.app_r
theorem snap_rel (hs : Sim w0 M S0 β S st a w) : ∀ (n : Nat) (v v' : V) (ids : List Nat) (cv : Value), (snap n v).ev st.h = some (v', ids) → Rel β S w cv v → Rel B0 (With β S ids) w cv v' ∧ NotDead st ids := by
  intro n
  induction n with
  | zero => intro v v' ids cv h; simp [snap, RM.ev] at h
  | succ n ih =>
    intro v v' ids cv h hr
    simp only [snap] at h
    split at h
    · rename_i id s
      simp only [RM.ev] at h
      split at h
      case h_2 => cases h
      rename_i hb hh
      split at h
      case h_2 => simp [RM.ev] at h
      rename_i row xs hl
      obtain ⟨hc, h2⟩ := ev_cond h
      simp only [Bool.and_eq_true] at hc
      have hre : row.length = s := Nat.eq_of_beq_eq_true hc.1
      have hs0 : 0 < s := by have := hc.2; rwa [Nat.blt_eq] at this
      simp only [RM.ev, Option.some.injEq, Prod.mk.injEq] at h2
      obtain ⟨rfl, rfl⟩ := h2
      obtain ⟨blk, len, cap, rfl, hb1, hsz, hlc⟩ := rel_slw hr
      have hrr := hs.blk id hb hh
      rw [hl] at hrr
      obtain ⟨blk', cc, tt, b1, b2, b3, b4⟩ := hrr
      rw [hb1] at b1
      simp only [Option.some.injEq, Prod.mk.injEq] at b1
      obtain ⟨rfl, b1⟩ := b1
      have hll : len = xs.length := by rw [hre] at b1; exact Nat.eq_of_mul_eq_mul_right hs0 b1
      subst hll
      refine ⟨.ds (.inr ⟨id, List.mem_singleton.2 rfl, _, hb1⟩) (fun i c => cc.getD (i * row.length + c) undef) (fun i hi c hc' => ?_) (fun i x hx c v hv => ?_) hlc, fun i hi => by rw [List.mem_singleton.1 hi]; exact ⟨hb, hh, by rw [hl]; simp⟩⟩
      · rw [Nat.zero_add]
        refine cell_row b2 ?_
        have : (i + 1) * row.length ≤ xs.length * row.length := Nat.mul_le_mul_right _ hi
        rw [Nat.succ_mul] at this; omega
      · obtain ⟨ck, y, rfl⟩ := mem_encR row x v (List.mem_of_getElem? hv)
        exact ((b4 i x hx c _ hv).noref (encC_noRef ck y)).grow fun b hb => .inl hb
    · rename_i id off
      simp only [RM.ev] at h
      split at h
      case h_2 => cases h
      rename_i hb hh
      split at h
      case h_2 => simp [RM.ev] at h
      rename_i l hl
      rw [RM.ev_bind] at h
      obtain ⟨⟨l', i2⟩, h1, h2⟩ := bind_some h
      simp only [RM.ev, Option.some.injEq, Prod.mk.injEq] at h2
      obtain ⟨rfl, rfl⟩ := h2
      obtain ⟨blk, nn, rfl, hb1⟩ := rel_ref hr
      have hrr := hs.blk id hb hh
      rw [hl] at hrr
      obtain ⟨blk', cc, tt, b1, b2, b3, b4⟩ := hrr
      rw [hb1] at b1; cases b1
      obtain ⟨e1, r2, n2⟩ := snapL_rel ih l l' i2 (fun j => cc.getD j undef) h1 b4
      refine ⟨?_, fun i hi => ?_⟩
      · have := Rel.dpt (β := B0) (S := With β S (id :: i2)) (w := w) (l := l') (o := 0) (off := off) (.inr ⟨id, List.mem_cons_self, _, hb1⟩) (fun j => cc.getD j undef) (fun j hj => by rw [Nat.zero_add]; exact cell_row b2 (by omega)) (fun j v hv => (r2 j v hv).grow fun b hb => With.app_r (ids := [id]) hb)
        rwa [Nat.zero_add] at this
      · rcases List.mem_cons.1 hi with rfl | hi
        · exact ⟨hb, hh, by rw [hl]; simp⟩
        · exact n2 i hi
    · rename_i id s i j
      simp only [RM.ev] at h
      split at h
      case h_2 => cases h
      rename_i hb hh
      split at h
      case h_2 => simp [RM.ev] at h
      rename_i row xs hl
      obtain ⟨hc, h2⟩ := ev_cond h
      simp only [Bool.and_eq_true] at hc
      have hre : row.length = s := Nat.eq_of_beq_eq_true hc.1
      have hs0 : 0 < s := by have := hc.2; rwa [Nat.blt_eq] at this
      simp only [RM.ev, Option.some.injEq, Prod.mk.injEq] at h2
      obtain ⟨rfl, rfl⟩ := h2
      obtain ⟨blk, nn, rfl, hb1, hn⟩ := rel_rel hr
      have hrr := hs.blk id hb hh
      rw [hl] at hrr
      obtain ⟨blk', cc, tt, b1, b2, b3, b4⟩ := hrr
      rw [hb1] at b1; cases b1
      subst hre
      have hlt : i < xs.length := by rw [← Nat.succ_mul] at hn; exact Nat.le_of_mul_le_mul_right hn hs0
      have hxi : xs[i]? = some (xs.getD i (dflR row)) := by simp [hlt]
      refine ⟨.dpt (.inr ⟨id, List.mem_singleton.2 rfl, _, hb1⟩) (fun k => cc.getD (i * row.length + k) undef) (fun k hk => ?_) (fun k v hv => ?_), fun i hi => by rw [List.mem_singleton.1 hi]; exact ⟨hb, hh, by rw [hl]; simp⟩⟩
      · rw [encR_length] at hk
        exact cell_row b2 (by omega)
      · obtain ⟨ck, y, rfl⟩ := mem_encR row _ v (List.mem_of_getElem? hv)
        exact ((b4 i _ hxi k _ hv).noref (encC_noRef ck y)).grow fun b hb => .inl hb
    · rename_i l
      rw [RM.ev_bind] at h
      obtain ⟨⟨l', i2⟩, h1, h2⟩ := bind_some h
      simp only [RM.ev, Option.some.injEq, Prod.mk.injEq] at h2
      obtain ⟨rfl, rfl⟩ := h2
      obtain ⟨cs, rfl, hl, hc⟩ := rel_agg hr
      obtain ⟨e1, r2, n2⟩ := snapL_rel ih l l' i2 (fun j => cs.getD j undef) h1 hc
      exact ⟨.agg (by rw [e1]; exact hl) r2, n2⟩
    · simp [RM.ev] at h
    · rename_i f caps
      rw [RM.ev_bind] at h
      obtain ⟨⟨l', i2⟩, h1, h2⟩ := bind_some h
      simp only [RM.ev, Option.some.injEq, Prod.mk.injEq] at h2
      obtain ⟨rfl, rfl⟩ := h2
      obtain ⟨cs, rfl, hl, hc⟩ := rel_fn hr
      obtain ⟨e1, r2, n2⟩ := snapL_rel ih caps l' i2 (fun j => cs.getD j undef) h1 hc
      exact ⟨.fn (by rw [e1]; exact hl) r2, n2⟩
    · obtain ⟨hc, h2⟩ := ev_cond h
      simp only [RM.ev, Option.some.injEq, Prod.mk.injEq] at h2
      obtain ⟨rfl, rfl⟩ := h2
      exact ⟨(hr.noref hc).grow fun b hb => .inl hb, fun i hi => by cases hi⟩
/-- Own blocks that are only read from now on. -/
theorem freezeAll_sim (hM : ∀ b, ¬ M b) : ∀ (ids : List Nat) (fz : List (Nat × HB)) (S : Nat → Prop) (st1 : St), (freezeAll ids).ev st.h = some fz → NotDead st ids → (∀ id hb, st.h id = some hb → ∃ hb1, st1.h id = some hb1 ∧ hb1.blk = hb.blk) → Sim w0 M S0 β S st1 a w →
    ∃ S', Sim w0 M S0 β S' (st1.setHs fz) a w ∧ (∀ b, S b → S' b) ∧ (∀ id ∈ ids, ∀ b n, β id = some (b, n) → S' b) ∧ ∀ i, (st1.setHs fz).h i = none ↔ st1.h i = none
  | [], fz, S, st1, h, hd, hst, hs => by
    simp only [freezeAll, RM.ev, Option.some.injEq] at h
    subst h
    exact ⟨S, hs, fun _ e => e, (fun id hid => by cases hid), fun i => Iff.rfl⟩
  | id :: ids, fz, S, st1, h, hd, hst, hs => by
    simp only [freezeAll, RM.ev] at h
    split at h
    case h_2 => cases h
    rename_i hb hh
    rw [RM.ev_bind] at h
    obtain ⟨fz', h1, h2⟩ := bind_some h
    simp only [RM.ev, Option.some.injEq] at h2
    subst h2
    obtain ⟨hb1, hh1, e1⟩ := hst id hb hh
    obtain ⟨hb', hh', hnd⟩ := hd id List.mem_cons_self
    rw [hh] at hh'; cases hh'
    have hnd1 : hb1.blk ≠ .dead := by rw [e1]; exact hnd
    obtain ⟨blk, n, hbt, _⟩ := (hs.blk id hb1 hh1).lt hnd1
    have h3 := hs.freeze hh1 hnd1 hbt (hM blk)
    obtain ⟨S', g1, g2, g3, g4⟩ := freezeAll_sim hM ids fz' _ (st1.setH id ⟨hb1.blk, true⟩) h1 (fun i hi => hd i (List.mem_cons_of_mem _ hi)) (fun i hbi hi => by
      by_cases e : i = id
      · subst e; rw [hh] at hi; cases hi; exact ⟨_, setH_same _ _ _, e1⟩
      · obtain ⟨x, hx, hxe⟩ := hst i hbi hi; exact ⟨x, by rw [setH_other _ _ e]; exact hx, hxe⟩) h3
    refine ⟨S', ?_, fun b hb => g2 b (.inl hb), fun i hi b n' e => ?_, fun i => ?_⟩
    · simp only [St.setHs, ← e1]; exact g1
    · rcases List.mem_cons.1 hi with rfl | hi
      · rw [hbt] at e; cases e; exact g2 _ (.inr rfl)
      · exact g3 i hi b n' e
    · simp only [St.setHs, ← e1]
      rw [g4 i]
      by_cases e : i = id
      · subst e; rw [setH_same, hh1]; simp
      · rw [setH_other _ _ e]
theorem setHs_append (st : St) : ∀ (l l' : List (Nat × HB)), st.setHs (l ++ l') = (st.setHs l).setHs l'
  | [], l' => rfl
  | (id, hb) :: l, l' => by simp only [List.cons_append, St.setHs]; exact setHs_append _ l l'
theorem below_of_kept {w w' : World} (h : Kept (fun _ => False) w w') : Below w.heap.size w w' := ⟨h.os, h.tape, h.output, h.size, fun k hk => h.block k hk id⟩
end
end Go.Proofs.Ytpglfnkkmafhbaa
