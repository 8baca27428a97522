/- Lakes of halves are valid; their steps. -/
import Derived.Test.YtpglfnkkmafhbaaBm
set_option linter.unusedVariables false
set_option linter.unusedSectionVars false
set_option linter.unusedSimpArgs false
set_option linter.constructorNameAsVariable false
namespace Go.Proofs.Ytpglfnkkmafhbaa
open Go.RowKit
set_option maxRecDepth 100000
theorem P_areMasses (xs : List Nat) (hl : xs.length ≤ 9223372036854775807) : iareMasses xs = some (xs.all isMass) := by
  have h0 := run_idx (f := fun s => (lIndexFunc_iareMasses_1_l2_t xs xs.length s).sem) xs (fun x => !(isMass x)) hl (fun k hk x hx => by
    simp only [lIndexFunc_iareMasses_1_l2_t, Tr.sem, ltRange hk, inRange hk, Int.toNat_natCast, getD_at hx, cond_true, iareMasses_1, iareMasses_1_t, Tr.val]
    cases isMass x <;> rfl) (by simp only [lIndexFunc_iareMasses_1_l2_t, Tr.sem, not_lt_self, cond_false])
  have h1 : lIndexFunc_iareMasses_1 xs = some (idxI (fstIdx (fun x => !(isMass x)) 0 xs)) := idx_tree h0
  have h2 : lContainsFunc_iareMasses_1 xs = some (xs.any fun x => !(isMass x)) := has_tree h1
  have h3 : iareMasses xs = _ := not_tree h2
  rw [h3, not_any]
def win (lo hi n : Int) : Bool := decide (lo ≤ n) && decide (n ≤ hi)
theorem R_within (n lo hi : Int) : iwithin n lo hi = win lo hi n := by
  unfold iwithin iwithin_t win
  cases h : decide (lo ≤ n) <;> simp [Tr.val, h]
def rise (a b : List Nat) (i : Nat) : Bool := fgt .f32 (a.getD i 0) (a.getD (i - 1) 0) && !(flt .f32 (b.getD i 0) (b.getD (i - 1) 0))
def lakeB (a b : List Nat) : Bool := win 2 16 a.length && decide (b.length = a.length) && (a.all isMass && b.all isMass && (List.range a.length).all fun i => decide (i = 0) || rise a b i)
theorem run_upto {ρ σ : Type} {f : σ → Option (σ ⊕ ρ)} (mk : Int → σ) (n : Nat) (hn : n ≤ 9223372036854775806) (p : Nat → Bool) (r e : ρ)
    (hf : ∀ k : Nat, k < n → f (mk k) = some (bif p k then .inl (mk (IntKind.wrap .i64 ((k : Int) + 1))) else .inr r)) (he : f (mk n) = some (.inr e)) : runL f (mk 0) = some (bif (List.range n).all p then e else r) := by
  have h := runL_for (f := f) (List.range n) (fun k (_ : Unit) => mk (k : Int)) (fun _ _ x => bif p x then .inl () else .inr r) (fun _ => e) (fun _ _ => True) () trivial (fun k t x _ hk hx => by
    have hk' : k < n := by simpa using hk
    have : x = k := by rw [List.getElem?_range hk'] at hx; cases hx; rfl
    subst this
    rw [hf x hk', wrap_id (by omega) (by omega)]
    cases p x <;> rfl) (fun _ _ _ _ _ _ _ _ => trivial) (fun _ _ => by simpa using he)
  rw [foldE_all] at h
  exact h
theorem run_from1 {ρ σ : Type} {f : σ → Option (σ ⊕ ρ)} (mk : Int → σ) (n : Nat) (hn : n ≤ 9223372036854775806) (h1 : 1 ≤ n) (p : Nat → Bool) (r e : ρ)
    (hf : ∀ k : Nat, 1 ≤ k → k < n → f (mk k) = some (bif p k then .inl (mk (IntKind.wrap .i64 ((k : Int) + 1))) else .inr r)) (he : f (mk n) = some (.inr e)) : runL f (mk 1) = some (bif (List.range n).all (fun i => decide (i = 0) || p i) then e else r) := by
  have h := runL_up (f := f) (List.range n) (fun k (_ : Unit) => mk (k : Int)) (fun _ _ x => bif p x then .inl () else .inr r) (fun _ => e) (fun k _ => 1 ≤ k) (fun k t x h0 hk hx => by
    have hk' : k < n := by simpa using hk
    have : x = k := by rw [List.getElem?_range hk'] at hx; cases hx; rfl
    subst this
    rw [hf x h0 hk', wrap_id (by omega) (by omega)]
    cases p x <;> rfl) (fun k _ _ _ h _ _ _ => by omega) (fun _ _ => by simpa using he) ((List.range n).drop 1) 1 () rfl (by simpa using h1) (Nat.le_refl _)
  rw [foldE_all] at h
  have e2 : (List.range n).all (fun i => decide (i = 0) || p i) = ((List.range n).drop 1).all p := by
    cases n with
    | zero => omega
    | succ n =>
      rw [List.range_succ_eq_map]
      simp only [List.all_cons, List.drop_succ_cons, List.drop_zero, List.all_map, decide_true, Bool.true_or, Bool.true_and]
      congr 1
  rw [e2]
  exact h
theorem all_range {α : Type} (xs : List α) (d : α) (p : α → Bool) : (List.range xs.length).all (fun i => p (xs.getD i d)) = xs.all p := by
  induction xs with
  | nil => rfl
  | cons x xs ih =>
    rw [List.length_cons, List.range_succ_eq_map, List.all_cons, List.all_map, List.all_cons, ← ih]
    rfl
theorem all_and {α : Type} (xs : List α) (p q : α → Bool) : xs.all (fun i => p i && q i) = (xs.all p && xs.all q) := by
  induction xs with
  | nil => rfl
  | cons x xs ih => simp only [List.all_cons, ih]; cases p x <;> cases q x <;> cases xs.all p <;> cases xs.all q <;> rfl
theorem mass_at {xs : List Nat} (h : xs.all isMass = true) {i : Nat} (hi : i < xs.length) : isMass (xs.getD i 0) = true := by
  have := List.all_eq_true.1 h xs[i] (List.getElem_mem hi)
  simpa [List.getD, List.getElem?_eq_getElem hi] using this
theorem prev {k : Nat} (h : 1 ≤ k) (hk : k ≤ 9223372036854775806) : IntKind.wrap .i64 ((k : Int) - 1) = ((k - 1 : Nat) : Int) := by rw [wrap_id (by omega) (by omega)]; omega
theorem R_valid (a b : List Nat) (hb : b.length ≤ 9223372036854775807) : iValidLake a b = some (lakeB a b) := by
  unfold iValidLake iValidLake_t lakeB
  simp only [R_within, Tr.sem]
  cases hw : win 2 16 (a.length : Int) with
  | false => simp
  | true =>
  have hn : 2 ≤ a.length ∧ a.length ≤ 16 := by simp only [win, Bool.and_eq_true, decide_eq_true_eq] at hw; omega
  by_cases h1 : b.length = a.length
  case neg =>
    have : (((b.length : Nat) : Int) != ((a.length : Nat) : Int)) = true := by simp; omega
    simp [this, h1]
  have e1 : (((b.length : Nat) : Int) != ((a.length : Nat) : Int)) = false := by simp; omega
  simp only [e1, h1, P_areMasses a (by omega), P_areMasses b hb, osome, oget, cond_true, cond_false, Bool.not_true, Bool.not_false, decide_true, Bool.true_and, bne_self_eq_false]
  cases hA : a.all isMass with
  | false => simp
  | true =>
  cases hB : b.all isMass with
  | false => simp
  | true =>
  have hl : iValidLake_l4 1 a b = some (bif (List.range a.length).all (fun i => decide (i = 0) || rise a b i) then .inr () else .inl ()) := by
    unfold iValidLake_l4
    refine run_from1 (f := fun s => (iValidLake_l4_t a b s).sem) (fun k => k) a.length (by omega) (by omega) (rise a b) (.inl ()) (.inr ()) (fun k h0 hk => ?_) (by simp only [iValidLake_l4_t, Tr.sem, not_lt_self, cond_false])
    simp only [iValidLake_l4_t, Tr.sem, prev h0 (by omega), ltRange hk, zeroLe, ltRange (show k - 1 < a.length by omega), ltRange (show k < b.length by omega), ltRange (show k - 1 < b.length by omega), Bool.and_self, cond_true, Int.toNat_natCast, rise]
    cases fgt .f32 (a.getD k 0) (a.getD (k - 1) 0) <;> cases flt .f32 (b.getD k 0) (b.getD (k - 1) 0) <;> rfl
  simp only [hl, osome, oget, cond_true, Bool.not_true, cond_false, Bool.true_and]
  cases (List.range a.length).all (fun i => decide (i = 0) || rise a b i) <;> rfl
theorem zero32 : isFin .f32 0 = true ∧ rv .f32 0 = 0 := by decide +kernel
theorem mass_iff {c : Nat} : isMass c = true ↔ isFin .f32 c = true ∧ 0 ≤ rv .f32 c := by
  unfold isMass
  rw [Bool.and_eq_true]
  refine ⟨fun h => ⟨h.1, ?_⟩, fun h => ⟨h.1, ?_⟩⟩
  · have := (fge_rv .f32 h.1 zero32.1).1 h.2
    rw [zero32.2] at this; exact this
  · exact (fge_rv .f32 h.1 zero32.1).2 (by rw [zero32.2]; exact h.2)
section
variable {xs ys : List Nat} {P Q : Nat → Nat} (h : LakeH xs ys P Q) (h2 : 2 ≤ xs.length) (h5 : xs.length ≤ 5)
include h h2 h5
theorem lake_valid : iValidLake xs ys = some true := by
  have hl := h.len
  rw [R_valid xs ys (by omega)]
  have mx : xs.all isMass = true := by
    rw [← all_range xs 0, List.all_eq_true]
    intro i hi
    obtain ⟨a, b, _⟩ := x_range h h2 h5 (List.mem_range.1 hi)
    exact mass_iff.2 ⟨a, b⟩
  have my : ys.all isMass = true := by
    rw [← all_range ys 0, List.all_eq_true]
    intro i hi
    obtain ⟨a, b, _⟩ := y_range h h2 h5 (show i < xs.length by have := List.mem_range.1 hi; omega)
    exact mass_iff.2 ⟨a, b⟩
  congr 1
  unfold lakeB
  rw [mx, my, decide_eq_true hl]
  simp only [Bool.true_and, Bool.and_true, Bool.and_eq_true, List.all_eq_true]
  refine ⟨by simp only [win, Bool.and_eq_true, decide_eq_true_eq]; omega, fun i hi => ?_⟩
  have hi' := List.mem_range.1 hi
  rcases Nat.eq_zero_or_pos i with h0 | h0
  · rw [decide_eq_true h0]; rfl
  · obtain ⟨j, rfl⟩ : ∃ j, i = j + 1 := ⟨i - 1, by omega⟩
    have gx := x_gap h h2 h5 hi'
    have gy := (y_gap h h2 h5 hi').1
    have a := (h.hx (j + 1) hi').1
    have b := (h.hx j (by omega)).1
    have c := (h.hy (j + 1) hi').1
    have d := (h.hy j (by omega)).1
    have e1 : fgt .f32 (xs.getD (j + 1) 0) (xs.getD j 0) = true := (fgt_rv .f32 a b).2 (by change xR xs j < xR xs (j + 1); grind)
    have e2 : flt .f32 (ys.getD (j + 1) 0) (ys.getD j 0) = false := by
      cases hc : flt .f32 (ys.getD (j + 1) 0) (ys.getD j 0) with
      | false => rfl
      | true =>
        have := (flt_rv .f32 c d).1 hc
        change xR ys (j + 1) < xR ys j at this
        exfalso; grind
    unfold rise
    simp only [Nat.add_sub_cancel, e1, e2, Bool.not_false, Bool.and_self, Bool.or_true]
theorem lake_out_ok {s : Nat} (fs : isFin .f32 s = true) : ∃ w, iLakeOut xs ys s = some (w, true) ∧ iLake_out xs ys s = some w ∧ OutH xs ys s w := by
  obtain ⟨w, o1, o2⟩ := out_ok h h2 h5 fs
  have fw := (out_range h h2 h5 fs o2).1
  refine ⟨w, ?_, o1, o2⟩
  unfold iLakeOut iLakeOut_t ifinite32 ifinite32_t
  simp only [lake_valid h h2 h5, o1, fs, fw, Tr.sem, Tr.val, osome, oget, Bool.not_true, cond_true, cond_false]
/-- **A STEP.** -/
theorem step_ok {s i n : Nat} (fs : isFin .f32 s = true) (s0 : xR xs 0 ≤ rv .f32 s) (s1 : rv .f32 s ≤ xR xs (xs.length - 1)) (hi : isMass i = true) (hn : isMass n = true) (i2 : rv .f32 i ≤ 2) (n2 : rv .f32 n ≤ 2) :
    ∃ lo wl w, iStepLake xs ys s i n 1048576000 = some (lo, true) ∧ isFin .f32 lo = true ∧ xR xs 0 ≤ rv .f32 lo ∧ rv .f32 lo ≤ xR xs (xs.length - 1) ∧ OutH xs ys lo wl ∧ OutH xs ys s w ∧
    (xR xs 0 + 1 / 1000 < rv .f32 lo → rv .f32 lo < xR xs (xs.length - 1) - 1 / 1000 → rv .f32 s + (rv .f32 i + rv .f32 n - rv .f32 w - rv .f32 wl) / 8 - 1 / 200 ≤ rv .f32 lo ∧ rv .f32 lo ≤ rv .f32 s + (rv .f32 i + rv .f32 n - rv .f32 w - rv .f32 wl) / 8 + 1 / 200) := by
  obtain ⟨fi, i0⟩ := mass_iff.1 hi
  obtain ⟨fn, n0⟩ := mass_iff.1 hn
  obtain ⟨w, o1, o2⟩ := out_ok h h2 h5 fs
  obtain ⟨fw, w0, w8⟩ := out_small h h2 h5 fs o2
  obtain ⟨_, x00, _⟩ := x_range h h2 h5 (show 0 < xs.length by omega)
  obtain ⟨_, _, x18⟩ := x_range h h2 h5 (show xs.length - 1 < xs.length by omega)
  obtain ⟨c1, c2⟩ := c_eighth
  -- what is to be reached
  have a := mul_rv .f32 c1 fw 1 (by rw [c2]; grind) (by rw [c2]; grind) (by decide +kernel)
  have a1 := a.lo
  have a2 := a.hi
  rw [c2, e32] at a1 a2
  generalize hA : rv .f32 (fmul .f32 (fmul .f32 1056964608 1048576000) w) = A at a1 a2
  have b := sub_rv .f32 fs a.fin 20 (by rw [hA]; grind) (by rw [hA]; grind) (by decide +kernel)
  have b1 := b.lo
  have b2 := b.hi
  rw [hA, e32] at b1 b2
  generalize hB : rv .f32 (fsub .f32 s (fmul .f32 (fmul .f32 1056964608 1048576000) w)) = B at b1 b2
  have c := add_rv .f32 fi fn 5 (by grind) (by grind) (by decide +kernel)
  have d1 := c.lo
  have d2 := c.hi
  rw [e32] at d1 d2
  generalize hC : rv .f32 (fadd .f32 i n) = Cc at d1 d2
  have e := mul_rv .f32 c1 c.fin 1 (by rw [c2, hC]; grind) (by rw [c2, hC]; grind) (by decide +kernel)
  have e1 := e.lo
  have e2 := e.hi
  rw [c2, hC, e32] at e1 e2
  generalize hE : rv .f32 (fmul .f32 (fmul .f32 1056964608 1048576000) (fadd .f32 i n)) = E at e1 e2
  have g := add_rv .f32 b.fin e.fin 25 (by rw [hB, hE]; grind) (by rw [hB, hE]; grind) (by decide +kernel)
  have g1 := g.lo
  have g2 := g.hi
  rw [hB, hE, e32] at g1 g2
  obtain ⟨lo, hh, wl, wh, r, I1, I2, I3, I4, I7, I8, I9, I10, I11, I12⟩ := halve_ok h h2 h5 g.fin
  refine ⟨lo, wl, w, ?_, I1, I3, I4, I9, o2, fun q1 q2 => ?_⟩
  · have hl := h.len
    have z1 : (decide ((0 : Int) ≤ 0) && decide ((0 : Int) < (xs.length : Int))) = true := by simp; omega
    have hw : IntKind.wrap .i64 ((xs.length : Int) - 1) = ((xs.length - 1 : Nat) : Int) := by rw [wrap_id (by omega) (by omega)]; omega
    have z3 : (decide ((0 : Int) ≤ ((xs.length - 1 : Nat) : Int)) && decide (((xs.length - 1 : Nat) : Int) < (xs.length : Int))) = true := inRange (by omega)
    have t1 : fge .f32 s (xs.getD 0 0) = true := (fge_rv .f32 fs (h.hx 0 (by omega)).1).2 s0
    have t2 : fle .f32 s (xs.getD (xs.length - 1) 0) = true := (fle_rv .f32 fs (h.hx (xs.length - 1) (by omega)).1).2 s1
    have hs : iLake_isStore xs ys s = some true := by
      unfold iLake_isStore iLake_isStore_t
      simp only [lake_valid h h2 h5, z1, hw, z3, show Int.toNat 0 = 0 from rfl, Int.toNat_natCast, t1, t2, Tr.sem, osome, oget, cond_true]
    have hm : iareMasses [i, n] = some true := by
      rw [P_areMasses [i, n] (by simp)]
      simp [hi, hn]
    have hL : isLen 1048576000 = true := by decide +kernel
    unfold iStepLake iStepLake_t ifinite32 ifinite32_t
    simp only [hs, hm, hL, o1, z1, hw, z3, show Int.toNat 0 = 0 from rfl, Int.toNat_natCast, r, I1, Tr.sem, Tr.val, osome, oget, Bool.not_true, cond_true, cond_false]
  · obtain ⟨l1, l2, l3⟩ := out_small h h2 h5 I1 I9
    obtain ⟨k1, k2, k3⟩ := out_small h h2 h5 I2 I10
    have hq : rv .f32 hh ≤ xR xs (xs.length - 1) := by grind
    have hq0 : 0 ≤ rv .f32 hh := by grind
    obtain ⟨_, u2, u3⟩ := lvl_ok I1 l1 (Rat.le_trans x00 I3) (Rat.le_trans I4 (by grind)) l2 l3
    obtain ⟨_, v2, v3⟩ := lvl_ok I2 k1 hq0 (Rat.le_trans hq (by grind)) k2 k3
    have near := out_near h h2 h5 I1 I2 I9 I10 (by grind)
    have J1 : rv .f32 (lvlW lo wl) ≤ rv .f32 (fadd .f32 (fsub .f32 s (fmul .f32 hT w)) (fmul .f32 hT (fadd .f32 i n))) := by
      rcases I11 with z | z
      · exfalso; grind
      · exact z
    have J2 : rv .f32 (fadd .f32 (fsub .f32 s (fmul .f32 hT w)) (fmul .f32 hT (fadd .f32 i n))) < rv .f32 (lvlW hh wh) := by
      rcases I12 with z | z
      · exfalso; grind
      · exact z
    generalize rv .f32 (fadd .f32 (fsub .f32 s (fmul .f32 hT w)) (fmul .f32 hT (fadd .f32 i n))) = G at *
    exact ⟨by grind, by grind⟩
end
end Go.Proofs.Ytpglfnkkmafhbaa
