/- Weirs, gates, culverts and pipes: the drawn ones, one by one. -/
import Derived.Test.YtpglfnkkmafhbaaIa
set_option linter.unusedVariables false
set_option linter.unusedSimpArgs false
set_option linter.constructorNameAsVariable false
namespace Go.Proofs.Ytpglfnkkmafhbaa
open Go.RowKit
set_option maxRecDepth 100000
theorem P_areFinite (xs : List Nat) (hl : xs.length ≤ 9223372036854775807) : iareFinite xs = some (xs.all (isFin .f32)) := by
  have h0 := run_idx (f := fun s => (lIndexFunc_iareFinite_1_l2_t xs xs.length s).sem) xs (fun x => !(isFin .f32 x)) hl (fun k hk x hx => by
    simp only [lIndexFunc_iareFinite_1_l2_t, Tr.sem, ltRange hk, inRange hk, Int.toNat_natCast, getD_at hx, cond_true, iareFinite_1, iareFinite_1_t, Tr.val]
    cases isFin .f32 x <;> rfl) (by simp only [lIndexFunc_iareFinite_1_l2_t, Tr.sem, not_lt_self, cond_false])
  have h1 : lIndexFunc_iareFinite_1 xs = some (idxI (fstIdx (fun x => !(isFin .f32 x)) 0 xs)) := idx_tree h0
  have h2 : lContainsFunc_iareFinite_1 xs = some (xs.any fun x => !(isFin .f32 x)) := has_tree h1
  have h3 : iareFinite xs = _ := not_tree h2
  rw [h3, not_any]
def fin2 (c : Nat) : Nat × Bool := bif isFin .f32 c then (c, true) else (0, false)
theorem ifin2 (c : Nat) : ifinite32 c = fin2 c := by
  unfold ifinite32 ifinite32_t fin2
  cases isFin .f32 c <;> rfl
/-! ### The functions, with no loop in them -/
def weirP (x0 x1 x2 x3 : Nat) : Nat × Bool :=
  bif !(isMass x0) then (0, false) else bif !([x1, x2, x3].all (isFin .f32)) then (0, false) else bif !(fgt .f32 (fsub .f32 x2 x1) 0) then (0, true) else
  bif fgt .f32 x3 x1 then bif !(flt .f32 (fdiv .f32 (fsub .f32 x3 x1) (fsub .f32 x2 x1)) 1065353216) then (0, true) else fin2 (fmul .f32 (fmul .f32 (fmul .f32 x0 (fsub .f32 x2 x1)) (froot (fsub .f32 x2 x1))) (froot (fsub .f32 1065353216 (fmul .f32 (fdiv .f32 (fsub .f32 x3 x1) (fsub .f32 x2 x1)) (fdiv .f32 (fsub .f32 x3 x1) (fsub .f32 x2 x1))))))
  else fin2 (fmul .f32 (fmul .f32 x0 (fsub .f32 x2 x1)) (froot (fsub .f32 x2 x1)))
theorem weir_eq (x0 x1 x2 x3 : Nat) : iWeirOver x0 x1 x2 x3 = some (weirP x0 x1 x2 x3) := by
  unfold iWeirOver iWeirOver_t weirP
  simp only [P_areFinite [x1, x2, x3] (by simp), ifin2, Tr.sem, osome, oget, cond_true]
  cases isMass x0 <;> cases [x1, x2, x3].all (isFin .f32) <;> cases fgt .f32 (fsub .f32 x2 x1) 0 <;> cases fgt .f32 x3 x1 <;> cases flt .f32 (fdiv .f32 (fsub .f32 x3 x1) (fsub .f32 x2 x1)) 1065353216 <;> rfl
def gateP (x0 x1 x2 x3 : Nat) : Nat × Bool :=
  bif !([x0, x1].all isMass) then (0, false) else bif !([x2, x3].all (isFin .f32)) then (0, false) else bif !(fgt .f32 (fsub .f32 x2 (fmax .f32 x3 (fdiv .f32 x1 1073741824))) 0) then (0, true) else
  fin2 (fmul .f32 (fmul .f32 x0 x1) (froot (fmul .f32 1100805571 (fsub .f32 x2 (fmax .f32 x3 (fdiv .f32 x1 1073741824))))))
theorem gate_eq (x0 x1 x2 x3 : Nat) : iGateUnder x0 x1 x2 x3 = some (gateP x0 x1 x2 x3) := by
  unfold iGateUnder iGateUnder_t gateP
  simp only [P_areMasses [x0, x1] (by simp), P_areFinite [x2, x3] (by simp), ifin2, Tr.sem, osome, oget, cond_true]
  cases [x0, x1].all isMass <;> cases [x2, x3].all (isFin .f32) <;> cases fgt .f32 (fsub .f32 x2 (fmax .f32 x3 (fdiv .f32 x1 1073741824))) 0 <;> rfl
def culvP (x0 x1 x2 x3 x4 : Nat) : Nat × Bool :=
  bif !(weirP x0 x1 x3 x4).2 then (0, false) else bif !(gateP x0 x2 (fsub .f32 x3 x1) (fsub .f32 x4 x1)).2 then (0, false) else bif !(isLen x2) then (0, false) else
  bif flt .f32 (gateP x0 x2 (fsub .f32 x3 x1) (fsub .f32 x4 x1)).1 (weirP x0 x1 x3 x4).1 then ((gateP x0 x2 (fsub .f32 x3 x1) (fsub .f32 x4 x1)).1, true) else ((weirP x0 x1 x3 x4).1, true)
theorem culv_eq (x0 x1 x2 x3 x4 : Nat) : iCulvertFlow x0 x1 x2 x3 x4 = some (culvP x0 x1 x2 x3 x4) := by
  unfold iCulvertFlow iCulvertFlow_t culvP
  simp only [weir_eq, gate_eq, Tr.sem, osome, oget, cond_true]
  cases (weirP x0 x1 x3 x4).2 <;> cases (gateP x0 x2 (fsub .f32 x3 x1) (fsub .f32 x4 x1)).2 <;> cases isLen x2 <;> cases flt .f32 (gateP x0 x2 (fsub .f32 x3 x1) (fsub .f32 x4 x1)).1 (weirP x0 x1 x3 x4).1 <;> rfl
/-! ### Logarithms by fuel -/
def l2F : Nat → Nat → Nat → Option (Nat × Nat)
  | 0, _, _ => none
  | n + 1, y, e => bif fge .f64 y 4609434218613702656 then l2F n (fdiv .f64 y 4611686018427387904) (fadd .f64 e 4607182418800017408) else some (y, e)
theorem l2F_ok : ∀ (n y e : Nat) (r : Nat × Nat), l2F n y e = some r → inaturalLog_l2 y e = some r
  | 0, y, e, r, h => by cases h
  | n + 1, y, e, r, h => by
    simp only [l2F] at h
    cases c : fge .f64 y 4609434218613702656 with
    | true =>
      rw [c] at h
      exact (runL_in (s' := (fdiv .f64 y 4611686018427387904, fadd .f64 e 4607182418800017408)) (by simp only [inaturalLog_l2_t, Tr.sem, c, cond_true])).trans (l2F_ok n _ _ r h)
    | false =>
      rw [c] at h
      simp only [cond_false, Option.some.injEq] at h
      subst h
      exact runL_out (by simp only [inaturalLog_l2_t, Tr.sem, c, cond_false])
def l4F : Nat → Nat → Nat → Option (Nat × Nat)
  | 0, _, _ => none
  | n + 1, y, e => bif flt .f64 y 4604930618986332160 then l4F n (fmul .f64 y 4611686018427387904) (fsub .f64 e 4607182418800017408) else some (y, e)
theorem l4F_ok : ∀ (n y e : Nat) (r : Nat × Nat), l4F n y e = some r → inaturalLog_l4 y e = some r
  | 0, y, e, r, h => by cases h
  | n + 1, y, e, r, h => by
    simp only [l4F] at h
    cases c : flt .f64 y 4604930618986332160 with
    | true =>
      rw [c] at h
      exact (runL_in (s' := (fmul .f64 y 4611686018427387904, fsub .f64 e 4607182418800017408)) (by simp only [inaturalLog_l4_t, Tr.sem, c, cond_true])).trans (l4F_ok n _ _ r h)
    | false =>
      rw [c] at h
      simp only [cond_false, Option.some.injEq] at h
      subst h
      exact runL_out (by simp only [inaturalLog_l4_t, Tr.sem, c, cond_false])
def lgF (m : Nat) : Option Nat := (l2F 12 (fup m) 0).bind fun p => (l4F 12 p.1 p.2).bind fun q => some (logW q.1 q.2)
theorem lgF_ok {m L : Nat} (h : lgF m = some L) : inaturalLog (fup m) = some L := by
  unfold lgF at h
  cases h2 : l2F 12 (fup m) 0 with
  | none => rw [h2] at h; cases h
  | some p =>
    rw [h2] at h
    simp only [Option.bind_some] at h
    cases h4 : l4F 12 p.1 p.2 with
    | none => rw [h4] at h; cases h
    | some q =>
      rw [h4] at h
      simp only [Option.bind_some, Option.some.injEq] at h
      subst h
      have r1 := l2F_ok _ _ _ _ h2
      have r2 := l4F_ok _ _ _ _ h4
      have h9 := l9_run q.2 (sW q.1) (fmul .f64 (sW q.1) (sW q.1))
      unfold sW at h9
      unfold inaturalLog inaturalLog_t
      simp only [r1, r2, h9, osome, oget, Tr.sem, cond_true]
      rfl
/-- A word's logarithm, when all is in order. -/
def lnF (m : Nat) : Option Nat := (lgF m).bind fun L => bif feq .f32 m m && !(flt .f32 m 0) && !(feq .f32 m 0) && isFin .f32 m && !(fover L) then some (fdown L) else none
theorem lnF_ok {m w : Nat} (h : lnF m = some w) : iLogNumber m = some w := by
  unfold lnF at h
  cases hL : lgF m with
  | none => rw [hL] at h; cases h
  | some L =>
    rw [hL] at h
    simp only [Option.bind_some] at h
    cases hc : feq .f32 m m && !(flt .f32 m 0) && !(feq .f32 m 0) && isFin .f32 m && !(fover L) with
    | false => rw [hc] at h; cases h
    | true =>
      rw [hc] at h
      simp only [cond_true, Option.some.injEq] at h
      subst h
      simp only [Bool.and_eq_true, Bool.not_eq_true'] at hc
      obtain ⟨⟨⟨⟨t0, t1⟩, t2⟩, t3⟩, t4⟩ := hc
      have hl2 : ilogarithm m = some L := by
        unfold ilogarithm ilogarithm_t
        simp only [lgF_ok hL, Tr.sem, osome, oget, cond_true]
      unfold iLogNumber iLogNumber_t
      simp only [t0, t1, t2, t3, t4, hl2, Tr.sem, osome, oget, Bool.not_true, Bool.not_false, cond_true, cond_false]
def exF (x : Nat) : Option Nat := bif !(fgt .f32 x 1128792064) && !(flt .f32 x 3276275712) && !(fover (wideE x)) then some (expW x) else none
theorem exF_ok {x w : Nat} (h : exF x = some w) : iExpNumber x = some w := by
  unfold exF at h
  cases hc : !(fgt .f32 x 1128792064) && !(flt .f32 x 3276275712) && !(fover (wideE x)) with
  | false => rw [hc] at h; cases h
  | true =>
    rw [hc] at h
    simp only [cond_true, Option.some.injEq] at h
    subst h
    simp only [Bool.and_eq_true, Bool.not_eq_true'] at hc
    obtain ⟨⟨t1, t2⟩, t3⟩ := hc
    unfold wideE at t3
    unfold iExpNumber iExpNumber_t expW wideE
    simp only [t1, t2, l7_run, l11_run, t3, Tr.sem, osome, oget, Bool.not_false, cond_true, cond_false]
def levelF (x0 x1 x2 : Nat) : Option (Nat × Bool) := (lnF (fdiv .f32 x2 x0)).bind fun l => (exF (fmul .f32 1059760811 l)).bind fun e => bif isLen x0 && isLen x2 && isFin .f32 x1 then some (fin2 (fadd .f32 x1 e)) else none
theorem level_eq {x0 x1 x2 : Nat} {r : Nat × Bool} (h : levelF x0 x1 x2 = some r) : iLevelFor x0 x1 x2 = some r := by
  unfold levelF at h
  cases h1 : lnF (fdiv .f32 x2 x0) with
  | none => rw [h1] at h; cases h
  | some l =>
    rw [h1] at h
    simp only [Option.bind_some] at h
    cases h2 : exF (fmul .f32 1059760811 l) with
    | none => rw [h2] at h; cases h
    | some e =>
      rw [h2] at h
      simp only [Option.bind_some] at h
      cases hc : isLen x0 && isLen x2 && isFin .f32 x1 with
      | false => rw [hc] at h; cases h
      | true =>
        rw [hc] at h
        simp only [cond_true, Option.some.injEq] at h
        subst h
        simp only [Bool.and_eq_true] at hc
        obtain ⟨⟨t1, t2⟩, t3⟩ := hc
        unfold iLevelFor iLevelFor_t
        simp only [P_areLengths [x0, x2] (by simp), List.all_cons, List.all_nil, t1, t2, t3, lnF_ok h1, exF_ok h2, ifin2, Tr.sem, osome, oget, Bool.and_self, Bool.not_true, cond_true, cond_false]
/-! ### Pipes -/
def pipW (x : Nat) : Nat := fmul .f32 (fmul .f32 1061752795 x) x
def pipeFP (x0 x1 x2 x3 : Nat) : Nat × Bool :=
  bif !(isMass x0) then (0, false) else bif !([x1, x2, x3].all isLen) then (0, false) else fin2 (fmul .f32 (pipW x1) (froot (fdiv .f32 (fmul .f32 (fmul .f32 1100805571 x0) x1) (fmul .f32 x3 x2))))
theorem pipeF_eq (x0 x1 x2 x3 : Nat) : iPipeFlow x0 x1 x2 x3 = some (pipeFP x0 x1 x2 x3) := by
  have p : ∀ x, ipipe x = pipW x := fun x => rfl
  unfold iPipeFlow iPipeFlow_t pipeFP
  simp only [P_areLengths [x1, x2, x3] (by simp), ifin2, p, Tr.sem, osome, oget, cond_true]
  cases isMass x0 <;> cases [x1, x2, x3].all isLen <;> rfl
def pipeLP (x0 x1 x2 x3 : Nat) : Option (Nat × Bool) :=
  bif !(isFin .f32 x0) then some (0, false) else bif !([x1, x2, x3].all isLen) then some (0, false) else bif !(fover (fabs .f64 (fup (fdiv .f32 x0 (pipW x1))))) then
  some (fin2 (fdiv .f32 (fmul .f32 (fmul .f32 (fmul .f32 x3 (fdiv .f32 x2 x1)) (fdiv .f32 x0 (pipW x1))) (fdown (fabs .f64 (fup (fdiv .f32 x0 (pipW x1)))))) 1100805571)) else none
theorem pipeL_eq {x0 x1 x2 x3 : Nat} {r : Nat × Bool} (h : pipeLP x0 x1 x2 x3 = some r) : iPipeLoss x0 x1 x2 x3 = some r := by
  have p : ∀ x, ipipe x = pipW x := fun x => rfl
  rw [← h]
  unfold pipeLP at h
  unfold iPipeLoss iPipeLoss_t pipeLP
  cases h1 : isFin .f32 x0 with
  | false => simp only [Tr.sem, Bool.not_false, cond_true]
  | true =>
  cases h2 : [x1, x2, x3].all isLen with
  | false => simp only [P_areLengths [x1, x2, x3] (by simp), h2, Tr.sem, osome, oget, Bool.not_true, Bool.not_false, cond_true, cond_false]
  | true =>
  cases h3 : fover (fabs .f64 (fup (fdiv .f32 x0 (pipW x1)))) with
  | true => rw [h1, h2, h3] at h; cases h
  | false =>
  have ia : iabsolute (fdiv .f32 x0 (pipW x1)) = some (fdown (fabs .f64 (fup (fdiv .f32 x0 (pipW x1))))) := by
    unfold iabsolute iabsolute_t
    simp only [h3, Tr.sem, Bool.not_false, cond_true]
  simp only [P_areLengths [x1, x2, x3] (by simp), h2, p, ia, ifin2, Tr.sem, osome, oget, Bool.not_true, Bool.not_false, cond_true, cond_false]
/-! ### The drawn ones -/
def szW (i : Int) : Nat := fdiv .f32 (FloatKind.nearest .f32 (1 + i)) 1073741824
def lvW (i : Int) : Nat := fdiv .f32 (FloatKind.nearest .f32 (1 + i)) 1082130432
def dpW0 (i : Int) : Nat := fdiv .f32 (FloatKind.nearest .f32 i) 1082130432
def backF (z l : Nat) : Nat × Bool := match levelF z 0 (weirP z 0 l 0).1 with
  | some r => r
  | none => (0, false)
noncomputable def weirB (z l : Nat) : Bool :=
  (weirP z 0 l 0).2 && (weirP z 0 l (fdiv .f32 l 1073741824)).2 && (weirP z 0 l l).2 && (levelF z 0 (weirP z 0 l 0).1).isSome && (backF z l).2 && (gateP z 1056964608 l 0).2 && (gateP z 1065353216 l 0).2 && (gateP z 1056964608 l l).2 && (culvP z 0 1056964608 l 0).2 &&
  !(fgt .f32 (weirP z 0 l (fdiv .f32 l 1073741824)).1 (weirP z 0 l 0).1) && feq .f32 (weirP z 0 l l).1 0 && feq .f32 (gateP z 1056964608 l l).1 0 &&
  !(fgt .f64 (wr8Gap (fup (backF z l).1) (fup l)) (fmul .f64 4562254508917369340 (fadd .f64 4607182418800017408 (fup l)))) && (!(fgt .f32 l 1065353216) || !(fgt .f32 (gateP z 1056964608 l 0).1 (gateP z 1065353216 l 0).1)) && feq .f32 (culvP z 0 1056964608 l 0).1 (fmin .f32 (weirP z 0 l 0).1 (gateP z 1056964608 l 0).1)
theorem tab_weir : ∀ i : Fin 8, ∀ j : Fin 16, weirB (szW i.val) (lvW j.val) = true := by decide +kernel
def lossF (d x : Nat) : Nat × Bool := match pipeLP (pipeFP d x 1109393408 1023410176).1 x 1109393408 1023410176 with
  | some r => r
  | none => (0, false)
def lossG (d x : Nat) : Nat × Bool := match pipeLP (fneg .f32 (pipeFP d x 1109393408 1023410176).1) x 1109393408 1023410176 with
  | some r => r
  | none => (0, false)
noncomputable def pipeB (d x : Nat) : Bool :=
  (pipeFP d x 1109393408 1023410176).2 && (pipeLP (pipeFP d x 1109393408 1023410176).1 x 1109393408 1023410176).isSome && (pipeLP (fneg .f32 (pipeFP d x 1109393408 1023410176).1) x 1109393408 1023410176).isSome && (lossF d x).2 && (lossG d x).2 &&
  flt .f64 (wr8Gap (fup (lossF d x).1) (fup d)) (fmul .f64 4562254508917369340 (fadd .f64 4607182418800017408 (fup d))) && feq .f32 (lossG d x).1 (fneg .f32 (lossF d x).1)
theorem tab_pipe : ∀ i : Fin 8, ∀ j : Fin 17, pipeB (dpW0 j.val) (lvW i.val) = true := by decide +kernel
end Go.Proofs.Ytpglfnkkmafhbaa
