/- Depths on the other side, of jumps, and what jumps lose: the program's are the reference's. -/
import Derived.Test.YtlhfpjpgglfcfaaPc
import Derived.Test.YtlhfpjpgglfcfaaGa2d
set_option linter.unusedVariables false
set_option linter.unusedSimpArgs false
set_option linter.constructorNameAsVariable false
namespace Go.Proofs.Ytlhfpjpgglfcfaa
open Go.RowKit
set_option maxRecDepth 100000
/-! ### Halving -/
def mid (t : Nat × Nat) : Nat := fmul .f32 1056964608 (fadd .f32 t.1 t.2)
def hStep (g : Nat → Bool × Bool) (t : Nat × Nat) : (Nat × Nat) ⊕ (Unit ⊕ (Nat × Nat)) := bif (g (mid t)).2 then (bif (g (mid t)).1 then .inl (t.1, mid t) else .inl (mid t, t.2)) else .inr (.inl ())
def hRun (g : Nat → Bool × Bool) (t : Nat × Nat) : Unit ⊕ (Nat × Nat) := foldE (fun _ t (_ : Nat) => hStep g t) Sum.inr 0 t (List.range 40)
theorem foldE_map {α τ ρ ρ' : Type} (o : ρ → ρ') {step : Nat → τ → α → τ ⊕ ρ} {step' : Nat → τ → α → τ ⊕ ρ'} {fin : τ → ρ} {fin' : τ → ρ'} (h : ∀ k t x, step' k t x = match step k t x with | .inl t' => .inl t' | .inr r => .inr (o r)) (hf : ∀ t, fin' t = o (fin t)) :
    ∀ (xs : List α) (k : Nat) (t : τ), foldE step' fin' k t xs = o (foldE step fin k t xs)
  | [], k, t => hf t
  | x :: xs, k, t => by
    simp only [foldE, h]
    cases step k t x with
    | inl t' => exact foldE_map o h hf xs (k + 1) t'
    | inr r => rfl
theorem halved {ρ : Type} {f : Nat × Nat × Int → Option ((Nat × Nat × Int) ⊕ ρ)} (g : Nat → Bool × Bool) (o : Unit ⊕ (Nat × Nat) → ρ)
    (hf : ∀ (lo hi : Nat) (k : Int), decide (k < 40) = true → f (lo, hi, k) = some (bif (g (mid (lo, hi))).2 then (bif (g (mid (lo, hi))).1 then .inl (lo, mid (lo, hi), IntKind.wrap .i64 (k + 1)) else .inl (mid (lo, hi), hi, IntKind.wrap .i64 (k + 1))) else .inr (o (.inl ()))))
    (he : ∀ (lo hi : Nat), f (lo, hi, 40) = some (.inr (o (.inr (lo, hi))))) (lo hi : Nat) : runL f (lo, hi, 0) = some (o (hRun g (lo, hi))) := by
  have h := runL_for (f := f) (List.range 40) (fun k (t : Nat × Nat) => (t.1, t.2, (k : Int))) (fun _ t _ => match hStep g t with | .inl t' => .inl t' | .inr r => .inr (o r)) (fun t => o (.inr t)) (fun _ _ => True) (lo, hi) trivial (fun k t x _ hk _ => by
    have hk : k < 40 := by simpa using hk
    rw [hf _ _ _ (by simp; omega), wrap_id (by omega) (by omega)]
    simp only [hStep]
    cases (g (mid (t.1, t.2))).2 <;> cases (g (mid (t.1, t.2))).1 <;> rfl) (fun _ _ _ _ _ _ _ _ => trivial) (fun t _ => he t.1 t.2)
  rw [foldE_map o (step := fun _ t _ => hStep g t) (fin := Sum.inr) (fun _ t _ => by cases hStep g t <;> rfl) (fun _ => rfl)] at h
  exact h
/-! ### Sections -/
def vS (a b c d : Nat) : Bool := isMass a && isMass b && (fgt .f32 a 0 || fgt .f32 b 0) && isLen c && isLen d
theorem P_is (a b c d : Nat) : sl04Is a b c d = vS a b c d := by
  unfold sl04Is sl04Is_t vS
  cases isMass a <;> cases isMass b <;> cases fgt .f32 a 0 <;> cases fgt .f32 b 0 <;> cases isLen c <;> rfl
theorem P_valid (a b c d : Nat) : iValidSection a b c d = some (vS a b c d) := by
  unfold iValidSection iValidSection_t vS
  simp only [P_areMasses [a, b] (by simp), P_areLengths [c, d] (by simp), Tr.sem, osome, oget, cond_true, List.all_cons, List.all_nil, Bool.and_true]
  cases isMass a <;> cases isMass b <;> cases fgt .f32 a 0 <;> cases fgt .f32 b 0 <;> rfl
theorem P_flow (a b c d : Nat) (xs : List Nat) (hl : xs.length ≤ 9223372036854775807) : iSection_isFlow a b c d xs = some (vS a b c d && xs.all isLen) := by
  unfold iSection_isFlow iSection_isFlow_t
  simp only [P_valid, P_areLengths xs hl, Tr.sem, osome, oget, cond_true]
  cases vS a b c d <;> rfl
theorem P_can (a b c d x : Nat) : sl04Can a b c d x = (vS a b c d && isLen x) := by
  unfold sl04Can sl04Can_t
  rw [P_is]
  cases vS a b c d <;> rfl
theorem P_both (a b c d x y : Nat) : sl04Both a b c d x y = (vS a b c d && isLen x && isLen y) := by
  unfold sl04Both sl04Both_t
  rw [P_can]
  cases vS a b c d <;> cases isLen x <;> rfl
theorem P_area (a b c d x : Nat) : iAreaAt a b c d x = some (sAreaAt a b c d x) := by
  unfold iAreaAt iAreaAt_t sAreaAt sAreaAt_t
  simp only [P_flow a b c d [x] (by simp), P_can, Tr.sem, Tr.val, osome, oget, cond_true, List.all_cons, List.all_nil, Bool.and_true, num_same]
  cases vS a b c d <;> cases isLen x <;> rfl
theorem P_top (a b c d x : Nat) : iTopAt a b c d x = some (sTopAt a b c d x) := by
  unfold iTopAt iTopAt_t sTopAt sTopAt_t
  simp only [P_flow a b c d [x] (by simp), P_can, Tr.sem, Tr.val, osome, oget, cond_true, List.all_cons, List.all_nil, Bool.and_true, num_same]
  cases vS a b c d <;> cases isLen x <;> rfl
theorem num_1 (x : Nat) : (sl02Number x).2 = isFin .f32 x := by
  unfold sl02Number sl02Number_t; cases h : isFin .f32 x <;> simp [Tr.val, h]
theorem num_2 {x : Nat} (h : isFin .f32 x = true) : (sl02Number x).1 = x := by
  unfold sl02Number sl02Number_t; simp [Tr.val, h]
/-! ### Critical depths -/
noncomputable def critG (a b c d y x : Nat) : Bool × Bool := (fgt .f32 (fmul .f32 1092416963 (fmul .f32 (fmul .f32 (sAreaAt a b c d x).1 (sAreaAt a b c d x).1) (sAreaAt a b c d x).1)) (fmul .f32 (fmul .f32 y y) (sTopAt a b c d x).1), (sAreaAt a b c d x).2 && (sTopAt a b c d x).2)
theorem P_crit1 (a b c d y x : Nat) : iCriticalDepth_1 x a b c d y = some (critG a b c d y x) := by
  unfold iCriticalDepth_1 iCriticalDepth_1_t critG
  simp only [P_area, P_top, Tr.sem, osome, oget, cond_true]
  cases (sAreaAt a b c d x).2 <;> rfl
def pairO (q : Unit ⊕ (Nat × Nat)) : (Nat × Nat) ⊕ (Nat × Nat) := match q with
  | .inl _ => .inl (0, 0)
  | .inr t => .inr t
def highO (q : Unit ⊕ (Nat × Nat)) : Nat ⊕ Nat := match q with
  | .inl _ => .inl 0
  | .inr t => .inr t.2
theorem P_halveC (lo hi a b c d y : Nat) : ihalve_iCriticalDepth_1_l2 lo hi a b c d y 0 = some (pairO (hRun (critG a b c d y) (lo, hi))) :=
  halved (critG a b c d y) pairO (fun lo hi k hk => by
    simp only [ihalve_iCriticalDepth_1_l2_t, hk, P_crit1, Tr.sem, osome, oget, cond_true, mid]
    cases (critG a b c d y (fmul .f32 1056964608 (fadd .f32 lo hi))).2 <;> cases (critG a b c d y (fmul .f32 1056964608 (fadd .f32 lo hi))).1 <;> rfl) (fun lo hi => rfl) lo hi
theorem P_specC (lo hi a b c d y : Nat) : sl04Critical_l4 a b c d y lo hi 0 = some (highO (hRun (critG a b c d y) (lo, hi))) :=
  halved (critG a b c d y) highO (fun lo hi k hk => by
    simp only [sl04Critical_l4_t, hk, Tr.sem, osome, oget, cond_true, mid, critG]
    cases (sAreaAt a b c d (fmul .f32 1056964608 (fadd .f32 lo hi))).2 <;> cases (sTopAt a b c d (fmul .f32 1056964608 (fadd .f32 lo hi))).2 <;> simp only [Bool.not_true, Bool.not_false, cond_true, cond_false, Bool.and_self, Bool.and_false, Bool.false_and] <;> first | rfl | (split <;> rfl) | skip
    cases fgt .f32 (fmul .f32 1092416963 (fmul .f32 (fmul .f32 (sAreaAt a b c d (fmul .f32 1056964608 (fadd .f32 lo hi))).1 (sAreaAt a b c d (fmul .f32 1056964608 (fadd .f32 lo hi))).1) (sAreaAt a b c d (fmul .f32 1056964608 (fadd .f32 lo hi))).1)) (fmul .f32 (fmul .f32 y y) (sTopAt a b c d (fmul .f32 1056964608 (fadd .f32 lo hi))).1) <;> rfl) (fun lo hi => rfl) lo hi
noncomputable def critV (a b c d y : Nat) : Nat × Bool := match hRun (critG a b c d y) (0, 1148846080) with
  | .inl _ => (0, false)
  | .inr t => (t.2, true)
theorem P_l04C (a b c d y : Nat) : sl04Critical a b c d y = some (critV a b c d y) := by
  unfold sl04Critical sl04Critical_t critV
  simp only [P_specC, Tr.sem, osome, oget, cond_true]
  cases hRun (critG a b c d y) (0, 1148846080) <;> rfl
noncomputable def critS (a b c d y : Nat) : Nat × Bool := bif vS a b c d && isLen y then critV a b c d y else (0, false)
theorem P_iC (a b c d y : Nat) : iCriticalDepth a b c d y = some (critS a b c d y) := by
  unfold iCriticalDepth iCriticalDepth_t critS
  simp only [P_flow a b c d [y] (by simp), List.all_cons, List.all_nil, Bool.and_true, ihalve_iCriticalDepth_1, ihalve_iCriticalDepth_1_t, P_halveC, Tr.sem, osome, oget, cond_true, critV]
  cases (vS a b c d && isLen y) <;> simp only [Bool.not_true, Bool.not_false, cond_true, cond_false]
  cases hRun (critG a b c d y) (0, 1148846080) <;> rfl
theorem P_sC (a b c d y : Nat) : sCriticalDepth a b c d y = some (critS a b c d y) := by
  unfold sCriticalDepth sCriticalDepth_t critS
  simp only [P_is, P_l04C, Tr.sem, osome, oget, cond_true]
  cases vS a b c d <;> cases isLen y <;> rfl
/-! ### Heads, pushes -/
theorem P_speed (a b c d x y : Nat) : iSpeedAt a b c d x y = some (bif vS a b c d && isLen x && isLen y then (bif (sl04Speed a b c d x y).2 then sl04Speed a b c d x y else (0, false)) else (0, false)) := by
  unfold iSpeedAt iSpeedAt_t sl04Speed sl04Speed_t
  simp only [P_area, Tr.sem, Tr.val, osome, oget, cond_true, num_same]
  unfold sAreaAt sAreaAt_t
  simp only [P_can, Tr.val]
  cases vS a b c d <;> cases isLen x <;> cases isLen y <;> simp only [Bool.not_true, Bool.not_false, cond_true, cond_false, Bool.and_self, Bool.and_false, Bool.false_and, Bool.and_true, num_1]
  · cases isFin .f32 (sl04Area a b c d x) <;> rfl
  · cases hA : isFin .f32 (sl04Area a b c d x)
    · simp only [Bool.not_true, Bool.not_false, cond_true, cond_false]
      cases isFin .f32 (fdiv .f32 y (sl04Area a b c d x)) <;> rfl
    · simp only [Bool.not_true, Bool.not_false, cond_true, cond_false, num_2 hA]
      cases hD : isFin .f32 (fdiv .f32 y (sl04Area a b c d x)) <;> simp [hD, sl02Number, sl02Number_t, Tr.val]
theorem P_head (a b c d x y : Nat) : iHeadAt a b c d x y = some (sl04Of a b c d x y false) := by
  unfold iHeadAt iHeadAt_t sl04Of sl04Of_t sl04Head sl04Head_t
  simp only [P_speed, P_both, Tr.sem, Tr.val, osome, oget, cond_true, num_same]
  cases (vS a b c d && isLen x && isLen y) <;> simp only [Bool.not_true, Bool.not_false, cond_true, cond_false]
  cases h : (sl04Speed a b c d x y).2 <;> simp [h]
theorem P_push (a b c d x y : Nat) : iPushAt a b c d x y = some (sl04Of a b c d x y true) := by
  unfold iPushAt iPushAt_t sl04Of sl04Of_t sl04Push sl04Push_t
  simp only [P_speed, P_both, Tr.sem, Tr.val, osome, oget, cond_true, num_same]
  cases (vS a b c d && isLen x && isLen y) <;> simp only [Bool.not_true, Bool.not_false, cond_true, cond_false]
  cases h : (sl04Speed a b c d x y).2 <;> simp [h]
/-! ### The other side -/
noncomputable def otherG (sh : Bool) (a b c d y h : Nat) (push : Bool) (x : Nat) : Bool × Bool := (bif sh then fgt .f32 (sl04Of a b c d x y push).1 h else flt .f32 (sl04Of a b c d x y push).1 h, (sl04Of a b c d x y push).2)
def bothO (sh : Bool) (q : Unit ⊕ (Nat × Nat)) : Nat ⊕ (Bool × Nat × Nat) := match q with
  | .inl _ => .inl 0
  | .inr t => .inr (sh, t.1, t.2)
theorem P_specO (sh : Bool) (lo hi a b c d y h : Nat) (push : Bool) : sl04Other_l12 a b c d y push h sh lo hi 0 = some (bothO sh (hRun (otherG sh a b c d y h push) (lo, hi))) :=
  halved (otherG sh a b c d y h push) (bothO sh) (fun lo hi k hk => by
    simp only [sl04Other_l12_t, hk, Tr.sem, osome, oget, cond_true, mid, otherG]
    generalize sl04Of a b c d (fmul .f32 1056964608 (fadd .f32 lo hi)) y push = q
    cases q.2 <;> cases sh <;> simp only [Bool.not_true, Bool.not_false, cond_true, cond_false] <;> first | rfl | skip
    · cases flt .f32 q.1 h <;> rfl
    · cases fgt .f32 q.1 h <;> rfl) (fun lo hi => rfl) lo hi
theorem P_h1 (lo hi a b c d y h : Nat) : ihalve_iother_1_iHeadAt_l2 lo hi a b c d y h 0 = some (pairO (hRun (otherG true a b c d y h false) (lo, hi))) :=
  halved (otherG true a b c d y h false) pairO (fun lo hi k hk => by
    simp only [ihalve_iother_1_iHeadAt_l2_t, hk, iother_1_iHeadAt, iother_1_iHeadAt_t, P_head, Tr.sem, osome, oget, cond_true, mid, otherG]
    generalize sl04Of a b c d (fmul .f32 1056964608 (fadd .f32 lo hi)) y false = q
    cases q.2 <;> cases fgt .f32 q.1 h <;> rfl) (fun lo hi => rfl) lo hi
theorem P_h2 (lo hi a b c d y h : Nat) : ihalve_iother_2_iHeadAt_l2 lo hi a b c d y h 0 = some (pairO (hRun (otherG false a b c d y h false) (lo, hi))) :=
  halved (otherG false a b c d y h false) pairO (fun lo hi k hk => by
    simp only [ihalve_iother_2_iHeadAt_l2_t, hk, iother_2_iHeadAt, iother_2_iHeadAt_t, P_head, Tr.sem, osome, oget, cond_true, mid, otherG]
    generalize sl04Of a b c d (fmul .f32 1056964608 (fadd .f32 lo hi)) y false = q
    cases q.2 <;> cases flt .f32 q.1 h <;> rfl) (fun lo hi => rfl) lo hi
theorem P_p1 (lo hi a b c d y h : Nat) : ihalve_iother_1_iPushAt_l2 lo hi a b c d y h 0 = some (pairO (hRun (otherG true a b c d y h true) (lo, hi))) :=
  halved (otherG true a b c d y h true) pairO (fun lo hi k hk => by
    simp only [ihalve_iother_1_iPushAt_l2_t, hk, iother_1_iPushAt, iother_1_iPushAt_t, P_push, Tr.sem, osome, oget, cond_true, mid, otherG]
    generalize sl04Of a b c d (fmul .f32 1056964608 (fadd .f32 lo hi)) y true = q
    cases q.2 <;> cases fgt .f32 q.1 h <;> rfl) (fun lo hi => rfl) lo hi
theorem P_p2 (lo hi a b c d y h : Nat) : ihalve_iother_2_iPushAt_l2 lo hi a b c d y h 0 = some (pairO (hRun (otherG false a b c d y h true) (lo, hi))) :=
  halved (otherG false a b c d y h true) pairO (fun lo hi k hk => by
    simp only [ihalve_iother_2_iPushAt_l2_t, hk, iother_2_iPushAt, iother_2_iPushAt_t, P_push, Tr.sem, osome, oget, cond_true, mid, otherG]
    generalize sl04Of a b c d (fmul .f32 1056964608 (fadd .f32 lo hi)) y true = q
    cases q.2 <;> cases flt .f32 q.1 h <;> rfl) (fun lo hi => rfl) lo hi
noncomputable def otherR (a b c d x y : Nat) (push : Bool) : Nat × Bool := bif vS a b c d && isLen x && isLen y then
    (bif (critV a b c d y).2 && (sl04Of a b c d x y push).2 then
      (bif flt .f32 x (critV a b c d y).1 then
        (match hRun (otherG true a b c d y (sl04Of a b c d x y push).1 push) ((critV a b c d y).1, 1148846080) with
          | .inl _ => (0, false)
          | .inr t => (t.1, true))
      else (match hRun (otherG false a b c d y (sl04Of a b c d x y push).1 push) (981668463, (critV a b c d y).1) with
          | .inl _ => (0, false)
          | .inr t => (t.2, true)))
    else (0, false))
  else (0, false)
theorem of_ok (a b c d x y : Nat) (push : Bool) (h : (sl04Of a b c d x y push).2 = true) : (vS a b c d && isLen x && isLen y) = true := by
  unfold sl04Of sl04Of_t at h
  rw [P_both] at h
  cases hv : (vS a b c d && isLen x && isLen y) with
  | true => rfl
  | false => rw [hv] at h; simp [Tr.val] at h
theorem P_sO (a b c d x y : Nat) (push : Bool) (hv : (vS a b c d && isLen x && isLen y) = true) : sl04Other a b c d x y push = some (otherR a b c d x y push) := by
  unfold sl04Other sl04Other_t otherR
  simp only [P_l04C, P_specO, Tr.sem, osome, oget, cond_true, hv]
  cases (critV a b c d y).2 <;> cases (sl04Of a b c d x y push).2 <;> simp only [Bool.not_true, Bool.not_false, cond_true, cond_false, Bool.and_self, Bool.and_false, Bool.false_and]
  cases flt .f32 x (critV a b c d y).1 <;> simp only [Bool.not_true, Bool.not_false, cond_true, cond_false]
  · cases hRun (otherG false a b c d y (sl04Of a b c d x y push).1 push) (981668463, (critV a b c d y).1) <;> rfl
  · cases hRun (otherG true a b c d y (sl04Of a b c d x y push).1 push) ((critV a b c d y).1, 1148846080) <;> rfl
theorem crit_of (a b c d x y : Nat) (hv : (vS a b c d && isLen x && isLen y) = true) : critS a b c d y = critV a b c d y := by
  unfold critS
  simp only [Bool.and_eq_true] at hv
  rw [hv.1.1, hv.2]; rfl
theorem P_iOH (a b c d x y : Nat) : iother_iHeadAt a b c d x y = some (otherR a b c d x y false) := by
  unfold iother_iHeadAt iother_iHeadAt_t
  simp only [P_iC, P_head, ihalve_iother_1_iHeadAt, ihalve_iother_1_iHeadAt_t, ihalve_iother_2_iHeadAt, ihalve_iother_2_iHeadAt_t, P_h1, P_h2, Tr.sem, osome, oget, cond_true]
  cases hv : (vS a b c d && isLen x && isLen y) with
  | false =>
    have h2 : (sl04Of a b c d x y false).2 = false := by
      cases h : (sl04Of a b c d x y false).2 with
      | false => rfl
      | true => rw [of_ok a b c d x y false h] at hv; cases hv
    unfold otherR
    rw [h2, hv]
    cases (critS a b c d y).2 <;> rfl
  | true =>
    unfold otherR
    rw [crit_of a b c d x y hv, hv]
    cases (critV a b c d y).2 <;> cases (sl04Of a b c d x y false).2 <;> simp only [Bool.not_true, Bool.not_false, cond_true, cond_false, Bool.and_self, Bool.and_false, Bool.false_and]
    cases flt .f32 x (critV a b c d y).1 <;> simp only [Bool.not_true, Bool.not_false, cond_true, cond_false]
    · cases hRun (otherG false a b c d y (sl04Of a b c d x y false).1 false) (981668463, (critV a b c d y).1) <;> rfl
    · cases hRun (otherG true a b c d y (sl04Of a b c d x y false).1 false) ((critV a b c d y).1, 1148846080) <;> rfl
theorem P_iOP (a b c d x y : Nat) : iother_iPushAt a b c d x y = some (otherR a b c d x y true) := by
  unfold iother_iPushAt iother_iPushAt_t
  simp only [P_iC, P_push, ihalve_iother_1_iPushAt, ihalve_iother_1_iPushAt_t, ihalve_iother_2_iPushAt, ihalve_iother_2_iPushAt_t, P_p1, P_p2, Tr.sem, osome, oget, cond_true]
  cases hv : (vS a b c d && isLen x && isLen y) with
  | false =>
    have h2 : (sl04Of a b c d x y true).2 = false := by
      cases h : (sl04Of a b c d x y true).2 with
      | false => rfl
      | true => rw [of_ok a b c d x y true h] at hv; cases hv
    unfold otherR
    rw [h2, hv]
    cases (critS a b c d y).2 <;> rfl
  | true =>
    unfold otherR
    rw [crit_of a b c d x y hv, hv]
    cases (critV a b c d y).2 <;> cases (sl04Of a b c d x y true).2 <;> simp only [Bool.not_true, Bool.not_false, cond_true, cond_false, Bool.and_self, Bool.and_false, Bool.false_and]
    cases flt .f32 x (critV a b c d y).1 <;> simp only [Bool.not_true, Bool.not_false, cond_true, cond_false]
    · cases hRun (otherG false a b c d y (sl04Of a b c d x y true).1 true) (981668463, (critV a b c d y).1) <;> rfl
    · cases hRun (otherG true a b c d y (sl04Of a b c d x y true).1 true) ((critV a b c d y).1, 1148846080) <;> rfl
theorem P_iOther (a b c d x y : Nat) : iOtherDepth a b c d x y = some (otherR a b c d x y false) := by
  unfold iOtherDepth iOtherDepth_t
  simp only [P_iOH, Tr.sem, osome, oget, cond_true]
theorem P_iJump (a b c d x y : Nat) : iJumpDepth a b c d x y = some (otherR a b c d x y true) := by
  unfold iJumpDepth iJumpDepth_t
  simp only [P_iOP, Tr.sem, osome, oget, cond_true]
theorem P_sOther (a b c d x y : Nat) : sOtherDepth a b c d x y = some (otherR a b c d x y false) := by
  unfold sOtherDepth sOtherDepth_t
  rw [P_both]
  cases hv : (vS a b c d && isLen x && isLen y) with
  | false => unfold otherR; rw [hv]; rfl
  | true => simp only [P_sO a b c d x y false hv, Tr.sem, osome, oget, cond_true, Bool.not_true, cond_false]
theorem P_sJump (a b c d x y : Nat) : sJumpDepth a b c d x y = some (otherR a b c d x y true) := by
  unfold sJumpDepth sJumpDepth_t
  rw [P_both]
  cases hv : (vS a b c d && isLen x && isLen y) with
  | false => unfold otherR; rw [hv]; rfl
  | true => simp only [P_sO a b c d x y true hv, Tr.sem, osome, oget, cond_true, Bool.not_true, cond_false]
theorem sec_to (a b c d : Nat) : wtoSection a b c d = (a, b, c, d) := rfl
theorem pureFnExactOtherDepth (a b c d x y : Nat) : wFnExactOtherDepth a b c d x y = some true := by
  unfold wFnExactOtherDepth wFnExactOtherDepth_t
  simp only [P_iOther, P_sOther, Tr.sem, osome, oget, cond_true, natEq_self, beq_self_eq_true, Bool.not_true, cond_false]
theorem pureFnExactJumpDepth (a b c d x y : Nat) : wFnExactJumpDepth a b c d x y = some true := by
  unfold wFnExactJumpDepth wFnExactJumpDepth_t
  simp only [P_iJump, P_sJump, Tr.sem, osome, oget, cond_true, natEq_self, beq_self_eq_true, Bool.not_true, cond_false]
theorem P_sHead (a b c d x y : Nat) : sHeadAt a b c d x y = sl04Of a b c d x y false := by
  unfold sHeadAt sHeadAt_t sl04Of sl04Of_t
  cases sl04Both a b c d x y <;> rfl
theorem P_loss (a b c d x y : Nat) : iJumpLoss a b c d x y = sJumpLoss a b c d x y := by
  unfold iJumpLoss iJumpLoss_t sJumpLoss sJumpLoss_t
  simp only [P_iC, P_sC, P_iJump, P_sJump, P_head, P_sHead, Tr.sem, osome, oget, cond_true, num_same]
  cases (critS a b c d y).2 <;> cases (otherR a b c d x y true).2 <;> rfl
theorem P_lossS (a b c d x y : Nat) : ∃ r, sJumpLoss a b c d x y = some r := by
  unfold sJumpLoss sJumpLoss_t
  simp only [P_sC, P_sJump, P_sHead, Tr.sem, osome, oget, cond_true]
  cases (critS a b c d y).2 <;> cases (otherR a b c d x y true).2 <;> cases flt .f32 x (critS a b c d y).1 <;> cases (sl04Of a b c d x y false).2 <;> cases (sl04Of a b c d (otherR a b c d x y true).1 y false).2 <;> exact ⟨_, rfl⟩
theorem pureFnExactJumpLoss (a b c d x y : Nat) : wFnExactJumpLoss a b c d x y = some true := by
  unfold wFnExactJumpLoss wFnExactJumpLoss_t
  obtain ⟨r, hr⟩ := P_lossS (wtoSection a b c d).1 (wtoSection a b c d).2.1 (wtoSection a b c d).2.2.1 (wtoSection a b c d).2.2.2 x y
  simp only [P_loss, hr, Tr.sem, osome, oget, cond_true, natEq_self, beq_self_eq_true, Bool.not_true, cond_false]
end Go.Proofs.Ytlhfpjpgglfcfaa
