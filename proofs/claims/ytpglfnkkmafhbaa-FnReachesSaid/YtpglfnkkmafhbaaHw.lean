/- Reaches: lists of numbers down chains of reaches. -/
import Derived.Test.YtpglfnkkmafhbaaHv
set_option linter.unusedVariables false
set_option linter.unusedSimpArgs false
set_option linter.constructorNameAsVariable false
namespace Go.Proofs.Ytpglfnkkmafhbaa
open Go.RowKit
set_option maxRecDepth 100000
theorem P_areFinite (xs : List Nat) (hl : xs.length ≤ 9223372036854775807) : iareFinite xs = some (xs.all (isFin .f32)) := by
  have h0 := run_idx (f := fun s => (lIndexFunc_iareFinite_1_l2_t xs xs.length s).sem) xs (fun x => !(isFin .f32 x)) hl (fun k hk x hx => by
    simp only [lIndexFunc_iareFinite_1_l2_t, Tr.sem, ltRange hk, inRange hk, Int.toNat_natCast, getD_at hx, cond_true, iareFinite_1, iareFinite_1_t, Tr.val]
    cases isFin .f32 x <;> rfl) (by simp only [lIndexFunc_iareFinite_1_l2_t, Tr.sem, not_lt_self, cond_false])
  have h1 : lIndexFunc_iareFinite_1 xs = some (idxI (fstIdx (fun x => !(isFin .f32 x)) 0 xs)) := idx_tree h0
  have h2 : lContainsFunc_iareFinite_1 xs = some (xs.any fun x => !(isFin .f32 x)) := has_tree h1
  have h3 : iareFinite xs = _ := not_tree h2
  rw [h3, not_any]
def win (lo hi n : Int) : Bool := decide (lo ≤ n) && decide (n ≤ hi)
theorem R_within (n lo hi : Int) : iwithin n lo hi = win lo hi n := by
  unfold iwithin iwithin_t win
  cases h : decide (lo ≤ n) <;> simp [Tr.val, h]
def insB (xs : List Nat) : Bool := win 1 128 xs.length && xs.all (isFin .f32)
theorem R_iIns (xs : List Nat) : iareIns xs = some (insB xs) := by
  unfold iareIns iareIns_t insB
  simp only [R_within, Tr.sem]
  cases h : win 1 128 (xs.length : Int) with
  | false => rfl
  | true =>
    have hl : xs.length ≤ 128 := by simp only [win, Bool.and_eq_true, decide_eq_true_eq] at h; omega
    simp only [P_areFinite xs (by omega), osome, oget, cond_true, Bool.true_and]
theorem ins_head {ins : List Nat} (h : insB ins = true) : 1 ≤ ins.length ∧ ins.length ≤ 128 ∧ isFin .f32 (ins.getD (Int.toNat 0) 0) = true := by
  simp only [insB, win, Bool.and_eq_true, decide_eq_true_eq, List.all_eq_true] at h
  refine ⟨by omega, by omega, ?_⟩
  have hl : 0 < ins.length := by omega
  rw [show Int.toNat 0 = 0 from rfl, List.getD_eq_getElem?_getD, List.getElem?_eq_getElem hl]
  exact h.2 _ (List.getElem_mem hl)
noncomputable def rchB (x : Nat × Nat) : Bool := iValidReach x.1 x.2
noncomputable def listB (l : List (Nat × Nat)) : Bool := win 1 12 l.length && l.all rchB
theorem R_iList (l : List (Nat × Nat)) (hl : l.length ≤ 9223372036854775807) : iareReaches l = some (listB l) := by
  have h0 := run_idx (f := fun s => (lIndexFunc_iareReaches_1_l2_t l l.length s).sem) l (fun x => !(rchB x)) hl (fun k hk x hx => by
    simp only [lIndexFunc_iareReaches_1_l2_t, Tr.sem, ltRange hk, inRange hk, Int.toNat_natCast, getD_at hx, cond_true, iareReaches_1, iareReaches_1_t, Tr.val]
    show (bif !rchB x then _ else _) = _
    cases rchB x <;> rfl) (by simp only [lIndexFunc_iareReaches_1_l2_t, Tr.sem, not_lt_self, cond_false])
  have h1 : lIndexFunc_iareReaches_1 l = some (idxI (fstIdx (fun x => !(rchB x)) 0 l)) := idx_tree h0
  have h2 : lContainsFunc_iareReaches_1 l = some (l.any fun x => !(rchB x)) := has_tree h1
  unfold iareReaches iareReaches_t listB
  simp only [R_within, h2, Tr.sem, osome, oget, cond_true]
  cases win 1 12 (l.length : Int) with
  | false => rfl
  | true => rw [not_any]; rfl
/-- A reach that the law draws. -/
def drawn (x : Nat × Nat) : Prop := ∃ (i : Fin 12) (j : Fin 5), x = (rdW i.val, rlW j.val)
/-- What a reach answers. -/
noncomputable def roW (x : Nat × Nat) (t : Nat) (ins : List Nat) : List Nat := oL (shA x.1 x.2 t) (shB x.1 x.2 t) (shC x.1 x.2 t) ins ins.length
theorem roW_len (x : Nat × Nat) (t : Nat) (ins : List Nat) : (roW x t ins).length = ins.length := oL_len _ _ _ _ _
/-- What the table says of a drawn reach. -/
theorem drawn_ok {x : Nat × Nat} (hx : drawn x) (τ : Fin 8) : iValidReach x.1 x.2 = true ∧ isFin .f32 (shA x.1 x.2 (rdW τ.val)) = true ∧ isFin .f32 (shB x.1 x.2 (rdW τ.val)) = true ∧ isFin .f32 (shC x.1 x.2 (rdW τ.val)) = true ∧
    (∃ α β P h, Fa (rv .f32 (shA x.1 x.2 (rdW τ.val))) (rv .f32 (shB x.1 x.2 (rdW τ.val))) (rv .f32 (shC x.1 x.2 (rdW τ.val))) α β P h) ∧
    fgt .f64 (wb10Gap (fadd .f64 (fadd .f64 (fup (shA x.1 x.2 (rdW τ.val))) (fup (shB x.1 x.2 (rdW τ.val)))) (fup (shC x.1 x.2 (rdW τ.val)))) 4607182418800017408) 4562254508917369340 = false ∧
    iHeldInReach x.1 x.2 1073741824 1073741824 = some (fmul .f32 x.1 (fadd .f32 (fmul .f32 x.2 1073741824) (fmul .f32 (fsub .f32 1065353216 x.2) 1073741824)), true) ∧
    fgt .f64 (wb10Gap (fup (fmul .f32 x.1 (fadd .f32 (fmul .f32 x.2 1073741824) (fmul .f32 (fsub .f32 1065353216 x.2) 1073741824)))) (fmul .f64 4611686018427387904 (fup x.1))) 4562254508917369340 = false := by
  obtain ⟨i, j, rfl⟩ := hx
  have h1 := tab_share i j τ
  have h2 := tab_heldr i j
  simp only [shareB, Bool.and_eq_true, Bool.not_eq_true'] at h1 h2
  obtain ⟨⟨⟨⟨a1, a2⟩, a3⟩, a4⟩, a5⟩ := h1
  obtain ⟨⟨b1, b2⟩, b3⟩ := h2
  refine ⟨b1, a1, a2, a3, fa_of a4, a5, ?_, b3⟩
  have t2 : [1073741824, 1073741824].all (isFin .f32) = true := by decide +kernel
  unfold iHeldInReach iHeldInReach_t
  simp only [b1, P_areFinite [1073741824, 1073741824] (by simp), t2, Tr.sem, osome, oget, ifinite32, ifinite32_t, b2, Tr.val, Bool.not_true, cond_true, cond_false]
theorem shares_ok {x : Nat × Nat} (hx : drawn x) (τ : Fin 8) : iReachShares x.1 x.2 (rdW τ.val) = some (shA x.1 x.2 (rdW τ.val), shB x.1 x.2 (rdW τ.val), shC x.1 x.2 (rdW τ.val), true) := by
  obtain ⟨h1, h2, h3, h4, -⟩ := drawn_ok hx τ
  have ht := tab_tick τ
  unfold shA at h2
  unfold shB at h3
  unfold shC at h4
  unfold iReachShares iReachShares_t shA shB shC
  simp only [h1, ht, P_areFinite [_, _, _] (by simp), List.all_cons, List.all_nil, h2, h3, h4, Bool.and_true, Tr.sem, osome, oget, Bool.not_true, cond_true, cond_false]
theorem ins_of {M : Rat} {ins : List Nat} (hi : ∀ x ∈ ins, okW M x) (h1 : 1 ≤ ins.length) (h2 : ins.length ≤ 128) : insB ins = true := by
  simp only [insB, win, Bool.and_eq_true, decide_eq_true_eq, List.all_eq_true]
  exact ⟨⟨by omega, by omega⟩, fun x hx => (hi x hx).1⟩
theorem roW_ok {x : Nat × Nat} (hx : drawn x) (τ : Fin 8) {M : Rat} {ins : List Nat} (m1 : 1 ≤ M) (m2 : M ≤ 1000) (hi : ∀ x ∈ ins, okW M x) : ∀ y ∈ roW x (rdW τ.val) ins, okW (271 / 100 * M) y := by
  obtain ⟨h1, h2, h3, h4, ⟨α, β, P, h, F⟩, -⟩ := drawn_ok hx τ
  exact oL_all _ _ _ _ _ _ fun k hk => outs_okW h2 h3 h4 F m1 m2 hi k hk
theorem route_ok {x : Nat × Nat} (hx : drawn x) (τ : Fin 8) {M : Rat} {ins : List Nat} (m1 : 1 ≤ M) (m2 : M ≤ 1000) (hi : ∀ x ∈ ins, okW M x) (n1 : 1 ≤ ins.length) (n2 : ins.length ≤ 128) : iRouteReach x.1 x.2 ins (rdW τ.val) (ins.getD 0 0) = some (.inr (roW x (rdW τ.val) ins)) := by
  have hf : (roW x (rdW τ.val) ins).all (isFin .f32) = true := List.all_eq_true.2 fun y hy => (roW_ok hx τ m1 m2 hi y hy).1
  have h0 := (ok_at hi (show 0 < ins.length by omega)).1
  have hr := run_route (shA x.1 x.2 (rdW τ.val)) (shB x.1 x.2 (rdW τ.val)) (shC x.1 x.2 (rdW τ.val)) ins n1 n2
  have hfin := P_areFinite (roW x (rdW τ.val) ins) (by rw [roW_len]; omega)
  rw [hf] at hfin
  unfold roW at hfin ⊢
  unfold iRouteReach iRouteReach_t
  simp only [shares_ok hx τ, R_iIns, ins_of hi n1 n2, h0, hr, hfin, Tr.sem, osome, oget, Bool.not_true, cond_true, cond_false]
/-- A list down the first k reaches. -/
noncomputable def chK (l : List (Nat × Nat)) (t : Nat) (ins : List Nat) : Nat → List Nat
  | 0 => ins
  | k + 1 => roW (l.getD k (0, 0)) t (chK l t ins k)
theorem chK_len (l : List (Nat × Nat)) (t : Nat) (ins : List Nat) : ∀ k, (chK l t ins k).length = ins.length
  | 0 => rfl
  | k + 1 => by simp only [chK]; rw [roW_len]; exact chK_len l t ins k
noncomputable def mB (M : Rat) : Nat → Rat
  | 0 => M
  | k + 1 => 271 / 100 * mB M k
theorem mB_ok {M : Rat} (h1 : 1 ≤ M) (h2 : M ≤ 5) : ∀ k, k ≤ 4 → 1 ≤ mB M k ∧ mB M k ≤ 1000
  | 0, _ => by simp only [mB]; exact ⟨by grind, by grind⟩
  | 1, _ => by simp only [mB]; exact ⟨by grind, by grind⟩
  | 2, _ => by simp only [mB]; exact ⟨by grind, by grind⟩
  | 3, _ => by simp only [mB]; exact ⟨by grind, by grind⟩
  | 4, _ => by simp only [mB]; exact ⟨by grind, by grind⟩
  | k + 5, h => by omega
/-- A list of reaches that the law draws. -/
def drawnL (l : List (Nat × Nat)) : Prop := 1 ≤ l.length ∧ l.length ≤ 4 ∧ ∀ x ∈ l, drawn x
theorem drawn_at {l : List (Nat × Nat)} (hl : drawnL l) {k : Nat} (hk : k < l.length) : drawn (l.getD k (0, 0)) := by
  rw [List.getD_eq_getElem?_getD, List.getElem?_eq_getElem hk]; exact hl.2.2 _ (List.getElem_mem hk)
section
variable {l : List (Nat × Nat)} {ins : List Nat} {M : Rat}
theorem chK_ok (hl : drawnL l) (τ : Fin 8) (m1 : 1 ≤ M) (m2 : M ≤ 5) (hi : ∀ x ∈ ins, okW M x) : ∀ k, k ≤ l.length → ∀ y ∈ chK l (rdW τ.val) ins k, okW (mB M k) y
  | 0, _ => hi
  | k + 1, hk => by
    have h4 := hl.2.1
    have m := mB_ok m1 m2 k (by omega)
    simp only [chK, mB]
    exact roW_ok (drawn_at hl (show k < l.length by omega)) τ m.1 m.2 (chK_ok hl τ m1 m2 hi k (by omega))
theorem chK_step (hl : drawnL l) (τ : Fin 8) (m1 : 1 ≤ M) (m2 : M ≤ 5) (hi : ∀ x ∈ ins, okW M x) (n1 : 1 ≤ ins.length) (n2 : ins.length ≤ 128) {k : Nat} (hk : k < l.length) : iRouteReach (l.getD k (0, 0)).1 (l.getD k (0, 0)).2 (chK l (rdW τ.val) ins k) (rdW τ.val) ((chK l (rdW τ.val) ins k).getD 0 0) = some (.inr (chK l (rdW τ.val) ins (k + 1))) := by
  have h4 := hl.2.1
  have m := mB_ok m1 m2 k (by omega)
  exact route_ok (drawn_at hl hk) τ m.1 m.2 (chK_ok hl τ m1 m2 hi k (by omega)) (by rw [chK_len]; omega) (by rw [chK_len]; omega)
theorem chain_ok (hl : drawnL l) (τ : Fin 8) (m1 : 1 ≤ M) (m2 : M ≤ 5) (hi : ∀ x ∈ ins, okW M x) (n1 : 1 ≤ ins.length) (n2 : ins.length ≤ 128) : iRouteReaches l ins (rdW τ.val) = some (.inr (chK l (rdW τ.val) ins l.length)) := by
  have h4 := hl.2.1
  have hL : listB l = true := by
    simp only [listB, win, Bool.and_eq_true, decide_eq_true_eq, List.all_eq_true]
    refine ⟨⟨by have := hl.1; omega, by omega⟩, fun x hx => ?_⟩
    exact (drawn_ok (hl.2.2 x hx) τ).1
  have z0 : (decide ((0 : Int) ≤ 0) && decide ((0 : Int) < (ins.length : Int))) = true := by simp; omega
  have hr : iRouteReaches_l4 (.inl (ins, rdW τ.val, l, (l.length : Int), 0)) = some (.inr (.inr (chK l (rdW τ.val) ins l.length))) := by
    have st := fun {k : Nat} (hk : k < l.length) => chK_step hl τ m1 m2 hi n1 n2 hk
    have e0 := st (k := 0) hl.1
    unfold iRouteReaches_l4
    refine (runL_in (s' := .inr (rdW τ.val, l, (l.length : Int), ((1 : Nat) : Int), chK l (rdW τ.val) ins 1)) ?_).trans ?_
    · show (iRouteReaches_l4_t0 ins (rdW τ.val) l (l.length : Int) ((0 : Nat) : Int)).sem = _
      simp only [chK] at e0
      simp only [iRouteReaches_l4_t0, Tr.sem, ltRange (show 0 < l.length by have := hl.1; omega), zeroLe, Bool.and_self, cond_true, z0, Int.toNat_natCast, show Int.toNat 0 = 0 from rfl, e0, osome, oget, isL, unR, cond_false, up1 (show 0 ≤ 1048576 by omega), chK]
    · exact runL_steps (f := iRouteReaches_l4_s) (l.length - 1) 1 (fun k => .inr (rdW τ.val, l, (l.length : Int), (k : Int), chK l (rdW τ.val) ins k)) (fun j h0 hj => by
        have e := st (k := j) (by omega)
        have zj : (decide ((0 : Int) ≤ 0) && decide ((0 : Int) < ((chK l (rdW τ.val) ins j).length : Int))) = true := by rw [chK_len]; exact z0
        show (iRouteReaches_l4_t1 (rdW τ.val) l (l.length : Int) (j : Int) (chK l (rdW τ.val) ins j)).sem = _
        simp only [iRouteReaches_l4_t1, Tr.sem, ltRange (show j < l.length by omega), zeroLe, Bool.and_self, cond_true, zj, Int.toNat_natCast, show Int.toNat 0 = 0 from rfl, e, osome, oget, isL, unR, cond_false, up1 (show j ≤ 1048576 by omega)]) (by
        rw [show 1 + (l.length - 1) = l.length by have := hl.1; omega]
        show (iRouteReaches_l4_t1 (rdW τ.val) l (l.length : Int) (l.length : Int) (chK l (rdW τ.val) ins l.length)).sem = _
        simp only [iRouteReaches_l4_t1, Tr.sem, not_lt_self, cond_false])
  unfold iRouteReaches iRouteReaches_t
  simp only [R_iList l (by omega), hL, R_iIns, ins_of hi n1 n2, hr, Tr.sem, osome, oget, isL, unR, Bool.not_true, cond_true, cond_false]
end
/-- How far the sum may be off, reach by reach. -/
noncomputable def eB : Nat → Rat
  | 0 => 1 / 1000000
  | k + 1 => 27 / 10 * eB k + 69 / 8000000 * (mB 2 k + mB 2 k + mB (401 / 100) k)
theorem eB_tab : ∀ k : Fin 5, 0 ≤ eB k.val ∧ eB k.val ≤ 7 / 1000 := by decide +kernel
theorem chain_sum {l : List (Nat × Nat)} {p q r : List Nat} (hl : drawnL l) (τ : Fin 8) (hp : ∀ x ∈ p, okW 2 x) (hq : ∀ x ∈ q, okW 2 x) (hr : ∀ x ∈ r, okW (401 / 100) x) (lp : p.length = r.length) (lq : q.length = r.length)
    (he : ∀ k, k < r.length → -(1 / 1000000) ≤ rv .f32 (r.getD k 0) - rv .f32 (p.getD k 0) - rv .f32 (q.getD k 0) ∧ rv .f32 (r.getD k 0) - rv .f32 (p.getD k 0) - rv .f32 (q.getD k 0) ≤ 1 / 1000000) :
    ∀ n, n ≤ l.length → ∀ k, k < r.length → -(eB n) ≤ rv .f32 ((chK l (rdW τ.val) r n).getD k 0) - rv .f32 ((chK l (rdW τ.val) p n).getD k 0) - rv .f32 ((chK l (rdW τ.val) q n).getD k 0) ∧ rv .f32 ((chK l (rdW τ.val) r n).getD k 0) - rv .f32 ((chK l (rdW τ.val) p n).getD k 0) - rv .f32 ((chK l (rdW τ.val) q n).getD k 0) ≤ eB n
  | 0, _ => he
  | n + 1, hn => fun k hk => by
    have h4 := hl.2.1
    have d2 : (1 : Rat) ≤ 2 ∧ (2 : Rat) ≤ 5 ∧ (1 : Rat) ≤ 401 / 100 ∧ (401 / 100 : Rat) ≤ 5 := by decide +kernel
    obtain ⟨h1, h2, h3, h4', ⟨α, β, P, h, F⟩, -⟩ := drawn_ok (drawn_at hl (show n < l.length by omega)) τ
    have m := mB_ok d2.1 d2.2.1 n (by omega)
    have m' := mB_ok d2.2.2.1 d2.2.2.2 n (by omega)
    have ih := chain_sum hl τ hp hq hr lp lq he n (by omega)
    have s := sum_ok (p := chK l (rdW τ.val) p n) (q := chK l (rdW τ.val) q n) (ins := chK l (rdW τ.val) r n) h2 h3 h4' F m.1 m.2 m.1 m.2 m'.1 m'.2 (eB_tab ⟨n, by omega⟩).1 (chK_ok hl τ d2.1 d2.2.1 hp n (by omega)) (chK_ok hl τ d2.1 d2.2.1 hq n (by omega)) (chK_ok hl τ d2.2.2.1 d2.2.2.2 hr n (by omega)) (by rw [chK_len, chK_len, lp]) (by rw [chK_len, chK_len, lq]) (fun j hj => ih j (by rw [chK_len] at hj; exact hj)) k (by rw [chK_len]; exact hk)
    simp only [chK, roW, eB]
    rw [oL_get _ _ _ _ _ k (by rw [chK_len]; exact hk), oL_get _ _ _ _ _ k (by rw [chK_len, lp]; exact hk), oL_get _ _ _ _ _ k (by rw [chK_len, lq]; exact hk)]
    exact s
end Go.Proofs.Ytpglfnkkmafhbaa
