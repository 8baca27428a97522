/- Lakes that are drawn. -/
import Derived.Test.YtpglfnkkmafhbaaBt
set_option linter.unusedVariables false
set_option linter.unusedSectionVars false
set_option linter.unusedSimpArgs false
set_option linter.constructorNameAsVariable false
namespace Go.Proofs.Ytpglfnkkmafhbaa
open Go.RowKit
set_option maxRecDepth 100000
/-- A word of so many halves. -/
def isH (c n : Nat) : Prop := isFin .f32 c = true ∧ rv .f32 c = (n : Rat) / 2
/-- A lake of halves. -/
structure LakeH (xs ys : List Nat) (P Q : Nat → Nat) : Prop where
  len : ys.length = xs.length
  hx : ∀ i, i < xs.length → isH (xs.getD i 0) (P i)
  hy : ∀ i, i < xs.length → isH (ys.getD i 0) (Q i)
  px : ∀ i, i + 1 < xs.length → P i < P (i + 1)
  qy : ∀ i, i + 1 < xs.length → Q i ≤ Q (i + 1) ∧ Q (i + 1) ≤ Q i + 8
  pm : ∀ i, i < xs.length → P i ≤ 4 + 8 * i
  qm : ∀ i, i < xs.length → Q i ≤ 4 * i
theorem half8 : ∀ b : Fin 8, isFin .f32 (fdiv .f32 (FloatKind.nearest .f32 (IntKind.wrap .i64 (1 + (b.val : Int)))) 1073741824) = true ∧ rv .f32 (fdiv .f32 (FloatKind.nearest .f32 (IntKind.wrap .i64 (1 + (b.val : Int)))) 1073741824) = ((b.val + 1 : Nat) : Rat) / 2 := by decide +kernel
theorem half5 : ∀ b : Fin 5, isFin .f32 (fdiv .f32 (FloatKind.nearest .f32 (b.val : Int)) 1073741824) = true ∧ rv .f32 (fdiv .f32 (FloatKind.nearest .f32 (b.val : Int)) 1073741824) = ((b.val : Nat) : Rat) / 2 := by decide +kernel
theorem isH_8 {b : Int} (h0 : 0 ≤ b) (h8 : b < 8) : isH (fdiv .f32 (FloatKind.nearest .f32 (IntKind.wrap .i64 (1 + b))) 1073741824) (b.toNat + 1) := by
  have h := half8 ⟨b.toNat, by omega⟩
  simp only at h
  rw [Int.toNat_of_nonneg h0] at h
  exact h
theorem isH_5 {b : Int} (h0 : 0 ≤ b) (h8 : b < 5) : isH (fdiv .f32 (FloatKind.nearest .f32 b) 1073741824) b.toNat := by
  have h := half5 ⟨b.toNat, by omega⟩
  simp only at h
  rw [Int.toNat_of_nonneg h0] at h
  exact h
theorem isH_add {a b m n : Nat} (ha : isH a m) (hb : isH b n) (h : m + n ≤ 100) : isH (fadd .f32 a b) (m + n) := half_add ha.1 hb.1 ha.2 hb.2 h
theorem fits4 {a : Nat} (h : a ≤ 1048576) (x : Nat) : decide ((a + List.length [x]) * 4 ≤ 140737488355328) = true := by
  simp only [List.length_cons, List.length_nil, decide_eq_true_eq]; omega
def extF (P : Nat → Nat) (n v : Nat) (i : Nat) : Nat := if i = n then v else P i
theorem getD_snoc (xs : List Nat) (x i : Nat) : (xs ++ [x]).getD i 0 = if i = xs.length then x else xs.getD i 0 := by
  by_cases h : i = xs.length
  · rw [if_pos h, List.getD_eq_getElem?_getD, List.getElem?_append_right (by omega), h, Nat.sub_self]; rfl
  · rw [if_neg h]
    by_cases h2 : i < xs.length
    · rw [List.getD_eq_getElem?_getD, List.getElem?_append_left h2, ← List.getD_eq_getElem?_getD]
    · rw [List.getD_eq_getElem?_getD, List.getD_eq_getElem?_getD, List.getElem?_eq_none (by simp; omega), List.getElem?_eq_none (by omega)]
theorem lake_snoc {xs ys : List Nat} {P Q : Nat → Nat} (h : LakeH xs ys P Q) {x y p q : Nat} (hx : isH x p) (hy : isH y q) (hp : ∀ i, i + 1 = xs.length → P i < p) (hq : ∀ i, i + 1 = xs.length → Q i ≤ q ∧ q ≤ Q i + 8) (pm : p ≤ 4 + 8 * xs.length) (qm : q ≤ 4 * xs.length) : LakeH (xs ++ [x]) (ys ++ [y]) (extF P xs.length p) (extF Q xs.length q) := by
  have hl : (xs ++ [x]).length = xs.length + 1 := by simp
  have hyl := h.len
  refine ⟨by simp [h.len], fun i hi => ?_, fun i hi => ?_, fun i hi => ?_, fun i hi => ?_, fun i hi => ?_, fun i hi => ?_⟩ <;> rw [hl] at hi <;> unfold extF
  · rw [getD_snoc]; split
    · exact hx
    · exact h.hx i (by omega)
  · rw [getD_snoc, hyl]; split
    · exact hy
    · exact h.hy i (by omega)
  · by_cases e : i + 1 = xs.length
    · rw [if_neg (by omega), if_pos e]; exact hp i e
    · rw [if_neg (by omega), if_neg e]; exact h.px i (by omega)
  · by_cases e : i + 1 = xs.length
    · rw [if_neg (by omega), if_pos e]; exact hq i e
    · rw [if_neg (by omega), if_neg e]; exact h.qy i (by omega)
  · split
    · rename_i e; rw [e]; exact pm
    · exact h.pm i (by omega)
  · split
    · rename_i e; rw [e]; exact qm
    · exact h.qm i (by omega)
theorem lake_one {x y p q : Nat} (hx : isH x p) (hy : isH y q) (pm : p ≤ 4) (qm : q ≤ 0) : LakeH [x] [y] (fun _ => p) (fun _ => q) := by
  refine ⟨rfl, fun i hi => ?_, fun i hi => ?_, fun i hi => ?_, fun i hi => ?_, fun i hi => by omega, fun i hi => by omega⟩
  · have : i = 0 := by simp at hi; exact hi
    subst this; exact hx
  · have : i = 0 := by simp at hi; exact hi
    subst this; exact hy
  · simp at hi
  · simp at hi
theorem lake_loop {c : List Int} (hc : bytesL c) : ∀ (m : Nat) (k : Nat) (s : Int) (xs ys : List Nat) (P Q : Nat → Nat) (x y p q : Nat), k + 4 * m ≤ 200 → xs.length + m ≤ 5 → LakeH xs ys P Q → isH x p → isH y q → (∀ i, i + 1 = xs.length → P i < p) → (∀ i, i + 1 = xs.length → Q i ≤ q ∧ q ≤ Q i + 8) → p ≤ 4 + 8 * xs.length → q ≤ 4 * xs.length →
    ∃ xs' ys' P' Q', runL sB10Lake_l6_s (.inr (.inr (.inr (x, y, (m : Int), c, (k : Int), s, xs, ys)))) = some (.inr (.inr (.inr (xs', ys')))) ∧ LakeH xs' ys' P' Q' ∧ xs'.length = xs.length + m
  | 0, k, s, xs, ys, P, Q, x, y, p, q, hk, hl, hL, hx, hy, hp, hq, pm, qm => ⟨xs, ys, P, Q, runL_out (by
      show (sB10Lake_l6_t3 x y ((0 : Nat) : Int) c (k : Int) s xs ys).sem = _
      simp only [sB10Lake_l6_t3, Tr.sem, decide_eq_false (show ¬ (((0 : Nat) : Int) > 0) by omega), cond_false]), hL, rfl⟩
  | m + 1, k, s, xs, ys, P, Q, x, y, p, q, hk, hl, hL, hx, hy, hp, hq, pm, qm => by
    obtain ⟨b, k1, s1, e1, b0, b1, hk1⟩ := D_pick hc 8 (by omega) (by omega) k (by omega) s
    obtain ⟨d, k2, s2, e2, d0, d1, hk2⟩ := D_pick hc 5 (by omega) (by omega) k1 (by omega) s1
    have hlen := hL.len
    have hw : IntKind.wrap .i64 (((m + 1 : Nat) : Int) - 1) = (m : Int) := by rw [wrap_id (by omega) (by omega)]; omega
    have hxl : (xs ++ [x]).length = xs.length + 1 := by simp
    obtain ⟨xs', ys', P', Q', r1, r2, r3⟩ := lake_loop hc m k2 s2 (xs ++ [x]) (ys ++ [y]) _ _ _ _ (p + (b.toNat + 1)) (q + d.toNat) (by omega) (by omega) (lake_snoc hL hx hy hp hq pm qm) (isH_add hx (isH_8 b0 b1) (by omega)) (isH_add hy (isH_5 d0 d1) (by omega)) (fun i hi => by
      unfold extF; rw [if_pos (by omega)]; omega) (fun i hi => by unfold extF; rw [if_pos (by omega)]; omega) (by omega) (by omega)
    refine ⟨xs', ys', P', Q', (runL_in ?_).trans r1, r2, by omega⟩
    show (sB10Lake_l6_t3 x y ((m + 1 : Nat) : Int) c (k : Int) s xs ys).sem = _
    simp only [sB10Lake_l6_t3, Tr.sem, decide_eq_true (show (((m + 1 : Nat) : Int) > 0) by omega), e1, e2, osome, oget, cond_true, fits4 (show xs.length ≤ 1048576 by omega), fits4 (show ys.length ≤ 1048576 by omega), hw]
/-- **A DRAWN LAKE.** -/
theorem lake_drawn {c : List Int} (hc : bytesL c) : ∃ xs ys P Q, sB10Lake c = some (.inr (.inr (.inr (xs, ys)))) ∧ LakeH xs ys P Q ∧ 2 ≤ xs.length ∧ xs.length ≤ 5 := by
  obtain ⟨v, k1, s1, e1, v0, v1, hk1⟩ := D_pick hc 5 (by omega) (by omega) 0 (by omega) 0
  obtain ⟨w, k2, s2, e2, w0, w1, hk2⟩ := D_pick hc 4 (by omega) (by omega) k1 (by omega) s1
  have e1' : sl00Src_pick 5 c 0 0 = _ := e1
  obtain ⟨m, hm⟩ : ∃ m : Nat, ((m + 1 : Nat) : Int) = 2 + w := ⟨(1 + w).toNat, by omega⟩
  have hw : IntKind.wrap .i64 (2 + w) = ((m + 1 : Nat) : Int) := by rw [wrap_id (by omega) (by omega)]; omega
  have hw2 : IntKind.wrap .i64 (((m + 1 : Nat) : Int) - 1) = (m : Int) := by rw [wrap_id (by omega) (by omega)]; omega
  obtain ⟨b, k3, s3, e3, b0, b1, hk3⟩ := D_pick hc 8 (by omega) (by omega) k2 (by omega) s2
  obtain ⟨d, k4, s4, e4, d0, d1, hk4⟩ := D_pick hc 5 (by omega) (by omega) k3 (by omega) s3
  have z : isH 0 0 := by
    have : isFin .f32 0 = true ∧ rv .f32 0 = ((0 : Nat) : Rat) / 2 := by decide +kernel
    exact this
  have hx := isH_5 v0 v1
  obtain ⟨xs, ys, P, Q, r1, r2, r3⟩ := lake_loop hc m k4 s4 [fdiv .f32 (FloatKind.nearest .f32 v) 1073741824] [0] _ _ _ _ (v.toNat + (b.toNat + 1)) (0 + d.toNat) (by omega) (by simp; omega) (lake_one hx z (by omega) (by omega)) (isH_add hx (isH_8 b0 b1) (by omega)) (isH_add z (isH_5 d0 d1) (by omega)) (fun i hi => by omega) (fun i hi => by omega) (by simp; omega) (by simp; omega)
  refine ⟨xs, ys, P, Q, ?_, r2, by simp at r3; omega, by simp at r3; omega⟩
  have key : sB10Lake_l6 (.inl (fdiv .f32 (FloatKind.nearest .f32 v) 1073741824, 0, ((m + 1 : Nat) : Int), c, (k2 : Int), s2)) = some (.inr (.inr (.inr (xs, ys)))) := by
    unfold sB10Lake_l6
    refine (runL_in ?_).trans r1
    show (sB10Lake_l6_t0 (fdiv .f32 (FloatKind.nearest .f32 v) 1073741824) 0 ((m + 1 : Nat) : Int) c (k2 : Int) s2).sem = _
    simp only [sB10Lake_l6_t0, Tr.sem, decide_eq_true (show (((m + 1 : Nat) : Int) > 0) by omega), show List.isEmpty [fdiv .f32 (FloatKind.nearest .f32 v) 1073741824] = false from rfl, show List.isEmpty [(0 : Nat)] = false from rfl, e3, e4, osome, oget, cond_true, cond_false, hw2]
    rfl
  unfold sB10Lake sB10Lake_t
  simp only [sB10Lake_o1, sB10Lake_o2, sB10Lake_o3, D_from, e1', e2, hw, key, Tr.sem, osome, oget, isL, unR, unL, cond_true, cond_false]
end Go.Proofs.Ytpglfnkkmafhbaa
