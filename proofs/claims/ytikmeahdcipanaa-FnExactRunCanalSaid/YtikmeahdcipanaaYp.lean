/- Runs of canals: the program's and the reference's are the same. -/
import Derived.Test.YtikmeahdcipanaaYo
set_option linter.unusedVariables false
set_option linter.unusedSimpArgs false
set_option linter.constructorNameAsVariable false
namespace Go.Proofs.Ytikmeahdcipanaa
open Go.RowKit
set_option maxRecDepth 100000
abbrev CanR := Nat × Nat × Nat × List Nat × List Nat × List Nat
def sO : Option CanR → (Nat × Nat × Nat) ⊕ (Nat × Nat × Nat × Nat × Nat × Nat × List Nat × List Nat × List Nat)
  | none => .inl (0, 0, 0)
  | some (s, d, g, h, f, o) => .inr (0, 0, 0, s, d, g, h, f, o)
def iO : Option CanR → (Nat × Nat × Nat) ⊕ (Nat × Nat × Nat × List Nat × List Nat × Nat × Nat × Nat × List Nat)
  | none => .inl (0, 0, 0)
  | some (s, d, g, h, f, o) => .inr (s, d, g, h, f, 0, 0, 0, o)
def rO : Option CanR → (Nat × Nat × Nat) ⊕ CanR
  | none => .inl (0, 0, 0)
  | some u => .inr u
theorem R_runs (seas : List Nat) (t : Nat) (hn : seas.length ≤ 128) (hs : seas.all (isFin .f32) = true) (ht : isLen t = true) : ∀ (j : Nat) (s d g : Nat) (h f out : List Nat), j ≤ seas.length → out.length = seas.length - j → canalB s d g h f = true →
    ∃ r : Option CanR, runL (fun q : Int × Nat × Nat × Nat × List Nat × List Nat × List Nat => (sRunCanal_l6_t seas t (seas.length : Nat) 0 0 0 q.1 q.2.1 q.2.2.1 q.2.2.2.1 q.2.2.2.2.1 q.2.2.2.2.2.1 q.2.2.2.2.2.2).sem) (((seas.length - j : Nat) : Int), s, d, g, h, f, out) = some (sO r) ∧
      runL (fun q : Int × Nat × Nat × Nat × List Nat × List Nat × List Nat => (iRunCanal_l6_t t seas (seas.length : Nat) 0 0 0 q.1 q.2.1 q.2.2.1 q.2.2.2.1 q.2.2.2.2.1 q.2.2.2.2.2.1 q.2.2.2.2.2.2).sem) (((seas.length - j : Nat) : Int), s, d, g, h, f, out) = some (iO r) ∧ ∀ u, r = some u → u.2.2.2.1.length ≤ 48 ∧ u.2.2.2.2.1.length ≤ 48 ∧ u.2.2.2.2.2.length ≤ 128
  | 0, s, d, g, h, f, out, hj, ho, hc => by
    obtain ⟨c1, c2, c3⟩ := canal_parts hc
    refine ⟨some (s, d, g, h, f, out), runL_out ?_, runL_out ?_, fun u e => by cases e; exact ⟨by simp only; omega, by simp only; omega, by simp only; omega⟩⟩
    · simp only [sRunCanal_l6_t, Tr.sem, Nat.sub_zero, not_lt_self, cond_false]; rfl
    · simp only [iRunCanal_l6_t, Tr.sem, Nat.sub_zero, not_lt_self, cond_false]; rfl
  | j + 1, s, d, g, h, f, out, hj, ho, hc => by
    obtain ⟨c1, c2, c3⟩ := canal_parts hc
    have hk : seas.length - (j + 1) < seas.length := by omega
    have hwr : IntKind.wrap .i64 (((seas.length - (j + 1) : Nat) : Int) + 1) = ((seas.length - j : Nat) : Int) := by rw [wrap_id (by omega) (by omega)]; omega
    have hse : isFin .f32 (seas.getD (seas.length - (j + 1)) 0) = true := by
      rw [List.getD_eq_getElem?_getD, List.getElem?_eq_getElem hk]
      exact List.all_eq_true.1 hs _ (List.getElem_mem hk)
    have r1 := C_tick s d g (seas.getD (seas.length - (j + 1)) 0) t h f c1 c2 c3
    have r2 := C_step s d g (seas.getD (seas.length - (j + 1)) 0) t h f hc hse ht
    cases hr : tickC s d g (seas.getD (seas.length - (j + 1)) 0) t h f with
    | inl u =>
      rw [hr] at r1 r2
      refine ⟨none, runL_out ?_, runL_out ?_, fun u e => by cases e⟩
      · simp only [sRunCanal_l6_t, Tr.sem, ltRange hk, zeroLe, Bool.and_self, cond_true, Int.toNat_natCast, r1, osome, oget, isL]; rfl
      · simp only [iRunCanal_l6_t, Tr.sem, ltRange hk, zeroLe, Bool.and_self, cond_true, Int.toNat_natCast, r2, osome, oget, isL]; rfl
    | inr u =>
      rw [hr] at r1 r2
      have hcu := tickC_ok hr
      obtain ⟨d1, d2, d3⟩ := canal_parts hcu
      obtain ⟨a, b, c, x, y⟩ := u
      simp only at hcu d1 d2 d3
      have hlast : IntKind.wrap .i64 ((x.length : Int) - 1) = ((x.length - 1 : Nat) : Int) := by rw [wrap_id (by omega) (by omega)]; omega
      have hrg : (decide (0 ≤ ((x.length - 1 : Nat) : Int)) && decide (((x.length - 1 : Nat) : Int) < (x.length : Int))) = true := inRange (by omega)
      have hf : ∀ q : Nat, decide ((out.length + List.length [q]) * 4 ≤ 140737488355328) = true := fun q => by simp only [List.length_cons, List.length_nil, decide_eq_true_eq]; omega
      obtain ⟨p, p1, p2, p3⟩ := R_runs seas t hn hs ht j a b c x y (out ++ [x.getD (x.length - 1) 0]) (by omega) (by simp only [List.length_append, List.length_cons, List.length_nil]; omega) hcu
      refine ⟨p, (runL_in (s' := (((seas.length - j : Nat) : Int), a, b, c, x, y, out ++ [x.getD (x.length - 1) 0])) ?_).trans p1, (runL_in (s' := (((seas.length - j : Nat) : Int), a, b, c, x, y, out ++ [x.getD (x.length - 1) 0])) ?_).trans p2, p3⟩
      · simp only [sRunCanal_l6_t, Tr.sem, inRange hk, ltRange hk, zeroLe, Bool.and_self, cond_true, Int.toNat_natCast, r1, osome, oget, isL, unR, cond_false, hlast, hwr]
        rw [ltRange (show x.length - 1 < x.length by omega), hf]; rfl
      · simp only [iRunCanal_l6_t, Tr.sem, inRange hk, ltRange hk, zeroLe, Bool.and_self, cond_true, Int.toNat_natCast, r2, osome, oget, isL, unR, cond_false, hlast, hwr]
        rw [ltRange (show x.length - 1 < x.length by omega), hf]; rfl
theorem R_runCanal (s d g : Nat) (h f seas : List Nat) (t : Nat) (hf : f.length ≤ 9223372036854775807) (hq : seas.length ≤ 1048576) : ∃ r : Option CanR, sRunCanal s d g h f seas t = some (rO r) ∧ iRunCanal s d g h f seas t = some (rO r) ∧ ∀ u, r = some u → u.2.2.2.1.length ≤ 48 ∧ u.2.2.2.2.1.length ≤ 48 ∧ u.2.2.2.2.2.length ≤ 128 := by
  have hF1 := R_finite seas (by omega)
  have hF2 := P_areFinite seas (by omega)
  have no : ∀ {x y : Option ((Nat × Nat × Nat) ⊕ CanR)}, x = some (.inl (0, 0, 0)) → y = some (.inl (0, 0, 0)) → ∃ r : Option CanR, x = some (rO r) ∧ y = some (rO r) ∧ ∀ u, r = some u → u.2.2.2.1.length ≤ 48 ∧ u.2.2.2.2.1.length ≤ 48 ∧ u.2.2.2.2.2.length ≤ 128 := fun h1 h2 => ⟨none, h1, h2, fun u e => by cases e⟩
  unfold sRunCanal sRunCanal_t iRunCanal iRunCanal_t
  cases hc : canalB s d g h f with
  | false => exact no (by simp only [R_sCanal s d g h f hf, hc, Tr.sem, osome, oget, cond_true, Bool.not_false]) (by simp only [R_iCanal s d g h f hf, hc, Tr.sem, osome, oget, cond_true, Bool.not_false])
  | true =>
  obtain ⟨c1, c2, c3⟩ := canal_parts hc
  cases hl : decide (((seas.length : Nat) : Int) > 128) with
  | true => exact no (by simp only [R_sCanal s d g h f hf, hc, hl, Tr.sem, osome, oget, cond_true, Bool.not_true, cond_false]) (by simp only [R_iCanal s d g h f hf, hc, hl, Tr.sem, osome, oget, cond_true, Bool.not_true, cond_false])
  | false =>
  have hn : seas.length ≤ 128 := by have := of_decide_eq_false hl; omega
  cases hs : seas.all (isFin .f32) with
  | false => exact no (by simp only [R_sCanal s d g h f hf, hc, hl, hF1, hs, Tr.sem, osome, oget, cond_true, Bool.not_true, Bool.not_false, cond_false]) (by simp only [R_iCanal s d g h f hf, hc, hl, hF2, hs, Tr.sem, osome, oget, cond_true, Bool.not_true, Bool.not_false, cond_false])
  | true =>
  cases ht : isLen t with
  | false => exact no (by simp only [R_sCanal s d g h f hf, hc, hl, hF1, hs, ht, Tr.sem, osome, oget, cond_true, Bool.not_true, Bool.not_false, cond_false]) (by simp only [R_iCanal s d g h f hf, hc, hl, hF2, hs, ht, Tr.sem, osome, oget, cond_true, Bool.not_true, Bool.not_false, cond_false])
  | true =>
  obtain ⟨r, r1, r2, r3⟩ := R_runs seas t hn hs ht seas.length s d g h f [] (Nat.le_refl _) (by simp) hc
  rw [Nat.sub_self] at r1 r2
  have e2 : decide ((List.length ([] : List Nat) + h.length) * 4 ≤ 140737488355328) = true := by simp only [List.length_nil, decide_eq_true_eq]; omega
  have e3 : decide ((List.length ([] : List Nat) + f.length) * 4 ≤ 140737488355328) = true := by simp only [List.length_nil, decide_eq_true_eq]; omega
  have h1 : sl05Own s d g h f = some (s, d, g, h, f) := by
    unfold sl05Own sl05Own_t
    simp only [e2, e3, Tr.sem, cond_true, List.nil_append]
  have h2 : iCanal_cloned s d g h f = some (s, d, g, h, f) := by
    unfold iCanal_cloned iCanal_cloned_t
    simp only [C_clone h c1 c2, C_clone f (by omega) (by omega), Tr.sem, osome, oget, cond_true]
  have k1 : sRunCanal_l6 seas t (seas.length : Nat) 0 0 0 0 s d g h f [] = some (sO r) := r1
  have k2 : iRunCanal_l6 t seas (seas.length : Nat) 0 s d g h f 0 0 0 [] = some (iO r) := r2
  refine ⟨r, ?_, ?_, r3⟩
  · simp only [R_sCanal s d g h f hf, hc, hl, hF1, hs, ht, h1, k1, Tr.sem, osome, oget, cond_true, Bool.not_true, cond_false]
    cases r with
    | none => rfl
    | some u => obtain ⟨a, b, c, x, y, o⟩ := u; rfl
  · simp only [R_iCanal s d g h f hf, hc, hl, hF2, hs, ht, h2, k2, Tr.sem, osome, oget, cond_true, Bool.not_true, cond_false]
    cases r with
    | none => rfl
    | some u => obtain ⟨a, b, c, x, y, o⟩ := u; rfl
theorem pureFnExactRunCanal (s d g : Nat) (h f seas : List Nat) (t : Nat) (ha : h.length ≤ 9223372036854775807) (hb : f.length ≤ 9223372036854775807) (hs : seas.length ≤ 9223372036854775807) : wFnExactRunCanal s d g h f seas t = some true := by
  unfold wFnExactRunCanal wFnExactRunCanal_t
  cases hy : decide (((seas.length : Nat) : Int) > 1048576) with
  | true => rfl
  | false =>
  have hi : seas.length ≤ 1048576 := by have := of_decide_eq_false hy; omega
  refine (brF rfl).trans ?_
  cases hz : decide (wszCanal s d g h f 1048576 < 0) with
  | true => rfl
  | false =>
    obtain ⟨h1, h2⟩ := R_szC s d g h f ha hb hz
    obtain ⟨r, s1, s2, q1⟩ := R_runCanal s d g h f seas t hb hi
    have hd0 : decide (1 + (h.length : Int) + f.length + seas.length < 0) = false := by simp only [decide_eq_false_iff_not]; omega
    have hm := R_markG (1 + (h.length : Int) + f.length) seas hi (by omega) (by omega)
    refine (brF rfl).trans ?_
    cases r with
    | none =>
      simp only [wFnExactRunCanal_o1, wFnExactRunCanal_o2, wFnExactRunCanal_o3, wFnExactRunCanal_o4, wFnExactRunCanal_o5, wFnExactRunCanal_o6, wFnExactRunCanal_o7, wFnExactRunCanal_o8, wFnExactRunCanal_o9, wFnExactRunCanal_o10, wFnExactRunCanal_o11, wFnExactRunCanal_o12, wFnExactRunCanal_o13, wFnExactRunCanal_o14, wFnExactRunCanal_o15, wFnExactRunCanal_o16, wFnExactRunCanal_o17, wFnExactRunCanal_o18, wFnExactRunCanal_o19, wFnExactRunCanal_o20, wFnExactRunCanal_o21, wFnExactRunCanal_o22, wFnExactRunCanal_o23, wFnExactRunCanal_o24, wFnExactRunCanal_o25, wFnExactRunCanal_o26, wFnExactRunCanal_o27, wFnExactRunCanal_o28, wFnExactRunCanal_o29, wFnExactRunCanal_o30, wFnExactRunCanal_o31, wFnExactRunCanal_o32, wFnExactRunCanal_o33, wFnExactRunCanal_o34, wFnExactRunCanal_o35, wFnExactRunCanal_o36, wFnExactRunCanal_o37, wFnExactRunCanal_o38, wFnExactRunCanal_o39, wFnExactRunCanal_o40, wFnExactRunCanal_o41, wFnExactRunCanal_o42, wFnExactRunCanal_o43, wFnExactRunCanal_o44, wFnExactRunCanal_o45, wFnExactRunCanal_o46, wFnExactRunCanal_o47, wFnExactRunCanal_o48, wFnExactRunCanal_o49, wFnExactRunCanal_o50, wFnExactRunCanal_o51, wFnExactRunCanal_o52, wFnExactRunCanal_o53, wFnExactRunCanal_o54, wFnExactRunCanal_o55, wFnExactRunCanal_o56, wFnExactRunCanal_o57, wFnExactRunCanal_o58, wFnExactRunCanal_o59, wFnExactRunCanal_o60, wFnExactRunCanal_o61, wFnExactRunCanal_o62, wFnExactRunCanal_o63, wFnExactRunCanal_o64, wFnExactRunCanal_o65, wFnExactRunCanal_o66, wFnExactRunCanal_o67, wFnExactRunCanal_o68, wFnExactRunCanal_o69, wFnExactRunCanal_o70, wFnExactRunCanal_o71, wFnExactRunCanal_o72, wFnExactRunCanal_o73, wFnExactRunCanal_o74, wFnExactRunCanal_o75, wFnExactRunCanal_o76, wFnExactRunCanal_o77, wFnExactRunCanal_o78, wFnExactRunCanal_o79, wFnExactRunCanal_o80, wFnExactRunCanal_o81, wFnExactRunCanal_o82, wFnExactRunCanal_o83, wFnExactRunCanal_o84, wFnExactRunCanal_o85, wFnExactRunCanal_o86, wFnExactRunCanal_o87, wFnExactRunCanal_o88, wFnExactRunCanal_o89, wFnExactRunCanal_o90, wFnExactRunCanal_o91, wFnExactRunCanal_o92, wFnExactRunCanal_o93, wFnExactRunCanal_o94, wFnExactRunCanal_o95, wFnExactRunCanal_o96, wFnExactRunCanal_o97, wFnExactRunCanal_o98, wFnExactRunCanal_o99, wFnExactRunCanal_o100, wFnExactRunCanal_o101, wFnExactRunCanal_o102, wFnExactRunCanal_o103, wFnExactRunCanal_o104, wFnExactRunCanal_o105, wFnExactRunCanal_o106, wFnExactRunCanal_o107, wFnExactRunCanal_o108, wFnExactRunCanal_o109, rO, R_toC s d g h f h1 h2, R_to seas hi, R_eq seas hi, R_eqC s d g h f h1 h2, R_eqC 0 0 0 [] [] (by simp) (by simp), R_eqnil, R_nil, R_heldnil, R_markC s d g h f 1 (by omega) (by omega) h1 h2, hm, R_markC0, R_heldC0, hd0, s1, s2, Tr.sem, osome, oget, isL, unL, unR, cond_true, cond_false, Bool.not_true, beq_self_eq_true, bne_self_eq_false, show decide ((1 : Int) < 0) = false from rfl]
    | some u =>
      obtain ⟨a, b, c, x, y, o⟩ := u
      obtain ⟨l1, l2, l3⟩ := q1 _ rfl
      simp only at l1 l2 l3
      have hd1 : decide (1 + (x.length : Int) + y.length < 0) = false := by simp only [decide_eq_false_iff_not]; omega
      have hd2 : decide (1 + (x.length : Int) + y.length + o.length < 0) = false := by simp only [decide_eq_false_iff_not]; omega
      have hm2 := R_markG (1 + (x.length : Int) + y.length) o (by omega) (by omega) (by omega)
      have hh2 := R_heldG (1 + (x.length : Int) + y.length) o.length (by omega) (by omega) (by omega)
      simp only [wFnExactRunCanal_o1, wFnExactRunCanal_o2, wFnExactRunCanal_o3, wFnExactRunCanal_o4, wFnExactRunCanal_o5, wFnExactRunCanal_o6, wFnExactRunCanal_o7, wFnExactRunCanal_o8, wFnExactRunCanal_o9, wFnExactRunCanal_o10, wFnExactRunCanal_o11, wFnExactRunCanal_o12, wFnExactRunCanal_o13, wFnExactRunCanal_o14, wFnExactRunCanal_o15, wFnExactRunCanal_o16, wFnExactRunCanal_o17, wFnExactRunCanal_o18, wFnExactRunCanal_o19, wFnExactRunCanal_o20, wFnExactRunCanal_o21, wFnExactRunCanal_o22, wFnExactRunCanal_o23, wFnExactRunCanal_o24, wFnExactRunCanal_o25, wFnExactRunCanal_o26, wFnExactRunCanal_o27, wFnExactRunCanal_o28, wFnExactRunCanal_o29, wFnExactRunCanal_o30, wFnExactRunCanal_o31, wFnExactRunCanal_o32, wFnExactRunCanal_o33, wFnExactRunCanal_o34, wFnExactRunCanal_o35, wFnExactRunCanal_o36, wFnExactRunCanal_o37, wFnExactRunCanal_o38, wFnExactRunCanal_o39, wFnExactRunCanal_o40, wFnExactRunCanal_o41, wFnExactRunCanal_o42, wFnExactRunCanal_o43, wFnExactRunCanal_o44, wFnExactRunCanal_o45, wFnExactRunCanal_o46, wFnExactRunCanal_o47, wFnExactRunCanal_o48, wFnExactRunCanal_o49, wFnExactRunCanal_o50, wFnExactRunCanal_o51, wFnExactRunCanal_o52, wFnExactRunCanal_o53, wFnExactRunCanal_o54, wFnExactRunCanal_o55, wFnExactRunCanal_o56, wFnExactRunCanal_o57, wFnExactRunCanal_o58, wFnExactRunCanal_o59, wFnExactRunCanal_o60, wFnExactRunCanal_o61, wFnExactRunCanal_o62, wFnExactRunCanal_o63, wFnExactRunCanal_o64, wFnExactRunCanal_o65, wFnExactRunCanal_o66, wFnExactRunCanal_o67, wFnExactRunCanal_o68, wFnExactRunCanal_o69, wFnExactRunCanal_o70, wFnExactRunCanal_o71, wFnExactRunCanal_o72, wFnExactRunCanal_o73, wFnExactRunCanal_o74, wFnExactRunCanal_o75, wFnExactRunCanal_o76, wFnExactRunCanal_o77, wFnExactRunCanal_o78, wFnExactRunCanal_o79, wFnExactRunCanal_o80, wFnExactRunCanal_o81, wFnExactRunCanal_o82, wFnExactRunCanal_o83, wFnExactRunCanal_o84, wFnExactRunCanal_o85, wFnExactRunCanal_o86, wFnExactRunCanal_o87, wFnExactRunCanal_o88, wFnExactRunCanal_o89, wFnExactRunCanal_o90, wFnExactRunCanal_o91, wFnExactRunCanal_o92, wFnExactRunCanal_o93, wFnExactRunCanal_o94, wFnExactRunCanal_o95, wFnExactRunCanal_o96, wFnExactRunCanal_o97, wFnExactRunCanal_o98, wFnExactRunCanal_o99, wFnExactRunCanal_o100, wFnExactRunCanal_o101, wFnExactRunCanal_o102, wFnExactRunCanal_o103, wFnExactRunCanal_o104, wFnExactRunCanal_o105, wFnExactRunCanal_o106, wFnExactRunCanal_o107, wFnExactRunCanal_o108, wFnExactRunCanal_o109, rO, R_toC s d g h f h1 h2, R_to seas hi, R_eq seas hi, R_eq o (by omega), R_eqC s d g h f h1 h2, R_eqC a b c x y (by omega) (by omega), R_markC s d g h f 1 (by omega) (by omega) h1 h2, hm, hm2, hh2, R_markC a b c x y 1 (by omega) (by omega) (by omega) (by omega), R_heldC a b c x.length y.length (by omega) (by omega), hd0, hd1, hd2, s1, s2, Tr.sem, osome, oget, isL, unL, unR, cond_true, cond_false, Bool.not_true, beq_self_eq_true, bne_self_eq_false]
end Go.Proofs.Ytikmeahdcipanaa
