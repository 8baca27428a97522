/- Contracts of functions on lists of reaches. -/
import Derived.Test.YtihoaflcjkppnaaT6
import Derived.Test.YtihoaflcjkppnaaNv
import Derived.KernelRfl
set_option linter.unusedVariables false
set_option linter.unusedSimpArgs false
set_option linter.constructorNameAsVariable false
namespace Go.Proofs.Ytihoaflcjkppnaa
open Go.RowKit
set_option maxRecDepth 100000
theorem mixedO : (Try.prog).follows .mixedOrders = true := by kernel_rfl
def sameR (a b : DR [.f .f32, .f .f32]) : Bool := natEq a.1 b.1 && natEq a.2 b.2
def sameRs (xs ys : List (DR [.f .f32, .f .f32])) : Bool := allFrom (fun k => sameR (List.getD xs k (dflR [.f .f32, .f .f32])) (List.getD ys k (dflR [.f .f32, .f .f32]))) 0 (List.length xs)
def eqRs (xs ys : List (DR [.f .f32, .f .f32])) : Bool := decide ((List.length ys) = (List.length xs)) && sameRs xs ys
def okBoth (xs ys : List (DR [.f .f32, .f .f32])) : Bool := lenOk xs && lenOk ys
def okSame (xs ys : List (DR [.f .f32, .f .f32])) : Bool := lenOk xs && decide ((List.length ys) = (List.length xs)) && sameRs xs ys
def firstD (xs ys : List (DR [.f .f32, .f .f32])) : Nat := firstFrom (fun k => sameR (List.getD xs k (dflR [.f .f32, .f .f32])) (List.getD ys k (dflR [.f .f32, .f .f32]))) 0 (List.length xs)
theorem room_left {n : Nat} {m : Int} (hm : m ≤ 1048576) (h0 : 0 ≤ m) (hn : n ≤ 9223372036854775807) (h : decide ((IntKind.wrap .i64 (m - (n : Nat)) : Int) < 0) = false) : (n : Int) ≤ m ∧ IntKind.wrap .i64 (m - (n : Nat)) = m - (n : Nat) := by
  have e : IntKind.wrap .i64 (m - (n : Nat)) = m - (n : Nat) := wrap_small (by omega) (by omega)
  rw [e] at h
  simp only [decide_eq_false_iff_not] at h
  exact ⟨by omega, e⟩
theorem okBoth_of {xs ys : List (DR [.f .f32, .f .f32])} (hx : List.length xs ≤ 9223372036854775807) (hy : List.length ys ≤ 9223372036854775807) (h1 : decide ((IntKind.wrap .i64 (1048576 - (((List.length xs : Nat) : Int))) : Int) < 0) = false) (h2 : decide ((IntKind.wrap .i64 ((IntKind.wrap .i64 (1048576 - (((List.length xs : Nat) : Int)))) - (((List.length ys : Nat) : Int))) : Int) < 0) = false) : okBoth xs ys = true := by
  obtain ⟨a1, a2⟩ := room_left (by omega) (by omega) hx h1
  rw [a2] at h2
  obtain ⟨b1, b2⟩ := room_left (by omega) (by omega) hy h2
  simp only [okBoth, lenOk, okLen, Bool.and_eq_true, decide_eq_true_eq]
  omega
theorem okBoth_l {xs ys : List (DR [.f .f32, .f .f32])} (h : okBoth xs ys = true) : lenOk xs = true := by simp only [okBoth, Bool.and_eq_true] at h; exact h.1
theorem okBoth_r {xs ys : List (DR [.f .f32, .f .f32])} (h : okBoth xs ys = true) : lenOk ys = true := by simp only [okBoth, Bool.and_eq_true] at h; exact h.2
theorem sameR_self (a : DR [.f .f32, .f .f32]) : sameR a a = true := Bool.and_eq_true_iff.2 ⟨natEq_self _, natEq_self _⟩
theorem okSame_self {xs : List (DR [.f .f32, .f .f32])} (h : lenOk xs = true) : okSame xs xs = true := by
  simp only [okSame, h, Bool.true_and, decide_true]
  exact allFrom_true _ _ _ fun i _ _ => sameR_self _
noncomputable def C0 : Tab := tab 20 (spSame .f64) tab0
theorem C0_ok : TabOk Try.prog C0 := tab_ok (spSame_ok Try.func20 (by kernel_rfl) (fun hx hy => sameFloat_c hx hy)) (tab0_ok _)
noncomputable def C1 : Tab := tab 60 (spFFtoB .f32 natEq) C0
theorem C1_ok : TabOk Try.prog C1 := tab_ok (spFFtoB_ok Try.func60 (by kernel_rfl) (fun hx hy => l01Same_c hx hy)) (C0_ok)
noncomputable def C2 : Tab := tab 63 (spFFtoB .f32 natEq) C1
theorem C2_ok : TabOk Try.prog C2 := tab_ok (spFFtoB_ok Try.func63 (by kernel_rfl) (fun hx hy => SameNumber_c hx hy)) (C1_ok)
noncomputable def C3 : Tab := tab 23 (evFn (envOf Try.prog C2) noLoops Try.f23) C2
theorem C3_ok : TabOk Try.prog C3 := tab_ok (auto_ok (C2_ok) mixedO Try.func23 (by kernel_rfl)) (C2_ok)
noncomputable def C4 : Tab := tab 16 (evFn (envOf Try.prog C3) noLoops Try.f16) C3
theorem C4_ok : TabOk Try.prog C4 := tab_ok (auto_ok (C3_ok) mixedO Try.func16 (by kernel_rfl)) (C3_ok)
noncomputable def C5 : Tab := tab 64 (evFn (envOf Try.prog C4) noLoops Try.f64) C4
theorem C5_ok : TabOk Try.prog C5 := tab_ok (auto_ok (C4_ok) mixedO Try.func64 (by kernel_rfl)) (C4_ok)
def grd6 (xs : List (DR [.f .f32, .f .f32])) (k : Int) (ys : List (DR [.f .f32, .f .f32])) : Bool := decide (k = 0) && decide (ys.length = xs.length) && lenOk xs
noncomputable def L6 : Loops := ⟨23, fun _ => [0, 3, 4], fun key vs bs => match key, vs, bs with
  | 3, [.ds [.f .f32, .f .f32] xs, .slw 0 2, .i .i64 k], [⟨.arr [.f .f32, .f .f32] ys, false⟩] => .br (grd6 xs k ys) (.br (true) (.ok (.exit 0, [.ds [.f .f32, .f .f32] xs, .slw 0 2, .i .i64 (natI (List.length xs))], [⟨.arr [.f .f32, .f .f32] xs, false⟩])) (.ok (.ret, [], []))) .bad
  | _, _, _ => .bad⟩
theorem step6 (xs : List (DR [.f .f32, .f .f32])) (k : Int) (ys : List (DR [.f .f32, .f .f32])) : loopStep (envOf Try.prog C5) L6 3 (loopAt Try.f25 3) [.ds [.f .f32, .f .f32] xs, .slw 0 2, .i .i64 k] [⟨.arr [.f .f32, .f .f32] ys, false⟩] =
  .br (decide ((k : Int) < (((List.length xs : Nat) : Int)))) (.br (decide (0 ≤ (k : Int)) && decide ((k : Int) < ((List.length xs : Nat) : Int))) (.br (decide (0 ≤ (k : Int)) && decide ((k : Int) < ((List.length ys : Nat) : Int))) (.ok ((.normal, ([.ds [.f .f32, .f .f32] xs, .slw 0 2, .i .i64 (IntKind.wrap .i64 (k + 1))], [⟨.arr [.f .f32, .f .f32] (List.set ys (Int.toNat k) (List.getD xs (Int.toNat k) (dflR [.f .f32, .f .f32]))), false⟩])))) .bad) .bad) (.ok ((.exit 0, ([.ds [.f .f32, .f .f32] xs, .slw 0 2, .i .i64 k], [⟨.arr [.f .f32, .f .f32] ys, false⟩])))) := by kernel_rfl
theorem loop6 : ∀ vs bs out, (L6.loop 3 vs bs).sem = some out → ∃ n, iterS (fun vs bs => (loopStep (envOf Try.prog C5) L6 3 (loopAt Try.f25 3) vs bs).sem) n vs bs = some out := by
  intro vs bs out h
  simp only [L6] at h
  split at h
  case h_2 => simp [Tr.sem] at h
  rename_i xs k ys _
  change (Tr.sem (.br _ (.br _ _ _) _)) = _ at h
  simp only [Tr.sem] at h
  cases hb : grd6 xs k ys with
  | false => rw [hb] at h; simp at h
  | true =>
    rw [hb] at h
    simp only [cond_true, Option.some.injEq] at h
    subst h
    simp only [grd6, Bool.and_eq_true, decide_eq_true_eq, lenOk, okLen] at hb
    obtain ⟨⟨rfl, hlen⟩, hok⟩ := hb
    let S : Nat → List V × List HB := fun k => ([.ds [.f .f32, .f .f32] xs, .slw 0 2, .i .i64 (k : Nat)], [⟨.arr [.f .f32, .f .f32] (List.take k xs ++ List.drop k ys), false⟩])
    refine ⟨List.length xs + 1, ?_⟩
    have h0 := iter_inv (f := fun vs bs => (loopStep (envOf Try.prog C5) L6 3 (loopAt Try.f25 3) vs bs).sem) S (.exit 0, [.ds [.f .f32, .f .f32] xs, .slw 0 2, .i .i64 (natI (List.length xs))], [⟨.arr [.f .f32, .f .f32] xs, false⟩]) (List.length xs) 0 (fun k _ hk => ?_) ?_ (fun s => by simp)
    · simpa [S] using h0
    · simp only [S]
      refine (congrArg Tr.sem (step6 xs k (List.take k xs ++ List.drop k ys))).trans ?_
      have h1 : (k : Int) < (List.length xs : Nat) := by omega
      have h2 : (k : Int) < (List.length (List.take k xs ++ List.drop k ys) : Nat) := by simp; omega
      have h3 : (0 : Int) ≤ k := by omega
      simp only [Tr.sem, h1, h2, h3, decide_true, Bool.and_self, cond_true]
      rw [wrap_small (by omega) (by omega), Int.toNat_natCast, copy_mid xs ys _ k hlen (by omega)]
      simp
    · simp only [S]
      refine (congrArg Tr.sem (step6 xs _ _)).trans ?_
      rw [Nat.zero_add]
      have h1 : decide (((List.length xs : Nat) : Int) < (List.length xs : Nat)) = false := by simp
      simp only [Tr.sem, h1, cond_false]
      rw [List.take_of_length_le (Nat.le_refl _), List.drop_of_length_le (by omega), List.append_nil]
      rfl
noncomputable def dom6 : Spec := fun args => match args with
  | [.ds [.f .f32, .f .f32] xs] => .br (lenOk xs) (.ok (.slw 0 2, [⟨.arr [.f .f32, .f .f32] xs, false⟩])) .bad
  | _ => .bad
theorem treeD6 (xs : List (DR [.f .f32, .f .f32])) : evFn (envOf Try.prog C5) L6 Try.f25 [.ds [.f .f32, .f .f32] xs] =
  .br (decide ((((List.length xs : Nat) : Int) : Int) = (((List.length xs : Nat) : Int))) && decide (0 ≤ (((List.length xs : Nat) : Int) : Int)) && decide ((((List.length xs : Nat) : Int) : Int) * ((8 : Nat) : Int) ≤ 140737488355328)) (.br (grd6 xs 0 (List.replicate (Int.toNat (((List.length xs : Nat) : Int))) (dflR [.f .f32, .f .f32]))) (.br true (.ok ((.slw 0 2, [⟨.arr [.f .f32, .f .f32] xs, false⟩]))) (.ok ((.undef, [])))) .bad) .bad := by kernel_rfl
theorem dom6_ok : SpecOk Try.prog 25 dom6 := same_ok (loop1_ok (C5_ok) mixedO Try.func25 (by kernel_rfl) rfl (L := L6) (k := 3) (body := (loopAt Try.f25 3)) (by kernel_rfl) (by kernel_rfl) loop6) fun args out h => by
  unfold dom6 at h
  split at h
  case h_2 => simp [Tr.sem] at h
  rename_i xs
  refine (congrArg Tr.sem (treeD6 xs)).trans ?_
  cases hl : lenOk xs with
  | false => rw [hl] at h; simp [Tr.sem] at h
  | true =>
    rw [hl] at h
    have hl' : List.length xs ≤ 1048576 := by simpa [lenOk, okLen] using hl
    have h1 : (decide ((((List.length xs : Nat) : Int) : Int) = (((List.length xs : Nat) : Int))) && decide (0 ≤ (((List.length xs : Nat) : Int) : Int)) && decide ((((List.length xs : Nat) : Int) : Int) * ((8 : Nat) : Int) ≤ 140737488355328)) = true := by simp; omega
    have h2 : grd6 xs 0 (List.replicate (Int.toNat (((List.length xs : Nat) : Int))) (dflR [.f .f32, .f .f32])) = true := by simp [grd6, hl]
    rw [sem_t h1, sem_t h2]
    exact h
noncomputable def C6 : Tab := tab 25 (dom6) C5
theorem C6_ok : TabOk Try.prog C6 := tab_ok (dom6_ok) (C5_ok)
noncomputable def C7 : Tab := tab 62 (evFn (envOf Try.prog C6) noLoops Try.f62) C6
theorem C7_ok : TabOk Try.prog C7 := tab_ok (auto_ok (C6_ok) mixedO Try.func62 (by kernel_rfl)) (C6_ok)
def grd8 (xs : List (DR [.f .f32, .f .f32])) (ys : List (DR [.f .f32, .f .f32])) (n : Int) (k : Int) : Bool := decide (k = 0) && decide (n = List.length xs) && decide (ys.length = xs.length) && lenOk xs
noncomputable def L8 : Loops := ⟨43, fun _ => [0, 1, 4, 12, 13], fun key vs bs => match key, vs, bs with
  | 4, [.ds [.f .f32, .f .f32] xs, .ds [.f .f32, .f .f32] ys, .lb false, .i .i64 n, .i .i64 k], [] => .br (grd8 xs ys n k) (.br (sameRs xs ys) (.ok (.exit 0, [.ds [.f .f32, .f .f32] xs, .ds [.f .f32, .f .f32] ys, .lb false, .i .i64 (natI (List.length xs)), .i .i64 (natI (List.length xs))], [])) (.ok (.ret, [.ds [.f .f32, .f .f32] xs, .ds [.f .f32, .f .f32] ys, .lb false, .i .i64 (natI (List.length xs)), .i .i64 (natI (firstD xs ys))], []))) .bad
  | _, _, _ => .bad⟩
theorem step8 (xs : List (DR [.f .f32, .f .f32])) (ys : List (DR [.f .f32, .f .f32])) (n : Int) (k : Int) : loopStep (envOf Try.prog C7) L8 4 (loopAt Try.f24 4) [.ds [.f .f32, .f .f32] xs, .ds [.f .f32, .f .f32] ys, .lb false, .i .i64 n, .i .i64 k] [] =
  .br (decide ((k : Int) < n)) (.br (decide (0 ≤ (k : Int)) && decide ((k : Int) < ((List.length xs : Nat) : Int))) (.br (decide (0 ≤ (k : Int)) && decide ((k : Int) < ((List.length ys : Nat) : Int))) (.br (!(natEq ((List.getD xs (Int.toNat k) (dflR [.f .f32, .f .f32])).1) ((List.getD ys (Int.toNat k) (dflR [.f .f32, .f .f32])).1))) (.ok ((.ret, ([.ds [.f .f32, .f .f32] xs, .ds [.f .f32, .f .f32] ys, .lb false, .i .i64 n, .i .i64 k], [])))) (.br (decide (0 ≤ (k : Int)) && decide ((k : Int) < ((List.length xs : Nat) : Int))) (.br (decide (0 ≤ (k : Int)) && decide ((k : Int) < ((List.length ys : Nat) : Int))) (.br (!(natEq ((List.getD xs (Int.toNat k) (dflR [.f .f32, .f .f32])).2) ((List.getD ys (Int.toNat k) (dflR [.f .f32, .f .f32])).2))) (.ok ((.ret, ([.ds [.f .f32, .f .f32] xs, .ds [.f .f32, .f .f32] ys, .lb false, .i .i64 n, .i .i64 k], [])))) (.ok ((.normal, ([.ds [.f .f32, .f .f32] xs, .ds [.f .f32, .f .f32] ys, .lb false, .i .i64 n, .i .i64 (IntKind.wrap .i64 (k + 1))], []))))) .bad) .bad)) .bad) .bad) (.ok ((.exit 0, ([.ds [.f .f32, .f .f32] xs, .ds [.f .f32, .f .f32] ys, .lb false, .i .i64 n, .i .i64 k], [])))) := by kernel_rfl
theorem stepq8 (xs ys : List (DR [.f .f32, .f .f32])) (qa qb : DR [.f .f32, .f .f32]) (k : Nat) (hk : k < List.length xs) (hlen : List.length ys = List.length xs) (hok : List.length xs ≤ 1048576) (hw : IntKind.wrap .i64 (((k : Nat) : Int) + 1) = (((k + 1 : Nat) : Nat) : Int)) : Says (fun o => o = (bif sameR qa qb then some (Xt.normal, [.ds [.f .f32, .f .f32] xs, .ds [.f .f32, .f .f32] ys, .lb false, .i .i64 ((List.length xs : Nat) : Int), .i .i64 (((k + 1 : Nat) : Nat) : Int)], []) else some (Xt.ret, [.ds [.f .f32, .f .f32] xs, .ds [.f .f32, .f .f32] ys, .lb false, .i .i64 ((List.length xs : Nat) : Int), .i .i64 ((k : Nat) : Int)], []) : Option (Xt × List V × List HB))) (.br (decide ((((k : Nat) : Int) : Int) < ((List.length xs : Nat) : Int))) (.br (decide (0 ≤ (((k : Nat) : Int) : Int)) && decide ((((k : Nat) : Int) : Int) < ((List.length xs : Nat) : Int))) (.br (decide (0 ≤ (((k : Nat) : Int) : Int)) && decide ((((k : Nat) : Int) : Int) < ((List.length ys : Nat) : Int))) (.br (!(natEq (qa.1) (qb.1))) (.ok ((.ret, ([.ds [.f .f32, .f .f32] xs, .ds [.f .f32, .f .f32] ys, .lb false, .i .i64 ((List.length xs : Nat) : Int), .i .i64 ((k : Nat) : Int)], [])))) (.br (decide (0 ≤ (((k : Nat) : Int) : Int)) && decide ((((k : Nat) : Int) : Int) < ((List.length xs : Nat) : Int))) (.br (decide (0 ≤ (((k : Nat) : Int) : Int)) && decide ((((k : Nat) : Int) : Int) < ((List.length ys : Nat) : Int))) (.br (!(natEq (qa.2) (qb.2))) (.ok ((.ret, ([.ds [.f .f32, .f .f32] xs, .ds [.f .f32, .f .f32] ys, .lb false, .i .i64 ((List.length xs : Nat) : Int), .i .i64 ((k : Nat) : Int)], [])))) (.ok ((.normal, ([.ds [.f .f32, .f .f32] xs, .ds [.f .f32, .f .f32] ys, .lb false, .i .i64 ((List.length xs : Nat) : Int), .i .i64 (IntKind.wrap .i64 (((k : Nat) : Int) + 1))], []))))) .bad) .bad)) .bad) .bad) (.ok ((.exit 0, ([.ds [.f .f32, .f .f32] xs, .ds [.f .f32, .f .f32] ys, .lb false, .i .i64 ((List.length xs : Nat) : Int), .i .i64 ((k : Nat) : Int)], []))))) :=
  (sb_t (by simp [natI] <;> omega) (sb_t (by simp [natI] <;> omega) (sb_t (by simp [natI] <;> omega) (sb_x (natEq (qa.1) (qb.1)) (fun h1 => (sb_f (by simp [h1]) (sb_t (by simp [natI] <;> omega) (sb_t (by simp [natI] <;> omega) (sb_x (natEq (qa.2) (qb.2)) (fun h2 => (sb_f (by simp [h2]) (by simp_all [Says, Tr.sem, natI, sameR]))) (fun h2 => (sb_t (by simp [h2]) (by simp_all [Says, Tr.sem, natI, sameR])))))))) (fun h1 => (sb_t (by simp [h1]) (by simp_all [Says, Tr.sem, natI, sameR])))))))
theorem loop8 : ∀ vs bs out, (L8.loop 4 vs bs).sem = some out → ∃ n, iterS (fun vs bs => (loopStep (envOf Try.prog C7) L8 4 (loopAt Try.f24 4) vs bs).sem) n vs bs = some out := by
  intro vs bs out h
  simp only [L8] at h
  split at h
  case h_2 => simp [Tr.sem] at h
  rename_i xs ys n k _
  change (Tr.sem (.br _ (.br _ _ _) _)) = _ at h
  simp only [Tr.sem] at h
  cases hb : grd8 xs ys n k with
  | false => rw [hb] at h; simp at h
  | true =>
    rw [hb] at h
    simp only [grd8, Bool.and_eq_true, decide_eq_true_eq, lenOk, okLen] at hb
    obtain ⟨⟨⟨rfl, rfl⟩, hlen⟩, hok⟩ := hb
    refine ⟨List.length xs + 1, ?_⟩
    have key := iter_from (f := fun vs bs => (loopStep (envOf Try.prog C7) L8 4 (loopAt Try.f24 4) vs bs).sem) (List.length xs) (fun k => sameR (List.getD xs k (dflR [.f .f32, .f .f32])) (List.getD ys k (dflR [.f .f32, .f .f32]))) (fun k => ([.ds [.f .f32, .f .f32] xs, .ds [.f .f32, .f .f32] ys, .lb false, .i .i64 ((List.length xs : Nat) : Int), .i .i64 ((k : Nat) : Int)], [])) (.exit 0, [.ds [.f .f32, .f .f32] xs, .ds [.f .f32, .f .f32] ys, .lb false, .i .i64 (natI (List.length xs)), .i .i64 (natI (List.length xs))], []) (fun k => (.ret, [.ds [.f .f32, .f .f32] xs, .ds [.f .f32, .f .f32] ys, .lb false, .i .i64 ((List.length xs : Nat) : Int), .i .i64 ((k : Nat) : Int)], [])) (fun k hk => ?_) ?_ (fun s => by simp) (fun k s => by simp) (List.length xs) 0 (by omega)
    · refine key.trans ?_
      change some (bif sameRs xs ys then _ else _) = some out
      rw [← h]
      cases sameRs xs ys <;> rfl
    · exact (congrArg Tr.sem (step8 (xs) (ys) (((List.length xs : Nat) : Int)) (((k : Nat) : Int)))).trans (stepq8 xs ys _ _ k hk hlen hok (wrap_small (by omega) (by omega)))
    · refine (congrArg Tr.sem (step8 (xs) (ys) (((List.length xs : Nat) : Int)) (((List.length xs : Nat) : Int)))).trans ?_
      refine (sem_f (by simp [natI])).trans rfl
noncomputable def dom8 : Spec := fun args => match args with
  | [.ds [.f .f32, .f .f32] xs, .ds [.f .f32, .f .f32] ys] => .br (okBoth xs ys) (.br (eqRs xs ys) (.ok (.lb true, [])) (.ok (.lb false, []))) .bad
  | _ => .bad
theorem treeD8 (xs ys : List (DR [.f .f32, .f .f32])) : evFn (envOf Try.prog C7) L8 Try.f24 [.ds [.f .f32, .f .f32] xs, .ds [.f .f32, .f .f32] ys] =
  .br (((((List.length xs : Nat) : Int) : Int) != (((List.length ys : Nat) : Int)))) (.ok ((.lb false, []))) (.br (grd8 xs ys (((List.length xs : Nat) : Int)) 0) (.br (sameRs xs ys) (.ok ((.lb true, []))) (.ok ((.lb false, [])))) .bad) := by kernel_rfl
theorem dom8_ok : SpecOk Try.prog 24 dom8 := same_ok (loop1_ok (C7_ok) mixedO Try.func24 (by kernel_rfl) rfl (L := L8) (k := 4) (body := (loopAt Try.f24 4)) (by kernel_rfl) (by kernel_rfl) loop8) fun args out h => by
  unfold dom8 at h
  split at h
  case h_2 => simp [Tr.sem] at h
  rename_i xs ys
  refine (congrArg Tr.sem (treeD8 xs ys)).trans ?_
  cases hl : okBoth xs ys with
  | false => rw [hl] at h; simp [Tr.sem] at h
  | true =>
    rw [hl] at h
    by_cases he : List.length ys = List.length xs
    · have c1 : ((((List.length xs : Nat) : Int)) != ((List.length ys : Nat) : Int)) = false := by simp [he]
      have c2 : grd8 xs ys ((List.length xs : Nat) : Int) 0 = true := by simp_all [grd8, okBoth]
      refine (sem_f c1).trans ((sem_t c2).trans ?_)
      simpa [he, Tr.sem, eqRs] using h
    · have c1 : ((((List.length xs : Nat) : Int)) != ((List.length ys : Nat) : Int)) = true := by simp; omega
      refine (sem_t c1).trans ?_
      simpa [he, Tr.sem, eqRs] using h
noncomputable def C8 : Tab := tab 24 (dom8) C7
theorem C8_ok : TabOk Try.prog C8 := tab_ok (dom8_ok) (C7_ok)
def grd9 (ys : List (DR [.f .f32, .f .f32])) (xs : List (DR [.f .f32, .f .f32])) (n : Int) (k : Int) : Bool := decide (k = 0) && decide (n = List.length xs) && decide (ys.length = xs.length) && lenOk xs
noncomputable def L9 : Loops := ⟨32, fun _ => [1, 2, 6, 15, 16, 17], fun key vs bs => match key, vs, bs with
  | 4, [.ds [.f .f32, .f .f32] ys, .fn 62 [], .lb false, .ds [.f .f32, .f .f32] xs, .i .i64 n, .i .i64 k], [] => .br (grd9 ys xs n k) (.br (sameRs xs ys) (.ok (.exit 0, [.ds [.f .f32, .f .f32] ys, .fn 62 [], .lb false, .ds [.f .f32, .f .f32] xs, .i .i64 (natI (List.length xs)), .i .i64 (natI (List.length xs))], [])) (.ok (.ret, [.ds [.f .f32, .f .f32] ys, .fn 62 [], .lb false, .ds [.f .f32, .f .f32] xs, .i .i64 (natI (List.length xs)), .i .i64 (natI (firstD xs ys))], []))) .bad
  | _, _, _ => .bad⟩
theorem step9 (ys : List (DR [.f .f32, .f .f32])) (xs : List (DR [.f .f32, .f .f32])) (n : Int) (k : Int) : loopStep (envOf Try.prog C8) L9 4 (loopAt Try.f61 4) [.ds [.f .f32, .f .f32] ys, .fn 62 [], .lb false, .ds [.f .f32, .f .f32] xs, .i .i64 n, .i .i64 k] [] =
  .br (decide ((k : Int) < n)) (.br (decide (0 ≤ (k : Int)) && decide ((k : Int) < ((List.length xs : Nat) : Int))) (.br (decide (0 ≤ (k : Int)) && decide ((k : Int) < ((List.length ys : Nat) : Int))) (.br (natEq ((List.getD xs (Int.toNat k) (dflR [.f .f32, .f .f32])).1) ((List.getD ys (Int.toNat k) (dflR [.f .f32, .f .f32])).1)) (.br (!(natEq ((List.getD xs (Int.toNat k) (dflR [.f .f32, .f .f32])).2) ((List.getD ys (Int.toNat k) (dflR [.f .f32, .f .f32])).2))) (.ok ((.ret, ([.ds [.f .f32, .f .f32] ys, .fn 62 [], .lb false, .ds [.f .f32, .f .f32] xs, .i .i64 n, .i .i64 k], [])))) (.ok ((.normal, ([.ds [.f .f32, .f .f32] ys, .fn 62 [], .lb false, .ds [.f .f32, .f .f32] xs, .i .i64 n, .i .i64 (IntKind.wrap .i64 (k + 1))], []))))) (.ok ((.ret, ([.ds [.f .f32, .f .f32] ys, .fn 62 [], .lb false, .ds [.f .f32, .f .f32] xs, .i .i64 n, .i .i64 k], []))))) .bad) .bad) (.ok ((.exit 0, ([.ds [.f .f32, .f .f32] ys, .fn 62 [], .lb false, .ds [.f .f32, .f .f32] xs, .i .i64 n, .i .i64 k], [])))) := by kernel_rfl
theorem stepq9 (xs ys : List (DR [.f .f32, .f .f32])) (qa qb : DR [.f .f32, .f .f32]) (k : Nat) (hk : k < List.length xs) (hlen : List.length ys = List.length xs) (hok : List.length xs ≤ 1048576) (hw : IntKind.wrap .i64 (((k : Nat) : Int) + 1) = (((k + 1 : Nat) : Nat) : Int)) : Says (fun o => o = (bif sameR qa qb then some (Xt.normal, [.ds [.f .f32, .f .f32] ys, .fn 62 [], .lb false, .ds [.f .f32, .f .f32] xs, .i .i64 ((List.length xs : Nat) : Int), .i .i64 (((k + 1 : Nat) : Nat) : Int)], []) else some (Xt.ret, [.ds [.f .f32, .f .f32] ys, .fn 62 [], .lb false, .ds [.f .f32, .f .f32] xs, .i .i64 ((List.length xs : Nat) : Int), .i .i64 ((k : Nat) : Int)], []) : Option (Xt × List V × List HB))) (.br (decide ((((k : Nat) : Int) : Int) < ((List.length xs : Nat) : Int))) (.br (decide (0 ≤ (((k : Nat) : Int) : Int)) && decide ((((k : Nat) : Int) : Int) < ((List.length xs : Nat) : Int))) (.br (decide (0 ≤ (((k : Nat) : Int) : Int)) && decide ((((k : Nat) : Int) : Int) < ((List.length ys : Nat) : Int))) (.br (natEq (qa.1) (qb.1)) (.br (!(natEq (qa.2) (qb.2))) (.ok ((.ret, ([.ds [.f .f32, .f .f32] ys, .fn 62 [], .lb false, .ds [.f .f32, .f .f32] xs, .i .i64 ((List.length xs : Nat) : Int), .i .i64 ((k : Nat) : Int)], [])))) (.ok ((.normal, ([.ds [.f .f32, .f .f32] ys, .fn 62 [], .lb false, .ds [.f .f32, .f .f32] xs, .i .i64 ((List.length xs : Nat) : Int), .i .i64 (IntKind.wrap .i64 (((k : Nat) : Int) + 1))], []))))) (.ok ((.ret, ([.ds [.f .f32, .f .f32] ys, .fn 62 [], .lb false, .ds [.f .f32, .f .f32] xs, .i .i64 ((List.length xs : Nat) : Int), .i .i64 ((k : Nat) : Int)], []))))) .bad) .bad) (.ok ((.exit 0, ([.ds [.f .f32, .f .f32] ys, .fn 62 [], .lb false, .ds [.f .f32, .f .f32] xs, .i .i64 ((List.length xs : Nat) : Int), .i .i64 ((k : Nat) : Int)], []))))) :=
  (sb_t (by simp [natI] <;> omega) (sb_t (by simp [natI] <;> omega) (sb_t (by simp [natI] <;> omega) (sb_c (natEq (qa.1) (qb.1)) (fun h3 => (sb_x (natEq (qa.2) (qb.2)) (fun h4 => (sb_f (by simp [h4]) (by simp_all [Says, Tr.sem, natI, sameR]))) (fun h4 => (sb_t (by simp [h4]) (by simp_all [Says, Tr.sem, natI, sameR]))))) (fun h3 => (by simp_all [Says, Tr.sem, natI, sameR]))))))
theorem loop9 : ∀ vs bs out, (L9.loop 4 vs bs).sem = some out → ∃ n, iterS (fun vs bs => (loopStep (envOf Try.prog C8) L9 4 (loopAt Try.f61 4) vs bs).sem) n vs bs = some out := by
  intro vs bs out h
  simp only [L9] at h
  split at h
  case h_2 => simp [Tr.sem] at h
  rename_i ys xs n k _
  change (Tr.sem (.br _ (.br _ _ _) _)) = _ at h
  simp only [Tr.sem] at h
  cases hb : grd9 ys xs n k with
  | false => rw [hb] at h; simp at h
  | true =>
    rw [hb] at h
    simp only [grd9, Bool.and_eq_true, decide_eq_true_eq, lenOk, okLen] at hb
    obtain ⟨⟨⟨rfl, rfl⟩, hlen⟩, hok⟩ := hb
    refine ⟨List.length xs + 1, ?_⟩
    have key := iter_from (f := fun vs bs => (loopStep (envOf Try.prog C8) L9 4 (loopAt Try.f61 4) vs bs).sem) (List.length xs) (fun k => sameR (List.getD xs k (dflR [.f .f32, .f .f32])) (List.getD ys k (dflR [.f .f32, .f .f32]))) (fun k => ([.ds [.f .f32, .f .f32] ys, .fn 62 [], .lb false, .ds [.f .f32, .f .f32] xs, .i .i64 ((List.length xs : Nat) : Int), .i .i64 ((k : Nat) : Int)], [])) (.exit 0, [.ds [.f .f32, .f .f32] ys, .fn 62 [], .lb false, .ds [.f .f32, .f .f32] xs, .i .i64 (natI (List.length xs)), .i .i64 (natI (List.length xs))], []) (fun k => (.ret, [.ds [.f .f32, .f .f32] ys, .fn 62 [], .lb false, .ds [.f .f32, .f .f32] xs, .i .i64 ((List.length xs : Nat) : Int), .i .i64 ((k : Nat) : Int)], [])) (fun k hk => ?_) ?_ (fun s => by simp) (fun k s => by simp) (List.length xs) 0 (by omega)
    · refine key.trans ?_
      change some (bif sameRs xs ys then _ else _) = some out
      rw [← h]
      cases sameRs xs ys <;> rfl
    · exact (congrArg Tr.sem (step9 (ys) (xs) (((List.length xs : Nat) : Int)) (((k : Nat) : Int)))).trans (stepq9 xs ys _ _ k hk hlen hok (wrap_small (by omega) (by omega)))
    · refine (congrArg Tr.sem (step9 (ys) (xs) (((List.length xs : Nat) : Int)) (((List.length xs : Nat) : Int)))).trans ?_
      refine (sem_f (by simp [natI])).trans rfl
noncomputable def dom9 : Spec := fun args => match args with
  | [.ds [.f .f32, .f .f32] xs, .ds [.f .f32, .f .f32] ys, .fn 62 []] => .br (okBoth xs ys) (.br (eqRs xs ys) (.ok (.lb true, [])) (.ok (.lb false, []))) .bad
  | _ => .bad
theorem treeD9 (xs ys : List (DR [.f .f32, .f .f32])) : evFn (envOf Try.prog C8) L9 Try.f61 [.ds [.f .f32, .f .f32] xs, .ds [.f .f32, .f .f32] ys, .fn 62 []] =
  .br (((((List.length xs : Nat) : Int) : Int) != (((List.length ys : Nat) : Int)))) (.ok ((.lb false, []))) (.br (grd9 ys xs (((List.length xs : Nat) : Int)) 0) (.br (sameRs xs ys) (.ok ((.lb true, []))) (.ok ((.lb false, [])))) .bad) := by kernel_rfl
theorem dom9_ok : SpecOk Try.prog 61 dom9 := same_ok (loop1_ok (C8_ok) mixedO Try.func61 (by kernel_rfl) rfl (L := L9) (k := 4) (body := (loopAt Try.f61 4)) (by kernel_rfl) (by kernel_rfl) loop9) fun args out h => by
  unfold dom9 at h
  split at h
  case h_2 => simp [Tr.sem] at h
  rename_i xs ys
  refine (congrArg Tr.sem (treeD9 xs ys)).trans ?_
  cases hl : okBoth xs ys with
  | false => rw [hl] at h; simp [Tr.sem] at h
  | true =>
    rw [hl] at h
    by_cases he : List.length ys = List.length xs
    · have c1 : ((((List.length xs : Nat) : Int)) != ((List.length ys : Nat) : Int)) = false := by simp [he]
      have c2 : grd9 ys xs ((List.length xs : Nat) : Int) 0 = true := by simp_all [grd9, okBoth]
      refine (sem_f c1).trans ((sem_t c2).trans ?_)
      simpa [he, Tr.sem, eqRs] using h
    · have c1 : ((((List.length xs : Nat) : Int)) != ((List.length ys : Nat) : Int)) = true := by simp; omega
      refine (sem_t c1).trans ?_
      simpa [he, Tr.sem, eqRs] using h
noncomputable def C9 : Tab := tab 61 (dom9) C8
theorem C9_ok : TabOk Try.prog C9 := tab_ok (dom9_ok) (C8_ok)
noncomputable def C10 : Tab := tab 26 (evFn (envOf Try.prog C9) noLoops Try.f26) C9
theorem C10_ok : TabOk Try.prog C10 := tab_ok (auto_ok (C9_ok) mixedO Try.func26 (by kernel_rfl)) (C9_ok)
def grd11 (xs : List (DR [.f .f32, .f .f32])) (ys : List (DR [.f .f32, .f .f32])) (k : Int) : Bool := decide (k = 0) && decide (ys.length = xs.length) && lenOk xs && sameRs xs ys
noncomputable def L11 : Loops := ⟨27, fun _ => [0, 1, 4, 5], fun key vs bs => match key, vs, bs with
  | 4, [.ds [.f .f32, .f .f32] xs, .ds [.f .f32, .f .f32] ys, .lb false, .i .i64 k], [] => .br (grd11 xs ys k) (.br (true) (.ok (.exit 0, [.ds [.f .f32, .f .f32] xs, .ds [.f .f32, .f .f32] ys, .lb false, .i .i64 (natI (List.length xs))], [])) (.ok (.ret, [], []))) .bad
  | _, _, _ => .bad⟩
theorem step11 (xs : List (DR [.f .f32, .f .f32])) (ys : List (DR [.f .f32, .f .f32])) (k : Int) : loopStep (envOf Try.prog C10) L11 4 (loopAt Try.f27 4) [.ds [.f .f32, .f .f32] xs, .ds [.f .f32, .f .f32] ys, .lb false, .i .i64 k] [] =
  .br (decide ((k : Int) < (((List.length xs : Nat) : Int)))) (.br (decide (0 ≤ (k : Int)) && decide ((k : Int) < ((List.length xs : Nat) : Int))) (.br (decide (0 ≤ (k : Int)) && decide ((k : Int) < ((List.length ys : Nat) : Int))) (.br (natEq (fup ((List.getD xs (Int.toNat k) (dflR [.f .f32, .f .f32])).1)) (fup ((List.getD ys (Int.toNat k) (dflR [.f .f32, .f .f32])).1))) (.br (natEq (fup ((List.getD xs (Int.toNat k) (dflR [.f .f32, .f .f32])).2)) (fup ((List.getD ys (Int.toNat k) (dflR [.f .f32, .f .f32])).2))) (.ok ((.normal, ([.ds [.f .f32, .f .f32] xs, .ds [.f .f32, .f .f32] ys, .lb false, .i .i64 (IntKind.wrap .i64 (k + 1))], [])))) .bad) .bad) .bad) .bad) (.ok ((.exit 0, ([.ds [.f .f32, .f .f32] xs, .ds [.f .f32, .f .f32] ys, .lb false, .i .i64 k], [])))) := by kernel_rfl
theorem stepq11 (xs ys : List (DR [.f .f32, .f .f32])) (qa qb : DR [.f .f32, .f .f32]) (k : Nat) (hk : k < List.length xs) (hlen : List.length ys = List.length xs) (hok : List.length xs ≤ 1048576) (hw : IntKind.wrap .i64 (((k : Nat) : Int) + 1) = (((k + 1 : Nat) : Nat) : Int)) (hs : sameR qa qb = true) : Says (fun o => o = (bif true then some (Xt.normal, [.ds [.f .f32, .f .f32] xs, .ds [.f .f32, .f .f32] ys, .lb false, .i .i64 (((k + 1 : Nat) : Nat) : Int)], []) else some (Xt.ret, [.ds [.f .f32, .f .f32] xs, .ds [.f .f32, .f .f32] ys, .lb false, .i .i64 ((k : Nat) : Int)], []) : Option (Xt × List V × List HB))) (.br (decide ((((k : Nat) : Int) : Int) < (((List.length xs : Nat) : Int)))) (.br (decide (0 ≤ (((k : Nat) : Int) : Int)) && decide ((((k : Nat) : Int) : Int) < ((List.length xs : Nat) : Int))) (.br (decide (0 ≤ (((k : Nat) : Int) : Int)) && decide ((((k : Nat) : Int) : Int) < ((List.length ys : Nat) : Int))) (.br (natEq (fup (qa.1)) (fup (qb.1))) (.br (natEq (fup (qa.2)) (fup (qb.2))) (.ok ((.normal, ([.ds [.f .f32, .f .f32] xs, .ds [.f .f32, .f .f32] ys, .lb false, .i .i64 (IntKind.wrap .i64 (((k : Nat) : Int) + 1))], [])))) .bad) .bad) .bad) .bad) (.ok ((.exit 0, ([.ds [.f .f32, .f .f32] xs, .ds [.f .f32, .f .f32] ys, .lb false, .i .i64 ((k : Nat) : Int)], []))))) :=
  (sb_t (by simp [natI] <;> omega) (sb_t (by simp [natI] <;> omega) (sb_t (by simp [natI] <;> omega) (sb_t (by simp_all [sameR, natEq]) (sb_t (by simp_all [sameR, natEq]) (by simp_all [Says, Tr.sem, natI, sameR]))))))
theorem loop11 : ∀ vs bs out, (L11.loop 4 vs bs).sem = some out → ∃ n, iterS (fun vs bs => (loopStep (envOf Try.prog C10) L11 4 (loopAt Try.f27 4) vs bs).sem) n vs bs = some out := by
  intro vs bs out h
  simp only [L11] at h
  split at h
  case h_2 => simp [Tr.sem] at h
  rename_i xs ys k _
  change (Tr.sem (.br _ (.br _ _ _) _)) = _ at h
  simp only [Tr.sem] at h
  cases hb : grd11 xs ys k with
  | false => rw [hb] at h; simp at h
  | true =>
    rw [hb] at h
    simp only [grd11, Bool.and_eq_true, decide_eq_true_eq, lenOk, okLen] at hb
    obtain ⟨⟨⟨rfl, hlen⟩, hok⟩, hsame⟩ := hb
    refine ⟨List.length xs + 1, ?_⟩
    have key := iter_from (f := fun vs bs => (loopStep (envOf Try.prog C10) L11 4 (loopAt Try.f27 4) vs bs).sem) (List.length xs) (fun k => true) (fun k => ([.ds [.f .f32, .f .f32] xs, .ds [.f .f32, .f .f32] ys, .lb false, .i .i64 ((k : Nat) : Int)], [])) (.exit 0, [.ds [.f .f32, .f .f32] xs, .ds [.f .f32, .f .f32] ys, .lb false, .i .i64 (natI (List.length xs))], []) (fun k => (.ret, [.ds [.f .f32, .f .f32] xs, .ds [.f .f32, .f .f32] ys, .lb false, .i .i64 ((k : Nat) : Int)], [])) (fun k hk => ?_) ?_ (fun s => by simp) (fun k s => by simp) (List.length xs) 0 (by omega)
    · refine key.trans ?_
      rw [allFrom_true _ _ _ (fun _ _ _ => rfl)]
      exact h
    · exact (congrArg Tr.sem (step11 (xs) (ys) (((k : Nat) : Int)))).trans (stepq11 xs ys _ _ k hk hlen hok (wrap_small (by omega) (by omega)) (allFrom_of _ _ _ hsame k (by omega) (by omega)))
    · refine (congrArg Tr.sem (step11 (xs) (ys) (((List.length xs : Nat) : Int)))).trans ?_
      refine (sem_f (by simp [natI])).trans rfl
noncomputable def dom11 : Spec := fun args => match args with
  | [.ds [.f .f32, .f .f32] xs, .ds [.f .f32, .f .f32] ys] => .br (okSame xs ys) (.ok (.lb true, [])) .bad
  | _ => .bad
theorem treeD11 (xs ys : List (DR [.f .f32, .f .f32])) : evFn (envOf Try.prog C10) L11 Try.f27 [.ds [.f .f32, .f .f32] xs, .ds [.f .f32, .f .f32] ys] =
  .br (((((List.length xs : Nat) : Int) : Int) != (((List.length ys : Nat) : Int)))) (.ok ((.lb false, []))) (.br (grd11 xs ys 0) (.br true (.ok ((.lb true, []))) (.ok ((.undef, [])))) .bad) := by kernel_rfl
theorem dom11_ok : SpecOk Try.prog 27 dom11 := same_ok (loop1_ok (C10_ok) mixedO Try.func27 (by kernel_rfl) rfl (L := L11) (k := 4) (body := (loopAt Try.f27 4)) (by kernel_rfl) (by kernel_rfl) loop11) fun args out h => by
  unfold dom11 at h
  split at h
  case h_2 => simp [Tr.sem] at h
  rename_i xs ys
  refine (congrArg Tr.sem (treeD11 xs ys)).trans ?_
  cases hl : okSame xs ys with
  | false => rw [hl] at h; simp [Tr.sem] at h
  | true =>
    rw [hl] at h
    have he : List.length ys = List.length xs := by simp only [okSame, Bool.and_eq_true, decide_eq_true_eq] at hl; exact hl.1.2
    have c1 : ((((List.length xs : Nat) : Int)) != ((List.length ys : Nat) : Int)) = false := by simp [he]
    have c2 : grd11 xs ys 0 = true := by simp_all [grd11, okSame]
    exact (sem_f c1).trans ((sem_t c2).trans h)
noncomputable def C11 : Tab := tab 27 (dom11) C10
theorem C11_ok : TabOk Try.prog C11 := tab_ok (dom11_ok) (C10_ok)
theorem lawFnExactSameReaches_tree (xs ys : List (DR [.f .f32, .f .f32])) : evFn (envOf Try.prog C11) noLoops Try.f6 [.ds [.f .f32, .f .f32] xs, .ds [.f .f32, .f .f32] ys] =
  .br (decide ((IntKind.wrap .i64 (1048576 - (((List.length xs : Nat) : Int))) : Int) < 0)) (.br (decide (((-1) : Int) < 0)) (.ok ((.lb true, []))) (.br (decide ((IntKind.wrap .i64 ((-1) - (((List.length ys : Nat) : Int))) : Int) < 0)) (.br (decide (((-1) : Int) < 0)) (.ok ((.lb true, []))) (.br (lenOk xs) (.br (lenOk ys) (.br (okBoth xs ys) (.br (eqRs xs ys) (.br (lenOk xs) (.br (lenOk ys) (.br (okBoth xs ys) (.br (eqRs xs ys) (.br (!(true == true)) (.ok ((.lb false, []))) (.br (lenOk xs) (.br (okSame xs xs) (.br (lenOk ys) (.br (okSame ys ys) (.ok ((.lb true, []))) .bad) .bad) .bad) .bad)) (.br (!(false == true)) (.ok ((.lb false, []))) (.br (lenOk xs) (.br (okSame xs xs) (.br (lenOk ys) (.br (okSame ys ys) (.ok ((.lb true, []))) .bad) .bad) .bad) .bad))) .bad) .bad) .bad) (.br (lenOk xs) (.br (lenOk ys) (.br (okBoth xs ys) (.br (eqRs xs ys) (.br (!(true == false)) (.ok ((.lb false, []))) (.br (lenOk xs) (.br (okSame xs xs) (.br (lenOk ys) (.br (okSame ys ys) (.ok ((.lb true, []))) .bad) .bad) .bad) .bad)) (.br (!(false == false)) (.ok ((.lb false, []))) (.br (lenOk xs) (.br (okSame xs xs) (.br (lenOk ys) (.br (okSame ys ys) (.ok ((.lb true, []))) .bad) .bad) .bad) .bad))) .bad) .bad) .bad)) .bad) .bad) .bad)) (.br (decide ((IntKind.wrap .i64 ((-1) - (((List.length ys : Nat) : Int))) : Int) < 0)) (.ok ((.lb true, []))) (.br (lenOk xs) (.br (lenOk ys) (.br (okBoth xs ys) (.br (eqRs xs ys) (.br (lenOk xs) (.br (lenOk ys) (.br (okBoth xs ys) (.br (eqRs xs ys) (.br (!(true == true)) (.ok ((.lb false, []))) (.br (lenOk xs) (.br (okSame xs xs) (.br (lenOk ys) (.br (okSame ys ys) (.ok ((.lb true, []))) .bad) .bad) .bad) .bad)) (.br (!(false == true)) (.ok ((.lb false, []))) (.br (lenOk xs) (.br (okSame xs xs) (.br (lenOk ys) (.br (okSame ys ys) (.ok ((.lb true, []))) .bad) .bad) .bad) .bad))) .bad) .bad) .bad) (.br (lenOk xs) (.br (lenOk ys) (.br (okBoth xs ys) (.br (eqRs xs ys) (.br (!(true == false)) (.ok ((.lb false, []))) (.br (lenOk xs) (.br (okSame xs xs) (.br (lenOk ys) (.br (okSame ys ys) (.ok ((.lb true, []))) .bad) .bad) .bad) .bad)) (.br (!(false == false)) (.ok ((.lb false, []))) (.br (lenOk xs) (.br (okSame xs xs) (.br (lenOk ys) (.br (okSame ys ys) (.ok ((.lb true, []))) .bad) .bad) .bad) .bad))) .bad) .bad) .bad)) .bad) .bad) .bad)))) (.br (decide ((IntKind.wrap .i64 (1048576 - (((List.length xs : Nat) : Int))) : Int) < 0)) (.ok ((.lb true, []))) (.br (decide ((IntKind.wrap .i64 ((IntKind.wrap .i64 (1048576 - (((List.length xs : Nat) : Int)))) - (((List.length ys : Nat) : Int))) : Int) < 0)) (.br (decide (((-1) : Int) < 0)) (.ok ((.lb true, []))) (.br (lenOk xs) (.br (lenOk ys) (.br (okBoth xs ys) (.br (eqRs xs ys) (.br (lenOk xs) (.br (lenOk ys) (.br (okBoth xs ys) (.br (eqRs xs ys) (.br (!(true == true)) (.ok ((.lb false, []))) (.br (lenOk xs) (.br (okSame xs xs) (.br (lenOk ys) (.br (okSame ys ys) (.ok ((.lb true, []))) .bad) .bad) .bad) .bad)) (.br (!(false == true)) (.ok ((.lb false, []))) (.br (lenOk xs) (.br (okSame xs xs) (.br (lenOk ys) (.br (okSame ys ys) (.ok ((.lb true, []))) .bad) .bad) .bad) .bad))) .bad) .bad) .bad) (.br (lenOk xs) (.br (lenOk ys) (.br (okBoth xs ys) (.br (eqRs xs ys) (.br (!(true == false)) (.ok ((.lb false, []))) (.br (lenOk xs) (.br (okSame xs xs) (.br (lenOk ys) (.br (okSame ys ys) (.ok ((.lb true, []))) .bad) .bad) .bad) .bad)) (.br (!(false == false)) (.ok ((.lb false, []))) (.br (lenOk xs) (.br (okSame xs xs) (.br (lenOk ys) (.br (okSame ys ys) (.ok ((.lb true, []))) .bad) .bad) .bad) .bad))) .bad) .bad) .bad)) .bad) .bad) .bad)) (.br (decide ((IntKind.wrap .i64 ((IntKind.wrap .i64 (1048576 - (((List.length xs : Nat) : Int)))) - (((List.length ys : Nat) : Int))) : Int) < 0)) (.ok ((.lb true, []))) (.br (lenOk xs) (.br (lenOk ys) (.br (okBoth xs ys) (.br (eqRs xs ys) (.br (lenOk xs) (.br (lenOk ys) (.br (okBoth xs ys) (.br (eqRs xs ys) (.br (!(true == true)) (.ok ((.lb false, []))) (.br (lenOk xs) (.br (okSame xs xs) (.br (lenOk ys) (.br (okSame ys ys) (.ok ((.lb true, []))) .bad) .bad) .bad) .bad)) (.br (!(false == true)) (.ok ((.lb false, []))) (.br (lenOk xs) (.br (okSame xs xs) (.br (lenOk ys) (.br (okSame ys ys) (.ok ((.lb true, []))) .bad) .bad) .bad) .bad))) .bad) .bad) .bad) (.br (lenOk xs) (.br (lenOk ys) (.br (okBoth xs ys) (.br (eqRs xs ys) (.br (!(true == false)) (.ok ((.lb false, []))) (.br (lenOk xs) (.br (okSame xs xs) (.br (lenOk ys) (.br (okSame ys ys) (.ok ((.lb true, []))) .bad) .bad) .bad) .bad)) (.br (!(false == false)) (.ok ((.lb false, []))) (.br (lenOk xs) (.br (okSame xs xs) (.br (lenOk ys) (.br (okSame ys ys) (.ok ((.lb true, []))) .bad) .bad) .bad) .bad))) .bad) .bad) .bad)) .bad) .bad) .bad)))) := by kernel_rfl
theorem lawFnExactSameReaches_says (xs ys : List (DR [.f .f32, .f .f32])) (hx : List.length xs ≤ 9223372036854775807) (hy : List.length ys ≤ 9223372036854775807) : Says Tru (.br (decide ((IntKind.wrap .i64 (1048576 - (((List.length xs : Nat) : Int))) : Int) < 0)) (.br (decide (((-1) : Int) < 0)) (.ok ((.lb true, []))) (.br (decide ((IntKind.wrap .i64 ((-1) - (((List.length ys : Nat) : Int))) : Int) < 0)) (.br (decide (((-1) : Int) < 0)) (.ok ((.lb true, []))) (.br (lenOk xs) (.br (lenOk ys) (.br (okBoth xs ys) (.br (eqRs xs ys) (.br (lenOk xs) (.br (lenOk ys) (.br (okBoth xs ys) (.br (eqRs xs ys) (.br (!(true == true)) (.ok ((.lb false, []))) (.br (lenOk xs) (.br (okSame xs xs) (.br (lenOk ys) (.br (okSame ys ys) (.ok ((.lb true, []))) .bad) .bad) .bad) .bad)) (.br (!(false == true)) (.ok ((.lb false, []))) (.br (lenOk xs) (.br (okSame xs xs) (.br (lenOk ys) (.br (okSame ys ys) (.ok ((.lb true, []))) .bad) .bad) .bad) .bad))) .bad) .bad) .bad) (.br (lenOk xs) (.br (lenOk ys) (.br (okBoth xs ys) (.br (eqRs xs ys) (.br (!(true == false)) (.ok ((.lb false, []))) (.br (lenOk xs) (.br (okSame xs xs) (.br (lenOk ys) (.br (okSame ys ys) (.ok ((.lb true, []))) .bad) .bad) .bad) .bad)) (.br (!(false == false)) (.ok ((.lb false, []))) (.br (lenOk xs) (.br (okSame xs xs) (.br (lenOk ys) (.br (okSame ys ys) (.ok ((.lb true, []))) .bad) .bad) .bad) .bad))) .bad) .bad) .bad)) .bad) .bad) .bad)) (.br (decide ((IntKind.wrap .i64 ((-1) - (((List.length ys : Nat) : Int))) : Int) < 0)) (.ok ((.lb true, []))) (.br (lenOk xs) (.br (lenOk ys) (.br (okBoth xs ys) (.br (eqRs xs ys) (.br (lenOk xs) (.br (lenOk ys) (.br (okBoth xs ys) (.br (eqRs xs ys) (.br (!(true == true)) (.ok ((.lb false, []))) (.br (lenOk xs) (.br (okSame xs xs) (.br (lenOk ys) (.br (okSame ys ys) (.ok ((.lb true, []))) .bad) .bad) .bad) .bad)) (.br (!(false == true)) (.ok ((.lb false, []))) (.br (lenOk xs) (.br (okSame xs xs) (.br (lenOk ys) (.br (okSame ys ys) (.ok ((.lb true, []))) .bad) .bad) .bad) .bad))) .bad) .bad) .bad) (.br (lenOk xs) (.br (lenOk ys) (.br (okBoth xs ys) (.br (eqRs xs ys) (.br (!(true == false)) (.ok ((.lb false, []))) (.br (lenOk xs) (.br (okSame xs xs) (.br (lenOk ys) (.br (okSame ys ys) (.ok ((.lb true, []))) .bad) .bad) .bad) .bad)) (.br (!(false == false)) (.ok ((.lb false, []))) (.br (lenOk xs) (.br (okSame xs xs) (.br (lenOk ys) (.br (okSame ys ys) (.ok ((.lb true, []))) .bad) .bad) .bad) .bad))) .bad) .bad) .bad)) .bad) .bad) .bad)))) (.br (decide ((IntKind.wrap .i64 (1048576 - (((List.length xs : Nat) : Int))) : Int) < 0)) (.ok ((.lb true, []))) (.br (decide ((IntKind.wrap .i64 ((IntKind.wrap .i64 (1048576 - (((List.length xs : Nat) : Int)))) - (((List.length ys : Nat) : Int))) : Int) < 0)) (.br (decide (((-1) : Int) < 0)) (.ok ((.lb true, []))) (.br (lenOk xs) (.br (lenOk ys) (.br (okBoth xs ys) (.br (eqRs xs ys) (.br (lenOk xs) (.br (lenOk ys) (.br (okBoth xs ys) (.br (eqRs xs ys) (.br (!(true == true)) (.ok ((.lb false, []))) (.br (lenOk xs) (.br (okSame xs xs) (.br (lenOk ys) (.br (okSame ys ys) (.ok ((.lb true, []))) .bad) .bad) .bad) .bad)) (.br (!(false == true)) (.ok ((.lb false, []))) (.br (lenOk xs) (.br (okSame xs xs) (.br (lenOk ys) (.br (okSame ys ys) (.ok ((.lb true, []))) .bad) .bad) .bad) .bad))) .bad) .bad) .bad) (.br (lenOk xs) (.br (lenOk ys) (.br (okBoth xs ys) (.br (eqRs xs ys) (.br (!(true == false)) (.ok ((.lb false, []))) (.br (lenOk xs) (.br (okSame xs xs) (.br (lenOk ys) (.br (okSame ys ys) (.ok ((.lb true, []))) .bad) .bad) .bad) .bad)) (.br (!(false == false)) (.ok ((.lb false, []))) (.br (lenOk xs) (.br (okSame xs xs) (.br (lenOk ys) (.br (okSame ys ys) (.ok ((.lb true, []))) .bad) .bad) .bad) .bad))) .bad) .bad) .bad)) .bad) .bad) .bad)) (.br (decide ((IntKind.wrap .i64 ((IntKind.wrap .i64 (1048576 - (((List.length xs : Nat) : Int)))) - (((List.length ys : Nat) : Int))) : Int) < 0)) (.ok ((.lb true, []))) (.br (lenOk xs) (.br (lenOk ys) (.br (okBoth xs ys) (.br (eqRs xs ys) (.br (lenOk xs) (.br (lenOk ys) (.br (okBoth xs ys) (.br (eqRs xs ys) (.br (!(true == true)) (.ok ((.lb false, []))) (.br (lenOk xs) (.br (okSame xs xs) (.br (lenOk ys) (.br (okSame ys ys) (.ok ((.lb true, []))) .bad) .bad) .bad) .bad)) (.br (!(false == true)) (.ok ((.lb false, []))) (.br (lenOk xs) (.br (okSame xs xs) (.br (lenOk ys) (.br (okSame ys ys) (.ok ((.lb true, []))) .bad) .bad) .bad) .bad))) .bad) .bad) .bad) (.br (lenOk xs) (.br (lenOk ys) (.br (okBoth xs ys) (.br (eqRs xs ys) (.br (!(true == false)) (.ok ((.lb false, []))) (.br (lenOk xs) (.br (okSame xs xs) (.br (lenOk ys) (.br (okSame ys ys) (.ok ((.lb true, []))) .bad) .bad) .bad) .bad)) (.br (!(false == false)) (.ok ((.lb false, []))) (.br (lenOk xs) (.br (okSame xs xs) (.br (lenOk ys) (.br (okSame ys ys) (.ok ((.lb true, []))) .bad) .bad) .bad) .bad))) .bad) .bad) .bad)) .bad) .bad) .bad))))) :=
  (sb_c (decide ((IntKind.wrap .i64 (1048576 - (((List.length xs : Nat) : Int))) : Int) < 0)) (fun h5 => (sb_t (by decide) rfl)) (fun h5 => (sb_f h5 (sb_c (decide ((IntKind.wrap .i64 ((IntKind.wrap .i64 (1048576 - (((List.length xs : Nat) : Int)))) - (((List.length ys : Nat) : Int))) : Int) < 0)) (fun h6 => (sb_t (by decide) rfl)) (fun h6 => (sb_f h6 (sb_t (okBoth_l (okBoth_of hx hy h5 h6)) (sb_t (okBoth_r (okBoth_of hx hy h5 h6)) (sb_t (okBoth_of hx hy h5 h6) (sb_c (eqRs xs ys) (fun h7 => (sb_t (okBoth_l (okBoth_of hx hy h5 h6)) (sb_t (okBoth_r (okBoth_of hx hy h5 h6)) (sb_t (okBoth_of hx hy h5 h6) (sb_t h7 (sb_f (by simp []) (sb_t (okBoth_l (okBoth_of hx hy h5 h6)) (sb_t (okSame_self (okBoth_l (okBoth_of hx hy h5 h6))) (sb_t (okBoth_r (okBoth_of hx hy h5 h6)) (sb_t (okSame_self (okBoth_r (okBoth_of hx hy h5 h6))) rfl)))))))))) (fun h7 => (sb_t (okBoth_l (okBoth_of hx hy h5 h6)) (sb_t (okBoth_r (okBoth_of hx hy h5 h6)) (sb_t (okBoth_of hx hy h5 h6) (sb_f h7 (sb_f (by simp []) (sb_t (okBoth_l (okBoth_of hx hy h5 h6)) (sb_t (okSame_self (okBoth_l (okBoth_of hx hy h5 h6))) (sb_t (okBoth_r (okBoth_of hx hy h5 h6)) (sb_t (okSame_self (okBoth_r (okBoth_of hx hy h5 h6))) rfl))))))))))))))))))))
theorem lawFnExactSameReaches_true (xs ys : List (DR [.f .f32, .f .f32])) (hx : List.length xs ≤ 9223372036854775807) (hy : List.length ys ≤ 9223372036854775807) : saysTrue (evFn (envOf Try.prog C11) noLoops Try.f6 [.ds [.f .f32, .f .f32] xs, .ds [.f .f32, .f .f32] ys]) = true := (congrArg saysTrue (lawFnExactSameReaches_tree xs ys)).trans (says_true (lawFnExactSameReaches_says xs ys hx hy))
theorem lawFnExactSameReaches_ok : SpecOk Try.prog 6 (evFn (envOf Try.prog C11) noLoops Try.f6) := auto_ok (C11_ok) mixedO Try.func6 (by kernel_rfl)
end Go.Proofs.Ytihoaflcjkppnaa
