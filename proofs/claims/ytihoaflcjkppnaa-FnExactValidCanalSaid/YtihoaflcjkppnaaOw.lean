/- Rows of floats of a call's own. -/
import Derived.Test.YtihoaflcjkppnaaSl
import Derived.Test.YtihoaflcjkppnaaRg
import Derived.Deep.Slices
import Derived.Lib.SmallJoins
set_option linter.unusedVariables false
set_option linter.unusedSimpArgs false
namespace Go.Proofs.Ytihoaflcjkppnaa
open Go.RowKit

def F32 (r : Nat) : Value := .float .f32 r
def FlAll : List Nat → List Nat → Prop
  | [], [] => True
  | r :: rs, c :: cs => Fl .f32 r c ∧ FlAll rs cs
  | _, _ => False
theorem FlAll.len : ∀ {rs cs : List Nat}, FlAll rs cs → rs.length = cs.length
  | [], [], _ => rfl
  | [], _ :: _, h => h.elim
  | _ :: _, [], h => h.elim
  | _ :: rs, _ :: cs, h => by simp [FlAll.len h.2]
theorem FlAll.at : ∀ {rs cs : List Nat}, FlAll rs cs → ∀ j, j < cs.length → Fl .f32 (rs.getD j 0) (cs.getD j 0)
  | [], [], _, j, hj => absurd hj (by simp)
  | [], _ :: _, h, _, _ => h.elim
  | _ :: _, [], h, _, _ => h.elim
  | _ :: rs, _ :: cs, h, 0, _ => h.1
  | _ :: rs, _ :: cs, h, j + 1, hj => by
    have := FlAll.at h.2 j (by simpa using hj)
    simpa using this
theorem FlAll.of : ∀ {rs cs : List Nat}, rs.length = cs.length → (∀ j, j < cs.length → Fl .f32 (rs.getD j 0) (cs.getD j 0)) → FlAll rs cs
  | [], [], _, _ => trivial
  | [], _ :: _, h, _ => by simp at h
  | _ :: _, [], h, _ => by simp at h
  | r :: rs, c :: cs, h, hj => ⟨by simpa using hj 0 (by simp), FlAll.of (by simpa using h) fun j hlt => by simpa using hj (j + 1) (by simpa using hlt)⟩
theorem FlAll.snoc : ∀ {rs cs : List Nat} {r c : Nat}, FlAll rs cs → Fl .f32 r c → FlAll (rs ++ [r]) (cs ++ [c])
  | [], [], _, _, _, h => ⟨h, trivial⟩
  | [], _ :: _, _, _, h, _ => h.elim
  | _ :: _, [], _, _, h, _ => h.elim
  | _ :: rs, _ :: cs, _, _, h, h' => ⟨h.1, FlAll.snoc h.2 h'⟩

/-- A slice value of the call's own that holds floats with these canonical words. -/
def OwnF (w : World) (base : Nat) (v : Value) (cs : List Nat) : Prop := ∃ rs : List Nat, FlAll rs cs ∧ w.ownsRow base 22 1 v cs.length (rs.map F32)
theorem grown_of_below {w w1 : World} (h : Below w.heap.size w w1) (row : Option Nat) : w.grownBy w1 row := ⟨h.os, h.tape, h.output, h.size, fun i hi _ => h.block i hi⟩
theorem below_of_grown {w w1 : World} (h : w.grownBy w1 none) : Below w.heap.size w w1 := ⟨h.os, h.tape, h.output, h.size, fun i hi => h.block i hi (by simp)⟩
theorem OwnF.grow {w w' : World} {base : Nat} {v : Value} {cs : List Nat} (h : OwnF w base v cs) (hb : Below w.heap.size w w') : OwnF w' base v cs := by
  obtain ⟨rs, h1, h2⟩ := h
  exact ⟨rs, h1, h2.kept (grown_of_below hb none) (by cases v.ownBlock <;> simp)⟩
theorem OwnF.base_le {w : World} {base base' : Nat} {v : Value} {cs : List Nat} (h : OwnF w base v cs) (hb : base' ≤ base) : OwnF w base' v cs := by
  obtain ⟨rs, h1, hl, h2⟩ := h
  refine ⟨rs, h1, hl, ?_⟩
  rcases h2 with h2 | ⟨g, cap, cur, e, hg, rest⟩
  · exact .inl h2
  · exact .inr ⟨g, cap, cur, e, Nat.le_trans hb hg, rest⟩
theorem OwnF.form {w : World} {base : Nat} {v : Value} {cs : List Nat} (h : OwnF w base v cs) : ∃ A c, v = .slice A cs.length c ∧ RdF w A cs.length cs := by
  obtain ⟨rs, hf, hl, h2⟩ := h
  rcases h2 with ⟨rfl, h0⟩ | ⟨g, cap, cur, rfl, hg, hh, hn, hm, hs, ht⟩
  · exact ⟨none, 0, by rw [h0], rfl, by omega, .inl h0⟩
  · refine ⟨_, cap, rfl, rfl, by unfold maxLen at hm; omega, .inr ⟨g, 0, rfl, fun i hi => ⟨rs.getD i 0, ?_, hf.at i hi⟩⟩⟩
    rw [Nat.zero_add, cell_of_row w g i cur _ (0, 0) hh]
    have e1 : (rs.map F32)[i]? = some (F32 (rs.getD i 0)) := by
      have : i < rs.length := by rw [hf.len]; exact hi
      simp [List.getElem?_eq_getElem this, List.getD_eq_getElem?_getD]
    rw [← ht, List.getElem?_take] at e1
    split at e1
    · rw [Array.getElem?_toList] at e1; exact e1
    · cases e1
theorem OwnF.rd {w : World} {base : Nat} {A : Option Addr} {n c : Nat} {cs : List Nat} (h : OwnF w base (.slice A n c) cs) (hn : n = cs.length) : RdF w A n cs := by
  obtain ⟨A', c', e, hr⟩ := h.form
  cases e
  exact hr
/-- The same, said of the blocks that a call has laid behind the B old ones. -/
def OwnE (B : Nat) (e : Array Obj) (v : Value) (cs : List Nat) : Prop := ∃ rs : List Nat, FlAll rs cs ∧ rs.length = cs.length ∧
  ((v = .slice none 0 0 ∧ cs.length = 0) ∨ ∃ i cap cur, v = .slice (some ⟨B + i, 0, none⟩) cs.length cap ∧ e[i]? = some (.cells cur 22 (0, 0)) ∧ cs.length ≤ cap ∧ cap ≤ maxLen ∧ cur.size = cap * 1 ∧ cur.toList.take (cs.length * 1) = rs.map F32)
theorem OwnF.toE {w : World} {d : Nat} {e : Array Obj} {v : Value} {cs : List Nat} (h : OwnF (World.plus w d e) w.heap.size v cs) : OwnE w.heap.size e v cs := by
  obtain ⟨rs, hf, hl, h2⟩ := h
  refine ⟨rs, hf, hf.len, ?_⟩
  rcases h2 with ⟨h2, h3⟩ | ⟨g, cap, cur, rfl, hg, hh, hn, hm, hs, ht⟩
  · exact .inl ⟨h2, h3⟩
  · refine .inr ⟨g - w.heap.size, cap, cur, by rw [show w.heap.size + (g - w.heap.size) = g from by omega], ?_, hn, hm, hs, ht⟩
    rw [← hh]
    show _ = (w.heap ++ e)[g]?
    rw [Array.getElem?_append_right hg]
theorem own_of {B : Nat} {e : Array Obj} {v : Value} {cs : List Nat} (h : OwnE B e v cs) {W : World} (hW : W.heap.size = B) (d : Nat) : OwnF (World.plus W d e) W.heap.size v cs := by
  obtain ⟨rs, hf, hl, h2⟩ := h
  refine ⟨rs, hf, by simp [hl], ?_⟩
  rcases h2 with ⟨h2, h3⟩ | ⟨i, cap, cur, rfl, hh, hn, hm, hs, ht⟩
  · exact .inl ⟨h2, h3⟩
  · refine .inr ⟨B + i, cap, cur, rfl, by omega, ?_, hn, hm, hs, ht⟩
    rw [← hh]
    show (W.heap ++ e)[B + i]? = _
    rw [Array.getElem?_append_right (by omega)]
    congr 1; omega
theorem OwnE.left {B : Nat} {e : Array Obj} {v : Value} {cs : List Nat} (h : OwnE B e v cs) (e' : Array Obj) : OwnE B (e ++ e') v cs := by
  obtain ⟨rs, hf, hl, h2⟩ := h
  refine ⟨rs, hf, hl, ?_⟩
  rcases h2 with h2 | ⟨i, cap, cur, rfl, hh, rest⟩
  · exact .inl h2
  · exact .inr ⟨i, cap, cur, rfl, by rw [Array.getElem?_append_left (Array.getElem?_eq_some_iff.1 hh).1]; exact hh, rest⟩
theorem OwnE.right {B B' : Nat} {e' : Array Obj} {e : Array Obj} {v : Value} {cs : List Nat} (h : OwnE B' e v cs) (hB : B' = B + e'.size) : OwnE B (e' ++ e) v cs := by
  obtain ⟨rs, hf, hl, h2⟩ := h
  refine ⟨rs, hf, hl, ?_⟩
  rcases h2 with h2 | ⟨i, cap, cur, rfl, hh, rest⟩
  · exact .inl h2
  · exact .inr ⟨e'.size + i, cap, cur, by rw [hB, Nat.add_assoc], by rw [Array.getElem?_append_right (by omega), show e'.size + i - e'.size = i from by omega]; exact hh, rest⟩
theorem made_floats (n : Nat) : (madeCells (Value.cells (.float .f32 0)) (n * 1)).toList = (List.replicate n 0).map F32 := by
  simp [madeCells, Value.cells, F32]
  exact List.ext_getElem (by simp) (fun i h1 h2 => by simp [Nat.mod_one])
/-- A store into a row of the call's own. -/
theorem own_set {w : World} {base e g n cap : Nat} {xs : List Value} (h : w.ownsRow base e 1 (.slice (some ⟨g, 0, none⟩) n cap) n xs) {k : Nat} (hk : k < n) (x : Value) :
    (w.setCell ⟨g, k, none⟩ x).ownsRow base e 1 (.slice (some ⟨g, 0, none⟩) n cap) n (xs.set k x) := by
  obtain ⟨hl, h2⟩ := h
  refine ⟨by simp [hl], ?_⟩
  rcases h2 with ⟨h2, _⟩ | ⟨g', cap', cur, he, hg, hh, hn, hm, hs, ht⟩
  · cases h2
  · cases he
    refine .inr ⟨g, cap, cur.setIfInBounds k x, rfl, hg, ?_, hn, hm, by simpa using hs, ?_⟩
    · unfold World.setCell
      simp only [Array.getElem?_modify]
      simp [hh]
    · rw [← ht]
      simp [List.take_set]
theorem own_cell {w : World} {base e g n cap : Nat} {xs : List Value} (h : w.ownsRow base e 1 (.slice (some ⟨g, 0, none⟩) n cap) n xs) {k : Nat} (hk : k < n) :
    (∃ u, w.cell? ⟨g, k, none⟩ = some u) ∧ w.frozen? ⟨g, k, none⟩ = false := by
  obtain ⟨hl, h2⟩ := h
  rcases h2 with ⟨h2, _⟩ | ⟨g', cap', cur, he, hg, hh, hn, hm, hs, ht⟩
  · cases h2
  · cases he
    refine ⟨?_, by simp [World.frozen?, hh]⟩
    rw [cell_of_row w g k cur _ (0, 0) hh]
    exact ⟨_, Array.getElem?_eq_getElem (by omega)⟩
theorem map_set (rs : List Nat) (k r : Nat) : (rs.map F32).set k (.float .f32 r) = (rs.set k r).map F32 := by
  rw [List.map_set]; rfl
/-- A slice of its own is handed back. -/
def BOw (w : World) (n : Nat) (cs : List Nat) : Ending → World → Prop := fun e w' => ∃ A c, e = .returned (.slice A n c) ∧ n = cs.length ∧ OwnF w' w.heap.size (.slice A n c) cs ∧ Below w.heap.size w w'
theorem info_f32 : (Try.prog.info? 22).map (fun i => (i.zero, i.size, i.bytes)) = some (some (.float .f32 0), 1, 4) := by kernel_rfl
set_option maxRecDepth 100000 in
set_option maxHeartbeats 2000000 in
theorem toFloat32S_c {w : World} {A : Option Addr} {n c : Nat} {cs : List Nat} (h : RdF w A n cs) (hsz : n * 4 ≤ 140737488351232) : Calls Try.prog 67 #[.slice A n c] w (BOw w n cs) := by
  obtain ⟨i0, hi, hz0, hz1, hz2⟩ := info_parts info_f32
  obtain ⟨hl, hm, h⟩ := h
  have hHC : Hid (∀ i, i < n → ∃ b o, b < w.heap.size ∧ A = some ⟨b, o, none⟩ ∧ ∃ r, w.cell? ⟨b, o + i, none⟩ = some (.float .f32 r) ∧ Fl .f32 r (cs.getD i 0)) := fun i hi => by
    rcases h with h | ⟨b, o, rfl, hc⟩
    · omega
    · obtain ⟨r, hr, hf⟩ := hc i hi
      exact ⟨b, o, World.block_lt_of_cell? w _ hr, rfl, r, hr, hf⟩
  have HL := Lib.hid hl; clear hl
  have HI := Lib.hid hi; clear hi
  have HZ := Lib.hid hz0; clear hz0
  have H1 := Lib.hid hz1; clear hz1
  have H2 := Lib.hid hz2; clear hz2
  rcases h with rfl | ⟨b, o, rfl, hc⟩
  · clear hHC
    go_enter Try.func67, Try.ntmps67
    go_wp2_with (at_make; refine wpList_make_full _ rfl _ _ _ rfl w.heap.size 22 i0 _ 1 Try.underlying43 HI.out HZ.out H1.out _ _ _ _ 0 rfl rfl rfl rfl (by rw [H2.out]; omega) (by unfold maxLen; omega) (by simp) ?_; intro w1 hown hgr; rw [made_floats] at hown; have HO := Lib.hid hown; clear hown; have HB := Lib.hid (below_of_grown hgr); clear hgr)
    go_loopw [4] (fun i wr => i = .int .i64 0 ∧ wr = w1) (fun i _ => 0 - (intOf i).toNat)
    case atStart => exact ⟨rfl, rfl⟩
    case round =>
      obtain ⟨rfl, rfl⟩ := hrel
      go_wp2
      go_ret
      exact ⟨_, _, rfl, HL.out.symm, ⟨[], by rw [List.eq_nil_of_length_eq_zero HL.out]; trivial, by rw [HL.out]; exact HO.out⟩, HB.out⟩
  · clear hc
    go_enter Try.func67, Try.ntmps67
    go_wp2_with (at_make; refine wpList_make_full _ rfl _ _ _ rfl w.heap.size 22 i0 _ 1 Try.underlying43 HI.out HZ.out H1.out _ _ _ _ n rfl rfl rfl rfl (by rw [H2.out]; omega) (by unfold maxLen; omega) (by simp) ?_; intro w1 hown hgr; rw [made_floats] at hown; have HO := Lib.hid hown; clear hown; have HB := Lib.hid (below_of_grown hgr); clear hgr)
    go_loopw [4] (fun i wr => ∃ (k : Nat) (rs : List Nat), k ≤ n ∧ i = .int .i64 k ∧ Hid (rs.length = n) ∧ Hid (wr.ownsRow w.heap.size 22 1 (.slice (some ⟨w.heap.size, 0, none⟩) n n) n (rs.map F32)) ∧ Hid (∀ j, j < k → Fl .f32 (rs.getD j 0) (cs.getD j 0)) ∧ Hid (Below w.heap.size w wr)) (fun i _ => n - (intOf i).toNat)
    case atStart => exact ⟨0, List.replicate n 0, Nat.zero_le _, rfl, by simp [Hid], HO, fun j hj => absurd hj (by omega), HB⟩
    case round =>
      obtain ⟨k, rs, hk, rfl, HR, HO', HP, HB'⟩ := hrel
      by_cases hlt : k < n
      · obtain ⟨b', o', hbl, e, r, hcell, hf⟩ := hHC.out k hlt
        cases e
        have hcell' : wr.cell? ⟨b, o + k, none⟩ = some (.float .f32 r) := (HB'.out.cell (p := ⟨b, o + k, none⟩) hbl).trans hcell
        obtain ⟨⟨u, hu⟩, hfz⟩ := own_cell HO'.out hlt
        clear hcell
        go_wp2
        refine ⟨⟨k + 1, rs.set k r, by omega, by go_num, by simpa [Hid] using HR.out, ?_, ?_, ?_⟩, by simp [intOf]; omega⟩
        · have := own_set HO'.out hlt (.float .f32 r)
          rw [map_set] at this
          exact this
        · intro j hj
          rcases Nat.lt_succ_iff_lt_or_eq.1 hj with h | rfl
          · have := HP.out j h
            rwa [List.getD_eq_getElem?_getD, List.getElem?_set_ne (by omega), ← List.getD_eq_getElem?_getD]
          · rw [List.getD_eq_getElem?_getD, List.getElem?_set_self (by rw [HR.out]; exact hlt)]
            exact hf
        · exact HB'.out.setCell (by simp) _
      · go_wp2
        go_ret
        obtain rfl : k = n := by omega
        exact ⟨_, _, rfl, HL.out.symm, ⟨rs, FlAll.of (by rw [HR.out, HL.out]) (fun j hj => HP.out j (by rw [← HL.out]; exact hj)), by rw [HL.out]; exact HO'.out⟩, HB'.out⟩
/-- A lake of its own is handed back. -/
def BLk (w : World) (n m : Nat) (cs ds : List Nat) : Ending → World → Prop := fun e w' => ∃ A c B d, e = .returned (.agg #[.slice A n c, .slice B m d]) ∧ OwnF w' w.heap.size (.slice A n c) cs ∧ OwnF w' w.heap.size (.slice B m d) ds ∧ RdF w' A n cs ∧ RdF w' B m ds ∧ Below w.heap.size w w'
theorem BLk.mk {w w' : World} {n m : Nat} {cs ds : List Nat} {A B : Option Addr} {c d : Nat} (h1 : OwnF w' w.heap.size (.slice A n c) cs) (h2 : OwnF w' w.heap.size (.slice B m d) ds) (hn : cs.length = n) (hm : ds.length = m) (hb : Below w.heap.size w w') :
    BLk w n m cs ds (.returned (.agg #[.slice A n c, .slice B m d])) w' := ⟨A, c, B, d, rfl, h1, h2, h1.rd hn.symm, h2.rd hm.symm, hb⟩
theorem below_ext {w : World} {d d' : Nat} {e e' e'' : Array Obj} (h : e'' = e ++ e') : Below (World.plus w d e).heap.size (World.plus w d e) (World.plus w d' e'') := by
  subst h; exact below_app _ _ _ _ _
/-- A slice of floats that came in is read. -/
theorem rd_of_trod {H : Type} {enc : TypeId × Value → H} {P : Program} {w : World} {base : Nat} {spare : Nat → Bool} {held : Bool} {fuel : Nat} {t e : TypeId} {v : Value} {x : DataW H × List MemPlace}
    (ht : P.underlying t = some (.slice e)) (he : P.underlying e = some (.float .f32)) (hc : P.cellsOf e = 1) (h : DataW.trod enc P w base spare held fuel t [v] = some x) : ∃ A n c cs, v = .slice A n c ∧ RdF w A n cs := by
  rcases Go.Deep.open_slice1 ht hc h with ⟨h0, _⟩ | ⟨a, len, cap, m, n, V, D, Pl, hv, hb, hl, hm, hmm, hx, hV⟩
  · cases h0
    exact ⟨none, 0, 0, [], rfl, rfl, by omega, .inl rfl⟩
  · cases hv
    have hlm : len ≤ m := by rw [hmm]; split <;> omega
    have hF : ∀ i, i < len → ∃ b, V i = .float .f32 b ∧ Fl .f32 b (cn .f32 b) := fun i hi => by
      obtain ⟨b, h1, h2⟩ := trod_float he (hV i (by omega)).2
      exact ⟨b, by simpa using h1, h2⟩
    refine ⟨some a, len, cap, (List.range len).map fun i => match V i with | .float _ b => cn .f32 b | _ => 0, rfl, by simp, by unfold maxLen at hm; omega, ?_⟩
    rcases Nat.eq_zero_or_pos len with h0 | h0
    · exact .inl h0
    · obtain ⟨b, o, sp⟩ := a
      have hc0 := (hV 0 (by omega)).1
      have hsp : sp = none := by
        cases sp with
        | none => rfl
        | some k => simp [Addr.add, World.cell?] at hc0; split at hc0 <;> simp at hc0
      subst hsp
      refine .inr ⟨b, o, rfl, fun i hi => ?_⟩
      obtain ⟨r, h1, h2⟩ := hF i hi
      refine ⟨r, ?_, ?_⟩
      · have := (hV i (by omega)).1
        rw [h1] at this
        rw [← this]
        congr 1
        unfold Addr.add
        split
        · rename_i h; subst h; rfl
        · rfl
      · simp [List.getD_eq_getElem?_getD, hi, h1]
        exact h2
/-- A canal of its own is handed back. -/
def BCa (w : World) (x y z n m : Nat) (cs ds : List Nat) : Ending → World → Prop := fun e w' => ∃ A c B d, e = .returned (.agg #[.float .f32 x, .float .f32 y, .float .f32 z, .slice A n c, .slice B m d]) ∧ OwnF w' w.heap.size (.slice A n c) cs ∧ OwnF w' w.heap.size (.slice B m d) ds ∧ RdF w' A n cs ∧ RdF w' B m ds ∧ Below w.heap.size w w'
theorem BCa.mk {w w' : World} {x y z n m : Nat} {cs ds : List Nat} {A B : Option Addr} {c d : Nat} (h1 : OwnF w' w.heap.size (.slice A n c) cs) (h2 : OwnF w' w.heap.size (.slice B m d) ds) (hn : cs.length = n) (hm : ds.length = m) (hb : Below w.heap.size w w') :
    BCa w x y z n m cs ds (.returned (.agg #[.float .f32 x, .float .f32 y, .float .f32 z, .slice A n c, .slice B m d])) w' := ⟨A, c, B, d, rfl, h1, h2, h1.rd hn.symm, h2.rd hm.symm, hb⟩
section
open Go.Joins Go.Deep Go.WideShapes
variable {H : Type} {enc : TypeId × Value → H} {P : Program} {w : World} {base : Nat} {spare : Nat → Bool} {held : Bool}
theorem array5 {α : Type} {cs : Array α} (h : cs.size = 5) : ∃ c0 c1 c2 c3 c4, cs = #[c0, c1, c2, c3, c4] := by
  obtain ⟨l⟩ := cs
  match l, h with
  | [c0, c1, c2, c3, c4], _ => exact ⟨c0, c1, c2, c3, c4, rfl⟩
theorem open_agg5 {r : Go.Reach} {b0 : Nat} {t : TypeId} {f0 f1 f2 f3 f4 : Field} {v : Value} {d : DataW H} {p : List MemPlace} (hs : P.underlying t = some (.struct #[f0, f1, f2, f3, f4])) (hone : oneCellFields P #[f0, f1, f2, f3, f4] = true) (hC : P.cellsOf t = 5)
    (hv : Value.okWide P w r b0 t v) (h : DataW.Trod enc P w base spare held t v d p) :
    ∃ (v0 v1 v2 v3 v4 : Value) (y0 y1 y2 y3 y4 : DataW H × List MemPlace) (n : Nat), v = .agg #[v0, v1, v2, v3, v4] ∧ d = .agg [y0.1, y1.1, y2.1, y3.1, y4.1] ∧ p = y0.2 ++ (y1.2 ++ (y2.2 ++ (y3.2 ++ y4.2))) ∧
      DataW.trod enc P w base spare held n f0.type [v0] = some y0 ∧ DataW.trod enc P w base spare held n f1.type [v1] = some y1 ∧ DataW.trod enc P w base spare held n f2.type [v2] = some y2 ∧ DataW.trod enc P w base spare held n f3.type [v3] = some y3 ∧ DataW.trod enc P w base spare held n f4.type [v4] = some y4 := by
  obtain ⟨cs, rfl, hsz⟩ := okWide_struct hs hv
  obtain ⟨c0, c1, c2, c3, c4, rfl⟩ := array5 (hsz.trans hC)
  obtain ⟨fuel, hf⟩ := h
  obtain ⟨xs, n, _, hx, hl, hlen, hf⟩ := DataW.trod_struct hs hf
  match xs, hlen with
  | [y0, y1, y2, y3, y4], _ =>
    obtain ⟨o0, k0⟩ := hone_of hone 0 f0 rfl
    obtain ⟨o1, k1⟩ := hone_of hone 1 f1 rfl
    obtain ⟨o2, k2⟩ := hone_of hone 2 f2 rfl
    obtain ⟨o3, k3⟩ := hone_of hone 3 f3 rfl
    obtain ⟨o4, k4⟩ := hone_of hone 4 f4 rfl
    have e0 := hf 0 f0 rfl
    have e1 := hf 1 f1 rfl
    have e2 := hf 2 f2 rfl
    have e3 := hf 3 f3 rfl
    have e4 := hf 4 f4 rfl
    simp only [Prod.mk.injEq] at hx
    exact ⟨c0, c1, c2, c3, c4, y0, y1, y2, y3, y4, n, rfl, by simpa using hx.1, by simpa using hx.2, by simpa [Value.cells, o0, k0] using e0, by simpa [Value.cells, o1, k1] using e1, by simpa [Value.cells, o2, k2] using e2, by simpa [Value.cells, o3, k3] using e3, by simpa [Value.cells, o4, k4] using e4⟩
end
end Go.Proofs.Ytihoaflcjkppnaa
