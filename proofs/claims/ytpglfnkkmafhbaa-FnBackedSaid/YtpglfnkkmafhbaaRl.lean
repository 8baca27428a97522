/- The walk's rules for floats: an arithmetic operation leaves a word that is known up to a not-a-number's bits; a comparison parts the walk. -/
import Derived.Test.YtpglfnkkmafhbaaFl
import Derived.Laws.Externs
import Derived.WalkSpells
import Derived.WalkSmall
set_option linter.unusedVariables false
set_option linter.unusedSimpArgs false
namespace Go.Proofs.Ytpglfnkkmafhbaa
open Go.RowKit

/-! ### Conversions -/
theorem up_num (s : Bool) (m : Nat) (e : Int) (x : Nat) (h : FloatKind.f32.format.read x = .number s m e) : ((FloatKind.f64.decode (FloatKind.f64.encode (.number s m e))).isInfinity) = false := by
  have hm : m < 2 ^ 24 ∧ (-149 ≤ e ∧ e ≤ 104) := by
    unfold FloatKind.format Ieee.Format.read at h
    simp only [show Ieee.single.signWeight = 2147483648 from by decide +kernel, show Ieee.single.binade = 8388608 from by decide +kernel, show Ieee.single.infRung = 2139095040 from by decide +kernel, show Ieee.single.leastPlace = -149 from by decide +kernel] at h
    split at h
    · injection h with h1 h2 h3; omega
    · split at h
      · injection h with h1 h2 h3; omega
      · split at h <;> cases h
  unfold FloatKind.encode FloatKind.decode FloatKind.format
  have hi := Ieee.double.infRung_lt
  unfold Ieee.Format.write Ieee.Format.nearest
  simp only
  split
  · have e1 : Ieee.double.word s 0 % Ieee.double.signWeight = 0 := by cases s <;> decide +kernel
    unfold Ieee.Format.read
    simp only [e1]
    rw [if_pos (by decide +kernel)]; rfl
  · rename_i hm0
    generalize hl : max (e + m.log2 - Ieee.double.fractionBits) Ieee.double.leastPlace = last
    generalize hk : Ieee.Toward.even.cut s (m <<< (e - last).toNat) (last - e).toNat = kept
    have hlog : m.log2 < 24 := (Nat.log2_lt hm0).2 hm.1
    have hf : (Ieee.double.fractionBits : Int) = 52 := by decide
    have hlp : Ieee.double.leastPlace = -1074 := by decide +kernel
    have hle : last ≤ e := by rw [← hl, hf, hlp]; omega
    have hd : (last - e).toNat = 0 := by omega
    have hkept : kept = m <<< (e - last).toNat := by
      rw [← hk, hd]
      unfold Ieee.Toward.cut
      simp [Nat.mod_one]
    have hbin : Ieee.double.binade = 4503599627370496 := by decide +kernel
    have hinf : Ieee.double.infRung = 9218868437227405312 := by decide +kernel
    have hsw : Ieee.double.signWeight = 9223372036854775808 := by decide +kernel
    have hk2 : kept < 2 * Ieee.double.binade := by
      rw [hkept, Nat.shiftLeft_eq]
      have h1 : m < 2 ^ (m.log2 + 1) := Nat.lt_log2_self
      have h2 : m.log2 + 1 + (e - last).toNat ≤ 53 := by rw [← hl, hf, hlp] ; omega
      calc m * 2 ^ (e - last).toNat < 2 ^ (m.log2 + 1) * 2 ^ (e - last).toNat := Nat.mul_lt_mul_of_pos_right h1 (Nat.two_pow_pos _)
        _ = 2 ^ (m.log2 + 1 + (e - last).toNat) := (Nat.pow_add ..).symm
        _ ≤ 2 ^ 53 := Nat.pow_le_pow_right (by omega) h2
        _ = 2 * Ieee.double.binade := by rw [hbin]
    have hlast : (last - Ieee.double.leastPlace).toNat ≤ 1200 := by rw [hlp, ← hl, hf, hlp]; omega
    have hg : (last - Ieee.double.leastPlace).toNat * Ieee.double.binade + kept < Ieee.double.infRung := by
      have : (last - Ieee.double.leastPlace).toNat * Ieee.double.binade ≤ 1200 * Ieee.double.binade := Nat.mul_le_mul_right _ hlast
      rw [hbin] at *
      rw [hinf]; omega
    rw [Nat.min_eq_left (Nat.le_of_lt hg)]
    generalize (last - Ieee.double.leastPlace).toNat * Ieee.double.binade + kept = g at hg
    have e1 : Ieee.double.word s g % Ieee.double.signWeight = g := by
      unfold Ieee.Format.word; split
      · rw [Nat.add_mod_left]; exact Nat.mod_eq_of_lt (by omega)
      · exact Nat.mod_eq_of_lt (by omega)
    unfold Ieee.Format.read
    simp only [e1]
    split
    · rfl
    · first | rfl | (rw [if_pos hg]; rfl)

/-- A 32-bit word as a 64-bit one. -/
def fup (x : Nat) : Nat := if isN .f32 x then nanOf .f64 else FloatKind.f64.encode (FloatKind.f32.decode x)
/-- A 64-bit word narrowed. -/
def fdown (x : Nat) : Nat := if isN .f64 x then nanOf .f32 else FloatKind.f32.encode (FloatKind.f64.decode x)
/-- A finite 64-bit number that is too great for 32 bits: the language leaves open what narrowing gives. -/
def fover (x : Nat) : Bool := match FloatKind.f64.decode x with
  | .number s m e => (FloatKind.f32.decode (FloatKind.f32.encode (.number s m e))).isInfinity
  | _ => false
theorem encode_num (k : FloatKind) (d : Ieee.Datum) (h : d.isNaN = false) : isN k (k.encode d) = false := write_num k.format d h
theorem encode_fl (k : FloatKind) (d : Ieee.Datum) (h : d.isNaN = false) : Fl k (k.encode d) (k.encode d) := ⟨cn_num (encode_num k d h), k.format.write_lt d⟩
theorem fup_cn (x : Nat) : fup (cn .f32 x) = fup x := by
  unfold fup
  cases h : isN .f32 x with
  | true => rw [isN_cn, h]; rfl
  | false => rw [isN_cn, h, cn_num h]
theorem fdown_cn (x : Nat) : fdown (cn .f64 x) = fdown x := by
  unfold fdown
  cases h : isN .f64 x with
  | true => rw [isN_cn, h]; rfl
  | false => rw [isN_cn, h, cn_num h]
theorem nan_decode {k : FloatKind} {x : Nat} (h : isN k x = true) : ∃ s t, k.decode x = .nan s t := read_nan_of h
theorem fover_cn (x : Nat) : fover (cn .f64 x) = fover x := by
  cases h : isN .f64 x with
  | false => rw [cn_num h]
  | true =>
    obtain ⟨s, t, e⟩ := nan_decode h
    obtain ⟨s', t', e'⟩ := nan_decode (k := .f64) (x := cn .f64 x) (by rw [isN_cn, h])
    unfold fover
    rw [e, e']

section
variable {P : Program} (w : World)
theorem run_conv_ff (src dst : TypeId) (s k : FloatKind) (x : Nat) (hs : (P.underlying src).isSome = true) (hd : P.underlying dst = some (.float k)) :
    (convert src dst (.float s x)).run P w = (Conv.floatToFloat s x k).run P w := by
  obtain ⟨u, hs'⟩ := Option.isSome_iff_exists.1 hs
  cases u <;> simp [convert, run_underlying hs', run_underlying hd]
theorem run_same (src dst : TypeId) (k : FloatKind) (x : Nat) (hs : (P.underlying src).isSome = true) (hd : P.underlying dst = some (.float k)) :
    (convert src dst (.float k x)).run P w = .ok (.float k x) w := by
  rw [run_conv_ff w src dst k k x hs hd]
  simp [Conv.floatToFloat]
theorem run_up (src dst : TypeId) (x : Nat) (hs : (P.underlying src).isSome = true) (hd : P.underlying dst = some (.float .f64)) :
    ∃ r n, (convert src dst (.float .f32 x)).run P w = .ok (.float .f64 r) (w.drewN n) ∧ Fl .f64 r (fup (cn .f32 x)) := by
  rw [run_conv_ff w src dst .f32 .f64 x hs hd, fup_cn]
  unfold Conv.floatToFloat fup
  rw [if_neg (by decide)]
  cases h : FloatKind.f32.decode x with
  | nan s t =>
    have hn : isN .f32 x = true := by unfold isN; show (FloatKind.f32.decode x).isNaN = true; rw [h]; rfl
    refine ⟨(Question.nanConv .f64 x).cut (w.tape w.drawn (.nanConv .f64 x)), 1, ?_, ?_⟩
    · simp [Sem.run, choose, Question.forced]; rfl
    · rw [if_pos hn]; exact ⟨cn_nan (isN_cutConv ..), cutConv_lt ..⟩
  | infinity s =>
    have hn : isN .f32 x = false := by unfold isN; show (FloatKind.f32.decode x).isNaN = false; rw [h]; rfl
    exact ⟨_, 0, rfl, by rw [if_neg (by rw [hn]; decide)]; exact encode_fl .f64 _ rfl⟩
  | number s m e =>
    have hn : isN .f32 x = false := by unfold isN; show (FloatKind.f32.decode x).isNaN = false; rw [h]; rfl
    refine ⟨_, 0, ?_, by rw [if_neg (by rw [hn]; decide)]; exact encode_fl .f64 _ rfl⟩
    simp only []
    rw [if_neg (by rw [up_num s m e x h]; decide)]
    rfl
theorem run_down (src dst : TypeId) (x : Nat) (hs : (P.underlying src).isSome = true) (hd : P.underlying dst = some (.float .f32)) :
    ∃ r n, (convert src dst (.float .f64 x)).run P w = .ok (.float .f32 r) (w.drewN n) ∧ r < 2 ^ FloatKind.f32.format.width ∧ (fover (cn .f64 x) = false → Fl .f32 r (fdown (cn .f64 x))) := by
  rw [run_conv_ff w src dst .f64 .f32 x hs hd, fdown_cn, fover_cn]
  unfold Conv.floatToFloat fdown fover
  rw [if_neg (by decide)]
  cases h : FloatKind.f64.decode x with
  | nan s t =>
    have hn : isN .f64 x = true := by unfold isN; show (FloatKind.f64.decode x).isNaN = true; rw [h]; rfl
    refine ⟨(Question.nanConv .f32 x).cut (w.tape w.drawn (.nanConv .f32 x)), 1, ?_, cutConv_lt .., fun _ => ?_⟩
    · simp [Sem.run, choose, Question.forced]; rfl
    · rw [if_pos hn]; exact ⟨cn_nan (isN_cutConv ..), cutConv_lt ..⟩
  | infinity s =>
    have hn : isN .f64 x = false := by unfold isN; show (FloatKind.f64.decode x).isNaN = false; rw [h]; rfl
    exact ⟨_, 0, rfl, (encode_fl .f32 (.infinity s) rfl).lt, fun _ => by rw [if_neg (by rw [hn]; decide)]; exact encode_fl .f32 _ rfl⟩
  | number s m e =>
    have hn : isN .f64 x = false := by unfold isN; show (FloatKind.f64.decode x).isNaN = false; rw [h]; rfl
    simp only []
    cases ho : (FloatKind.f32.decode (FloatKind.f32.encode (.number s m e))).isInfinity with
    | false => exact ⟨_, 0, rfl, (encode_fl .f32 (.number s m e) rfl).lt, fun _ => by rw [if_neg (by rw [hn]; decide)]; exact encode_fl .f32 _ rfl⟩
    | true =>
      refine ⟨(Question.floatToFloat x).cut (w.tape w.drawn (.floatToFloat x)), 1, ?_, Nat.mod_lt _ (by decide), fun h => by cases h⟩
      simp [Sem.run, choose, Question.forced]; rfl
end

/-! ### Negation -/
def fneg (k : FloatKind) (x : Nat) : Nat := cn k (Op.negFloat k x)
theorem xor_top (n b : Nat) : (b ^^^ 2 ^ n) % 2 ^ n = b % 2 ^ n := by
  rw [Nat.xor_mod_two_pow, Nat.mod_self, Nat.xor_zero]
theorem isN_neg (k : FloatKind) (x : Nat) : isN k (Op.negFloat k x) = isN k x := by
  have e : Op.negFloat k x % k.format.signWeight = x % k.format.signWeight := xor_top _ x
  unfold isN Ieee.Format.read
  simp only [e]
  split
  · rfl
  · split
    · rfl
    · split <;> rfl
theorem fneg_cn (k : FloatKind) (x : Nat) : fneg k (cn k x) = fneg k x := by
  cases h : isN k x with
  | false => rw [cn_num h]
  | true =>
    unfold fneg
    rw [cn_nan (show isN k (Op.negFloat k (cn k x)) = true from by rw [isN_neg, isN_cn, h]), cn_nan (show isN k (Op.negFloat k x) = true from by rw [isN_neg, h])]
theorem neg_lt (k : FloatKind) (x : Nat) (h : x < 2 ^ k.format.width) : Op.negFloat k x < 2 ^ k.format.width := by
  refine Nat.xor_lt_two_pow h ?_
  exact Nat.pow_lt_pow_right (by omega) (by unfold Ieee.Format.width; omega)
theorem fl_neg {k : FloatKind} {x c : Nat} (h : Fl k x c) : Fl k (Op.negFloat k x) (fneg k c) := ⟨by rw [← h.out, fneg_cn]; rfl, neg_lt k x h.lt⟩

theorem fl_lit {k : FloatKind} {c : Nat} (h : (!isN k c && decide (c < 2 ^ k.format.width)) = true) : Fl k c c := by
  simp only [Bool.and_eq_true, Bool.not_eq_true', decide_eq_true_eq] at h
  exact ⟨cn_num h.1, h.2⟩
/-! ### The walk's rules -/
def fopC (k : FloatKind) : BinOp → Option (Nat → Nat → Nat)
  | .add => some (fadd k)
  | .sub => some (fsub k)
  | .mul => some (fmul k)
  | .quo => some (fdiv k)
  | _ => none

def fcmp (k : FloatKind) : BinOp → Option (Nat → Nat → Bool)
  | .lss => some (flt k)
  | .leq => some (fle k)
  | .gtr => some (fgt k)
  | .geq => some (fge k)
  | .eql => some (feq k)
  | .neq => some (fun x y => !feq k x y)
  | _ => none

section
variable {P : Program} {ops : Array Oper} {rest : List Oper} {o : Oper} {a : Act} {w : World} {Q : Exit → Act → World → Prop}
theorem exec_bin_float (op : BinOp) (t ty : TypeId) (x y : Operand) (ho : o.op = .binOp op t x y ty) (k : FloatKind) (u v : Nat) (hx : a.eval x = .float k u) (hy : a.eval y = .float k v) (w : World) :
    (execOp a.eval o).run P w = ((binOp op t (.float k u) (.float k v)).run P w).andThen fun z w' => .ok (.value z) w' := by
  unfold execOp
  rw [ho]
  simp only [hx, hy]
  cases op <;> simp [eqGuard]
/-- An operation that yields a value: what is known of it. -/
theorem wpList_val (hg : Region.wanted o (yielded ops a.tmps) = true) (v : Value) (w' : World) (hr : (execOp a.eval o).run P w = .ok (.value v) w') (h : wpList P ops Q rest (a.put o.dst v) w') : wpList P ops Q (o :: rest) a w := by
  unfold wpList
  rw [if_pos hg]
  refine .inl ?_
  unfold Oper.wp
  rw [hr]
  exact h
theorem wpList_farith (hg : Region.wanted o (yielded ops a.tmps) = true) (op : BinOp) (t ty : TypeId) (x y : Operand) (ho : o.op = .binOp op t x y ty) (hop : isArith op = true) (k : FloatKind) (u v : Nat)
    (hx : a.eval x = .float k u) (hy : a.eval y = .float k v) (g : Nat → Nat → Nat) (hfg : fopC k op = some g) (h : ∀ r n, (∀ cu cv, Fl k u cu → Fl k v cv → Fl k r (g cu cv)) → wpList P ops Q rest (a.put o.dst (.float k r)) (w.drewN n)) : wpList P ops Q (o :: rest) a w := by
  obtain ⟨r, n, hr, hf⟩ := run_farith (P := P) w op hop t k u v
  refine wpList_val hg _ _ (by rw [exec_bin_float op t ty x y ho k u v hx hy w, hr]; rfl) (h r n fun cu cv hu hv => ?_)
  have e : fop k op = g := by cases op <;> first | (cases hop; done) | (injection hfg)
  rw [← e, ← hu.out, ← hv.out]; exact hf
theorem wpList_fcmp (hg : Region.wanted o (yielded ops a.tmps) = true) (op : BinOp) (t ty : TypeId) (x y : Operand) (ho : o.op = .binOp op t x y ty) (k : FloatKind) (u v : Nat)
    (hx : a.eval x = .float k u) (hy : a.eval y = .float k v) (p : Nat → Nat → Bool) (hp : fcmp k op = some p)
    (h : ∀ b, (∀ cu cv, Fl k u cu → Fl k v cv → p cu cv = b) → wpList P ops Q rest (a.put o.dst (.bool b)) w) : wpList P ops Q (o :: rest) a w := by
  have e : (binOp op t (.float k u) (.float k v)).run P w = .ok (.bool (p (cn k u) (cn k v))) w := by
    cases op <;> simp only [fcmp] at hp <;> first | (cases hp; done) | skip
    all_goals
      cases hp
      simp [binOp, Op.floatCmp, flt, fle, fgt, fge, feq, bne, order_cn]
  exact wpList_val hg _ _ (by rw [exec_bin_float op t ty x y ho k u v hx hy w, e]; rfl) (h _ fun cu cv hu hv => by rw [← hu.out, ← hv.out])
theorem exec_conv (src dst : TypeId) (x : Operand) (ho : o.op = .convert src dst x) (v : Value) (hx : a.eval x = v) (w : World) :
    (execOp a.eval o).run P w = ((convert src dst v).run P w).andThen fun z w' => .ok (.value z) w' := by
  unfold execOp
  rw [ho]
  simp [hx]
theorem wpList_up (hg : Region.wanted o (yielded ops a.tmps) = true) (src dst : TypeId) (x : Operand) (ho : o.op = .convert src dst x) (u : Nat) (hx : a.eval x = .float .f32 u)
    (hs : (P.underlying src).isSome = true) (hd : P.underlying dst = some (.float .f64)) (h : ∀ r n, (∀ cu, Fl .f32 u cu → Fl .f64 r (fup cu)) → wpList P ops Q rest (a.put o.dst (.float .f64 r)) (w.drewN n)) : wpList P ops Q (o :: rest) a w := by
  obtain ⟨r, n, hr, hf⟩ := run_up (P := P) w src dst u hs hd
  exact wpList_val hg _ _ (by rw [exec_conv src dst x ho _ hx w, hr]; rfl) (h r n fun cu hu => by rw [← hu.out]; exact hf)
theorem wpList_down (hg : Region.wanted o (yielded ops a.tmps) = true) (src dst : TypeId) (x : Operand) (ho : o.op = .convert src dst x) (u : Nat) (hx : a.eval x = .float .f64 u)
    (hs : (P.underlying src).isSome = true) (hd : P.underlying dst = some (.float .f32)) (h : ∀ r n c', Fl .f32 r c' → (∀ cu, Fl .f64 u cu → fover cu = false → c' = fdown cu) → wpList P ops Q rest (a.put o.dst (.float .f32 r)) (w.drewN n)) : wpList P ops Q (o :: rest) a w := by
  obtain ⟨r, n, hr, hlt, hf⟩ := run_down (P := P) w src dst u hs hd
  exact wpList_val hg _ _ (by rw [exec_conv src dst x ho _ hx w, hr]; rfl) (h r n (cn .f32 r) ⟨rfl, hlt⟩ fun cu hu hov => (hf (by rw [hu.out]; exact hov)).out.trans (by rw [hu.out]))
theorem wpList_fneg (hg : Region.wanted o (yielded ops a.tmps) = true) (t : TypeId) (x : Operand) (ho : o.op = .unOp .neg t x) (k : FloatKind) (u : Nat) (hx : a.eval x = .float k u)
    (h : ∀ r, (∀ cu, Fl k u cu → Fl k r (fneg k cu)) → wpList P ops Q rest (a.put o.dst (.float k r)) w) : wpList P ops Q (o :: rest) a w :=
  wpList_val hg (.float k (Op.negFloat k u)) w (by unfold execOp; rw [ho]; simp [hx, Op.unary]) (h _ fun cu hu => fl_neg hu)
theorem wpList_fint (hg : Region.wanted o (yielded ops a.tmps) = true) (src dst : TypeId) (x : Operand) (ho : o.op = .convert src dst x) (q : IntKind) (z : Int) (hx : a.eval x = .int q z) (k : FloatKind)
    (hs : (P.underlying src).isSome = true) (hd : P.underlying dst = some (.float k)) (h : wpList P ops Q rest (a.put o.dst (.float k (k.nearest z))) w) : wpList P ops Q (o :: rest) a w := by
  refine wpList_val hg _ _ ?_ h
  obtain ⟨s, hs'⟩ := Option.isSome_iff_exists.mp hs
  rw [exec_conv src dst x ho _ hx w]
  cases s <;> simp [convert, run_underlying hs', run_underlying hd, Conv.intToFloat]
theorem wpList_fsame (hg : Region.wanted o (yielded ops a.tmps) = true) (src dst : TypeId) (x : Operand) (ho : o.op = .convert src dst x) (k : FloatKind) (u : Nat) (hx : a.eval x = .float k u)
    (hs : (P.underlying src).isSome = true) (hd : P.underlying dst = some (.float k)) (h : wpList P ops Q rest (a.put o.dst (.float k u)) w) : wpList P ops Q (o :: rest) a w :=
  wpList_val hg _ _ (by rw [exec_conv src dst x ho _ hx w, run_same w src dst k u hs hd]; rfl) h
/-- A function without a body, carried out in place. -/
theorem wpList_ext (hg : Region.wanted o (yielded ops a.tmps) = true) (f : FuncId) (y : Operand) (ats : Array TypeId) (ho : o.op = .call { callee := .value (.func f), args := #[y], argTypes := ats })
    (x : Value) (hx : a.eval y = x) {S : Value → Prop} (hr : ∀ w : World, ∃ v n, (callFunc f #[x]).run P w = .ok (.value v) (w.drewN n) ∧ S v)
    (h : ∀ v n, S v → wpList P ops Q rest (a.put o.dst v) (w.drewN n)) : wpList P ops Q (o :: rest) a w := by
  obtain ⟨v, n, e, hs⟩ := hr w
  refine wpList_val hg v (w.drewN n) ?_ (h v n hs)
  obtain ⟨dst, op, type, pos, after, guard⟩ := o
  subst ho
  rw [execOp_call_go]
  simpa [hx] using e
end

/-! ### A world with more blocks behind -/
/-- 'w' with the blocks 'e' behind its own, 'd' draws having been made in all. -/
def World.plus (w : World) (d : Nat) (e : Array Obj) : World := { w with heap := w.heap ++ e, drawn := d }
theorem to_plus {w w' : World} (h : Below w.heap.size w w') : ∃ d e, w' = World.plus w d e := by
  refine ⟨w'.drawn, w'.heap.extract w.heap.size w'.heap.size, ?_⟩
  have e1 : w'.heap = w.heap ++ w'.heap.extract w.heap.size w'.heap.size := by
    apply Array.ext
    · have := h.size
      simp; omega
    · intro i h1 h2
      have hs := h.size
      by_cases hi : i < w.heap.size
      · rw [Array.getElem_append_left hi]
        have := h.block i hi
        rw [Array.getElem?_eq_getElem h1, Array.getElem?_eq_getElem hi] at this
        injection this
      · rw [Array.getElem_append_right (by omega)]
        simp only [Array.getElem_extract]
        congr 1; omega
  obtain ⟨h1, h2, h3, h4, h5⟩ := h
  obtain ⟨heap, tape, drawn, os, output⟩ := w
  obtain ⟨heap', tape', drawn', os', output'⟩ := w'
  simp only at *
  subst h1; subst h2; subst h3
  unfold World.plus
  simp only
  rw [← e1]
section
variable (w : World) (d : Nat) (e : Array Obj)
@[go_sem, simp] theorem size_plus : (World.plus w d e).heap.size = w.heap.size + e.size := by simp [World.plus]
@[go_sem] theorem plus_plus (d' : Nat) (e' : Array Obj) : World.plus (World.plus w d e) d' e' = World.plus w d' (e ++ e') := by simp [World.plus, Array.append_assoc]
@[go_sem] theorem drewN_plus (n : Nat) : World.plus (w.drewN n) d e = World.plus w d e := rfl
@[go_sem] theorem drew_plus : World.plus w.drew d e = World.plus w d e := rfl
@[go_sem] theorem plus_drewN (n : Nat) : (World.plus w d e).drewN n = World.plus w (d + n) e := rfl
@[go_sem] theorem plus_drew : (World.plus w d e).drew = World.plus w (d + 1) e := rfl
theorem plus_block (k : Nat) (h : k < w.heap.size) : (World.plus w d e).heap[k]? = w.heap[k]? := by
  show (w.heap ++ e)[k]? = w.heap[k]?
  rw [Array.getElem?_append_left h]
@[go_sem] theorem plus_cell (b o : Nat) (h : b < w.heap.size) : (World.plus w d e).cell? ⟨b, o, none⟩ = w.cell? ⟨b, o, none⟩ := World.cell?_of_block (w := w) (plus_block w d e b h)
@[go_sem] theorem plus_frozen (b o : Nat) (h : b < w.heap.size) : (World.plus w d e).frozen? ⟨b, o, none⟩ = w.frozen? ⟨b, o, none⟩ := World.frozen?_of_block (w := w) (plus_block w d e b h)
end
theorem below_app (w : World) (d d' : Nat) (e e' : Array Obj) : Below (World.plus w d e).heap.size (World.plus w d e) (World.plus w d' (e ++ e')) := by
  rw [← plus_plus w d e d' e']
  exact ⟨rfl, rfl, rfl, by simp only [size_plus]; omega, fun k hk => plus_block _ _ _ k hk⟩
theorem below_dr (w : World) (d d' : Nat) (e : Array Obj) : Below (World.plus w d e).heap.size (World.plus w d e) (World.plus w d' e) := ⟨rfl, rfl, rfl, Nat.le_refl _, fun _ _ => rfl⟩
@[go_sem] theorem plus_setCell (w : World) (d : Nat) (e : Array Obj) (b o : Nat) (v : Value) (h : b < w.heap.size) : (World.plus w d e).setCell ⟨b, o, none⟩ v = World.plus (w.setCell ⟨b, o, none⟩ v) d e := by
  unfold World.setCell World.plus
  simp only [World.mk.injEq, and_true, true_and]
  apply Array.ext_getElem?
  intro i
  simp only [Array.getElem?_modify, Array.getElem?_append, Array.size_modify]
  by_cases h1 : b = i
  · subst h1; simp [h]
  · simp [h1]
@[go_sem] theorem lt_add_of {x y z : Nat} (h : x < y) : (x < y + z) = True := eq_true (by omega)
@[go_sem] theorem ne_add_of {x y z : Nat} (h : x < y) : (x = y + z) = False := eq_false (by omega)
@[go_sem] theorem add_ne_of {x y z : Nat} (h : x < y) : (y + z = x) = False := eq_false (by omega)
theorem below_plus {B : Nat} {w W : World} (h : Below B w W) (hB : B ≤ W.heap.size) (d : Nat) (e : Array Obj) : Below B w (World.plus W d e) :=
  ⟨h.os, h.tape, h.output, Nat.le_trans h.size (by rw [size_plus]; omega), fun k hk => (plus_block W d e k (by omega)).trans (h.block k hk)⟩

/-! ### What a call comes to -/
/-- A bool; some draws. -/
def RB (w : World) (B : Bool) : Ending → World → Prop := fun e w' => ∃ b, B = b ∧ e = .returned (.bool b) ∧ ∃ n, w' = w.drewN n
theorem RB.mk {w : World} {B b : Bool} {n : Nat} (h : B = b) : RB w B (.returned (.bool b)) (w.drewN n) := ⟨b, h, rfl, n, rfl⟩
theorem RB.mk0 {w : World} {B b : Bool} (h : B = b) : RB w B (.returned (.bool b)) w := ⟨b, h, rfl, 0, rfl⟩
/-- A value; some draws. -/
def RV (w : World) (v : Value) : Ending → World → Prop := fun e w' => e = .returned v ∧ ∃ n, w' = w.drewN n
theorem RV.mk {w : World} {v v' : Value} {n : Nat} (h : v = v') : RV w v (.returned v') (w.drewN n) := ⟨by rw [h], n, rfl⟩
theorem RV.mk0 {w : World} {v v' : Value} (h : v = v') : RV w v (.returned v') w := ⟨by rw [h], 0, rfl⟩
/-- A float; some draws. -/
def RF (k : FloatKind) (w : World) (c : Nat) : Ending → World → Prop := fun e w' => ∃ r, Fl k r c ∧ e = .returned (.float k r) ∧ ∃ n, w' = w.drewN n
theorem RF.mk {k : FloatKind} {w : World} {c r n : Nat} (h : Fl k r c) : RF k w c (.returned (.float k r)) (w.drewN n) := ⟨r, h, rfl, n, rfl⟩
theorem RF.mk0 {k : FloatKind} {w : World} {c r : Nat} (h : Fl k r c) : RF k w c (.returned (.float k r)) w := ⟨r, h, rfl, 0, rfl⟩
/-- A float and a bool; some draws. -/
def RFB (k : FloatKind) (w : World) (c : Nat × Bool) : Ending → World → Prop := fun e w' => ∃ r b, Fl k r c.1 ∧ c.2 = b ∧ e = .returned (.tuple #[.float k r, .bool b]) ∧ ∃ n, w' = w.drewN n
theorem RFB.mk {k : FloatKind} {w : World} {c : Nat × Bool} {d r n : Nat} {b : Bool} (h : Fl k r d) (hc : c = (d, b)) : RFB k w c (.returned (.tuple #[.float k r, .bool b])) (w.drewN n) := by subst hc; exact ⟨r, b, h, rfl, rfl, n, rfl⟩
theorem RFB.mk0 {k : FloatKind} {w : World} {c : Nat × Bool} {d r : Nat} {b : Bool} (h : Fl k r d) (hc : c = (d, b)) : RFB k w c (.returned (.tuple #[.float k r, .bool b])) w := by subst hc; exact ⟨r, b, h, rfl, rfl, 0, rfl⟩
/-- A bool; nothing that was there has changed. -/
def BB (w : World) (B : Bool) : Ending → World → Prop := fun e w' => ∃ b, B = b ∧ e = .returned (.bool b) ∧ Below w.heap.size w w'
theorem BB.mk {w w' : World} {B b : Bool} (h : B = b) (hb : Below w.heap.size w w') : BB w B (.returned (.bool b)) w' := ⟨b, h, rfl, hb⟩
def BFB (k : FloatKind) (w : World) (c : Nat × Bool) : Ending → World → Prop := fun e w' => ∃ r b, Fl k r c.1 ∧ c.2 = b ∧ e = .returned (.tuple #[.float k r, .bool b]) ∧ Below w.heap.size w w'
theorem BFB.mk {k : FloatKind} {w w' : World} {c : Nat × Bool} {d r : Nat} {b : Bool} (h : Fl k r d) (hc : c = (d, b)) (hb : Below w.heap.size w w') : BFB k w c (.returned (.tuple #[.float k r, .bool b])) w' := by subst hc; exact ⟨r, b, h, rfl, rfl, hb⟩

/-- A value; nothing that was there has changed. -/
def BV (w : World) (v : Value) : Ending → World → Prop := fun e w' => e = .returned v ∧ Below w.heap.size w w'
theorem BV.mk {w w' : World} {v v' : Value} (h : v = v') (hb : Below w.heap.size w w') : BV w v (.returned v') w' := ⟨by rw [h], hb⟩
theorem below_on {B : Nat} {w W w1 : World} (h : Below B w W) (k : Below W.heap.size W w1) (hB : B ≤ W.heap.size) : Below B w w1 := h.trans (k.mono hB)
/-- Old cells and marks read as before. -/
theorem bcell {W w1 : World} (hb : Below W.heap.size W w1) : (∀ b o, b < W.heap.size → w1.cell? ⟨b, o, none⟩ = W.cell? ⟨b, o, none⟩) ∧ (∀ b o, b < W.heap.size → w1.frozen? ⟨b, o, none⟩ = W.frozen? ⟨b, o, none⟩) :=
  ⟨fun b o h => hb.cell (p := ⟨b, o, none⟩) h, fun b o h => hb.frozen (p := ⟨b, o, none⟩) h⟩
theorem Below.draws {B : Nat} {w w' : World} (h : Below B w w') (n : Nat) : Below B w (w'.drewN n) := ⟨h.os, h.tape, h.output, h.size, h.block⟩

/-! ### Arguments that are read -/
theorem trod_float {H : Type} {enc : TypeId × Value → H} {P : Program} {w : World} {base : Nat} {spare : Nat → Bool} {held : Bool} {fuel : Nat} {t : TypeId} {cs : List Value} {x : DataW H × List MemPlace} {k : FloatKind}
    (ht : P.underlying t = some (.float k)) (h : DataW.trod enc P w base spare held fuel t cs = some x) : ∃ b, cs = [.float k b] ∧ Fl k b (cn k b) := by
  cases fuel with
  | zero => simp [DataW.trod] at h
  | succ n =>
    unfold DataW.trod at h
    rw [ht] at h
    split at h <;> simp_all
    rename_i k' bb hk
    refine ⟨rfl, ?_⟩
    obtain ⟨⟨_, hw⟩, _⟩ := h
    subst hk
    cases k with
    | f32 => have h2 : bb < 4294967296 := by simpa [Lit.wf, FloatKind.has] using hw
             exact h2
    | f64 => have h2 : bb < 18446744073709551616 := by simpa [Lit.wf, FloatKind.has] using hw
             exact h2
end Go.Proofs.Ytpglfnkkmafhbaa
