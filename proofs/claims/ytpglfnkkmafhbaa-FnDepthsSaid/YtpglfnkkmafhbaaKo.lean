/- The source of choices, told plainly: bytes, and numbers below a bound. Depths: what the law draws; how swift water is at its critical depth. Depths: the law. -/
import Derived.Test.YtpglfnkkmafhbaaPa
import Derived.Test.YtpglfnkkmafhbaaGo1d
import Derived.Test.YtpglfnkkmafhbaaKn
set_option linter.unusedVariables false
set_option linter.unusedSimpArgs false
set_option linter.constructorNameAsVariable false
namespace Go.Proofs.Ytpglfnkkmafhbaa
open Go.RowKit
set_option maxRecDepth 100000
/-- Bytes. -/
def bytesL (c : List Int) : Prop := c.length ≤ 1048576 ∧ ∀ x ∈ c, 0 ≤ x ∧ x ≤ 255
theorem byte_at {c : List Int} (h : bytesL c) {i : Nat} (hi : i < c.length) : 0 ≤ c.getD i 0 ∧ c.getD i 0 ≤ 255 := by
  rw [List.getD_eq_getElem?_getD, List.getElem?_eq_getElem hi]; exact h.2 _ (List.getElem_mem hi)
theorem bytes_of {c : List Int} (hl : c.length ≤ 1048576) (h : ∀ x : Int, List.Mem x c → (Lit.int .u8 x).wf = true) : bytesL c := ⟨hl, fun x hx => by
  have := h x hx
  simp only [Lit.wf, Bool.and_eq_true, decide_eq_true_eq] at this
  have e1 : IntKind.u8.min = 0 := rfl
  have e2 : IntKind.u8.max = 255 := rfl
  omega⟩
theorem iand_byte (a : Int) : 0 ≤ IntKind.wrap .i64 (iand .u64 a 255) ∧ IntKind.wrap .i64 (iand .u64 a 255) ≤ 255 := by
  unfold iand
  have h : (BitVec.ofInt IntKind.u64.bits a &&& BitVec.ofInt IntKind.u64.bits 255).toNat ≤ 255 := by
    rw [BitVec.toNat_and]
    exact Nat.le_trans Nat.and_le_right (by decide)
  generalize (BitVec.ofInt IntKind.u64.bits a &&& BitVec.ofInt IntKind.u64.bits 255).toNat = n at h
  rw [IntKind.wrap_u64, wrap_id (by omega) (by omega)]
  omega
theorem D_next {c : List Int} (hc : bytesL c) (k : Nat) (hk : k ≤ 2097152) (s : Int) : ∃ b s', sl00Src_next c k s = some (b, c, ((k + 1 : Nat) : Int), s') ∧ 0 ≤ b ∧ b ≤ 255 := by
  have hw : IntKind.wrap .i64 ((k : Int) + 1) = ((k + 1 : Nat) : Int) := by rw [wrap_id (by omega) (by omega)]; omega
  unfold sl00Src_next sl00Src_next_t
  simp only [hw, Tr.sem, show decide ((0 : Int) ≤ 40) = true from rfl, cond_true]
  by_cases h1 : k < c.length
  · obtain ⟨b0, b1⟩ := byte_at hc h1
    have hb : IntKind.wrap .i64 (c.getD k 0) = c.getD k 0 := wrap_id (by omega) (by omega)
    have h2 : decide (((k + 1 : Nat) : Int) ≤ (c.length : Int)) = true := by simp only [decide_eq_true_eq]; omega
    simp only [ltRange h1, zeroLe, Bool.and_self, cond_true, Int.toNat_natCast, h2]
    rw [hb]
    exact ⟨_, _, rfl, b0, b1⟩
  · have h0 : decide ((k : Int) < (c.length : Int)) = false := by simp only [decide_eq_false_iff_not]; omega
    have h2 : decide (((k + 1 : Nat) : Int) ≤ (c.length : Int)) = false := by simp only [decide_eq_false_iff_not]; omega
    simp only [h0, cond_false, h2]
    exact ⟨_, _, rfl, (iand_byte _).1, (iand_byte _).2⟩
/-- A number below n. -/
theorem D_pick {c : List Int} (hc : bytesL c) (n : Int) (hn : 1 ≤ n) (hn2 : n ≤ 1000000) (k : Nat) (hk : k ≤ 2097000) (s : Int) : ∃ (b : Int) (k' : Nat) (s' : Int), sl00Src_pick n c k s = some (b, c, (k' : Int), s') ∧ 0 ≤ b ∧ b < n ∧ k' ≤ k + 2 := by
  unfold sl00Src_pick sl00Src_pick_t
  by_cases h1 : n ≤ 1
  · simp only [decide_eq_true h1, Tr.sem, cond_true]
    exact ⟨0, k, s, rfl, by omega, by omega, by omega⟩
  · obtain ⟨b, s1, e1, b0, b1⟩ := D_next hc k (by omega) s
    have hne : decide (n ≠ (0 : Int)) = true := by simp only [decide_eq_true_eq]; omega
    simp only [decide_eq_false h1, Tr.sem, cond_false, e1, osome, oget, cond_true, hne]
    by_cases h2 : n > 200
    · obtain ⟨d, s2, e2, d0, d1⟩ := D_next hc (k + 1) (by omega) s1
      have hw : IntKind.wrap .i64 (b * 256) = b * 256 := wrap_id (by omega) (by omega)
      have hw2 : IntKind.wrap .i64 (b * 256 + d) = b * 256 + d := wrap_id (by omega) (by omega)
      simp only [decide_eq_true h2, e2, osome, oget, cond_true, hw, hw2]
      exact ⟨_, k + 2, s2, rfl, Int.tmod_nonneg _ (by omega), Int.tmod_lt_of_pos _ (by omega), by omega⟩
    · simp only [decide_eq_false h2, cond_false]
      exact ⟨_, k + 1, s1, rfl, Int.tmod_nonneg _ (by omega), Int.tmod_lt_of_pos _ (by omega), by omega⟩
theorem D_from (c : List Int) : sl00From c = (c, 0, 0) := rfl
/-! ### Draws -/
def dwW (i : Int) : Nat := fdiv .f32 (FloatKind.nearest .f32 (1 + i)) 1073741824
def dwB (i : Int) : Nat := fdiv .f32 (FloatKind.nearest .f32 i) 1073741824
def dwS (i : Int) : Nat := fdiv .f32 (FloatKind.nearest .f32 (1 + i)) 1149239296
def dwR (i : Int) : Nat := fdiv .f32 (FloatKind.nearest .f32 (1 + i)) 1115684864
def dwQ (i : Int) : Nat := fdiv .f32 (FloatKind.nearest .f32 (1 + i)) 1082130432
theorem tabW : ∀ i : Fin 12, isFin .f32 (dwW i.val) = true ∧ 1 / 2 ≤ rv .f32 (dwW i.val) ∧ rv .f32 (dwW i.val) ≤ 6 := by decide +kernel
theorem tabB : ∀ i : Fin 5, isFin .f32 (dwB i.val) = true ∧ (rv .f32 (dwB i.val) = 0 ∨ 1 / 2 ≤ rv .f32 (dwB i.val)) ∧ rv .f32 (dwB i.val) ≤ 2 ∧ isFin .f32 (sigW (dwB i.val)) = true ∧ 999 / 1000 ≤ rv .f32 (sigW (dwB i.val)) ∧ rv .f32 (sigW (dwB i.val)) ≤ 1 + rv .f32 (dwB i.val) + 1 / 1000 ∧ rv .f32 (dwB i.val) + 1 / 10 ≤ rv .f32 (sigW (dwB i.val)) := by decide +kernel
theorem tabS : ∀ i : Fin 16, isLen (dwS i.val) = true ∧ isFin .f32 (froot (dwS i.val)) = true ∧ 31 / 1000 ≤ rv .f32 (froot (dwS i.val)) ∧ rv .f32 (froot (dwS i.val)) ≤ 1251 / 10000 := by decide +kernel
theorem tabR : ∀ i : Fin 8, isLen (dwR i.val) = true ∧ 1 / 64 ≤ rv .f32 (dwR i.val) ∧ rv .f32 (dwR i.val) ≤ 1 / 8 := by decide +kernel
theorem tabQ : ∀ i : Fin 32, isFin .f32 (dwQ i.val) = true ∧ 1 / 4 ≤ rv .f32 (dwQ i.val) ∧ rv .f32 (dwQ i.val) ≤ 8 := by decide +kernel
theorem fin_of {n : Nat} {v : Int} (h0 : 0 ≤ v) (h1 : v < n) : ∃ i : Fin n, ((i.val : Nat) : Int) = v := ⟨⟨v.toNat, by omega⟩, by simp; omega⟩
theorem draw_ok {c : List Int} (hc : bytesL c) : ∃ w b s r W B σ ρ R, sR8Section c = some (w, b, s, r) ∧ Dr w b s r W B σ ρ R := by
  obtain ⟨v1, k1, s1, e1, a1, a2, a3⟩ := D_pick hc 12 (by omega) (by omega) 0 (by omega) 0
  obtain ⟨v2, k2, s2, e2, b1, b2, b3⟩ := D_pick hc 5 (by omega) (by omega) k1 (by omega) s1
  obtain ⟨v3, k3, s3, e3, c1, c2, c3⟩ := D_pick hc 16 (by omega) (by omega) k2 (by omega) s2
  obtain ⟨v4, k4, s4, e4, d1, d2, d3⟩ := D_pick hc 8 (by omega) (by omega) k3 (by omega) s3
  have e1' : sl00Src_pick 12 c 0 0 = some (v1, c, (k1 : Int), s1) := e1
  obtain ⟨i1, f1⟩ := fin_of (n := 12) a1 a2
  obtain ⟨i2, f2⟩ := fin_of (n := 5) b1 b2
  obtain ⟨i3, f3⟩ := fin_of (n := 16) c1 c2
  obtain ⟨i4, f4⟩ := fin_of (n := 8) d1 d2
  have t1 := tabW i1
  have t2 := tabB i2
  have t3 := tabS i3
  have t4 := tabR i4
  rw [f1] at t1
  rw [f2] at t2
  rw [f3] at t3
  rw [f4] at t4
  have w1 : IntKind.wrap .i64 (1 + v1) = 1 + v1 := wrap_id (by omega) (by omega)
  have w3 : IntKind.wrap .i64 (1 + v3) = 1 + v3 := wrap_id (by omega) (by omega)
  have w4 : IntKind.wrap .i64 (1 + v4) = 1 + v4 := wrap_id (by omega) (by omega)
  refine ⟨dwW v1, dwB v2, dwS v3, dwR v4, _, _, _, _, _, ?_, ⟨⟨t1.1, t2.1, rfl, rfl, t1.2.1, t1.2.2, t2.2.1, t2.2.2.1, t2.2.2.2.1, rfl, t2.2.2.2.2.1, t2.2.2.2.2.2.1, t2.2.2.2.2.2.2⟩, t3.1, t4.1, t3.2.1, rfl, t3.2.2.1, t3.2.2.2, rfl, t4.2.1, t4.2.2⟩⟩
  have hd : sl04DrawOk c 0 0 = some (dwW v1, dwB v2, dwS v3, dwR v4, c, (k4 : Int), s4) := by
    unfold sl04DrawOk sl04DrawOk_t
    simp only [e1', sl04DrawOk_o4, e2, sl04DrawOk_o3, e3, sl04DrawOk_o2, e4, sl04DrawOk_o1, w1, w3, w4, Tr.sem, osome, oget, cond_true, dwW, dwB, dwS, dwR]
  unfold sR8Section sR8Section_t
  simp only [D_from, hd, Tr.sem, osome, oget, cond_true]
theorem A8_at {c : List Int} (hc : bytesL c) (k : Nat) (n : Int) (hn : 2 ≤ n) (hn2 : n ≤ 1000000) : ∃ v, wr8At c k n = some v ∧ 0 ≤ v ∧ v < n := by
  unfold wr8At wr8At_t
  have hne : decide (n ≠ (0 : Int)) = true := by simp only [decide_eq_true_eq]; omega
  simp only [decide_eq_false (show ¬ n ≤ 1 by omega), Tr.sem, cond_false, hne, cond_true]
  by_cases h1 : k < c.length
  · obtain ⟨b0, b1⟩ := byte_at hc h1
    have hb : IntKind.wrap .i64 (c.getD k 0) = c.getD k 0 := wrap_id (by omega) (by omega)
    simp only [decide_eq_false (show ¬ ((k : Int) ≥ (c.length : Int)) by omega), cond_false, ltRange h1, zeroLe, Bool.and_self, cond_true, Int.toNat_natCast, hb]
    exact ⟨_, rfl, Int.tmod_nonneg _ b0, Int.tmod_lt_of_pos _ (by omega)⟩
  · simp only [decide_eq_true (show ((k : Int) ≥ (c.length : Int)) by omega), cond_true]
    exact ⟨0, rfl, by omega, by omega⟩
theorem long8 {c m : List Int} (h : wr8Long c m = false) : c.length ≤ 48 ∧ m.length ≤ 48 := by
  unfold wr8Long wr8Long_t at h
  by_cases h1 : ((c.length : Nat) : Int) > 48
  · simp [Tr.val, h1] at h
  · simp [Tr.val, h1] at h; omega
/-! ### Gaps -/
theorem fmax_rv {a b : Nat} (ha : isFin .f64 a = true) (hb : isFin .f64 b = true) : isFin .f64 (fmax .f64 a b) = true ∧ rv .f64 a ≤ rv .f64 (fmax .f64 a b) ∧ ∀ m : Rat, rv .f64 a ≤ m → rv .f64 b ≤ m → rv .f64 (fmax .f64 a b) ≤ m := by
  have ho := order_int .f64 ha hb
  unfold fmax
  rw [ho]
  rcases h : compare (sgv .f64 a) (sgv .f64 b) with _ | _ | _
  · have h1 := cmp_lt.1 h
    have h2 := (rv_le_iff .f64 a b).2 (by omega)
    exact ⟨hb, h2, fun m _ h => h⟩
  · have h1 := cmp_eq.1 h
    have h2 := (rv_le_iff .f64 a b).2 (by omega)
    unfold fmaxO
    simp only
    cases (FloatKind.f64.decode a).neg with
    | true => exact ⟨hb, h2, fun m _ h => h⟩
    | false => exact ⟨ha, Rat.le_refl, fun m h _ => h⟩
  · exact ⟨ha, Rat.le_refl, fun m h _ => h⟩
theorem gap8 {a b : Nat} (ha : isFin .f64 a = true) (hb : isFin .f64 b = true) (E e : Rat) (l1 : -E ≤ rv .f64 a - rv .f64 b) (u1 : rv .f64 a - rv .f64 b ≤ E) (hE : E ≤ 2 ^ 100) (h1 : rv .f64 a - rv .f64 b ≤ e) (h2 : rv .f64 b - rv .f64 a ≤ e) :
    isFin .f64 (wr8Gap a b) = true ∧ rv .f64 (wr8Gap a b) ≤ e + (E * (1 / 4000000000000000) + 1 / 10 ^ 40) := by
  obtain ⟨s1, s2, s3, -, -⟩ := sub_rv .f64 ha hb E l1 u1 hE
  obtain ⟨t1, t2, t3, -, -⟩ := sub_rv .f64 hb ha E (by grind) (by grind) hE
  rw [eps64] at s3 t3
  obtain ⟨m1, m2, m3⟩ := fmax_rv s1 t1
  unfold wr8Gap wr8Gap_t
  simp only [Tr.val]
  exact ⟨m1, m3 _ (by grind) (by grind)⟩
/-- A share of one and a number: a test of the laws. -/
theorem tol {c x : Nat} {t : Rat} (fc : isFin .f64 c = true) (c0 : 0 ≤ rv .f64 c) (c1 : rv .f64 c ≤ 1) (fx : isFin .f64 x = true) (x0 : 0 ≤ rv .f64 x) (x1 : rv .f64 x ≤ 10 ^ 13) (ht : t ≤ rv .f64 c) (t0 : 0 ≤ t) : isFin .f64 (fmul .f64 c (fadd .f64 4607182418800017408 x)) = true ∧ t * (1 + rv .f64 x) * (999 / 1000) - 1 / 10 ^ 30 ≤ rv .f64 (fmul .f64 c (fadd .f64 4607182418800017408 x)) := by
  obtain ⟨o1, o2, -⟩ := cst64
  have big : (10 : Rat) ^ 14 ≤ 2 ^ 100 := by decide +kernel
  obtain ⟨s1, s2, s3, -, -⟩ := add_rv .f64 o1 fx (1 + rv .f64 x) (by rw [o2]; grind) (by rw [o2]; exact Rat.le_refl) (by grind)
  rw [o2, eps64] at s2 s3
  have m := mul_rng ht c1 (show (1 + rv .f64 x) * (9999 / 10000) ≤ rv .f64 (fadd .f64 4607182418800017408 x) by grind) (show rv .f64 (fadd .f64 4607182418800017408 x) ≤ 2 * 10 ^ 13 by grind) t0 (by grind)
  have m0 := Rat.mul_nonneg c0 (show 0 ≤ rv .f64 (fadd .f64 4607182418800017408 x) by grind)
  have tx := Rat.mul_nonneg t0 (show 0 ≤ 1 + rv .f64 x by grind)
  obtain ⟨p1, p2, -, -, -⟩ := mul_rv .f64 fc s1 (rv .f64 c * rv .f64 (fadd .f64 4607182418800017408 x)) (by grind) Rat.le_refl (by grind)
  rw [eps64] at p2
  exact ⟨p1, by grind⟩
theorem fgt64_no {a c : Nat} (fa : isFin .f64 a = true) (fc : isFin .f64 c = true) (h : rv .f64 a ≤ rv .f64 c) : fgt .f64 a c = false := by
  cases hh : fgt .f64 a c with
  | false => rfl
  | true => have := (fgt_rv .f64 fa fc).1 hh; exfalso; grind
theorem flt64_no {a c : Nat} (fa : isFin .f64 a = true) (fc : isFin .f64 c = true) (h : rv .f64 c ≤ rv .f64 a) : flt .f64 a c = false := by
  cases hh : flt .f64 a c with
  | false => rfl
  | true => have := (flt_rv .f64 fa fc).1 hh; exfalso; grind
theorem consts : isFin .f64 4576918229304087675 = true ∧ 99 / 10000 ≤ rv .f64 4576918229304087675 ∧ rv .f64 4576918229304087675 ≤ 1 ∧ isFin .f64 4581421828931458171 = true ∧ 199 / 10000 ≤ rv .f64 4581421828931458171 ∧ rv .f64 4581421828931458171 ≤ 1 ∧ isFin .f64 4562254508917369340 = true ∧ 999 / 1000000 ≤ rv .f64 4562254508917369340 ∧ rv .f64 4562254508917369340 ≤ 1 / 100 ∧ isFin .f64 13800290266158863483 = true ∧ rv .f64 13800290266158863483 ≤ -(9 / 1000) ∧ isFin .f32 990057071 = true ∧ rv .f32 990057071 ≤ 3 / 1000 := by decide +kernel
/-- Two single words next to each other pass such a test. -/
theorem near_pass {c x y z : Nat} {t : Rat} (fc : isFin .f64 c = true) (c1 : rv .f64 c ≤ 1) (ht : 9 / 10000 ≤ rv .f64 c) (fx : isFin .f32 x = true) (fy : isFin .f32 y = true) (fz : isFin .f32 z = true) (x0 : 0 ≤ rv .f32 x) (x1 : rv .f32 x ≤ 10 ^ 13) (z0 : 0 ≤ rv .f32 z) (z1 : rv .f32 z ≤ 10 ^ 13)
    (hz : rv .f32 x ≤ 2 * rv .f32 z + 2) (h1 : rv .f32 x - rv .f32 y ≤ 3 / 10000 * rv .f32 x) (h2 : rv .f32 y - rv .f32 x ≤ 3 / 10000 * rv .f32 x) : isFin .f64 (wr8Gap (fup x) (fup y)) = true ∧ isFin .f64 (fmul .f64 c (fadd .f64 4607182418800017408 (fup z))) = true ∧ rv .f64 (wr8Gap (fup x) (fup y)) < rv .f64 (fmul .f64 c (fadd .f64 4607182418800017408 (fup z))) := by
  obtain ⟨u1, u2⟩ := fup_rv fx
  obtain ⟨u3, u4⟩ := fup_rv fy
  obtain ⟨u5, u6⟩ := fup_rv fz
  have big : (10 : Rat) ^ 14 ≤ 2 ^ 100 := by decide +kernel
  obtain ⟨g1, g2⟩ := gap8 u1 u3 (3 / 10000 * rv .f32 x) (3 / 10000 * rv .f32 x) (by rw [u2, u4]; grind) (by rw [u2, u4]; grind) (by grind) (by rw [u2, u4]; grind) (by rw [u2, u4]; grind)
  obtain ⟨t1, t2⟩ := tol fc (by grind) c1 u5 (by rw [u6]; exact z0) (by rw [u6]; exact z1) ht (by decide +kernel)
  rw [u6] at t2
  refine ⟨g1, t1, ?_⟩
  grind
section
variable {w b s r q C : Nat} {W B σ ρ R Dc : Rat} (h : Dr w b s r W B σ ρ R) (fq : isFin .f32 q = true) (q1 : 1 / 4 ≤ rv .f32 q) (q2 : rv .f32 q ≤ 8) (k : Cw w b s r q C W B Dc)
include h fq q1 q2 k
/-- Water at its critical depth is as swift as its waves. -/
theorem swift_ok : ∃ sw, iSwiftnessAt w b s r C q = some (sw, true) ∧ isFin .f32 sw = true ∧ 999 / 1000 ≤ rv .f32 sw ∧ rv .f32 sw ≤ 1001 / 1000 := by
  have W0 : 0 < W := by have := h.sec.W1; grind
  have Bn := h.sec.Bn
  obtain ⟨kok, kf, k1, k2, ka, kc⟩ := k
  have c0 : 0 < rv .f32 C := by grind
  obtain ⟨V, v1, v2⟩ := ka.hv
  obtain ⟨g0, g9⟩ : 9 ≤ gg ∧ gg ≤ 10 := by have := c_tab.2.1; have := c_tab.2.2.1; exact ⟨by grind, by grind⟩
  have A0 := ar_pos W0 Bn c0
  have T0 := tp_pos W0 Bn c0
  obtain ⟨p1, p2⟩ := ar_le_tp W0 Bn c0
  have hZ : ar W B (rv .f32 C) / tp W B (rv .f32 C) * tp W B (rv .f32 C) = ar W B (rv .f32 C) := Rat.div_mul_cancel (by grind)
  generalize ar W B (rv .f32 C) / tp W B (rv .f32 C) = Z at hZ
  have z1 : 2 / 100 ≤ Z := by
    refine cancel_le (c := tp W B (rv .f32 C)) ?_ T0
    have := Rat.mul_le_mul_of_nonneg_right k1 (Rat.le_of_lt T0)
    grind
  have z2 : Z ≤ 6 := by
    refine cancel_le (c := tp W B (rv .f32 C)) ?_ T0
    have := Rat.mul_le_mul_of_nonneg_right k2 (Rat.le_of_lt T0)
    grind
  have ra := area_re h.sec kf rfl (by grind) (by grind)
  have rt := top_re h.sec kf rfl (by grind) (by grind)
  obtain ⟨rs, vl, vu⟩ := speed_re h.sec kf rfl (by grind) (by grind) fq rfl q1 q2 v1
  have rg : Re 0 1092416963 gg := re_self c_tab.1
  have d1 := re_div (d := 2 / 1000000) ra rt hZ (by decide +kernel) (by decide +kernel) (by decide +kernel) (by decide +kernel) (by decide +kernel) (by grind) T0 (by right; grind) (by grind)
  have gz := mul_rng g0 g9 z1 z2 (by decide +kernel) (by decide +kernel)
  have d2 := re_mul (d := 3 / 1000000) rg d1 (by decide +kernel) (by decide +kernel) (by decide +kernel) (by decide +kernel) (by decide +kernel) (by grind) (by grind) (by right; grind) (by grind)
  obtain ⟨f1, f2, f3, f4⟩ := root_sq d2 (by decide +kernel) (by decide +kernel) (by grind) (by grind)
  -- the square of the speed
  have gZ : gg * Z * tp W B (rv .f32 C) = gg * ar W B (rv .f32 C) := by rw [← hZ]; grind
  have vv1 : V * V * (1 - 1 / 40000) ≤ gg * Z := by
    refine cancel_le (c := tp W B (rv .f32 C)) ?_ T0
    have t := Rat.mul_le_mul_of_nonneg_left kc.lo (show 0 ≤ gg by grind)
    rw [← v2, gZ]
    have e : Dc * (2 * gg) * (1 - 1 / 40000) * tp W B (rv .f32 C) = gg * (2 * Dc * tp W B (rv .f32 C) * (1 - 1 / 40000)) := by grind
    rw [e]; exact t
  have vv2 : gg * Z ≤ V * V * (1 + 1 / 40000) := by
    refine cancel_le (c := tp W B (rv .f32 C)) ?_ T0
    have t := Rat.mul_le_mul_of_nonneg_left kc.hi (show 0 ≤ gg by grind)
    rw [← v2, gZ]
    have e : Dc * (2 * gg) * (1 + 1 / 40000) * tp W B (rv .f32 C) = gg * (2 * Dc * tp W B (rv .f32 C) * (1 + 1 / 40000)) := by grind
    rw [e]; exact t
  have sl := rs.lo
  have su := rs.hi
  have rfin := rs.fin
  have d3fin := area_ok h kf (by grind) (by grind)
  have t3fin := top_ok h kf (by grind) (by grind)
  have s3fin := speed_ok h kf (by grind) (by grind) fq q1 q2
  generalize hr : froot (fmul .f32 1092416963 (fdiv .f32 (areaW w b C) (topW w b C))) = rt' at *
  have r0 : 0 < rv .f32 rt' := by
    rcases Rat.le_iff_lt_or_eq.1 f2 with g | g
    · exact g
    · exfalso; rw [← g] at f3; grind
  have w2 := mul_rng sl su sl su (by grind) (by grind)
  have up : rv .f32 (speedW w b C q) ≤ 10001 / 10000 * rv .f32 rt' := by
    refine sq_inv (by grind) ?_
    have : 10001 / 10000 * rv .f32 rt' * (10001 / 10000 * rv .f32 rt') = (10001 / 10000) * (10001 / 10000) * (rv .f32 rt' * rv .f32 rt') := by grind
    rw [this]
    have e : V * (1 + 1 / 1000000) * (V * (1 + 1 / 1000000)) = V * V * ((1 + 1 / 1000000) * (1 + 1 / 1000000)) := by grind
    rw [e] at w2
    generalize rv .f32 rt' * rv .f32 rt' = r2 at *
    generalize V * V = v2' at *
    grind
  have dn : 9999 / 10000 * rv .f32 rt' ≤ rv .f32 (speedW w b C q) := by
    refine sq_inv (by grind) ?_
    have : 9999 / 10000 * rv .f32 rt' * (9999 / 10000 * rv .f32 rt') = (9999 / 10000) * (9999 / 10000) * (rv .f32 rt' * rv .f32 rt') := by grind
    rw [this]
    have e : V * (1 - 1 / 1000000) * (V * (1 - 1 / 1000000)) = V * V * ((1 - 1 / 1000000) * (1 - 1 / 1000000)) := by grind
    rw [e] at w2
    generalize rv .f32 rt' * rv .f32 rt' = r2 at *
    generalize V * V = v2' at *
    grind
  have qx := Rat.div_mul_cancel (a := rv .f32 (speedW w b C q)) (b := rv .f32 rt') (by grind)
  generalize rv .f32 (speedW w b C q) / rv .f32 rt' = x at qx
  have x1 : x ≤ 10001 / 10000 := by refine cancel_le (c := rv .f32 rt') ?_ r0; rw [qx]; exact up
  have x2 : 9999 / 10000 ≤ x := by refine cancel_le (c := rv .f32 rt') ?_ r0; rw [qx]; exact dn
  obtain ⟨y1, y2, y3, -, -⟩ := div_rv .f32 rfin f1 r0 x 2 qx (by grind) (by grind) (by decide +kernel)
  rw [eps32] at y2 y3
  refine ⟨fdiv .f32 (speedW w b C q) rt', ?_, y1, by grind, by grind⟩
  subst hr
  unfold iSwiftnessAt iSwiftnessAt_t
  simp only [s3fin, d3fin, t3fin, ifin y1, Tr.sem, osome, oget, cond_true, Bool.not_true, cond_false]
end
def dpW (k : Int) : Nat := fadd .f32 1069547520 (fdiv .f32 (FloatKind.nearest .f32 k) 1082130432)
theorem tabD : ∀ k : Fin 8, isFin .f32 (dpW k.val) = true ∧ 3 / 2 ≤ rv .f32 (dpW k.val) ∧ rv .f32 (dpW k.val) ≤ 13 / 4 ∧ (rv .f32 (dpW k.val) ≤ 3 / 2 ∨ 7 / 4 ≤ rv .f32 (dpW k.val)) := by decide +kernel
theorem c34 : isFin .f32 1061158912 = true ∧ rv .f32 1061158912 = 3 / 4 := by decide +kernel
/-- What the law asks of one deep level. -/
theorem deep_ok {C : Nat} (fC : isFin .f32 C = true) (c1 : 4 / 100 ≤ rv .f32 C) (c2 : rv .f32 C ≤ 501 / 100) (k : Fin 8) : isFin .f32 (fmul .f32 C (dpW k.val)) = true ∧ 14999 / 10000 * rv .f32 C ≤ rv .f32 (fmul .f32 C (dpW k.val)) ∧ rv .f32 (fmul .f32 C (dpW k.val)) ≤ 32501 / 10000 * rv .f32 C ∧ (174 / 100 * rv .f32 C ≤ rv .f32 (fmul .f32 C (dpW k.val)) ∨ rv .f32 (fmul .f32 C (dpW k.val)) ≤ 15001 / 10000 * rv .f32 C) := by
  obtain ⟨f, l, u, o⟩ := tabD k
  have m1 := Rat.mul_le_mul_of_nonneg_left l (show 0 ≤ rv .f32 C by grind)
  have m2 := Rat.mul_le_mul_of_nonneg_left u (show 0 ≤ rv .f32 C by grind)
  obtain ⟨p1, p2, p3, -, -⟩ := mul_rv .f32 fC f (rv .f32 C * rv .f32 (dpW k.val)) (by grind) Rat.le_refl (by grind)
  rw [eps32] at p2 p3
  refine ⟨p1, by grind, by grind, ?_⟩
  rcases o with o | o
  · right
    have m3 := Rat.mul_le_mul_of_nonneg_left o (show 0 ≤ rv .f32 C by grind)
    grind
  · left
    have m3 := Rat.mul_le_mul_of_nonneg_left o (show 0 ≤ rv .f32 C by grind)
    grind
/-- A product of single words, as double words, passes a test. -/
theorem prod_pass {x y z : Nat} {P : Rat} (fx : isFin .f32 x = true) (fy : isFin .f32 y = true) (fz : isFin .f32 z = true) (P0 : 0 ≤ P) (P1 : P ≤ 10 ^ 12) (z1 : P * (1 - 1 / 100000) ≤ rv .f32 z) (z2 : rv .f32 z ≤ P * (1 + 1 / 100000)) (m1 : P * (1 - 1 / 100000) ≤ rv .f32 x * rv .f32 y) (m2 : rv .f32 x * rv .f32 y ≤ P * (1 + 1 / 100000)) :
    flt .f64 (wr8Gap (fmul .f64 (fup x) (fup y)) (fup z)) (fmul .f64 4562254508917369340 (fadd .f64 4607182418800017408 (fup z))) = true := by
  obtain ⟨-, -, -, -, -, -, k1, k2, k3, -⟩ := consts
  obtain ⟨u1, u2⟩ := fup_rv fx
  obtain ⟨u3, u4⟩ := fup_rv fy
  obtain ⟨u5, u6⟩ := fup_rv fz
  have big : (10 : Rat) ^ 14 ≤ 2 ^ 100 := by decide +kernel
  obtain ⟨p1, p2, p3, -, -⟩ := mul_rv .f64 u1 u3 (2 * P) (by rw [u2, u4]; grind) (by rw [u2, u4]; grind) (by grind)
  rw [u2, u4, eps64] at p2 p3
  obtain ⟨g1, g2⟩ := gap8 p1 u5 (3 / 100000 * P + 1 / 10 ^ 20) (3 / 100000 * P + 1 / 10 ^ 20) (by rw [u6]; grind) (by rw [u6]; grind) (by grind) (by rw [u6]; grind) (by rw [u6]; grind)
  obtain ⟨t1, t2⟩ := tol k1 (by grind) (by grind) u5 (by rw [u6]; grind) (by rw [u6]; grind) k2 (by decide +kernel)
  rw [u6] at t2
  exact (flt_rv .f64 g1 t1).2 (by grind)
/-- **DEPTHS.** -/
theorem pureFnDepths (x0 x1 : List Int) (h0 : List.length x0 ≤ 9223372036854775807 ∧ ∀ x : Int, List.Mem x x0 → (Lit.int .u8 x).wf = true) (h1 : List.length x1 ≤ 9223372036854775807 ∧ ∀ x : Int, List.Mem x x1 → (Lit.int .u8 x).wf = true) : wFnDepths x0 x1 = some true := by
  unfold wFnDepths
  simp only [wFnDepths_t, Tr.sem]
  cases hL : wr8Long x0 x1 with
  | true => rfl
  | false =>
  obtain ⟨la, lb⟩ := long8 hL
  have hc := bytes_of (by omega) h0.2
  have hm := bytes_of (by omega) h1.2
  obtain ⟨w, b, s, r, W, B, σ, ρ, R, e0, h⟩ := draw_ok hc
  obtain ⟨v2, a1, a2, a3⟩ := A8_at hm 0 32 (by omega) (by omega)
  obtain ⟨v8, b1, b2, b3⟩ := A8_at hm 1 8 (by omega) (by omega)
  have a1' : wr8At x1 0 32 = some v2 := a1
  have b1' : wr8At x1 1 8 = some v8 := b1
  obtain ⟨i2, f2⟩ := fin_of (n := 32) a2 a3
  obtain ⟨i8, f8⟩ := fin_of (n := 8) b2 b3
  obtain ⟨q, hq, fq, q1, q2⟩ : ∃ q, fdiv .f32 (FloatKind.nearest .f32 (IntKind.wrap .i64 (1 + v2))) 1082130432 = q ∧ isFin .f32 q = true ∧ 1 / 4 ≤ rv .f32 q ∧ rv .f32 q ≤ 8 := by
    have t := tabQ i2
    rw [f2] at t
    exact ⟨dwQ v2, by rw [wrap_id (by omega) (by omega)]; rfl, t.1, t.2.1, t.2.2⟩
  have W1 := h.sec.W1
  have W2 := h.sec.W2
  have Bn := h.sec.Bn
  have B2 := h.sec.B2
  obtain ⟨k1, k2, k3, k4, k5, k6, k7, k8, k9, k10, k11, k12, k13⟩ := consts
  -- normal and critical depths
  obtain ⟨N, n1, n2, n3, n4, n5, n6⟩ := normal_ok h fq q1 q2
  obtain ⟨C, Dc, k⟩ := cw_ok h fq q1 q2
  have kok := k.ok
  have kf := k.fin
  have c1 := k.c1
  have c2 := k.c2
  obtain ⟨fo, F, F1, F2, F3⟩ := flow_ok h n2 (by grind) (by grind)
  obtain ⟨sw, s1, s2, s3, s4⟩ := swift_ok h fq q1 q2 k
  have mild : iIsMild w b s r q = some (fgt .f32 N C, true) := by
    unfold iIsMild iIsMild_t
    simp only [n1, kok, Tr.sem, osome, oget, cond_true]
  have t1 : fgt .f64 (wr8Gap (fup (flowW w b s r N)) (fup q)) (fmul .f64 4576918229304087675 (fadd .f64 4607182418800017408 (fup q))) = false := by
    obtain ⟨g1, g2, g3⟩ := near_pass (t := 0) k1 k3 (by grind) F3.fin fq fq (by grind) (by grind) (by grind) (by grind) (by grind) (by grind) (by grind)
    exact fgt64_no g1 g2 (by grind)
  have t2 : fgt .f64 (wr8Gap (fup sw) 4607182418800017408) 4576918229304087675 = false := by
    obtain ⟨o1, o2, -⟩ := cst64
    obtain ⟨u1, u2⟩ := fup_rv s2
    obtain ⟨g1, g2⟩ := gap8 u1 o1 1 (1 / 1000) (by rw [u2, o2]; grind) (by rw [u2, o2]; grind) (by decide +kernel) (by rw [u2, o2]; grind) (by rw [u2, o2]; grind)
    exact fgt64_no g1 k1 (by grind)
  -- the deep level
  obtain ⟨d, hd, fd, d1, d2, d3⟩ : ∃ d, fmul .f32 C (fadd .f32 1069547520 (fdiv .f32 (FloatKind.nearest .f32 v8) 1082130432)) = d ∧ isFin .f32 d = true ∧ 14999 / 10000 * rv .f32 C ≤ rv .f32 d ∧ rv .f32 d ≤ 32501 / 10000 * rv .f32 C ∧ (174 / 100 * rv .f32 C ≤ rv .f32 d ∨ rv .f32 d ≤ 15001 / 10000 * rv .f32 C) := by
    have t := deep_ok kf c1 c2 i8
    rw [f8] at t
    exact ⟨fmul .f32 C (dpW v8), rfl, t⟩
  obtain ⟨sh, p1, p2, p3, p4, p5, p6, p7, p8, p9, p10, p11, p12, p13⟩ := other_ok h fq q1 q2 k fd d1 d2 d3
  have hh1 := head_ok h fd (by grind) (by grind) fq q1 q2
  have hh2 := head_ok h p2 (by grind) (by grind) fq q1 q2
  have hh3 := head_ok h kf (by grind) (by grind) fq q1 q2
  have t3 : fgt .f32 sh C = false := fgt_no p2 kf p4
  have t4 : fgt .f32 sh 990057071 = true := (fgt_rv .f32 p2 k12).2 (by grind)
  have t5 : fgt .f64 (wr8Gap (fup (headW w b d q)) (fup (headW w b sh q))) (fmul .f64 4581421828931458171 (fadd .f64 4607182418800017408 (fup (headW w b d q)))) = false := by
    obtain ⟨g1, g2, g3⟩ := near_pass (t := 0) k4 k6 (by grind) p9 p10 p9 (by grind) (by grind) (by grind) (by grind) (by grind) (by grind) (by grind)
    exact fgt64_no g1 g2 (by grind)
  have t6 : fgt .f64 (fup (headW w b C q)) (fadd .f64 (fup (headW w b d q)) 4562254508917369340) = false := by
    obtain ⟨u1, u2⟩ := fup_rv p11
    obtain ⟨u3, u4⟩ := fup_rv p9
    obtain ⟨m1, m2, -, -, -⟩ := add_rv .f64 u3 k7 2000 (by rw [u4]; grind) (by rw [u4]; grind) (by decide +kernel)
    rw [u4, eps64] at m2
    exact fgt64_no u1 m1 (by rw [u2]; grind)
  -- the jump
  obtain ⟨t, ht, ft, th1, th2⟩ : ∃ t, fmul .f32 C 1061158912 = t ∧ isFin .f32 t = true ∧ 7499 / 10000 * rv .f32 C ≤ rv .f32 t ∧ rv .f32 t ≤ 7501 / 10000 * rv .f32 C := by
    obtain ⟨u1, u2⟩ := c34
    obtain ⟨m1, m2, m3, -, -⟩ := mul_rv .f32 kf u1 (rv .f32 C * (3 / 4)) (by rw [u2]; grind) (by rw [u2]; exact Rat.le_refl) (by grind)
    rw [u2, eps32] at m2 m3
    exact ⟨_, rfl, m1, by grind, by grind⟩
  obtain ⟨bh, j1, j2, j3, j4, j5, j6, j7, j8, j9, j10, j11, j12⟩ := jump_ok h fq q1 q2 k ft th1 th2
  have hp1 := push_ok h fq q1 q2 ft (by grind) (by grind)
  have hp2 := push_ok h fq q1 q2 j2 (by grind) (by grind)
  have hh4 := head_ok h ft (by grind) (by grind) fq q1 q2
  have hh5 := head_ok h j2 (by grind) (by grind) fq q1 q2
  have tlt : flt .f32 t C = true := (flt_rv .f32 ft kf).2 (by grind)
  have loss : iJumpLoss w b s r t q = some (fsub .f32 (headW w b t q) (headW w b bh q), true) := by
    unfold iJumpLoss iJumpLoss_t
    simp only [kok, j1, tlt, hh4, hh5, ifin j11, Tr.sem, osome, oget, cond_true, cond_false, Bool.not_true]
  have t7 : flt .f32 bh C = false := flt_no j2 kf j3
  have t8 : fgt .f64 (wr8Gap (fup (pushW w b t q)) (fup (pushW w b bh q))) (fmul .f64 4581421828931458171 (fadd .f64 4607182418800017408 (fup (pushW w b t q)))) = false := by
    obtain ⟨g1, g2, g3⟩ := near_pass (t := 0) k4 k6 (by grind) j7 j8 j7 (by grind) (by grind) (by grind) (by grind) (by grind) (by grind) (by grind)
    exact fgt64_no g1 g2 (by grind)
  have t9 : flt .f64 (fup (fsub .f32 (headW w b t q) (headW w b bh q))) 13800290266158863483 = false := by
    obtain ⟨u1, u2⟩ := fup_rv j11
    exact flt64_no u1 k10 (by rw [u2]; grind)
  -- the shape at the deep level
  have ga := area_ok h fd (by grind) (by grind)
  have gw := wet_ok h fd (by grind) (by grind)
  have gm := middle_ok h fd (by grind) (by grind)
  have gt := top_ok h fd (by grind) (by grind)
  have gs := speed_ok h fd (by grind) (by grind) fq q1 q2
  obtain ⟨Z, hz⟩ := mid_ex (x := d) h (by grind) (by grind)
  obtain ⟨V, D, hv, hdd⟩ := speed_ex (x := d) h q (by grind) (by grind)
  have ra := area_re h.sec fd rfl (by grind) (by grind)
  have rw' := wet_re h.sec fd rfl (by grind) (by grind)
  have rt := top_re h.sec fd rfl (by grind) (by grind)
  obtain ⟨rm, zl, zu⟩ := mid_re h.sec fd rfl (by grind) (by grind) hz
  obtain ⟨rs, vl, vu⟩ := speed_re h.sec fd rfl (by grind) (by grind) fq rfl q1 q2 hv
  obtain ⟨x1', x2', x3', x4', x5'⟩ := ar_bd h.sec (X := rv .f32 d) (by grind) (by grind)
  obtain ⟨y1', y2', y3'⟩ := wet_bd h.sec (X := rv .f32 d) (by grind) (by grind)
  have t10 : fge .f32 (wetW w b d) (fsub .f32 (topW w b d) w) = true := by
    have l := rw'.lo
    have u := rt.hi
    have tl := rt.lo
    have s3' := Rat.mul_le_mul_of_nonneg_left h.sec.s3 (show 0 ≤ rv .f32 d by grind)
    have e2 : 2 * B * rv .f32 d = 2 * (B * rv .f32 d) := by grind
    have bd := mul_rng Bn B2 (show 0 ≤ rv .f32 d by grind) (show rv .f32 d ≤ 17 by grind) (by decide +kernel) (by decide +kernel)
    have vw := h.sec.vw
    obtain ⟨m1, m2, m3, -, -⟩ := sub_rv .f32 rt.fin h.sec.fw 100 (by rw [vw]; grind) (by rw [vw]; grind) (by decide +kernel)
    rw [vw, eps32] at m3
    exact (fge_rv .f32 rw'.fin m1).2 (by grind)
  have t11 : flt .f64 (wr8Gap (fmul .f64 (fup (midW w b d)) (fup (wetW w b d))) (fup (areaW w b d))) (fmul .f64 4562254508917369340 (fadd .f64 4607182418800017408 (fup (areaW w b d)))) = true := by
    have m := mul_rng rm.lo rm.hi rw'.lo rw'.hi (by grind) (by grind)
    have l := ra.lo
    have u := ra.hi
    have e1 : Z * (1 - 2 / 1000000) * ((W + 2 * rv .f32 d * σ) * (1 - 6 / 10000000)) = Z * (W + 2 * rv .f32 d * σ) * ((1 - 2 / 1000000) * (1 - 6 / 10000000)) := by grind
    have e2 : Z * (1 + 2 / 1000000) * ((W + 2 * rv .f32 d * σ) * (1 + 6 / 10000000)) = Z * (W + 2 * rv .f32 d * σ) * ((1 + 2 / 1000000) * (1 + 6 / 10000000)) := by grind
    rw [e1, e2, hz] at m
    exact prod_pass rm.fin rw'.fin ra.fin (P := rv .f32 d * (W + B * rv .f32 d)) (by grind) (by grind) (by grind) (by grind) (by grind) (by grind)
  have t12 : flt .f64 (wr8Gap (fmul .f64 (fup (speedW w b d q)) (fup (areaW w b d))) (fup q)) (fmul .f64 4562254508917369340 (fadd .f64 4607182418800017408 (fup q))) = true := by
    have m := mul_rng rs.lo rs.hi ra.lo ra.hi (by grind) (by grind)
    have e1 : V * (1 - 1 / 1000000) * (rv .f32 d * (W + B * rv .f32 d) * (1 - 6 / 10000000)) = V * (rv .f32 d * (W + B * rv .f32 d)) * ((1 - 1 / 1000000) * (1 - 6 / 10000000)) := by grind
    have e2 : V * (1 + 1 / 1000000) * (rv .f32 d * (W + B * rv .f32 d) * (1 + 6 / 10000000)) = V * (rv .f32 d * (W + B * rv .f32 d)) * ((1 + 1 / 1000000) * (1 + 6 / 10000000)) := by grind
    rw [e1, e2, hv] at m
    exact prod_pass rs.fin ra.fin fq (P := rv .f32 q) (by grind) (by grind) (by grind) (by grind) (by grind) (by grind)
  -- twice the normal depth
  obtain ⟨N2, hN, fN, nn1, nn2⟩ : ∃ t, fmul .f32 N 1073741824 = t ∧ isFin .f32 t = true ∧ 1999 / 1000 * rv .f32 N ≤ rv .f32 t ∧ rv .f32 t ≤ 1000 := by
    obtain ⟨-, -, -, -, -, u1, u2, -⟩ := c_tab
    obtain ⟨m1, m2, m3, -, -⟩ := mul_rv .f32 n2 u1 (rv .f32 N * 2) (by rw [u2]; grind) (by rw [u2]; exact Rat.le_refl) (by grind)
    rw [u2, eps32] at m2 m3
    exact ⟨_, rfl, m1, by grind, by grind⟩
  obtain ⟨fo2, E, E1, E2, E3⟩ := flow_ok h fN (by grind) (by grind)
  have t13 : fgt .f32 (flowW w b s r N2) (flowW w b s r N) = true := (fgt_rv .f32 E3.fin F3.fin).2 (flow_double h fN (by grind) n2 (by grind) nn1)
  simp only [e0, cond_false, osome, oget, cond_true, wFnDepths_o32, wFnDepths_o31, wFnDepths_o30, wFnDepths_o29, wFnDepths_o28, wFnDepths_o27, wFnDepths_o26, Tr.sem, a1', hq, n1, kok, fo, s1, mild, t1, t2, Bool.not_true, beq_self_eq_true, b1']
  simp only [wFnDepths_o25, wFnDepths_o24, wFnDepths_o23, wFnDepths_o22, wFnDepths_o21, Tr.sem, hq, hd, p1, hh1, hh2, hh3, t3, t4, t5, t6, osome, oget, cond_true, cond_false, Bool.not_true]
  simp only [wFnDepths_o10, wFnDepths_o9, wFnDepths_o8, wFnDepths_o7, Tr.sem, hq, ht, j1, hp1, hp2, loss, t7, t8, t9, osome, oget, cond_true, cond_false, Bool.not_true]
  simp only [wFnDepths_o6, wFnDepths_o5, wFnDepths_o4, wFnDepths_o3, wFnDepths_o2, wFnDepths_o1, Tr.sem, hq, hd, ga, gw, gm, gt, gs, hN, fo2, t10, t11, t12, t13, osome, oget, cond_true, cond_false]
end Go.Proofs.Ytpglfnkkmafhbaa
