/- Loops whose heads have several shapes. -/
import Derived.Test.YtpglfnkkmafhbaaDb
set_option linter.unusedVariables false
set_option linter.unusedSimpArgs false
set_option linter.constructorNameAsVariable false
namespace Go.Proofs.Ytpglfnkkmafhbaa
open Go.RowKit
set_option maxRecDepth 100000
/-- What a round comes to, when a loop's head may have one of some shapes. -/
noncomputable def meanH (E : Env) (L : Loops) (k : Nat) (body : Code) (H X : List XShp) (x : SumD (H.map (·.2))) : Option (SumD (H.map (·.2)) ⊕ SumD (X.map (·.2))) :=
  ((loopStep E L k body (encX H x).2.1 (encX H x).2.2).sem).bind fun q => match q.1 with
    | .normal => (decX H .normal q.2.1 q.2.2).map .inl
    | xt => (decX X xt q.2.1 q.2.2).map .inr
def stepH (H X : List XShp) (q : Xt × List V × List HB) : Option (SumD (H.map (·.2)) ⊕ SumD (X.map (·.2))) := match q.1 with
  | .normal => (decX H .normal q.2.1 q.2.2).map .inl
  | xt => (decX X xt q.2.1 q.2.2).map .inr
theorem meanH_of {E : Env} {L : Loops} {k : Nat} {body : Code} {H X : List XShp} {x : SumD (H.map (·.2))} {t : Tr (SumD (H.map (·.2)) ⊕ SumD (X.map (·.2)))} (h : (loopStep E L k body (encX H x).2.1 (encX H x).2.2).to (stepH H X) = t) : meanH E L k body H X x = t.sem := by
  rw [← h, Tr.to_sem]; rfl
theorem runH_of {E : Env} {L : Loops} {k : Nat} {body : Code} {H X : List XShp} {g : SumD (H.map (·.2)) → Option (SumD (H.map (·.2)) ⊕ SumD (X.map (·.2)))} (h : ∀ x, meanH E L k body H X x = g x) (x : SumD (H.map (·.2))) : runL g x = runL (meanH E L k body H X) x := by
  rw [show meanH E L k body H X = g from funext h]
def toldH (H X : List XShp) (run : SumD (H.map (·.2)) → Option (SumD (X.map (·.2)))) (vs : List V) (bs : List HB) : Tr (Xt × List V × List HB) := match decX H .normal vs bs with
  | some x => tellO X (run x)
  | none => .bad
section
variable {P : Program} {E : Env} {L L1 : Loops} {k : Nat} {body : Code}
theorem toldH_ok (hE : EnvOk P E) (hm : P.follows .mixedOrders = true) {H X : List XShp} {run : SumD (H.map (·.2)) → Option (SumD (X.map (·.2)))} (hn : L1.n = L.n) (hlv : L1.lv k = L.lv k) (hl : LoopsOk P E L1 body)
    (hrun : ∀ x, run x = runL (meanH E L1 k body H X) x) (hL : ∀ vs bs, L.loop k vs bs = toldH H X run vs bs) : LOk P E L k body := by
  intro vs bs out hout w0 M S0 hM β Sx a w hs Q hQ
  rw [hL] at hout
  unfold toldH at hout
  split at hout
  case h_2 => simp [Tr.sem] at hout
  rename_i x hx
  obtain ⟨y, h1, rfl⟩ := tellO_enc hout
  rw [hrun] at h1
  obtain ⟨n, hn1⟩ := runL_some h1
  obtain ⟨_, e1, e2⟩ := decX_lw hx
  rw [← hn, ← hlv] at hs hQ
  have hs1 := hs.shape e1 e2
  refine wp_loop_iter (fun n a w => ∃ x β' S', iterN (meanH E L1 k body H X) n x = some y ∧ Pin E.pin β β' ∧ Sim w0 M S0 β' S' (mkSt L1.n (L1.lv k) (encX H x).2.1 (encX H x).2.2) a w) (fun a w ⟨_, _, _, h, _⟩ => by simp [iterN] at h) (fun n a w ⟨x, β1, S1, hit, hx1, hs⟩ => ?_) n a w ⟨x, β, Sx, hn1, Pin.refl _ _, hs1⟩
  simp only [iterN] at hit
  cases hstep : meanH E L1 k body H X x with
  | none => rw [hstep] at hit; simp at hit
  | some r =>
    rw [hstep] at hit
    unfold meanH at hstep
    obtain ⟨⟨xt0, vs0, bs0⟩, g1, g2⟩ := bind_some hstep
    unfold loopStep at g1
    rw [Tr.sem_bind] at g1
    obtain ⟨⟨xt, st1⟩, h1, h2⟩ := bind_some g1
    cases hn1 : Nat.beq st1.n L1.n with
    | false => simp [hn1, Tr.sem] at h2
    | true =>
      simp only [hn1, cond_true] at h2
      have hn2 := Nat.eq_of_beq_eq_true hn1
      rw [Tr.sem_bind] at h2
      obtain ⟨⟨vs1, ids, bs1⟩, h3, h4⟩ := bind_some h2
      simp only [Tr.sem, Option.some.injEq, Prod.mk.injEq] at h4
      obtain ⟨rfl, rfl, rfl⟩ := h4
      obtain ⟨_, f1⟩ := ev_sound (L := L1) hm hE hM body _ _ hl (good_mk _ _ _ _) h1
      refine f1 β1 S1 a w hs _ fun β' S2 a' w' hx hs' => ?_
      obtain ⟨β2, S3, hs2, hp⟩ := cut_sim hM hs' h3
      have hx2 : Pin E.pin β β2 := (hx1.trans hx).trans fun id hid p e => by rw [hp id hid]; exact e
      simp only at hs2
      rw [hn2] at hs2
      have done : (decX X xt vs1 bs1).map Sum.inr = some r → Q xt.conc a' w' := fun hz => by
        obtain ⟨z', h5, rfl⟩ := map_some hz
        simp only [Option.some.injEq] at hit
        subst hit
        obtain ⟨d1, d2, d3⟩ := decX_lw h5
        have := Xt.beq_eq d1
        rw [← this]
        exact hQ β2 S3 a' w' hx2 (hs2.shape d2 d3)
      cases xt with
      | normal =>
        simp only at g2
        obtain ⟨s', h5, rfl⟩ := map_some g2
        obtain ⟨_, d1, d2⟩ := decX_lw h5
        exact ⟨s', β2, S3, hit, hx2, hs2.shape d1 d2⟩
      | exit id => exact done g2
      | ret => exact done g2
end
end Go.Proofs.Ytpglfnkkmafhbaa
