/- Shapes: abstract values with holes, for what comes in and what goes out. No condition. -/
import Derived.Test.YtpglfnkkmafhbaaEa
set_option linter.unusedVariables false
set_option linter.unusedSimpArgs false
set_option linter.constructorNameAsVariable false
namespace Go.Proofs.Ytpglfnkkmafhbaa
open Go.RowKit

def natEq (a b : Nat) : Bool := decide (a = b)
theorem natEq_self (a : Nat) : natEq a a = true := by simp [natEq]

--BEGIN
/-- An abstract value with holes. -/
inductive Sh where
  | h
  | undef | nils | nilp | nilf
  | lb (q : Bool)
  | agg (l : List Sh)
  | tup (l : List Sh)
  | ref (id off : Nat)
  | slw (id st : Nat)
  | dpt (l : List Sh) (off : Nat)
  | fn (g : FuncId) (l : List Sh)
mutual
/-- What stands in the holes. -/
def Sh.get : Sh → V → Option (List V)
  | .h, v => some [v]
  | .undef, _ => some []
  | .nils, .nils => some []
  | .nilp, .nilp => some []
  | .nilf, .nilf => some []
  | .lb q, .lb q' => bif q == q' then some [] else none
  | .agg l, .agg vs => Sh.getL l vs
  | .tup l, .tup vs => Sh.getL l vs
  | .ref id off, .ref id' off' => bif Nat.beq id id' && Nat.beq off off' then some [] else none
  | .slw id st, .slw id' st' => bif Nat.beq id id' && Nat.beq st st' then some [] else none
  | .dpt l off, .dpt vs off' => bif Nat.beq off off' then Sh.getL l vs else none
  | .fn g l, .fn g' vs => bif Nat.beq g g' then Sh.getL l vs else none
  | _, _ => none
def Sh.getL : List Sh → List V → Option (List V)
  | [], [] => some []
  | s :: l, v :: vs => (s.get v).bind fun a => (Sh.getL l vs).bind fun b => some (a ++ b)
  | _, _ => none
end
mutual
/-- The holes filled; what is left over. -/
def Sh.put : Sh → List V → V × List V
  | .h, v :: r => (v, r)
  | .h, [] => (.undef, [])
  | .undef, r => (.undef, r)
  | .nils, r => (.nils, r)
  | .nilp, r => (.nilp, r)
  | .nilf, r => (.nilf, r)
  | .lb q, r => (.lb q, r)
  | .agg l, r => match Sh.putL l r with
    | (vs, r') => (.agg vs, r')
  | .tup l, r => match Sh.putL l r with
    | (vs, r') => (.tup vs, r')
  | .ref id off, r => (.ref id off, r)
  | .slw id st, r => (.slw id st, r)
  | .dpt l off, r => match Sh.putL l r with
    | (vs, r') => (.dpt vs off, r')
  | .fn g l, r => match Sh.putL l r with
    | (vs, r') => (.fn g vs, r')
def Sh.putL : List Sh → List V → List V × List V
  | [], r => ([], r)
  | s :: l, r => match s.put r with
    | (v, r') => match Sh.putL l r' with
      | (vs, r'') => (v :: vs, r'')
end
/-- Likewise for own blocks. -/
inductive BSh where
  | cells (l : List Sh) (fz : Bool)
  | arr (row : List Ck) (fz : Bool)
def BSh.get : BSh → HB → Option (List V)
  | .cells l true, ⟨.cells vs, true⟩ => Sh.getL l vs
  | .cells l false, ⟨.cells vs, false⟩ => Sh.getL l vs
  | .arr row true, ⟨.arr row' xs, true⟩ => bif beqR row' row then some [.ds row' xs] else none
  | .arr row false, ⟨.arr row' xs, false⟩ => bif beqR row' row then some [.ds row' xs] else none
  | _, _ => none
def BSh.getL : List BSh → List HB → Option (List V)
  | [], [] => some []
  | s :: l, v :: vs => (s.get v).bind fun a => (BSh.getL l vs).bind fun b => some (a ++ b)
  | _, _ => none
def BSh.put : BSh → List V → HB × List V
  | .cells l fz, r => match Sh.putL l r with
    | (vs, r') => (⟨.cells vs, fz⟩, r')
  | .arr row fz, .ds row' xs :: r => (⟨.arr row' xs, fz⟩, r)
  | .arr row fz, r => (⟨.dead, fz⟩, r)
def BSh.putL : List BSh → List V → List HB × List V
  | [], r => ([], r)
  | s :: l, r => match s.put r with
    | (v, r') => match BSh.putL l r' with
      | (vs, r'') => (v :: vs, r'')
/-- Values, own blocks, and what the holes may hold. -/
structure Shp where
  vs : List Sh
  bs : List BSh
  hs : List Ck
def Shp.dec (p : Shp) (vs : List V) (bs : List HB) : Option (DR p.hs) := (Sh.getL p.vs vs).bind fun a => (BSh.getL p.bs bs).bind fun b => decR p.hs (a ++ b)
def Shp.enc (p : Shp) (x : DR p.hs) : List V × List HB := match Sh.putL p.vs (encR p.hs x) with
  | (vs, r) => (vs, (BSh.putL p.bs r).1)
/-- One of some shapes. -/
def SumD : List Shp → Type
  | [] => Empty
  | [p] => DR p.hs
  | p :: q :: l => DR p.hs ⊕ SumD (q :: l)
def Xt.beq : Xt → Xt → Bool
  | .normal, .normal => true
  | .ret, .ret => true
  | .exit a, .exit b => Nat.beq a b
  | _, _ => false
abbrev XShp := Xt × Shp
def decX : (l : List XShp) → Xt → List V → List HB → Option (SumD (l.map (·.2)))
  | [], _, _, _ => none
  | [p], x, vs, bs => bif p.1.beq x then p.2.dec vs bs else none
  | p :: q :: l, x, vs, bs => match (bif p.1.beq x then p.2.dec vs bs else none) with
    | some y => some (.inl y)
    | none => (decX (q :: l) x vs bs).map .inr
def encX : (l : List XShp) → SumD (l.map (·.2)) → Xt × List V × List HB
  | [], e => nomatch e
  | [p], x => (p.1, p.2.enc x)
  | p :: q :: l, .inl x => (p.1, p.2.enc x)
  | p :: q :: l, .inr y => encX (q :: l) y
/-- Which temporaries a loop carries, and how. -/
def lvT (l : List (Nat × List Nat)) (k : Nat) : List Nat := match l.find? fun e => Nat.beq e.1 k with
  | some e => e.2
  | none => []
def mdT (l : List (Nat × Xt × List Nat × List Nat)) (k : Nat) (x : Xt) (t : Nat) : Nat := match l.find? fun e => Nat.beq e.1 k && e.2.1.beq x with
  | some e => bif e.2.2.1.any (Nat.beq t) then 1 else bif e.2.2.2.any (Nat.beq t) then 2 else 0
  | none => 0
def loopC (c : Code) (k : Nat) : Code := (((loopsIn c).find? fun p => Nat.beq p.1 k).map (·.2)).getD .skip
def bodyOf (fn : Func) : Code := fn.body.getD .skip
/-- Leaves read. -/
def Tr.to {α β : Type} (d : α → Option β) : Tr α → Tr β
  | .ok a => Tr.ofOpt (d a)
  | .br b t e => .br b (t.to d) (e.to d)
  | .bad => .bad
def Tr.map {α β : Type} (f : α → β) : Tr α → Tr β
  | .ok a => .ok (f a)
  | .br b t e => .br b (t.map f) (e.map f)
  | .bad => .bad
--END
instance sumInh {α β : Type} [Inhabited α] : Inhabited (α ⊕ β) := ⟨.inl default⟩
def isL {α β : Type} : α ⊕ β → Bool
  | .inl _ => true
  | .inr _ => false
def unL {α β : Type} [Inhabited α] : α ⊕ β → α
  | .inl a => a
  | .inr _ => default
def unR {α β : Type} [Inhabited β] : α ⊕ β → β
  | .inl _ => default
  | .inr b => b
def oget {α : Type} [Inhabited α] : Option α → α
  | some a => a
  | none => default
def osome {α : Type} : Option α → Bool
  | some _ => true
  | none => false
abbrev inhR (row : List Ck) : Inhabited (DR row) := ⟨dflR row⟩
abbrev inhS : (p : Shp) → (l : List Shp) → Inhabited (SumD (p :: l))
  | p, [] => inhR p.hs
  | p, q :: l => ⟨.inl (dflR p.hs)⟩
/-- What is told of a sum of shapes. -/
def tellX : (l : List XShp) → SumD (l.map (·.2)) → Tr (Xt × List V × List HB)
  | [], _ => .bad
  | [p], x => .ok (p.1, p.2.enc x)
  | p :: q :: l, y => .br (isL y) (.ok (p.1, p.2.enc (@unL _ _ (inhR p.2.hs) y))) (tellX (q :: l) (@unR _ _ (inhS q.2 (List.map (fun p : XShp => p.2) l)) y))
def tellO : (l : List XShp) → Option (SumD (l.map (·.2))) → Tr (Xt × List V × List HB)
  | [], _ => .bad
  | p :: l, o => .br (osome o) (tellX (p :: l) (@oget _ (inhS p.2 (List.map (fun p : XShp => p.2) l)) o)) .bad
theorem Tr.to_sem {α β : Type} (d : α → Option β) : ∀ t : Tr α, (t.to d).sem = t.sem.bind d
  | .ok a => by simp [Tr.to, Tr.sem, Tr.sem_ofOpt]
  | .br b t e => by cases b <;> simp [Tr.to, Tr.sem, Tr.to_sem d t, Tr.to_sem d e]
  | .bad => rfl
theorem Tr.map_sem {α β : Type} (f : α → β) : ∀ t : Tr α, (t.map f).sem = t.sem.map f
  | .ok a => rfl
  | .br b t e => by cases b <;> simp [Tr.map, Tr.sem, Tr.map_sem f t, Tr.map_sem f e]
  | .bad => rfl
/-- What a tree without a bad end comes to. -/
def Tr.val {α : Type} [Inhabited α] : Tr α → α
  | .ok a => a
  | .br b t e => bif b then t.val else e.val
  | .bad => default
def Tr.tot {α : Type} : Tr α → Bool
  | .ok _ => true
  | .br b t e => (t.tot && e.tot) || (bif b then t.tot else e.tot)
  | .bad => false
theorem Tr.tot_val {α : Type} [Inhabited α] : ∀ {t : Tr α}, t.tot = true → t.sem = some t.val
  | .ok a, _ => rfl
  | .br b t e, h => by
    cases b with
    | true =>
      have : t.tot = true := by
        simp only [Tr.tot, cond_true, Bool.or_eq_true, Bool.and_eq_true] at h
        rcases h with h | h
        · exact h.1
        · exact h
      exact (show t.sem = some t.val from Tr.tot_val this)
    | false =>
      have : e.tot = true := by
        simp only [Tr.tot, cond_false, Bool.or_eq_true, Bool.and_eq_true] at h
        rcases h with h | h
        · exact h.2
        · exact h
      exact (show e.sem = some e.val from Tr.tot_val this)
  | .bad, h => by cases h
/-- A fixpoint of a step. -/
def iterN {σ ρ : Type} (f : σ → Option (σ ⊕ ρ)) : Nat → σ → Option ρ
  | 0, _ => none
  | n + 1, s => match f s with
    | some (.inl s') => iterN f n s'
    | some (.inr r) => some r
    | none => none
open Classical in
noncomputable def runL {σ ρ : Type} (f : σ → Option (σ ⊕ ρ)) (s : σ) : Option ρ := if h : ∃ n r, iterN f n s = some r then some h.choose_spec.choose else none
theorem iterN_mono {σ ρ : Type} {f : σ → Option (σ ⊕ ρ)} {r : ρ} : ∀ {n m : Nat} {s : σ}, n ≤ m → iterN f n s = some r → iterN f m s = some r
  | 0, _, _, _, h => by simp [iterN] at h
  | n + 1, 0, _, hle, _ => by omega
  | n + 1, m + 1, s, hle, h => by
    simp only [iterN] at h ⊢
    cases hs : f s with
    | none => rw [hs] at h; cases h
    | some q =>
      rw [hs] at h
      cases q with
      | inl s' => exact iterN_mono (by omega) h
      | inr r' => exact h
theorem runL_of {σ ρ : Type} {f : σ → Option (σ ⊕ ρ)} {s : σ} {n : Nat} {r : ρ} (h : iterN f n s = some r) : runL f s = some r := by
  have hx : ∃ n r, iterN f n s = some r := ⟨n, r, h⟩
  unfold runL
  rw [dif_pos hx]
  have h1 := hx.choose_spec.choose_spec
  have h2 := iterN_mono (Nat.le_max_left n hx.choose) h
  have h3 := iterN_mono (Nat.le_max_right n hx.choose) h1
  rw [h2] at h3
  exact h3.symm
theorem runL_some {σ ρ : Type} {f : σ → Option (σ ⊕ ρ)} {s : σ} {r : ρ} (h : runL f s = some r) : ∃ n, iterN f n s = some r := by
  unfold runL at h
  split at h
  · rename_i hx
    simp only [Option.some.injEq] at h
    subst h
    exact ⟨hx.choose, hx.choose_spec.choose_spec⟩
  · cases h
/-- One round, and the rest. -/
theorem runL_eq {σ ρ : Type} (f : σ → Option (σ ⊕ ρ)) (s : σ) : runL f s = match f s with
    | some (.inl s') => runL f s'
    | some (.inr r) => some r
    | none => none := by
  cases hs : f s with
  | none =>
    cases hr : runL f s with
    | none => rfl
    | some r =>
      obtain ⟨n, hn⟩ := runL_some hr
      cases n with
      | zero => simp [iterN] at hn
      | succ n => simp [iterN, hs] at hn
  | some q =>
    cases q with
    | inr r => exact runL_of (n := 1) (by simp [iterN, hs])
    | inl s' =>
      simp only
      cases hr : runL f s' with
      | some r =>
        obtain ⟨n, hn⟩ := runL_some hr
        exact runL_of (n := n + 1) (by simp [iterN, hs, hn])
      | none =>
        cases hr2 : runL f s with
        | none => rfl
        | some r =>
          obtain ⟨n, hn⟩ := runL_some hr2
          cases n with
          | zero => simp [iterN] at hn
          | succ n =>
            simp only [iterN, hs] at hn
            rw [runL_of hn] at hr; cases hr
/-- A loop part of whose state never turns. -/
theorem runL_param {σ τ ρ : Type} {f : σ → Option (σ ⊕ ρ)} {g : τ → Option (τ ⊕ ρ)} (e : τ → σ) (h : ∀ t, f (e t) = (g t).map (Sum.map e id)) (t : τ) : runL f (e t) = runL g t := by
  have key : ∀ n t, iterN f n (e t) = iterN g n t := by
    intro n
    induction n with
    | zero => intro t; rfl
    | succ n ih =>
      intro t
      simp only [iterN, h]
      cases g t with
      | none => rfl
      | some q => cases q with
        | inl t' => exact ih t'
        | inr r => rfl
  cases hr : runL g t with
  | some r => obtain ⟨n, hn⟩ := runL_some hr; exact runL_of ((key n t).trans hn)
  | none =>
    cases hr2 : runL f (e t) with
    | none => rfl
    | some r => obtain ⟨n, hn⟩ := runL_some hr2; rw [key] at hn; rw [runL_of hn] at hr; cases hr
end Go.Proofs.Ytpglfnkkmafhbaa
