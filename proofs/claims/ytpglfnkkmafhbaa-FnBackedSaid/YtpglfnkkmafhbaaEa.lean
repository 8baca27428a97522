/- An abstract machine: values up to the bits of a not-a-number and up to addresses; a tree of ways; the operations, a region, a body. No condition. -/
import Derived.Test.YtpglfnkkmafhbaaMc
set_option linter.unusedVariables false
set_option linter.unusedSimpArgs false
set_option linter.constructorNameAsVariable false
namespace Go.Proofs.Ytpglfnkkmafhbaa
open Go.RowKit

/-- A tree of ways: a test that is not decided leaves two. -/
inductive Tr (α : Type) where
  | ok (a : α)
  | br (b : Bool) (t e : Tr α)
  | bad
namespace Tr
def bind {α β : Type} : Tr α → (α → Tr β) → Tr β
  | .ok a, f => f a
  | .br b t e, f => .br b (t.bind f) (e.bind f)
  | .bad, _ => .bad
def sem {α : Type} : Tr α → Option α
  | .ok a => some a
  | .br b t e => bif b then t.sem else e.sem
  | .bad => none
def ofOpt {α : Type} : Option α → Tr α
  | some a => .ok a
  | none => .bad
theorem sem_bind {α β : Type} (f : α → Tr β) : ∀ t : Tr α, (t.bind f).sem = t.sem.bind fun a => (f a).sem
  | .ok a => rfl
  | .br b t e => by cases b <;> simp [Tr.bind, Tr.sem, sem_bind f t, sem_bind f e]
  | .bad => rfl
theorem sem_ofOpt {α : Type} (o : Option α) : (ofOpt o).sem = o := by cases o <;> rfl
end Tr

/-- What a cell may hold, where all cells of a row are alike. -/
inductive Ck where
  | f (k : FloatKind)
  | i (k : IntKind)
  | b
  | c (k : FloatKind)
  | sl (row : List Ck)
  /-- a slice whose cells are the block's own too -/
  | osl (row : List Ck)
mutual
def Ck.D : Ck → Type
  | .f _ => Nat
  | .i _ => Int
  | .b => Bool
  | .c _ => Nat × Nat
  | .sl row => List (DR row)
  | .osl row => List (DR row)
def DR : List Ck → Type
  | [] => Unit
  | [a] => a.D
  | a :: b :: l => a.D × DR (b :: l)
end
mutual
def Ck.dfl : (a : Ck) → a.D
  | .f _ => (0 : Nat)
  | .i _ => (0 : Int)
  | .b => false
  | .c _ => ((0, 0) : Nat × Nat)
  | .sl row => ([] : List (DR row))
  | .osl row => ([] : List (DR row))
def dflR : (row : List Ck) → DR row
  | [] => ()
  | [a] => a.dfl
  | a :: b :: l => (a.dfl, dflR (b :: l))
end
mutual
def Ck.beq : Ck → Ck → Bool
  | .f k, .f k' => decide (k = k')
  | .i k, .i k' => decide (k = k')
  | .b, .b => true
  | .c k, .c k' => decide (k = k')
  | .sl r, .sl r' => beqR r r'
  | .osl r, .osl r' => beqR r r'
  | _, _ => false
def beqR : List Ck → List Ck → Bool
  | [], [] => true
  | a :: l, b :: m => a.beq b && beqR l m
  | _, _ => false
end
mutual
theorem Ck.beq_eq : ∀ {a b : Ck}, a.beq b = true → a = b
  | .f k, .f k', h => by simp [Ck.beq] at h; rw [h]
  | .i k, .i k', h => by simp [Ck.beq] at h; rw [h]
  | .b, .b, h => rfl
  | .c k, .c k', h => by simp [Ck.beq] at h; rw [h]
  | .sl r, .sl r', h => by simp [Ck.beq] at h; rw [beqR_eq h]
  | .osl r, .osl r', h => by simp [Ck.beq] at h; rw [beqR_eq h]
theorem beqR_eq : ∀ {a b : List Ck}, beqR a b = true → a = b
  | [], [], h => rfl
  | a :: l, b :: m, h => by simp [beqR] at h; rw [Ck.beq_eq h.1, beqR_eq h.2]
end

/-- An abstract value. -/
inductive V where
  /-- nothing is known -/
  | undef
  /-- that very value -/
  | x (v : Value)
  | b (x : Bool)
  /-- a truth value that is written out -/
  | lb (x : Bool)
  | i (k : IntKind) (n : Int)
  | f (k : FloatKind) (c : Nat)
  | c (k : FloatKind) (re im : Nat)
  | agg (l : List V)
  | tup (l : List V)
  | nilp
  | nils
  | nilf
  /-- a pointer to a cell of an own block -/
  | ref (id off : Nat)
  /-- a pointer into an own block of rows: row i, cell j -/
  | rel (id st i j : Nat)
  /-- the whole of an own block as a slice, rows of st cells -/
  | slw (id st : Nat)
  /-- a slice that is only read: its rows -/
  | ds (row : List Ck) (xs : List (DR row))
  /-- an empty slice without room -/
  | ds0
  /-- a pointer to cells that are only read -/
  | dpt (cells : List V) (off : Nat)
  | fn (f : FuncId) (caps : List V)

def encC : (a : Ck) → a.D → V
  | .f k, x => .f k x
  | .i k, x => .i k x
  | .b, x => .b x
  | .c k, x => .c k x.1 x.2
  | .sl row, x => .ds row x
  | .osl _, _ => .undef
def encR : (row : List Ck) → DR row → List V
  | [], _ => []
  | [a], x => [encC a x]
  | a :: b :: l, x => encC a x.1 :: encR (b :: l) x.2
theorem encR_length : ∀ (row : List Ck) (x : DR row), (encR row x).length = row.length
  | [], _ => rfl
  | [_], _ => rfl
  | a :: b :: l, x => by simp [encR, encR_length (b :: l) x.2]
def decC : (a : Ck) → V → Option a.D
  | .f k, .f k' x => bif decide (k = k') then some x else none
  | .i k, .i k' x => bif decide (k = k') then some x else none
  | .b, .b x => some x
  | .b, .lb x => some x
  | .c k, .c k' x y => bif decide (k = k') then some (x, y) else none
  | .sl row, .ds row' x => if h : beqR row' row = true then some (beqR_eq h ▸ x) else none
  | .sl row, .nils => some []
  | .sl row, .ds0 => some []
  | _, _ => none
def decR : (row : List Ck) → List V → Option (DR row)
  | [], [] => some ()
  | [a], [v] => decC a v
  | a :: b :: l, v :: vs => (decC a v).bind fun x => (decR (b :: l) vs).bind fun y => some (x, y)
  | _, _ => none
/-- Rows out of cells. -/
def decRows (row : List Ck) : Nat → List V → Option (List (DR row))
  | 0, [] => some []
  | n + 1, l => (decR row (l.take row.length)).bind fun x => (decRows row n (l.drop row.length)).bind fun xs => some (x :: xs)
  | _, _ => none

/-- A block of the call's own. -/
inductive Blk where
  | cells (l : List V)
  | arr (row : List Ck) (xs : List (DR row))
  | dead
structure HB where
  blk : Blk
  fz : Bool
structure St where
  t : Nat → V
  h : Nat → Option HB
  nx : Nat
  n : Nat

/-- What is known of a type. -/
inductive TK where
  | b
  | i (k : IntKind)
  | f (k : FloatKind)
  | c (k : FloatKind)
  | sl (e : TypeId)
  | st (fs : List (Nat × TypeId))
  | fn
  | pt
  | other
def TK.known : TK → Bool
  | .other => false
  | _ => true
structure Ty where
  k : TK
  size : Nat
  bytes : Nat
  zero : List V
  row : List Ck
structure Env where
  ty : TypeId → Option Ty
  call : FuncId → List V → Tr (V × List HB)
  mutF : FuncId → Bool
  callM : FuncId → List V → List Blk → Tr (V × List Blk)
  frz : Bool
  pin : Nat
  eqT : TypeId → Bool
  /-- rows of slices are owned with their cells -/
  osl : Bool

/-- An operation's doing: it reads own blocks, tests, and yields a value and new contents of blocks. -/
inductive RM (α : Type) where
  | ok (a : α)
  | read (id : Nat) (k : HB → RM α)
  | br (b : Bool) (t e : RM α)
  | bad
namespace RM
def bind {α β : Type} : RM α → (α → RM β) → RM β
  | .ok a, f => f a
  | .read id k, f => .read id fun b => (k b).bind f
  | .br b t e, f => .br b (t.bind f) (e.bind f)
  | .bad, _ => .bad
def run {α : Type} (h : Nat → Option HB) : RM α → List Nat → Tr (α × List Nat)
  | .ok a, rs => .ok (a, rs)
  | .read id k, rs => match h id with
    | some b => (k b).run h (id :: rs)
    | none => .bad
  | .br b t e, rs => .br b (t.run h rs) (e.run h rs)
  | .bad, _ => .bad
def ofTr {α : Type} : Tr α → RM α
  | .ok a => .ok a
  | .br b t e => .br b (ofTr t) (ofTr e)
  | .bad => .bad
def ofOpt {α : Type} : Option α → RM α
  | some a => .ok a
  | none => .bad
def guard {α : Type} (b : Bool) (k : RM α) : RM α := .br b k .bad
end RM

abbrev Eff := V × List (Nat × HB)
def ret (v : V) : RM Eff := .ok (v, [])

/-- A constant. -/
def ofValue : Value → V
  | .bool x => .lb x
  | .int k n => .i k n
  | .float k r => bif Nat.blt r (2 ^ k.format.width) then .f k (cn k r) else .undef
  | .complex k r s => bif Nat.blt r (2 ^ k.format.width) && Nat.blt s (2 ^ k.format.width) then .c k (cn k r) (cn k s) else .undef
  | .pointer none => .nilp
  | .slice none 0 0 => .nils
  | .nilFunc => .nilf
  | .func (.func f) first caps => bif first.isEmpty && caps.isEmpty then .fn f [] else .undef
  | v => .x v
def cellsOf : V → Option (List V)
  | .agg l => some l
  | .undef | .tup _ => none
  | .x (.agg _) | .x (.tuple _) => none
  | v => some [v]

def St.op (st : St) : Operand → V
  | .tmp t => st.t t
  | .const v => ofValue v
  | .global g => .x (.pointer (some ⟨g, 0, none⟩))
  | .func f => .fn f []

/-- Put values at places of a list. -/
def setMany : List V → Nat → List V → List V
  | l, _, [] => l
  | l, off, v :: vs => setMany (l.set off v) (off + 1) vs
def fillL (place : Nat → Option (Nat × Nat)) : List V → List (Nat × V) → Option (List V)
  | cells, [] => some cells
  | cells, (i, v) :: rest => match place i, cellsOf v with
    | some (off, size), some vs => bif vs.length == size && decide (off + vs.length ≤ cells.length) then fillL place (setMany cells off vs) rest else none
    | _, _ => none

def isScalar : V → Bool
  | .x (.agg _) | .x (.tuple _) | .agg _ | .tup _ | .undef => false
  | _ => true

mutual
def V.noRef : V → Bool
  | .ref _ _ => false
  | .rel _ _ _ _ => false
  | .slw _ _ => false
  | .agg l => V.noRefL l
  | .tup l => V.noRefL l
  | .dpt l _ => V.noRefL l
  | .fn _ caps => V.noRefL caps
  | _ => true
def V.noRefL : List V → Bool
  | [] => true
  | v :: vs => v.noRef && V.noRefL vs
end
mutual
/-- Only the first own blocks are spoken of. -/
def V.refsLt (n : Nat) : V → Bool
  | .ref id _ => Nat.blt id n
  | .rel id _ _ _ => Nat.blt id n
  | .slw id _ => Nat.blt id n
  | .agg l => V.refsLtL n l
  | .tup l => V.refsLtL n l
  | .dpt l _ => V.refsLtL n l
  | .fn _ caps => V.refsLtL n caps
  | _ => true
def V.refsLtL (n : Nat) : List V → Bool
  | [] => true
  | v :: vs => v.refsLt n && V.refsLtL n vs
end
/-- Deep: no own block is spoken of; and which own blocks were met. -/
def snapL (snap : V → RM (V × List Nat)) : List V → RM (List V × List Nat)
  | [] => .ok ([], [])
  | v :: vs => (snap v).bind fun (v', a) => (snapL snap vs).bind fun (vs', c) => .ok (v' :: vs', a ++ c)
def snap : Nat → V → RM (V × List Nat)
  | 0, _ => .bad
  | n + 1, v => match v with
    | .slw id st => .read id fun hb => match hb.blk with
      | .arr row xs => bif Nat.beq row.length st && Nat.blt 0 st then .ok (.ds row xs, [id]) else .bad
      | _ => .bad
    | .ref id off => .read id fun hb => match hb.blk with
      | .cells l => (snapL (snap n) l).bind fun (l', ids) => .ok (.dpt l' off, id :: ids)
      | _ => .bad
    | .rel id st i j => .read id fun hb => match hb.blk with
      | .arr row xs => bif Nat.beq row.length st && Nat.blt 0 st then .ok (.dpt (encR row (xs.getD i (dflR row))) j, [id]) else .bad
      | _ => .bad
    | .agg l => (snapL (snap n) l).bind fun (l', ids) => .ok (.agg l', ids)
    | .tup _ => .bad
    | .fn f caps => (snapL (snap n) caps).bind fun (l', ids) => .ok (.fn f l', ids)
    | v => bif v.noRef then .ok (v, []) else .bad

mutual
def V.mapId (g : Nat → Nat) : V → V
  | .ref id off => .ref (g id) off
  | .rel id st p q => .rel (g id) st p q
  | .slw id st => .slw (g id) st
  | .agg l => .agg (V.mapIdL g l)
  | .tup l => .tup (V.mapIdL g l)
  | .dpt l off => .dpt (V.mapIdL g l) off
  | .fn h caps => .fn h (V.mapIdL g caps)
  | v => v
def V.mapIdL (g : Nat → Nat) : List V → List V
  | [] => []
  | v :: vs => v.mapId g :: V.mapIdL g vs
end
def Blk.mapId (g : Nat → Nat) : Blk → Blk
  | .cells l => .cells (V.mapIdL g l)
  | b => b
def HB.mapId (g : Nat → Nat) (hb : HB) : HB := ⟨hb.blk.mapId g, hb.fz⟩
/-- Where a number stands in a list. -/
def idxN (id : Nat) : List Nat → Option Nat
  | [] => none
  | x :: l => bif Nat.beq x id then some 0 else (idxN id l).map (· + 1)
mutual
def V.ren (m : List Nat) : V → Option V
  | .ref id off => (idxN id m).map fun k => .ref k off
  | .rel id st p q => (idxN id m).map fun k => .rel k st p q
  | .slw id st => (idxN id m).map fun k => .slw k st
  | .agg l => (V.renL m l).map .agg
  | .tup l => (V.renL m l).map .tup
  | .dpt l off => (V.renL m l).map fun l' => .dpt l' off
  | .fn h caps => (V.renL m caps).map fun l' => .fn h l'
  | v => some v
def V.renL (m : List Nat) : List V → Option (List V)
  | [] => some []
  | v :: vs => (v.ren m).bind fun v' => (V.renL m vs).bind fun vs' => some (v' :: vs')
end
def Blk.ren (m : List Nat) : Blk → Option Blk
  | .cells l => (V.renL m l).map .cells
  | b => some b
def HB.ren (m : List Nat) (hb : HB) : Option HB := (hb.blk.ren m).map fun b => ⟨b, hb.fz⟩
def renBs (m : List Nat) : List (Nat × HB) → Option (List HB)
  | [] => some []
  | p :: l => (p.2.ren m).bind fun b => (renBs m l).bind fun bs => some (b :: bs)
/-- The own blocks that values lead to, in the order in which they are met. -/
def collectM : Nat → List V → List (Nat × HB) → RM (List (Nat × HB))
  | 0, _, _ => .bad
  | _ + 1, [], acc => .ok acc
  | n + 1, v :: ws, acc =>
    let go (id : Nat) : RM (List (Nat × HB)) := bif acc.any (fun p => Nat.beq p.1 id) then collectM n ws acc else .read id fun hb => match hb.blk with
      | .cells l => collectM n (l ++ ws) (acc ++ [(id, hb)])
      | .arr _ _ => collectM n ws (acc ++ [(id, hb)])
      | .dead => .bad
    match v with
    | .slw id _ => go id
    | .ref id _ => go id
    | .rel id _ _ _ => go id
    | .agg l => collectM n (l ++ ws) acc
    | .tup l => collectM n (l ++ ws) acc
    | .fn _ caps => collectM n (caps ++ ws) acc
    | _ => collectM n ws acc
/-- The first own blocks, which keep their numbers. -/
def pinAcc : Nat → Nat → RM (List (Nat × HB))
  | _, 0 => .ok []
  | i, n + 1 => .read i fun hb => match hb.blk with
    | .dead => .bad
    | _ => (pinAcc (i + 1) n).bind fun l => .ok ((i, hb) :: l)
/-- Values and what they lead to, renumbered from 0; the first m keep their numbers. -/
def normM (m : Nat) (roots : List V) : RM (List V × List Nat × List HB) :=
  (pinAcc 0 m).bind fun acc => (collectM 4096 roots acc).bind fun l => (RM.ofOpt (V.renL (l.map (·.1)) roots)).bind fun vs => (RM.ofOpt (renBs (l.map (·.1)) l)).bind fun bs => .ok (vs, l.map (·.1), bs)
mutual
def V.deep : V → Bool
  | .ds _ _ => true
  | .dpt _ _ => true
  | .agg l => V.deepL l
  | .tup l => V.deepL l
  | .fn _ caps => V.deepL caps
  | _ => false
def V.deepL : List V → Bool
  | [] => false
  | v :: vs => v.deep || V.deepL vs
end
def Ck.deep : Ck → Bool
  | .sl _ => true
  | _ => false
def HB.deep (hb : HB) : Bool := hb.fz || match hb.blk with
  | .cells l => V.deepL l
  | .arr row _ => row.any Ck.deep
  | .dead => false
def enumFrom : Nat → List HB → List (Nat × HB)
  | _, [] => []
  | n, b :: bs => (n, b) :: enumFrom (n + 1) bs
def freezeAll : List Nat → RM (List (Nat × HB))
  | [] => .ok []
  | id :: ids => .read id fun hb => (freezeAll ids).bind fun l => .ok ((id, { hb with fz := true }) :: l)
/-- How many new blocks one operation may make. -/
def room : Nat := 8
def zipB : List Nat → List Blk → List (Nat × HB)
  | id :: ids, b :: bs => (id, ⟨b, false⟩) :: zipB ids bs
  | _, _ => []
def Blk.alive : Blk → Bool
  | .dead => false
  | _ => true
/-- The number here of a block of the call: one that was handed over, or a new one. -/
def backId (ids : List Nat) (nb : Nat) (k : Nat) : Nat := bif Nat.blt k ids.length then ids.getD k 0 else nb + (k - ids.length)
/-- What is to be put into rows of slices: own rows are only read from now on. -/
def snapF (frz : Bool) (l : List V) : RM (List V × List Nat × List (Nat × HB)) :=
  (snapL (snap 4) l).bind fun q => (bif q.2.isEmpty then .ok [] else bif frz then freezeAll q.2 else .bad).bind fun fz => .ok (q.1, q.2, fz)
def callRM (E : Env) (nb : Nat) (f : FuncId) (args : List V) : RM Eff :=
  bif E.mutF f then
    (normM 0 args).bind fun p => bif p.2.2.any (·.fz) then .bad else
      (RM.ofTr (E.callM f p.1 (p.2.2.map (·.blk)))).bind fun q =>
        bif Nat.ble p.2.1.length q.2.length && Nat.ble q.2.length (p.2.1.length + room) && q.2.all Blk.alive then .ok (q.1.mapId (backId p.2.1 nb), zipB p.2.1 ((q.2.take p.2.1.length).map (Blk.mapId (backId p.2.1 nb))) ++ enumFrom nb ((q.2.drop p.2.1.length).map fun b => ⟨b.mapId (backId p.2.1 nb), false⟩)) else .bad
  else
  (snapL (snap 4) args).bind fun p =>
    (RM.ofTr (E.call f p.1)).bind fun q =>
      bif Nat.ble q.2.length room then
        (bif q.1.deep || q.2.any HB.deep then (bif E.frz then freezeAll p.2 else .bad) else .ok []).bind fun fz => .ok (q.1.mapId (nb + ·), fz ++ enumFrom nb (q.2.map (HB.mapId (nb + ·))))
      else .bad

def cmpI (op : BinOp) (x y : Int) : Option Bool := match op with
  | .eql => some (x == y)
  | .neq => some (x != y)
  | .lss => some (decide (x < y))
  | .leq => some (decide (x ≤ y))
  | .gtr => some (decide (x > y))
  | .geq => some (decide (x ≥ y))
  | _ => none
def cmpF (op : BinOp) (k : FloatKind) (x y : Nat) : Option Bool := match op with
  | .eql => some (feq k x y)
  | .neq => some (!feq k x y)
  | .lss => some (flt k x y)
  | .leq => some (fle k x y)
  | .gtr => some (fgt k x y)
  | .geq => some (fge k x y)
  | _ => none
def iand (k : IntKind) (a b : Int) : Int := k.wrap ((BitVec.ofInt k.bits a &&& BitVec.ofInt k.bits b).toNat)
def ishr (k : IntKind) (a b : Int) : Int := a.fdiv (2 ^ (min b.toNat k.bits))
def isShr : BinOp → Bool
  | .shr => true
  | _ => false
def binA (op : BinOp) (x y : V) : RM Eff := match x, y with
  | .i k a, .i k' b => bif isShr op then .guard (decide (0 ≤ b)) (ret (.i k (ishr k a b))) else bif decide (k = k') then
      (match op with
        | .and => ret (.i k (iand k a b))
        | .add => ret (.i k (k.wrap (a + b)))
        | .sub => ret (.i k (k.wrap (a - b)))
        | .mul => ret (.i k (k.wrap (a * b)))
        | .quo => .guard (decide (b ≠ 0)) (ret (.i k (k.wrap (a.tdiv b))))
        | .rem => .guard (decide (b ≠ 0)) (ret (.i k (a.tmod b)))
        | op => match cmpI op a b with
          | some r => ret (.b r)
          | none => .bad)
    else .bad
  | .f k a, .f k' b => bif decide (k = k') then
      (bif isArith op then ret (.f k (fop k op a b)) else match cmpF op k a b with
        | some r => ret (.b r)
        | none => .bad)
    else .bad
  | _, _ => .bad
def eqB (op : BinOp) (r : Bool) : RM Eff := match op with
  | .eql => ret (.b r)
  | .neq => ret (.b !r)
  | _ => .bad
def eqLb (op : BinOp) (r : Bool) : RM Eff := match op with
  | .eql => ret (.lb r)
  | .neq => ret (.lb !r)
  | _ => .bad
/-- Structs of whole numbers, field by field. -/
def eqF (E : Env) (op : BinOp) : List (Nat × TypeId) → List V → List V → RM Eff
  | [], _, _ => eqLb op true
  | f :: fs, l, m => match E.ty f.2, l[f.1]?, m[f.1]? with
    | some ⟨.i _, _, _, _, _⟩, some (.i k a), some (.i k' b) => bif decide (k = k') then .br (a == b) (eqF E op fs l m) (eqLb op false) else .bad
    | _, _, _ => .bad
def unA (op : UnOp) (x : V) : RM Eff := match op, x with
  | .neg, .i k n => ret (.i k (k.wrap (0 - n)))
  | .neg, .f k c => ret (.f k (fneg k c))
  | .neg, .c k r s => ret (.c k (fneg k r) (fneg k s))
  | .not, .b x => ret (.b !x)
  | .not, .lb x => ret (.lb !x)
  | _, _ => .bad
def convA (s d : TK) (x : V) : RM Eff := match d, x with
  | .i k, .i _ n => ret (.i k (k.wrap n))
  | .f k, .i _ n => ret (.f k (k.nearest n))
  | .f .f64, .f .f32 c => ret (.f .f64 (fup c))
  | .f .f32, .f .f64 c => .guard (!fover c) (ret (.f .f32 (fdown c)))
  | .f k, .f k' c => bif decide (k = k') then ret (.f k c) else .bad
  | _, _ => .bad
def boolOf : V → Option Bool
  | .b x => some x
  | .lb x => some x
  | _ => none
def imax (a b : Int) : Int := bif decide (b > a) then b else a
def imin (a b : Int) : Int := bif decide (b < a) then b else a
/-- One operation but calls. -/
def opA (E : Env) (nb : Nat) (ρ : Operand → V) : Op → RM Eff
  | .move x | .assign x => ret (ρ x)
  | .pick c a b => match ρ c with
    | .lb x => ret (bif x then ρ a else ρ b)
    | .b x => (match boolOf (ρ a), boolOf (ρ b) with
      | some p, some q => ret (.b (bif x then p else q))
      | _, _ => .br x (ret (ρ a)) (ret (ρ b)))
    | _ => .bad
  | .alloc t => match E.ty t with
    | some ty => .ok (.ref nb 0, [(nb, ⟨.cells ty.zero, false⟩)])
    | none => .bad
  | .box _ x => match cellsOf (ρ x) with
    | some l => .ok (.ref nb 0, [(nb, ⟨.cells l, false⟩)])
    | none => .bad
  | .build t parts => match E.ty t with
    | some ⟨.st fs, size, _, zero, _⟩ => bif fs.all (fun f => (E.ty f.2).isSome) then
        (RM.ofOpt (fillL (fun i => (fs[i]?).bind fun f => (E.ty f.2).bind fun ft => some (f.1, ft.size)) zero (parts.toList.map fun p => (p.1, ρ p.2)))).bind fun l => ret (.agg l)
      else .bad
    | _ => .bad
  | .buildSlice t len parts => match E.ty t with
    | some ⟨.sl e, _, _, _, _⟩ => match E.ty e with
      | some ty => (snapF E.frz (parts.toList.map fun p => ρ p.2)).bind fun q => (RM.ofOpt (fillL (fun i => some (i * ty.size, ty.size)) ((List.replicate len ty.zero).flatten) ((parts.toList.map (·.1)).zip q.1))).bind fun l =>
          bif Nat.beq ty.row.length ty.size && Nat.beq ty.zero.length ty.size && Nat.ble (len * ty.size) 16777216 then
            (RM.ofOpt (decRows ty.row len l)).bind fun xs => .ok (.slw nb ty.size, q.2.2 ++ [(nb, ⟨.arr ty.row xs, false⟩)])
          else .bad
      | none => .bad
    | _ => .bad
  | .load t a => match E.ty t with
    | some ty =>
      let out (l : List V) (off : Nat) : RM Eff := match ty.k with
        | .st _ => bif Nat.ble (off + ty.size) l.length then ret (.agg ((l.drop off).take ty.size)) else .bad
        | .other => .bad
        | _ => (RM.ofOpt (l[off]?)).bind ret
      match ρ a with
      | .ref id off => .read id fun hb => match hb.blk with
        | .cells l => out l off
        | _ => .bad
      | .rel id st i j => .read id fun hb => match hb.blk with
        | .arr row xs => bif Nat.beq row.length st && Nat.blt 0 st then out (encR row (xs.getD i (dflR row))) j else .bad
        | _ => .bad
      | .dpt l off => out l off
      | _ => .bad
    | none => .bad
  | .store t a x => match E.ty t, cellsOf (ρ x) with
    | some ty, some vs => bif Nat.beq vs.length ty.size && vs.all isScalar then
      (match ρ a with
        | .ref id off => .read id fun hb => match hb.blk with
          | .cells l => bif !hb.fz && Nat.ble (off + vs.length) l.length then .ok (.undef, [(id, ⟨.cells (setMany l off vs), false⟩)]) else .bad
          | _ => .bad
        | .rel id st i j => .read id fun hb => match hb.blk with
          | .arr row xs => bif !hb.fz && Nat.beq row.length st && Nat.ble (j + vs.length) st then
              (snapF E.frz vs).bind fun q => bif q.2.1.contains id then .bad else
              (RM.ofOpt (decR row (setMany (encR row (xs.getD i (dflR row))) j q.1))).bind fun y => .ok (.undef, q.2.2 ++ [(id, ⟨.arr row (xs.set i y), false⟩)])
            else .bad
          | _ => .bad
        | _ => .bad)
      else .bad
    | _, _ => .bad
  | .nilCheck x => match ρ x with
    | .ref id off => ret (.ref id off)
    | .rel id st i j => ret (.rel id st i j)
    | .dpt l off => ret (.dpt l off)
    | .fn f caps => ret (.fn f caps)
    | _ => .bad
  | .binOp op t x y _ => match E.ty t with
    | some ⟨.b, _, _, _, _⟩ => (match boolOf (ρ x), boolOf (ρ y) with
      | some p, some q => eqB op (p == q)
      | _, _ => .bad)
    | some ⟨.sl _, _, _, _, _⟩ => (match ρ x, ρ y with
      | .nils, .nils => eqB op true
      | .slw _ _, .nils => eqB op false
      | .ds _ xs, .nils => .guard (!xs.isEmpty) (eqB op false)
      | _, _ => .bad)
    | some ⟨.st fs, _, _, _, _⟩ => bif E.eqT t then (match ρ x, ρ y with
      | .agg l, .agg m => eqF E op fs l m
      | _, _ => .bad) else .bad
    | _ => binA op (ρ x) (ρ y)
  | .unOp op _ x => unA op (ρ x)
  | .convert s d x => match E.ty s, E.ty d with
    | some ts, some td => bif ts.k.known then convA ts.k td.k (ρ x) else .bad
    | _, _ => .bad
  | .makeFunc (.func f) first caps => bif first.isEmpty then ret (.fn f (caps.toList.map ρ)) else .bad
  | .makeSlice t l c => match E.ty t with
    | some ⟨.sl e, _, _, _, _⟩ => match E.ty e, ρ l, ρ c with
      | some ty, .i .i64 n, .i .i64 m => .guard (decide (n = m) && decide (0 ≤ n) && decide (n * ty.bytes ≤ 140737488355328)) (bif Nat.beq ty.row.length ty.size && Nat.beq ty.zero.length ty.size && Nat.blt 0 ty.bytes then
          (RM.ofOpt (decR ty.row ty.zero)).bind fun z => .ok (.slw nb ty.size, [(nb, ⟨.arr ty.row (List.replicate n.toNat z), false⟩)]) else .bad)
      | _, _, _ => .bad
    | _ => .bad
  | .fieldAddr s x fi => match E.ty s with
    | some ⟨.st fs, _, _, _, _⟩ => match fs[fi]? with
      | some f => match E.ty f.2 with
        | some ft => bif Nat.beq ft.size 0 then .bad else (match ρ x with
          | .ref id off => ret (.ref id (off + f.1))
          | .rel id st i j => ret (.rel id st i (j + f.1))
          | .dpt l off => ret (.dpt l (off + f.1))
          | _ => .bad)
        | none => .bad
      | none => .bad
    | _ => .bad
  | .field t x fi => match E.ty t, ρ x with
    | some ⟨.st fs, _, _, _, _⟩, .agg l => match fs[fi]? with
      | some f => match E.ty f.2 with
        | some ft => (match ft.k with
          | .st _ => bif Nat.ble (f.1 + ft.size) l.length then ret (.agg ((l.drop f.1).take ft.size)) else .bad
          | .other => .bad
          | _ => (RM.ofOpt (l[f.1]?)).bind ret)
        | none => .bad
      | none => .bad
    | _, _ => .bad
  | .indexAddr t x ix => match E.ty t, ρ ix with
    | some ⟨.sl e, _, _, _, _⟩, .i _ n => match E.ty e with
      | some ty => (match ρ x with
        | .slw id st => bif Nat.beq st ty.size then .read id fun hb => match hb.blk with
            | .arr row xs => bif Nat.beq row.length st && Nat.blt 0 st then .guard (decide (0 ≤ n) && decide (n < xs.length)) (ret (.rel id st n.toNat 0)) else .bad
            | _ => .bad
          else .bad
        | .ds row xs => bif Nat.beq row.length ty.size then .guard (decide (0 ≤ n) && decide (n < xs.length)) (ret (.dpt (encR row (xs.getD n.toNat (dflR row))) 0)) else .bad
        | _ => .bad)
      | none => .bad
    | _, _ => .bad
  | .extract x ix => match ρ x with
    | .tup l => (RM.ofOpt (l[ix]?)).bind ret
    | _ => .bad
  | _ => .bad

def lenA (x : V) : RM Eff := match x with
  | .slw id st => .read id fun hb => match hb.blk with
    | .arr row xs => bif Nat.beq row.length st && Nat.blt 0 st then ret (.i .i64 xs.length) else .bad
    | _ => .bad
  | .ds row xs => ret (.i .i64 xs.length)
  | .nils => ret (.i .i64 0)
  | .ds0 => ret (.i .i64 0)
  | _ => .bad
/-- The rows that are appended. -/
def rowsOf (row : List Ck) (x : V) : RM (List (DR row)) := match x with
  | .slw id st => .read id fun hb => match hb.blk with
    | .arr row' xs => if h : beqR row' row = true then (bif Nat.beq row'.length st then .ok (beqR_eq h ▸ xs) else .bad) else .bad
    | _ => .bad
  | .ds row' xs => if h : beqR row' row = true then .ok (beqR_eq h ▸ xs) else .bad
  | .nils => .ok []
  | .ds0 => .ok []
  | _ => .bad
def appendA (E : Env) (nb : Nat) (t : TypeId) (s x : V) : RM Eff := match E.ty t with
  | some ⟨.sl e, _, _, _, _⟩ => match E.ty e with
    | some ty => bif Nat.beq ty.row.length ty.size && Nat.beq ty.zero.length ty.size && Nat.blt 0 ty.size && Nat.blt 0 ty.bytes then
      (rowsOf ty.row x).bind fun ys => (match s with
        | .slw id st => bif Nat.beq st ty.size then .read id fun hb => (match hb.blk with
            | .arr row xs => if h : beqR row ty.row = true then
                bif !hb.fz then .guard (decide ((xs.length + ys.length) * ty.bytes ≤ 140737488355328)) (.ok (.slw nb st, [(nb, ⟨.arr ty.row ((beqR_eq h ▸ xs : List (DR ty.row)) ++ ys), false⟩), (id, ⟨.dead, false⟩)])) else .bad
              else .bad
            | _ => .bad)
          else .bad
        | .nils => .br ys.isEmpty (ret .nils) (.guard (decide (ys.length * ty.bytes ≤ 140737488355328)) (.ok (.slw nb ty.size, [(nb, ⟨.arr ty.row ys, false⟩)])))
        | .ds0 => .br ys.isEmpty (ret .ds0) (.guard (decide (ys.length * ty.bytes ≤ 140737488355328)) (.ok (.slw nb ty.size, [(nb, ⟨.arr ty.row ys, false⟩)])))
        | _ => .bad)
      else .bad
    | none => .bad
  | _ => .bad
def complexA (x y : V) : RM Eff := match x, y with
  | .f k a, .f k' b => bif decide (k = k') then ret (.c k a b) else .bad
  | _, _ => .bad
/-- The greater, or the smaller, of two numbers. -/
def mm2 (mx : Bool) (x y : V) : Option V := match x, y with
  | .f k a, .f k' b => bif decide (k = k') then some (.f k (bif mx then fmax k a b else fmin k a b)) else none
  | .i k a, .i k' b => bif decide (k = k') then some (.i k (bif mx then imax a b else imin a b)) else none
  | _, _ => none
def mmL (mx : Bool) : V → List V → Option V
  | x, [] => some x
  | x, y :: l => (mm2 mx x y).bind fun z => mmL mx z l
def mmA (mx : Bool) (l : List V) : RM Eff := match l with
  | x :: y :: l => (RM.ofOpt ((mm2 mx x y).bind fun z => mmL mx z l)).bind ret
  | _ => .bad
def opRM0 (E : Env) (nb : Nat) (ρ : Operand → V) (op : Op) : RM Eff := match op with
  | .call c => match c.callee with
    | .value fo => match ρ fo with
      | .fn f caps => callRM E nb f (c.args.toList.map ρ ++ caps)
      | _ => .bad
    | .builtin .len => match c.args[0]?, c.argTypes[0]? with
      | some x, some t => match E.ty t with
        | some ⟨.sl _, _, _, _, _⟩ => lenA (ρ x)
        | _ => .bad
      | _, _ => .bad
    | .builtin .append => match c.args[0]?, c.args[1]?, c.argTypes[0]?, c.argTypes[1]? with
      | some s, some x, some t, some u => match E.ty u with
        | some ⟨.sl _, _, _, _, _⟩ => bif Nat.beq c.args.size 2 && Nat.beq c.argTypes.size 2 then appendA E nb t (ρ s) (ρ x) else .bad
        | _ => .bad
      | _, _, _, _ => .bad
    | .builtin .max => mmA true (c.args.toList.map ρ)
    | .builtin .min => mmA false (c.args.toList.map ρ)
    | _ => .bad
  | op => opA E nb ρ op
/-! ### Rows of slices that are owned with their cells -/
def Ck.flat : Ck → Bool
  | .sl _ => false
  | .osl _ => false
  | _ => true
def oslR : List Ck → Option (List Ck)
  | [.sl r] => bif !r.isEmpty && r.all Ck.flat then some r else none
  | _ => none
/-- An own row that is to be handed over. -/
def takeO (r : List Ck) (v : V) : RM (Nat × List (DR r)) := match v with
  | .slw id st => .read id fun hb => match hb.blk with
    | .arr row xs => if h : beqR row r = true then bif !hb.fz && Nat.beq st row.length then .ok (id, beqR_eq h ▸ xs) else .bad else .bad
    | _ => .bad
  | _ => .bad
/-- An own block of owned slices. -/
def asO (v : V) : RM (Option (Nat × (r : List Ck) × List (DR [.osl r]))) := match v with
  | .slw id st => .read id fun hb => match hb with
    | ⟨.arr [.osl r] xss, false⟩ => .ok (bif Nat.beq st 1 then some (id, ⟨r, xss⟩) else none)
    | _ => .ok none
  | _ => .ok none
def isO (v : V) : RM Bool := match v with
  | .slw id st => .read id fun hb => match hb with
    | ⟨.arr [.osl _] _, false⟩ => .ok (Nat.beq st 1)
    | _ => .ok false
  | _ => .ok false
def anyO : List V → RM Bool
  | [] => .ok false
  | v :: vs => (isO v).bind fun b => bif b then .ok true else anyO vs
/-- What is handed to a call that only reads; which own blocks were met. -/
def snapO (v : V) : RM (V × List Nat) := (asO v).bind fun q => match q with
  | some (id, ⟨r, xss⟩) => .ok (.ds [.sl r] xss, [id])
  | none => snap 4 v
def callO (E : Env) (nb : Nat) (f : FuncId) (args : List V) : RM Eff :=
  bif E.mutF f then .bad else
  (snapL snapO args).bind fun p =>
    (RM.ofTr (E.call f p.1)).bind fun q =>
      bif Nat.ble q.2.length room && !(q.1.deep || q.2.any HB.deep) then .ok (q.1.mapId (nb + ·), enumFrom nb (q.2.map (HB.mapId (nb + ·)))) else .bad
def appO (E : Env) (nb : Nat) (t : TypeId) (s x : V) : RM (Option Eff) := match E.ty t with
  | some ⟨.sl e, _, _, _, _⟩ => match E.ty e with
    | some ty => (match oslR ty.row with
      | some r => bif Nat.beq ty.row.length ty.size && Nat.beq ty.zero.length ty.size && Nat.blt 0 ty.size && Nat.blt 0 ty.bytes then
          (asO s).bind fun p => (asO x).bind fun q => (match p, q with
            | some (id, ⟨r1, xss⟩), some (id', ⟨r2, yss⟩) => if h : beqR r1 r = true ∧ beqR r2 r = true then
                bif !Nat.beq id id' then .guard (decide ((xss.length + yss.length) * ty.bytes ≤ 140737488355328)) (.ok (some (.slw nb 1, [(id', ⟨.dead, false⟩), (nb, ⟨.arr [.osl r] ((beqR_eq h.1 ▸ xss : List (DR [.osl r])) ++ (beqR_eq h.2 ▸ yss : List (DR [.osl r]))), false⟩), (id, ⟨.dead, false⟩)]))) else .bad
              else .bad
            | _, _ => .bad)
        else .bad
      | none => .ok none)
    | none => .ok none
  | _ => .ok none
def oslOp (E : Env) (nb : Nat) (ρ : Operand → V) (op : Op) : RM (Option Eff) := match op with
  | .makeSlice t l c => (match E.ty t with
    | some ⟨.sl e, _, _, _, _⟩ => match E.ty e with
      | some ty => (match oslR ty.row, ρ l, ρ c, ty.zero with
        | some r, .i .i64 n, .i .i64 m, [.nils] => .guard (decide (n = m) && decide (0 ≤ n) && decide (n * ty.bytes ≤ 140737488355328)) (bif Nat.beq ty.size 1 && Nat.blt 0 ty.bytes then
            .ok (some (.slw nb 1, [(nb, ⟨.arr [.osl r] (List.replicate n.toNat []), false⟩)])) else .bad)
        | some _, _, _, _ => .bad
        | none, _, _, _ => .ok none)
      | none => .ok none
    | _ => .ok none)
  | .buildSlice t len parts => (match E.ty t with
    | some ⟨.sl e, _, _, _, _⟩ => match E.ty e with
      | some ty => (match oslR ty.row with
        | some r => bif Nat.beq ty.size 1 && Nat.beq ty.zero.length 1 then (match len, parts.toList with
          | 0, [] => .ok (some (.slw nb 1, [(nb, ⟨.arr [.osl r] [], false⟩)]))
          | 1, [(0, x)] => (takeO r (ρ x)).bind fun q => .ok (some (.slw nb 1, [(q.1, ⟨.dead, false⟩), (nb, ⟨.arr [.osl r] [q.2], false⟩)]))
          | _, _ => .bad) else .bad
        | none => .ok none)
      | none => .ok none
    | _ => .ok none)
  | .store t a x => (match ρ a with
    | .rel id st i j => (asO (.slw id st)).bind fun q => (match q with
      | some (id, ⟨r, xss⟩) => (match E.ty t with
        | some ty => bif Nat.beq ty.size 1 && Nat.beq j 0 && !r.isEmpty && r.all Ck.flat then (takeO r (ρ x)).bind fun p => bif Nat.beq p.1 id then .bad else .ok (some (.undef, [(p.1, ⟨.dead, false⟩), (id, ⟨.arr [.osl r] (xss.set i p.2), false⟩)])) else .bad
        | none => .bad)
      | none => .ok none)
    | _ => .ok none)
  | .call c => (match c.callee with
    | .value fo => (match ρ fo with
      | .fn f caps => (anyO (c.args.toList.map ρ ++ caps)).bind fun b => bif b && !E.mutF f then (callO E nb f (c.args.toList.map ρ ++ caps)).bind fun e => .ok (some e) else .ok none
      | _ => .ok none)
    | .builtin .append => (match c.args[0]?, c.args[1]?, c.argTypes[0]?, c.argTypes[1]? with
      | some s, some x, some t, some u => (match E.ty u with
        | some ⟨.sl _, _, _, _, _⟩ => bif Nat.beq c.args.size 2 && Nat.beq c.argTypes.size 2 then appO E nb t (ρ s) (ρ x) else .ok none
        | _ => .ok none)
      | _, _, _, _ => .ok none)
    | _ => .ok none)
  | _ => .ok none
def opRM (E : Env) (nb : Nat) (ρ : Operand → V) (op : Op) : RM Eff := bif E.osl then (oslOp E nb ρ op).bind fun q => (match q with
  | some e => .ok e
  | none => opRM0 E nb ρ op) else opRM0 E nb ρ op

def St.setT (st : St) : Option Tmp → V → St
  | none, _ => st
  | some d, v => { st with t := fun i => bif Nat.beq i d then v else st.t i }
def St.setH (st : St) (id : Nat) (hb : HB) : St := { st with h := fun i => bif Nat.beq i id then some hb else st.h i }
def St.setHs (st : St) : List (Nat × HB) → St
  | [] => st
  | (id, hb) :: l => (st.setH id hb).setHs l
def St.put (st : St) (d : Option Tmp) (e : Eff) : St := (st.setHs e.2).setT d e.1

abbrev FP := List Nat × List Nat
def wrOk (nb : Nat) (wr : List (Nat × HB)) (rs : List Nat) : Bool := wr.all fun p => (Nat.ble nb p.1 && Nat.blt p.1 (nb + room)) || rs.contains p.1
def dstOk (n : Nat) : Option Tmp → Bool
  | none => true
  | some d => Nat.blt d n
/-- A truth value that is known on this way. -/
def St.know (st : St) (t : Tmp) (x : Bool) : St := { st with t := fun i => bif Nat.beq i t then .lb x else st.t i }
/-- Whether an operation's outcome guards others. -/
def isGuard (ops : Array Oper) (i : Nat) : Bool := ops.toList.any fun o => match o.guard with
  | some (j, _) => Nat.beq j i
  | none => false
def goA (E : Env) (sp : Bool) (nb : Nat) (o : Oper) (st : St) : Tr (St × FP) :=
  ((opRM E nb st.op o.op).run st.h []).bind fun p =>
    bif wrOk nb p.1.2 p.2 then (bif sp then (match p.1.1 with
      | .b x => .br x (.ok (st.put o.dst (.lb true, p.1.2), (p.2, p.1.2.map (·.1)))) (.ok (st.put o.dst (.lb false, p.1.2), (p.2, p.1.2.map (·.1))))
      | _ => .ok (st.put o.dst p.1, (p.2, p.1.2.map (·.1)))) else .ok (st.put o.dst p.1, (p.2, p.1.2.map (·.1)))) else .bad
def skipA (o : Oper) (st : St) : Tr (St × FP) := .ok (st.setT o.dst (.x undef), ([], []))
def stepA (E : Env) (kn : Bool) (ops : Array Oper) (base : Nat) (i : Nat) (o : Oper) (st : St) : Tr (St × FP) :=
  bif dstOk st.n o.dst then
    (match o.guard with
      | none => goA E (isGuard ops i) (base + room * i) o st
      | some (j, want) => match (ops[j]?).bind (·.dst) with
        | some t => match st.t t with
          | .b x => .br (x == want) (goA E (isGuard ops i) (base + room * i) o (bif kn then st.know t want else st)) (skipA o (bif kn then st.know t !want else st))
          | .lb x => bif x == want then goA E (isGuard ops i) (base + room * i) o st else skipA o st
          | .x (.tuple _) => skipA o st
          | _ => .bad
        | none => .bad)
  else .bad
def evOps (E : Env) (kn : Bool) (ops : Array Oper) (base : Nat) : Nat → List Oper → St → List FP → Tr (St × List FP)
  | _, [], st, fp => .ok (st, fp.reverse)
  | i, o :: rest, st, fp => (stepA E kn ops base i o st).bind fun p => evOps E kn ops base (i + 1) rest p.1 (p.2 :: fp)
def disj (a b : List Nat) : Bool := a.all fun x => !b.contains x
def fpFree (f g : FP) : Bool := disj f.2 g.1 && disj f.2 g.2 && disj f.1 g.2
/-- Which operations are told to come before, directly or not: bits. -/
def befs : List Oper → List Nat → List Nat
  | [], acc => acc
  | o :: rest, acc => befs rest (acc ++ [o.after.toList.foldl (fun s e => bif Region.binds .any e then Nat.lor (Nat.lor s (2 ^ e.on)) (acc.getD e.on 0) else s) 0])
/-- The text's order is one of the orders that are told. -/
def lexOk : Nat → List Oper → Bool
  | _, [] => true
  | i, o :: rest => o.after.toList.all (fun e => !Region.binds .any e || Nat.blt e.on i) && (match o.op with | .select .. => false | _ => true) && lexOk (i + 1) rest
/-- What is not told to follow does not meddle. -/
def fpsOk (ops : Array Oper) (fps : List FP) : Bool :=
  let bs := befs ops.toList []
  (List.range ops.size).all fun j => (List.range j).all fun i => Nat.testBit (bs.getD j 0) i ||
    ((match ops[i]?, ops[j]? with
      | some oi, some oj => oi.apart ops oj
      | _, _ => true) && fpFree (fps.getD i ([], [])) (fps.getD j ([], [])))
def evReg (E : Env) (ops : Array Oper) (draw : Bool) (st : St) : Tr St :=
  (evOps E (!draw) ops st.nx 0 ops.toList { st with nx := st.nx + room * ops.size } []).bind fun p =>
    bif !draw || (lexOk 0 ops.toList && fpsOk ops p.2) then .ok p.1 else .bad

/-- A region that has an own row of an own block of slices written (the fourth, fifth and sixth of its seven operations). -/
def markOf (E : Env) (ops : Array Oper) : Bool := match ops.toList with
  | [_, _, _, o3, o4, o5, _] => (match o3.op, o4.op, o5.op with
    | .load _ _, .move _, .call c => (match c.callee with
      | .value (.func f) => E.mutF f
      | _ => false)
    | _, _, _ => false)
  | _ => false
def markFin (E : Env) (ops : Array Oper) (o6 : Oper) (base id d5 : Nat) (st2 : St) (r : List Ck) (xss : List (DR [.osl r])) (i : Nat) (v : V) (x : List (DR r)) : Tr St :=
  (evOps E true ops base 6 [o6] ((st2.setH id ⟨.arr [.osl r] (xss.set i x), false⟩).setT (some d5) v) []).bind fun q => .ok q.1
def markRow (E : Env) (ops : Array Oper) (o6 : Oper) (base id d5 : Nat) (f : FuncId) (st2 : St) (v5 : V) (r : List Ck) (xss : List (DR [.osl r])) (i : Nat) (x : List (DR r)) : Tr St :=
  (E.callM f [.slw 0 r.length, v5] [.arr r x]).bind fun q => (match q.1, q.2 with
    | .i k n, [.arr r' x'] => if h : beqR r' r = true then
        .br x.isEmpty ((E.callM f [.nils, v5] []).bind fun q' => (match q'.1, q'.2 with
          | .i k' n', [] => bif decide (k = k') then .br (n == n') (markFin E ops o6 base id d5 st2 r xss i (.i k n) x) .bad else .bad
          | _, _ => .bad)) (markFin E ops o6 base id d5 st2 r xss i (.i k n) (beqR_eq h ▸ x'))
      else .bad
    | _, _ => .bad)
def markMid (E : Env) (ops : Array Oper) (o3 o4 o5 o6 : Oper) (base : Nat) (st1 : St) : Tr St := match o3.guard, o3.dst, o3.op, o4.guard, o4.dst, o4.op, o5.guard, o5.dst, o5.op with
  | none, some d3, .load t ad, none, some d4, .move x4, none, some d5, .call c => (match c.callee, c.args.toList with
    | .value (.func f), [.tmp d3', x5] =>
      bif Nat.beq d3' d3 && !Nat.beq d4 d3 && Nat.blt d3 st1.n && Nat.blt d4 st1.n && Nat.blt d5 st1.n && E.mutF f then
        (match st1.op ad, E.ty t with
          | .rel id s i j, some ty => (match ty.k, st1.h id with
            | .sl _, some ⟨.arr [.osl r] xss, false⟩ =>
              let st2 := (st1.setT (some d3) .undef).setT (some d4) ((st1.setT (some d3) .undef).op x4)
              let v5 := st2.op x5
              bif Nat.beq s 1 && Nat.beq j 0 && !r.isEmpty && r.all Ck.flat && v5.noRef && !v5.deep then markRow E ops o6 base id d5 f st2 v5 r xss i (xss.getD i ([] : List (DR r))) else .bad
            | _, _ => .bad)
          | _, _ => .bad)
      else .bad
    | _, _ => .bad)
  | _, _, _, _, _, _, _, _, _ => .bad
def evMark (E : Env) (ops : Array Oper) (st : St) : Tr St := match ops.toList with
  | [o0, o1, o2, o3, o4, o5, o6] => (evOps E true ops st.nx 0 [o0, o1, o2] { st with nx := st.nx + room * ops.size } []).bind fun p => markMid E ops o3 o4 o5 o6 st.nx p.1
  | _ => .bad
inductive Xt where
  | normal
  | exit (id : Nat)
  | ret
/-- What is told of the loops: which temporaries are carried, and what a loop comes to. -/
structure Loops where
  n : Nat
  lv : Nat → List Nat
  /-- how a temporary is carried: 0 as it is, 1 only to be read from now on, 2 not at all -/
  md : Nat → Xt → Nat → Nat
  loop : Nat → List V → List HB → Tr (Xt × List V × List HB)
def keyOf : Code → Option Nat
  | .region id _ _ => some id
  | .seq a b => (keyOf a).orElse fun _ => keyOf b
  | .cond _ a b => (keyOf a).orElse fun _ => keyOf b
  | .block _ b => keyOf b
  | .loop b => keyOf b
  | .scope b => keyOf b
  | _ => none
def assocV : List Nat → List V → Nat → V
  | t :: ts, v :: vs, i => bif Nat.beq i t then v else assocV ts vs i
  | _, _, _ => .undef
def mkSt (n : Nat) (lv : List Nat) (vs : List V) (bs : List HB) : St := ⟨assocV lv vs, fun id => bs[id]?, bs.length, n⟩
def prepV (md : Nat → Nat) (t : Nat → V) : List Nat → RM (List V × List Nat)
  | [] => .ok ([], [])
  | i :: l => (bif Nat.beq (md i) 0 then .ok (t i, []) else bif Nat.beq (md i) 1 then snap 4 (t i) else .ok (.undef, [])).bind fun p => (prepV md t l).bind fun q => .ok (p.1 :: q.1, p.2 ++ q.2)
/-- The temporaries that are carried, and what they lead to. -/
def cutA (E : Env) (md : Nat → Nat) (lv : List Nat) (st : St) : Tr (List V × List Nat × List HB) :=
  (((prepV md st.t lv).bind fun p => (bif p.2.isEmpty || E.frz then freezeAll p.2 else .bad).bind fun fz => .ok (p.1, fz)).run st.h []).bind fun q =>
    ((normM E.pin q.1.1).run (st.setHs q.1.2).h []).bind fun p => .ok p.1
def ev (E : Env) (L : Loops) : Code → St → Tr (Xt × St)
  | .skip, st => .ok (.normal, st)
  | .label _, st => .ok (.normal, st)
  | .region _ ops d, st => (bif E.osl && !d && markOf E ops then evMark E ops st else evReg E ops d st).bind fun st' => .ok (.normal, st')
  | .seq a b, st => (ev E L a st).bind fun p => match p.1 with
    | .normal => ev E L b p.2
    | x => .ok (x, p.2)
  | .cond c a b, st => match c with
    | .tmp t => (match st.t t with
      | .b x => .br x (ev E L a (st.know t true)) (ev E L b (st.know t false))
      | .lb x => bif x then ev E L a st else ev E L b st
      | _ => .bad)
    | _ => .bad
  | .block id b, st => (ev E L b st).bind fun p => .ok (match p.1 with
    | .exit j => bif Nat.beq j id then .normal else .exit j
    | x => x, p.2)
  | .loop b, st => match keyOf b with
    | some k => bif Nat.beq st.n L.n then (cutA E (L.md k .normal) (L.lv k) st).bind fun p => (L.loop k p.1 p.2.2).bind fun q => .ok (q.1, mkSt L.n (L.lv k) q.2.1 q.2.2) else .bad
    | none => .bad
  | .exit id, st => .ok (.exit id, st)
  | .scope b, st => ev E L b st
  | .ret, st => .ok (.ret, st)
  | _, _ => .bad
def resV (E : Env) (st : St) : ResultVar → RM V
  | .tmp t => .ok (st.t t)
  | .cell a t => (opA E 0 st.op (.load t (.tmp a))).bind fun e => .ok e.1
def resVs (E : Env) (st : St) : List ResultVar → RM (List V)
  | [] => .ok []
  | r :: rs => (resV E st r).bind fun v => (resVs E st rs).bind fun vs => .ok (v :: vs)
def single : List V → V
  | [v] => v
  | l => .tup l
def evFn (E : Env) (L : Loops) (fn : Func) (args : List V) : Tr (V × List HB) := match fn.body with
  | some c => bif Nat.ble args.length fn.ntmps then (ev E L c (mkSt fn.ntmps (List.range args.length) args [])).bind fun p => match p.1 with
    | .exit _ => .bad
    | _ => (((resVs E p.2 fn.results.toList).bind fun l => normM 0 [single l]).run p.2.h []).bind fun q => match q.1.1 with
      | [v] => .ok (v, q.1.2.2)
      | _ => .bad
    else .bad
  | none => .bad
/-- A function that writes into what it is given. -/
def evFnM (E : Env) (L : Loops) (fn : Func) (args : List V) (bs : List Blk) : Tr (V × List Blk) := match fn.body with
  | some c => bif Nat.ble args.length fn.ntmps && Nat.beq E.pin bs.length then (ev E L c (mkSt fn.ntmps (List.range args.length) args (bs.map fun b => ⟨b, false⟩))).bind fun p => match p.1 with
    | .exit _ => .bad
    | _ => (((resVs E p.2 fn.results.toList).bind fun l => normM bs.length [single l]).run p.2.h []).bind fun q => match q.1.1 with
      | [v] => bif q.1.2.2.any (·.fz) then .bad else .ok (v, q.1.2.2.map (·.blk))
      | _ => .bad
    else .bad
  | none => .bad
/-- A round of a loop, and then the temporaries that are carried. -/
def loopStep (E : Env) (L : Loops) (k : Nat) (body : Code) (vs : List V) (bs : List HB) : Tr (Xt × List V × List HB) :=
  (ev E L body (mkSt L.n (L.lv k) vs bs)).bind fun p => bif Nat.beq p.2.n L.n then (cutA E (L.md k p.1) (L.lv k) p.2).bind fun q => .ok (p.1, q.1, q.2.2) else .bad
def iterS (f : List V → List HB → Option (Xt × List V × List HB)) : Nat → List V → List HB → Option (Xt × List V × List HB)
  | 0, _, _ => none
  | n + 1, vs, bs => match f vs bs with
    | some (.normal, vs', bs') => iterS f n vs' bs'
    | r => r

/-- The loops of a body, but those that lie in loops. -/
def loopsIn : Code → List (Nat × Code)
  | .seq a b => loopsIn a ++ loopsIn b
  | .cond _ a b => loopsIn a ++ loopsIn b
  | .block _ b => loopsIn b
  | .scope b => loopsIn b
  | .loop b => match keyOf b with
    | some k => [(k, b)]
    | none => []
  | _ => []
def loopAt (fn : Func) (k : Nat) : Code := match fn.body with
  | some c => (((loopsIn c).find? fun p => Nat.beq p.1 k).map (·.2)).getD .skip
  | none => .skip
/-! ### What a program tells of its types -/
def tkOf (P : Program) (t : TypeId) : TK := match P.underlying t with
  | some .bool => .b
  | some (.int k) => .i k
  | some (.float k) => .f k
  | some (.complex k) => .c k
  | some (.slice e) => .sl e
  | some (.struct fs) => .st (fs.toList.map fun f => (f.offset, f.type))
  | some (.func ..) => .fn
  | some (.pointer _) => .pt
  | _ => .other
def rowOf (P : Program) : Nat → TypeId → List Ck
  | 0, _ => []
  | n + 1, t => match tkOf P t with
    | .b => [.b]
    | .i k => [.i k]
    | .f k => [.f k]
    | .c k => [.c k]
    | .sl e => [.sl (rowOf P n e)]
    | .st fs => fs.flatMap fun f => rowOf P n f.2
    | _ => []
/-- Structs of this type are compared field by field. -/
def eqOk (P : Program) (t : TypeId) : Bool := !P.stoodInHeld t && !P.eqGuardType P.depth t && match P.underlying t with
  | some (.struct fs) => fs.toList.all (fun f => f.name != "_" && match P.underlying f.type with | some (.int _) => true | _ => false)
  | _ => false
def tyOf (P : Program) (t : TypeId) : Option Ty := (P.info? t).bind fun i => i.zero.map fun z => ⟨tkOf P t, i.size, i.bytes, z.cells.toList.map ofValue, rowOf P 4 t⟩
end Go.Proofs.Ytpglfnkkmafhbaa
