/- AN ABSTRACT EVALUATOR FOR LOADED GO CODE: values, small code, evaluation. No program is in sight here. Every text of this family is this prover's own. -/
import Derived.Below
import Derived.Laws.AppendOwn
import Derived.KernelRfl
set_option linter.unusedSimpArgs false
set_option linter.unusedVariables false
namespace Go.Proofs.Av

/-- Immutable data. -/
inductive T where
  | i (k : IntKind) (n : Int)
  | b (x : Bool)
  | s (l : List UInt8)
  /-- bytes; the flag: surely nil -/
  | by_ (z : Bool) (l : List UInt8)
  /-- a slice of elements of a type; the flag: surely nil -/
  | sl (z : Bool) (e : TypeId) (xs : List T)
  /-- an element of several cells -/
  | ag (cs : List T)
  /-- any other value, itself -/
  | o (v : Value)
  deriving Inhabited

/-- What is cut, or gone into: a text, bytes, a slice of elements of a type. -/
inductive SK where
  | s | by_ | sl (e : TypeId)
  deriving DecidableEq, Inhabited

/-- Kinds of single cells. -/
inductive LK where
  | i (k : IntKind) | b | s | by_ | sl (e : TypeId) | o
  deriving DecidableEq, Inhabited

/-- What a slot, or a cell of a variable in memory, is known to hold. -/
inductive V where
  | un
  | im (t : T)
  /-- a pointer to cells that nobody writes -/
  | ip (ts : List T)
  /-- a pointer to a cell of a variable of the call's own (or handed to it) -/
  | rf (o c : Nat)
  /-- a slice that is the whole of a row of the call's own -/
  | ow (o : Nat)
  /-- a pointer into an element of a row of the call's own -/
  | re (o : Nat) (k : SK) (agg : Bool) (ls : List LK) (j : Nat) (c : Nat)
  | fn (f : FuncId) (caps : List V)
  | ag (vs : List V)
  | tp (vs : List V)
  deriving Inhabited

inductive Ob where
  | box (cells : List V)
  | row (e : TypeId) (t : T)
  deriving Inhabited

abbrev Obs := List (Nat × Ob)
abbrev Env := List (Nat × V)

structure S where
  env : Env
  obs : Obs

inductive Opd where
  | t (n : Nat)
  | c (x : T)
  | f (k : FuncId)

inductive PO where
  | mv (x : Opd)
  | pick (c a b : Opd)
  /-- integers: arithmetic, comparisons -/
  | ar (op : BinOp) (k : IntKind) (x y : Opd)
  | cm (op : BinOp) (x y : Opd)
  | sh (op : BinOp) (k : IntKind) (x y : Opd)
  /-- texts -/
  | st (op : BinOp) (x y : Opd)
  /-- equality (true: ==) of bools; of a slice with nil; of structs -/
  | eqb (eq : Bool) (x y : Opd)
  | eqn (eq : Bool) (x : Opd)
  | eqp (eq : Bool) (x : Opd)
  | eqs (eq : Bool) (ls : List LK) (x y : Opd)
  | not (x : Opd)
  | neg (k : IntKind) (x : Opd)
  | cv (k : IntKind) (x : Opd)
  | toS (x : Opd)
  | toB (x : Opd)
  /-- bytes whose row takes the mark of a conversion -/
  | cvb (x : Opd)
  | slc (k : SK) (x : Opd) (lo hi : Option Opd)
  /-- a prefix of a row of the call's own, which goes on as the row -/
  | slo (x : Opd) (hi : Opd)
  | len (str : Bool) (x : Opd)
  | cvs (x : Opd)
  | fld (off : Nat) (n : Option Nat) (x : Opd)
  | bld (zs : List T) (parts : List (Nat × Nat × Opd))
  | bsl (e : TypeId) (isBy : Bool) (agg : Bool) (ls : List LK) (xs : List Opd)
  | ixs (x i : Opd)
  | al (zs : List T)
  | bx (x : Opd)
  | ld (n : Option Nat) (x : Opd)
  | sto (n : Nat) (x y : Opd)
  | nc (x : Opd)
  | fa (off : Nat) (x : Opd)
  | ia (k : SK) (agg : Bool) (ls : List LK) (x i : Opd)
  | ext (x : Opd) (j : Nat)
  | call (f : Opd) (args : List Opd)
  | mkf (f : FuncId) (caps : List Opd)
  | app (k : SK) (e : TypeId) (bytes : Nat) (x y : Opd)
  | mn (x y : Opd)
  | mx (x y : Opd)
  | pan (x : Opd)
  /-- an element of an array's value: how it is loaded, its cells, the array's length -/
  | ixa (n : Option Nat) (sz len : Nat) (x i : Opd)

structure POp where
  d : Option Nat
  g : Option (Nat × Bool)
  op : PO

/-- The orders of a region that draws its order: first this one, which looks at no world; one of these. -/
inductive OT where
  | done
  | one (i : Nat) (t : OT)
  | br (t : OT)
  | alt (i : Nat) (t r : OT)
  | stop

inductive PC where
  | sk
  | rg (ops : List POp) (keep : List Nat)
  | rd (ops : List POp) (t : OT) (keep : List Nat)
  | sq (a b : PC)
  | cd (c : Opd) (a b : PC)
  | bk (id : Nat) (a : PC)
  /-- a loop: the slots that live at its head; those of them that are made rows -/
  | lp (keep : List Nat) (own : List (Nat × Bool × TypeId)) (a : PC)
  | ex (id : Nat)
  | rt

inductive Out where
  | nx
  | ex (id : Nat)
  | rt
  | pn (v : V)

inductive Res where
  | ret (vs : List V) (obs : Obs)
  | pan (v : V) (obs : Obs)

/-- A test that evaluation may have to leave open. -/
def ifB {α : Type} (c : Bool) (x y : α) : α := match c with
  | true => x
  | false => y

/-! ### Looking up -/
def get : Env → Nat → V
  | [], _ => .un
  | (a, v) :: r, t => bif a == t then v else get r t
def obAt : Obs → Nat → Option Ob
  | [], _ => none
  | (a, v) :: r, o => bif a == o then some v else obAt r o
def obSet : Obs → Nat → Ob → Obs
  | [], _, _ => []
  | (a, v) :: r, o, x => bif a == o then (a, x) :: r else (a, v) :: obSet r o x
def obDel : Obs → Nat → Obs
  | [], _ => []
  | (a, v) :: r, o => bif a == o then obDel r o else (a, v) :: obDel r o
def S.put (s : S) (d : Option Nat) (v : V) : S :=
  match d with
  | some d => ⟨(d, v) :: s.env, s.obs⟩
  | none => s
def ev (e : Env) : Opd → V
  | .t n => get e n
  | .c x => .im x
  | .f k => .fn k []

/-! ### Where objects are named -/
mutual
def V.ids : V → List Nat
  | .rf o _ => [o]
  | .ow o => [o]
  | .re o _ _ _ _ _ => [o]
  | .fn _ vs => V.idsL vs
  | .ag vs => V.idsL vs
  | .tp vs => V.idsL vs
  | _ => []
def V.idsL : List V → List Nat
  | [] => []
  | v :: r => v.ids ++ V.idsL r
end
def Ob.ids : Ob → List Nat
  | .box vs => V.idsL vs
  | .row _ _ => []
def Obs.named (l : Obs) : List Nat := l.flatMap fun x => x.2.ids
def Obs.keys (l : Obs) : List Nat := l.map (·.1)
/-- No slot, no cell names the object, and there is none of that number. -/
def S.free (s : S) (o : Nat) : Bool := !(s.env.any fun x => x.2.ids.elem o) && !(s.obs.any fun x => x.2.ids.elem o || x.1 == o)

mutual
def V.ren (f : Nat → Nat) : V → V
  | .rf o c => .rf (f o) c
  | .ow o => .ow (f o)
  | .re o k a ls j c => .re (f o) k a ls j c
  | .fn k vs => .fn k (V.renL f vs)
  | .ag vs => .ag (V.renL f vs)
  | .tp vs => .tp (V.renL f vs)
  | v => v
def V.renL (f : Nat → Nat) : List V → List V
  | [] => []
  | v :: r => v.ren f :: V.renL f r
end
def Ob.ren (f : Nat → Nat) : Ob → Ob
  | .box vs => .box (V.renL f vs)
  | o => o

mutual
/-- Rows of the call's own as the data that they hold. -/
def V.snap (l : Obs) : V → V
  | .ow o => match obAt l o with
    | some (.row _ t) => .im t
    | _ => .un
  | .ag vs => .ag (V.snapL l vs)
  | v => v
def V.snapL (l : Obs) : List V → List V
  | [] => []
  | v :: r => v.snap l :: V.snapL l r
end

mutual
/-- One row as the data that it holds. -/
def V.snap1 (o : Nat) (t : T) : V → V
  | .ow p => bif p == o then .im t else .ow p
  | .fn k vs => .fn k (V.snap1L o t vs)
  | .ag vs => .ag (V.snap1L o t vs)
  | .tp vs => .tp (V.snap1L o t vs)
  | v => v
def V.snap1L (o : Nat) (t : T) : List V → List V
  | [] => []
  | v :: r => v.snap1 o t :: V.snap1L o t r
end
def Ob.snap1 (o : Nat) (t : T) : Ob → Ob
  | .box vs => .box (V.snap1L o t vs)
  | r => r
/-- A row is held fast: whoever names it has its data. -/
def S.fast (s : S) (o : Nat) : S :=
  match obAt s.obs o with
  | some (.row _ t) =>
    ⟨s.env.map fun x => (x.1, x.2.snap1 o t), (obDel s.obs o).map fun x => (x.1, x.2.snap1 o t)⟩
  | _ => s
def S.fasts (s : S) : List Nat → S
  | [] => s
  | o :: r => (s.fast o).fasts r
/-! ### Data -/
def T.cells : T → List T
  | .ag cs => cs
  | x => [x]
def getI : T → Int
  | .i _ n => n
  | _ => 0
def getB : T → Bool
  | .b x => x
  | _ => false
def getS : T → List UInt8
  | .s l => l
  | _ => []
def getBy : T → List UInt8
  | .by_ _ l => l
  | _ => []
def getL : T → List T
  | .sl _ _ xs => xs
  | _ => []
def getZ : T → Bool
  | .sl z _ _ => z
  | .by_ z _ => z
  | _ => false
def etaL : LK → T → T
  | .i k, x => .i k (getI x)
  | .b, x => .b (getB x)
  | .s, x => .s (getS x)
  | .by_, x => .by_ (getZ x) (getBy x)
  | .sl e, x => .sl (getZ x) e (getL x)
  | .o, x => x
/-- The cells of an element, each in its kind's form. -/
def etaC (agg : Bool) (ls : List LK) (x : T) : List T :=
  if agg then ls.zipIdx.map fun l => etaL l.1 (x.cells.getD l.2 (.b false)) else match ls with
    | [l] => [etaL l x]
    | _ => []
def okLeaf : LK → T → Bool
  | .i k, .i k' _ => k == k'
  | .b, .b _ => true
  | .s, .s _ => true
  | .by_, .by_ _ _ => true
  | .sl e, .sl _ e' _ => e == e'
  | .o, .o _ => true
  | _, _ => false
def okLeaves : List LK → List T → Bool
  | [], [] => true
  | l :: ls, x :: xs => okLeaf l x && okLeaves ls xs
  | _, _ => false
/-- Is an element of its type's form. -/
def okElem (agg : Bool) (ls : List LK) (x : T) : Bool :=
  bif agg then match x with
    | .ag cs => okLeaves ls cs
    | _ => false
  else okLeaves ls [x]
def byteT (x : UInt8) : T := .i .u8 (x.toNat : Int)

def bitAnd (k : IntKind) (x y : Int) : Int := k.wrap ((BitVec.ofInt k.bits x) &&& (BitVec.ofInt k.bits y)).toNat
def bitOr (k : IntKind) (x y : Int) : Int := k.wrap ((BitVec.ofInt k.bits x) ||| (BitVec.ofInt k.bits y)).toNat
def bitXor (k : IntKind) (x y : Int) : Int := k.wrap ((BitVec.ofInt k.bits x) ^^^ (BitVec.ofInt k.bits y)).toNat
def bitAndNot (k : IntKind) (x y : Int) : Int := k.wrap ((BitVec.ofInt k.bits x) &&& ~~~(BitVec.ofInt k.bits y)).toNat
def shlI (k : IntKind) (x y : Int) : Int := k.wrap (x * 2 ^ (min y.toNat k.bits))
def shrI (k : IntKind) (x y : Int) : Int := x.fdiv (2 ^ (min y.toNat k.bits))
def intOp (op : BinOp) (k : IntKind) (x y : Int) : Option Int :=
  match op with
  | .add => some (k.wrap (x + y))
  | .sub => some (k.wrap (x - y))
  | .mul => some (k.wrap (x * y))
  | .quo => ifB (y == 0) none (some (k.wrap (x.tdiv y)))
  | .rem => ifB (y == 0) none (some (x.tmod y))
  | .and => some (bitAnd k x y)
  | .or => some (bitOr k x y)
  | .xor => some (bitXor k x y)
  | .andNot => some (bitAndNot k x y)
  | _ => none
def cmpOp (op : BinOp) (x y : Int) : Option Bool :=
  match op with
  | .eql => some (x == y)
  | .neq => some (x != y)
  | .lss => some (decide (x < y))
  | .leq => some (decide (x ≤ y))
  | .gtr => some (decide (y < x))
  | .geq => some (decide (y ≤ x))
  | _ => none
def shOp (op : BinOp) (k : IntKind) (x y : Int) : Option Int :=
  match op with
  | .shl => ifB (decide (y < 0)) none (some (shlI k x y))
  | .shr => ifB (decide (y < 0)) none (some (shrI k x y))
  | _ => none
def strOp (op : BinOp) (x y : List UInt8) : Option T :=
  match op with
  | .add => ifB (decide (x.length + y.length ≤ 140737488355328)) (some (.s (x ++ y))) none
  | .eql => some (.b (x == y))
  | .neq => some (.b (x != y))
  | .lss => some (.b (Op.bytesLess x y))
  | .leq => some (.b (Op.bytesLess x y || x == y))
  | .gtr => some (.b (!(Op.bytesLess x y || x == y)))
  | .geq => some (.b (!(Op.bytesLess x y)))
  | _ => none
def eqLeaf : LK → T → T → Option Bool
  | .i k, .i kx m, .i ky n => bif kx == k && ky == k then some (m == n) else none
  | .b, .b x, .b y => some (x == y)
  | .s, .s x, .s y => some (x == y)
  | _, _, _ => none
def eqLeaves : List LK → List V → List V → Option Bool
  | [], [], [] => some true
  | l :: ls, .im x :: xs, .im y :: ys => (eqLeaf l x y).bind fun r => (eqLeaves ls xs ys).map fun q => r && q
  | _, _, _ => none

/-- Cut a list: `xs[lo:hi]`; none: out of range. -/
def cutL {α : Type} (xs : List α) (lo hi : Option Int) : Option (List α) :=
  match lo, hi with
  | none, none => some xs
  | some a, none => ifB (decide (0 ≤ a) && decide (a ≤ (xs.length : Int))) (some (xs.drop a.toNat)) none
  | none, some b => ifB (decide (0 ≤ b) && decide (b ≤ (xs.length : Int))) (some (xs.take b.toNat)) none
  | some a, some b => ifB (decide (0 ≤ a) && decide (a ≤ b) && decide (b ≤ (xs.length : Int))) (some ((xs.take b.toNat).drop a.toNat)) none
def idxOf : Option V → Option (Option Int)
  | none => some none
  | some (.im (.i _ n)) => some (some n)
  | _ => none
def tlen : T → Option Nat
  | .s l => some l.length
  | .by_ _ l => some l.length
  | .sl _ _ xs => some xs.length
  | _ => none
def cutT (x : T) (lo hi : Option Int) : Option T :=
  match x with
  | .s l => (cutL l lo hi).map .s
  | .by_ z l => (cutL l lo hi).map (.by_ z)
  | .sl z e xs => (cutL xs lo hi).map (.sl z e)
  | _ => none

/-! ### Panics -/
def toT (l : Obs) : V → Option T
  | .im t => some t
  | .ow o => match obAt l o with
    | some (.row _ t) => some t
    | _ => none
  | _ => none
def allT : List V → Option (List T)
  | [] => some []
  | .im t :: r => (allT r).map (t :: ·)
  | _ => none
/-- An element out of a value: one cell, or several. -/
def elemT (l : Obs) (agg : Bool) (v : V) : Option T :=
  bif agg then match v with
    | .ag vs => (allT (V.snapL l vs)).map .ag
    | _ => none
  else toT l v
def appT : T → List T → T
  | .sl _ e xs, ys => .sl false e (xs ++ ys)
  | .by_ _ l, ys => .by_ false (l ++ ys.map fun y => UInt8.ofNat (getI y).toNat)
  | x, _ => x
def setT (t : T) (j : Nat) (x : T) : T :=
  match t with
  | .sl z e xs => .sl z e (xs.set j x)
  | .by_ z l => .by_ z (l.set j (UInt8.ofNat (getI x).toNat))
  | x => x

/-- The elements of a value that is appended, spread. -/
def spread (l : Obs) : V → Option T
  | .im t => some t
  | .ow o => match obAt l o with
    | some (.row _ t) => some t
    | _ => none
  | _ => none
def joinT : T → T → Option T
  | .sl _ e xs, .sl _ e' ys => bif e == e' then some (.sl false e (xs ++ ys)) else none
  | .by_ _ l, .by_ _ m => some (.by_ false (l ++ m))
  | _, _ => none
/-! ### Operations -/
def nid (d : Option Nat) : Nat := 2000 + 16 * d.getD 900
def go (s : S) : Option (Out × S) := some (.nx, s)
def andThen (r : Option (Out × S)) (k : S → Option (Out × S)) : Option (Out × S) :=
  r.bind fun p => match p.1 with
    | .nx => k p.2
    | q => some (q, p.2)
/-- A new object under the number of the slot that is written. -/
def S.newIn (s : S) (l : Obs) (d : Option Nat) (x : Ob) (v : V) : Option (Out × S) :=
  bif s.free (nid d) then go (S.put ⟨s.env, (nid d, x) :: l⟩ d v) else none
def S.new (s : S) (d : Option Nat) (x : Ob) (v : V) : Option (Out × S) := s.newIn s.obs d x v
mutual
/-- The rows that a value names, that are read with it. -/
def owner : V → List Nat
  | .ow o => [o]
  | .ag vs => ownerL vs
  | _ => []
def ownerL : List V → List Nat
  | [] => []
  | v :: r => owner v ++ ownerL r
end
def reachO (l : Obs) : Nat → List Nat → List Nat → List Nat
  | 0, _, acc => acc
  | _ + 1, [], acc => acc
  | n + 1, o :: r, acc => bif acc.elem o then reachO l n r acc else match obAt l o with
    | some x => reachO l n (r ++ x.ids) (acc ++ [o])
    | none => reachO l n r acc
def posOf : List Nat → Nat → Nat → Nat
  | [], _, x => x
  | a :: r, n, x => bif a == x then n else posOf r (n + 1) x
def pickObs (l : Obs) (R : List Nat) : Obs := R.filterMap fun o => (obAt l o).map fun x => (o, x)
def mapIds (f : Nat → Nat) (l : Obs) : Obs := l.map fun x => (f x.1, x.2.ren f)
/-- Is it the value of one cell, and known. -/
def V.known : V → Bool
  | .un => false
  | .im (.ag _) => false
  | .ag _ => false
  | .tp _ => false
  | _ => true
/-- Has a result no slice: whole numbers, bools, texts alone. -/
def V.plain : V → Bool
  | .im (.i _ _) => true
  | .im (.b _) => true
  | .im (.s _) => true
  | _ => false
def backId (R : List Nat) (base : Nat) (x : Nat) : Nat := R.getD x (base + (x - R.length))
def evs (e : Env) : List Opd → List V
  | [] => []
  | x :: r => ev e x :: evs e r
def boxes (l : Obs) (R : List Nat) : Bool := R.all fun o => match obAt l o with
  | some _ => true
  | none => false
/-- What comes back into the caller: the handed objects, and new ones. -/
def S.back (s : S) (R : List Nat) (d : Option Nat) (vs : List V) (obs : Obs) : Option S :=
  bif (obs.all fun x => decide (x.1 < R.length) || (s.free (nid d + (x.1 - R.length)) && !(R.elem (nid d + (x.1 - R.length))))) && ((V.idsL vs ++ obs.named).all fun o => decide (o < R.length) || obs.keys.elem o) then
    some ⟨s.env, mapIds (backId R (nid d)) obs ++ s.obs.filter fun x => !(R.elem x.1)⟩ else none
section
variable (call : FuncId → List V → Obs → Option Res)
def doCall (s : S) (d : Option Nat) (f : FuncId) (args : List V) : Option (Out × S) :=
  let shown := V.snapL s.obs args
  let R := reachO s.obs 64 (V.idsL shown) []
  let held := ownerL args
  bif (held.any fun o => R.elem o) || !((V.idsL shown).all fun o => R.elem o) || !((pickObs s.obs R).named.all fun o => R.elem o) || !(boxes s.obs R) then none else
  (call f (V.renL (posOf R 0) shown) (mapIds (posOf R 0) (pickObs s.obs R))).bind fun
    | .ret vs obs =>
      ((bif vs.all V.plain && R.isEmpty && obs.isEmpty then s else s.fasts held).back R d vs obs).bind fun s2 =>
      go (s2.put d (match V.renL (backId R (nid d)) vs with
        | [v] => v
        | vs => .tp vs))
    | .pan v obs => ((s.fasts held).back R d [v] obs).bind fun s2 => some (.pn (v.ren (backId R (nid d))), s2)
end
def setCells : List V → Nat → List V → List V
  | cs, _, [] => cs
  | cs, c, v :: r => setCells (cs.set c v) (c + 1) r
def V.cells : V → List V
  | .ag vs => vs
  | v => [v]
/-- Are the value's cells known to be these. -/
def V.cellsOk : V → Bool
  | .ag _ => true
  | v => v.known
def fillT : List V → List (Nat × Nat × V) → Option (List V)
  | cs, [] => some cs
  | cs, (off, n, v) :: r => bif v.cellsOk && v.cells.length == n && decide (off + n ≤ cs.length) then fillT (setCells cs off v.cells) r else none
def evp (e : Env) : List (Nat × Nat × Opd) → List (Nat × Nat × V)
  | [] => []
  | (a, n, x) :: r => (a, n, ev e x) :: evp e r
def elemsT (l : Obs) (agg : Bool) : List V → Option (List T)
  | [] => some []
  | v :: r => (elemT l agg v).bind fun t => (elemsT l agg r).map (t :: ·)
def rowT (isBy : Bool) (e : TypeId) (xs : List T) : T :=
  bif isBy then .by_ false (xs.map fun y => UInt8.ofNat (getI y).toNat) else .sl false e xs
def ldV (n : Option Nat) (cs : List V) (c : Nat) : Option V :=
  match n with
  | none => cs[c]?
  | some k => bif decide (c + k ≤ cs.length) then some (.ag ((cs.drop c).take k)) else none
def rowCells (t : T) (agg : Bool) (ls : List LK) (j : Nat) : Option (List T) :=
  match t with
  | .sl _ _ xs => some (etaC agg ls (xs.getD j (.b false)))
  | .by_ _ l => some [byteT (l.getD j 0)]
  | _ => none
def skOk : SK → T → Bool
  | .s, .s _ => true
  | .by_, .by_ _ _ => true
  | .sl e, .sl _ e' _ => e == e'
  | _, _ => false
def isS : T → Bool
  | .s _ => true
  | _ => false
def sliceLen (l : Obs) (str : Bool) : V → Option Nat
  | .im t => bif isS t == str then tlen t else none
  | .ow o => match obAt l o with
    | some (.row _ t) => bif str then none else tlen t
    | _ => none
  | _ => none
def nilT : T → Option Bool
  | .by_ z l => ifB l.isEmpty (ifB z (some true) none) (some false)
  | .sl z _ xs => ifB xs.isEmpty (ifB z (some true) none) (some false)
  | _ => none
def byOf (l : Obs) : V → Option (List UInt8)
  | .im (.by_ _ x) => some x
  | .ow o => match obAt l o with
    | some (.row _ (.by_ _ x)) => some x
    | _ => none
  | _ => none
def mkElem (agg : Bool) (ls : List LK) (cs : List T) : Option T :=
  bif !(okLeaves ls cs) then none else bif agg then some (.ag cs) else match cs with
    | [c] => some c
    | _ => none

section
variable (call : FuncId → List V → Obs → Option Res)
def stepO (s : S) (d : Option Nat) : PO → Option (Out × S)
  | .mv x => go (s.put d (ev s.env x))
  | .pick c a b => match ev s.env c with
    | .im (.b x) => ifB x (go (s.put d (ev s.env a))) (go (s.put d (ev s.env b)))
    | _ => none
  | .ar op k x y => match ev s.env x, ev s.env y with
    | .im (.i kx m), .im (.i ky n) => bif kx == k && ky == k then (intOp op k m n).bind fun r => go (s.put d (.im (.i k r))) else none
    | _, _ => none
  | .cm op x y => match ev s.env x, ev s.env y with
    | .im (.i kx m), .im (.i ky n) => bif kx == ky then (cmpOp op m n).bind fun r => go (s.put d (.im (.b r))) else none
    | _, _ => none
  | .sh op k x y => match ev s.env x, ev s.env y with
    | .im (.i kx m), .im (.i _ n) => bif kx == k then (shOp op k m n).bind fun r => go (s.put d (.im (.i k r))) else none
    | _, _ => none
  | .st op x y => match ev s.env x, ev s.env y with
    | .im (.s l), .im (.s m) => (strOp op l m).bind fun r => go (s.put d (.im r))
    | _, _ => none
  | .eqb eq x y => match ev s.env x, ev s.env y with
    | .im (.b p), .im (.b q) => go (s.put d (.im (.b (bif eq then p == q else p != q))))
    | _, _ => none
  | .eqn eq x => (match ev s.env x with
    | .im t => (nilT t).bind fun r => go (s.put d (.im (.b (bif eq then r else !r))))
    | .ow o => (match obAt s.obs o with
      | some (.row _ t) => (nilT t).bind fun r => go (s.put d (.im (.b (bif eq then r else !r))))
      | _ => none)
    | _ => none)
  | .eqp eq x => (match ev s.env x with
    | .im (.o (.pointer none)) => go (s.put d (.im (.b eq)))
    | .rf _ _ => go (s.put d (.im (.b (!eq))))
    | _ => none)
  | .eqs eq ls x y => match ev s.env x, ev s.env y with
    | .ag xs, .ag ys => (eqLeaves ls xs ys).bind fun r => go (s.put d (.im (.b (bif eq then r else !r))))
    | _, _ => none
  | .not x => match ev s.env x with
    | .im (.b p) => go (s.put d (.im (.b (!p))))
    | _ => none
  | .neg k x => match ev s.env x with
    | .im (.i kx n) => bif kx == k then go (s.put d (.im (.i k (k.wrap (0 - n))))) else none
    | _ => none
  | .cv k x => match ev s.env x with
    | .im (.i _ n) => go (s.put d (.im (.i k (k.wrap n))))
    | _ => none
  | .toS x => (byOf s.obs (ev s.env x)).bind fun l => go (s.put d (.im (.s l)))
  | .toB x => match ev s.env x with
    | .im (.s l) => go (s.put d (.im (.by_ false l)))
    | _ => none
  | .cvb x => match ev s.env x with
    | .ow o => (match obAt s.obs o with
      | some (.row _ (.by_ _ l)) => bif l.isEmpty then none else go ((s.fast o).put d (.im (.by_ false l)))
      | _ => none)
    | _ => none
  | .slc k x lo hi => (match idxOf (lo.map (ev s.env)), idxOf (hi.map (ev s.env)) with
    | some a, some b => (match ev s.env x with
      | .im t => bif skOk k t then (cutT t a b).bind fun u => go (s.put d (.im u)) else none
      | .ow o => (match obAt s.obs o with
        | some (.row _ t) => bif skOk k t then (cutT t a b).bind fun u => go ((s.fast o).put d (.im u)) else none
        | _ => none)
      | _ => none)
    | _, _ => none)
  | .slo x hi => (match ev s.env x, ev s.env hi with
    | .ow o, .im (.i _ b) => (match obAt s.obs o with
      | some (.row e t) => (cutT t none (some b)).bind fun u => s.newIn (obDel s.obs o) d (.row e u) (.ow (nid d))
      | _ => none)
    | _, _ => none)
  | .len str x => match sliceLen s.obs str (ev s.env x) with
    | some n => go (s.put d (.im (.i .i64 (n : Int))))
    | none => none
  | .cvs x => match ev s.env x with
    | .im (.s l) => go (s.put d (.im (.s l)))
    | _ => none
  | .fld off n x => match ev s.env x with
    | .ag vs => (ldV n vs off).bind fun v => go (s.put d v)
    | _ => none
  | .bld zs parts => (fillT (zs.map .im) (evp s.env parts)).bind fun vs => go (s.put d (.ag vs))
  | .bsl e isBy agg ls xs => (elemsT s.obs agg (evs s.env xs)).bind fun ts => bif !(ts.all (okElem agg ls)) then none else (s.fasts (ownerL (evs s.env xs))).new d (.row e (rowT isBy e ts)) (.ow (nid d))
  | .ixs x i => match ev s.env x, ev s.env i with
    | .im (.s l), .im (.i _ n) => ifB (decide (0 ≤ n) && decide (n < (l.length : Int))) (go (s.put d (.im (byteT (l.getD n.toNat 0))))) none
    | _, _ => none
  | .al zs => s.new d (.box (zs.map .im)) (.rf (nid d) 0)
  | .bx x => bif (ev s.env x).cellsOk then s.new d (.box (ev s.env x).cells) (.rf (nid d) 0) else none
  | .ld n x => match ev s.env x with
    | .ip ts => (ldV n (ts.map .im) 0).bind fun v => go (s.put d v)
    | .rf o c => (match obAt s.obs o with
      | some (.box cs) => (ldV n cs c).bind fun v => go (s.put d v)
      | _ => none)
    | .re o k agg ls j c => (match obAt s.obs o with
      | some (.row _ t) => bif skOk k t then (rowCells t agg ls j).bind fun cs => (ldV n (cs.map .im) c).bind fun v => go (s.put d v) else none
      | _ => none)
    | _ => none
  | .sto n x y => bif (ev s.env y).cells.length == n && (ev s.env y).cells.all V.known then (match ev s.env x with
    | .rf o c => (match obAt s.obs o with
      | some (.box cs) => bif decide (c + n ≤ cs.length) then go (S.put ⟨s.env, obSet s.obs o (.box (setCells cs c (ev s.env y).cells))⟩ d .un) else none
      | _ => none)
    | .re o k agg ls j c => (match obAt s.obs o, allT (V.snapL s.obs (ev s.env y).cells) with
      | some (.row e t), some ys => (rowCells t agg ls j).bind fun cs =>
          bif skOk k t && decide (c + n ≤ cs.length) && !((owner (ev s.env y)).elem o) then
            (mkElem agg ls ((cs.take c) ++ ys ++ cs.drop (c + n))).bind fun el =>
            let s1 := s.fasts (owner (ev s.env y))
            go (S.put ⟨s1.env, obSet s1.obs o (.row e (setT t j el))⟩ d .un)
          else none
      | _, _ => none)
    | _ => none) else none
  | .nc x => match ev s.env x with
    | .rf o c => go (s.put d (.rf o c))
    | .fn f vs => go (s.put d (.fn f vs))
    | .ip ts => go (s.put d (.ip ts))
    | _ => none
  | .fa off x => match ev s.env x with
    | .rf o c => go (s.put d (.rf o (c + off)))
    | .re o k agg ls j c => go (s.put d (.re o k agg ls j (c + off)))
    | .ip ts => go (s.put d (.ip (ts.drop off)))
    | _ => none
  | .ia k agg ls x i => match ev s.env x, ev s.env i with
    | .im (.sl z e xs), .im (.i _ n) => bif skOk k (.sl z e xs) then ifB (decide (0 ≤ n) && decide (n < (xs.length : Int))) (go (s.put d (.ip (etaC agg ls (xs.getD n.toNat (.b false)))))) none else none
    | .im (.by_ z l), .im (.i _ n) => bif skOk k (.by_ z l) then ifB (decide (0 ≤ n) && decide (n < (l.length : Int))) (go (s.put d (.ip [byteT (l.getD n.toNat 0)]))) none else none
    | .ow o, .im (.i _ n) => (match obAt s.obs o with
      | some (.row _ t) => bif skOk k t then (match tlen t with
        | some m => ifB (decide (0 ≤ n) && decide (n < (m : Int))) (go (s.put d (.re o k agg ls n.toNat 0))) none
        | none => none) else none
      | _ => none)
    | _, _ => none
  | .ext x j => match ev s.env x with
    | .tp vs => (vs[j]?).bind fun v => go (s.put d v)
    | _ => none
  | .call f args => match ev s.env f with
    | .fn k caps => doCall call s d k (evs s.env args ++ caps)
    | _ => none
  | .mkf f caps => go (s.put d (.fn f (evs s.env caps)))
  | .app k e bytes x y => (spread s.obs (ev s.env y)).bind fun u => bif skOk k u then (tlen u).bind fun m => (match ev s.env x with
      | .im (.sl true e' []) => bif skOk k (.sl true e' []) then ifB (decide (m * bytes ≤ 140737488355328)) ((joinT (.sl false e' []) u).bind fun r => s.new d (.row e r) (.ow (nid d))) none else none
      | .im (.by_ true []) => bif skOk k (.by_ true []) then ifB (decide (m * bytes ≤ 140737488355328)) ((joinT (.by_ false []) u).bind fun r => s.new d (.row e r) (.ow (nid d))) none else none
      | .ow o => (match obAt s.obs o with
        | some (.row e' t) => bif e == e' && skOk k t then (tlen t).bind fun n => ifB (decide ((n + m) * bytes ≤ 140737488355328)) ((joinT t u).bind fun r => s.newIn (obDel s.obs o) d (.row e r) (.ow (nid d))) none else none
        | _ => none)
      | _ => none) else none
  | .mn x y => match ev s.env x, ev s.env y with
    | .im (.i k m), .im (.i ky n) => bif k == ky then go (s.put d (.im (.i k (min m n)))) else none
    | _, _ => none
  | .mx x y => match ev s.env x, ev s.env y with
    | .im (.i k m), .im (.i ky n) => bif k == ky then go (s.put d (.im (.i k (max m n)))) else none
    | _, _ => none
  | .pan x => some (.pn (ev s.env x), s)
  | .ixa n sz len x i => match ev s.env x, ev s.env i with
    | .ag vs, .im (.i _ j) => ifB (decide (0 ≤ j) && decide (j < (len : Int))) ((ldV n vs (j.toNat * sz)).bind fun v => go (s.put d v)) none
    | _, _ => none

def runOps : List POp → S → Option (Out × S)
  | [], s => go s
  | o :: r, s => match o.g with
    | none => andThen (stepO call s o.d o.op) (runOps r)
    | some (j, want) => match get s.env j with
      | .im (.b x) => ifB (x == want) (andThen (stepO call s o.d o.op) (runOps r)) (runOps r (s.put o.d (.tp [])))
      | .tp [] => runOps r (s.put o.d (.tp []))
      | _ => none

def prune (keep : List Nat) (s : S) : S := ⟨keep.map fun t => (t, get s.env t), s.obs⟩

def leave (id : Nat) (r : Option (Out × S)) : Option (Out × S) :=
  r.bind fun p => match p.1 with
    | .ex j => bif j == id then go p.2 else some (.ex j, p.2)
    | q => some (q, p.2)
/-! ### Regions that draw their order -/
mutual
noncomputable def T.eqb : T → T → Bool
  | .i k n, .i k' n' => k == k' && n == n'
  | .b x, .b y => x == y
  | .s l, .s l' => l == l'
  | .by_ z l, .by_ z' l' => z == z' && l == l'
  | .sl z e xs, .sl z' e' ys => z == z' && e == e' && T.eqbL xs ys
  | .ag xs, .ag ys => T.eqbL xs ys
  | .o v, .o v' => @decide (v = v') (Classical.propDecidable _)
  | _, _ => false
noncomputable def T.eqbL : List T → List T → Bool
  | [], [] => true
  | x :: r, y :: q => T.eqb x y && T.eqbL r q
  | _, _ => false
end
mutual
noncomputable def V.eqb : V → V → Bool
  | .un, .un => true
  | .im t, .im t' => T.eqb t t'
  | .ip ts, .ip ts' => T.eqbL ts ts'
  | .rf o c, .rf o' c' => o == o' && c == c'
  | .ow o, .ow o' => o == o'
  | .re o k a ls j c, .re o' k' a' ls' j' c' => o == o' && k == k' && a == a' && ls == ls' && j == j' && c == c'
  | .fn f vs, .fn f' vs' => f == f' && V.eqbL vs vs'
  | .ag vs, .ag vs' => V.eqbL vs vs'
  | .tp vs, .tp vs' => V.eqbL vs vs'
  | _, _ => false
noncomputable def V.eqbL : List V → List V → Bool
  | [], [] => true
  | x :: r, y :: q => V.eqb x y && V.eqbL r q
  | _, _ => false
end
noncomputable def Ob.eqb : Ob → Ob → Bool
  | .box vs, .box vs' => V.eqbL vs vs'
  | .row e t, .row e' t' => e == e' && T.eqb t t'
  | _, _ => false
noncomputable def envEqb : Env → Env → Bool
  | [], [] => true
  | x :: r, y :: q => x.1 == y.1 && V.eqb x.2 y.2 && envEqb r q
  | _, _ => false
noncomputable def obsEqb : Obs → Obs → Bool
  | [], [] => true
  | x :: r, y :: q => x.1 == y.1 && Ob.eqb x.2 y.2 && obsEqb r q
  | _, _ => false
noncomputable def outEqb : Out → Out → Bool
  | .nx, .nx => true
  | .ex i, .ex j => i == j
  | .rt, .rt => true
  | .pn v, .pn v' => V.eqb v v'
  | _, _ => false
noncomputable def resEqb (x y : Out × S) : Bool := outEqb x.1 y.1 && envEqb x.2.env y.2.env && obsEqb x.2.obs y.2.obs
/-- Behind an operation of such a region. -/
def behind (r : Option (Out × S)) (k : S → Option (Out × S)) : Option (Out × S) :=
  r.bind fun p => match p.1 with
    | .nx => k p.2
    | q => some (q, ⟨[], p.2.obs⟩)
def stepT (ops : List POp) (i : Nat) (s : S) (k : S → Option (Out × S)) : Option (Out × S) := match ops[i]? with
  | some o => behind (runOps call [o] s) k
  | none => none
noncomputable def both (x : Option (Out × S)) (y : Option (Out × S)) : Option (Out × S) :=
  x.bind fun p => y.bind fun q => bif resEqb p q then some p else none
noncomputable def runT (ops : List POp) (keep : List Nat) : OT → S → Option (Out × S)
  | .done, s => go (prune keep s)
  | .stop, _ => none
  | .one i t, s => stepT call ops i s (runT ops keep t)
  | .br t, s => runT ops keep t s
  | .alt i t .stop, s => stepT call ops i s (runT ops keep t)
  | .alt i t r, s => both (stepT call ops i s (runT ops keep t)) (runT ops keep r s)
variable (loop : PC → S → Option (Out × S))
noncomputable def run : PC → S → Option (Out × S)
  | .sk, s => go s
  | .rg ops keep, s => andThen (runOps call ops s) fun s1 => go (prune keep s1)
  | .rd ops t keep, s => runT call ops keep t s
  | .sq a b, s => andThen (run a s) (run b)
  | .cd c a b, s => match ev s.env c with
    | .im (.b x) => ifB x (run a s) (run b s)
    | _ => none
  | .bk id a, s => leave id (run a s)
  | .lp keep own a, s => loop (.lp keep own a) s
  | .ex id, s => some (.ex id, s)
  | .rt, s => some (.rt, s)
end

/-! ### A loop's head -/
def envSet : Env → Nat → V → Env
  | [], _, _ => []
  | (a, v) :: r, t, x => bif a == t then (a, x) :: r else (a, v) :: envSet r t x
def thaw1 (s : S) (t : Nat) (k : Bool × TypeId) : Option S :=
  match get s.env t with
  | .im (.sl true e' []) => bif !k.1 && e' == k.2 && s.free (1000 + t) then some ⟨envSet s.env t (.ow (1000 + t)), (1000 + t, .row e' (.sl false e' [])) :: s.obs⟩ else none
  | .im (.by_ true []) => bif k.1 && s.free (1000 + t) then some ⟨envSet s.env t (.ow (1000 + t)), (1000 + t, .row k.2 (.by_ false [])) :: s.obs⟩ else none
  | _ => some s
def thaw : S → List (Nat × Bool × TypeId) → Option S
  | s, [] => some s
  | s, (t, k) :: r => match thaw1 s t k with
    | some s1 => thaw s1 r
    | none => none
/-- Slots that hold a row and aren't among those that are to: held fast. -/
def fastBut (own : List (Nat × Bool × TypeId)) : Env → S → S
  | [], s => s
  | (t, .ow o) :: r, s => fastBut own r (bif own.any fun x => x.1 == t then s else s.fast o)
  | _ :: r, s => fastBut own r s
def addMap (m : List (Nat × Nat)) (o n : Nat) : List (Nat × Nat) :=
  bif decide (o < 1000) || m.any fun x => x.1 == o then m else (o, n) :: m
def mapEnv : Env → List (Nat × Nat) → List (Nat × Nat)
  | [], m => m
  | (t, .ow o) :: r, m => mapEnv r (addMap m o (1000 + t))
  | (t, .rf o _) :: r, m => mapEnv r (addMap m o (1000 + t))
  | _ :: r, m => mapEnv r m
def lookN : List (Nat × Nat) → Nat → Nat
  | [], o => o
  | (a, n) :: r, o => bif a == o then n else lookN r o
def mapCells (x : Nat) : Nat → List V → List (Nat × Nat) → List (Nat × Nat)
  | _, [], m => m
  | j, .ow o :: r, m => mapCells x (j + 1) r (addMap m o (100000 + 64 * x + j))
  | j, _ :: r, m => mapCells x (j + 1) r m
def mapObs : Obs → List (Nat × Nat) → List (Nat × Nat)
  | [], m => m
  | (o, .box vs) :: r, m => mapObs r (mapCells (lookN m o) 0 vs m)
  | _ :: r, m => mapObs r m
def S.allIds (s : S) : List Nat := s.obs.flatMap (fun x => x.1 :: x.2.ids) ++ s.env.flatMap fun x => x.2.ids
def injOn (f : Nat → Nat) (l : List Nat) : Bool := l.all fun a => l.all fun b => a == b || !(f a == f b)
def S.ren (f : Nat → Nat) (s : S) : S := ⟨s.env.map fun x => (x.1, x.2.ren f), mapIds f s.obs⟩
def S.gc (s : S) : S :=
  let used := s.env.flatMap (fun x => x.2.ids) ++ s.obs.flatMap fun x => x.2.ids
  ⟨s.env, s.obs.filter fun x => decide (x.1 < 1000) || used.elem x.1⟩
def norm (keep : List Nat) (own : List (Nat × Bool × TypeId)) (s : S) : Option S :=
  match thaw (prune keep s) own with
  | none => none
  | some s1 =>
    let s2 := (fastBut own s1.env s1).gc.gc
    let m := mapObs s2.obs (mapEnv s2.env [])
    bif injOn (lookN m) s2.allIds && m.all (fun x => decide (1000 ≤ x.1) && decide (1000 ≤ x.2)) then some (s2.ren (lookN m)) else none

/-! ### Functions -/
inductive PRes where
  | t (n : Nat)
  | c (a : Nat) (n : Option Nat)

def o (d : Nat) (x : PO) : POp := ⟨some d, none, x⟩
def on (x : PO) : POp := ⟨none, none, x⟩
def og (d : Option Nat) (j : Nat) (b : Bool) (x : PO) : POp := ⟨d, some (j, b), x⟩
structure PF where
  np : Nat
  nt : Nat
  res : List PRes
  /-- places in the flattened results that are handed back as rows -/
  own : List (Nat × Bool × TypeId)
  code : PC

def resV (s : S) : PRes → Option V
  | .t n => some (get s.env n)
  | .c a n => match get s.env a with
    | .rf o c => (match obAt s.obs o with
      | some (.box cs) => ldV n cs c
      | _ => none)
    | _ => none
def resVs (s : S) : List PRes → Option (List V)
  | [] => some []
  | p :: r => (resV s p).bind fun v => (resVs s r).map (v :: ·)
def zipEnv : Nat → List V → Env
  | _, [] => []
  | n, v :: r => (n, v) :: zipEnv (n + 1) r
def flatV : List V → List V
  | [] => []
  | .ag vs :: r => vs ++ flatV r
  | v :: r => v :: flatV r
def getMany (e : Env) : Nat → Nat → List V
  | _, 0 => []
  | n, k + 1 => get e n :: getMany e (n + 1) k
/-- The results, out of their flattened form. -/
def packV (e : Env) : Nat → List V → List V
  | _, [] => []
  | n, .ag vs :: r => .ag (getMany e n vs.length) :: packV e (n + vs.length) r
  | n, _ :: r => get e n :: packV e (n + 1) r
def closeF (m : Nat) (Q : List Nat) (o : Nat) : Nat := bif decide (o < m) then o else m + posOf Q 0 o
/-- What is handed back: the objects that were handed in, and those that the results, or these, lead to, numbered on. -/
def close (m : Nat) (s : S) : Option S :=
  let R := (List.range m).filter (fun o => (obAt s.obs o).isSome) ++ (reachO s.obs 64 (s.env.flatMap (fun x => x.2.ids) ++ (List.range m).flatMap fun o => ((obAt s.obs o).map Ob.ids).getD []) []).filter fun o => decide (m ≤ o)
  let Q := R.filter fun o => decide (m ≤ o)
  let s1 : S := ⟨s.env, pickObs s.obs R⟩
  bif injOn (closeF m Q) s1.allIds && (s1.obs.named.all fun o => s1.obs.keys.elem o) && (s1.env.all fun x => x.2.ids.all fun o => s1.obs.keys.elem o) then some (s1.ren (closeF m Q)) else none
def finish (pf : PF) (m : Nat) (s : S) : Option Res :=
  (resVs s pf.res).bind fun vs => (thaw ⟨zipEnv 0 (flatV vs), s.obs⟩ pf.own).bind fun s1 =>
    (close m (fastBut pf.own s1.env s1)).bind fun s2 => some (.ret (packV s2.env 0 vs) s2.obs)
/-- A function's end. -/
def fend (pf : PF) (m : Nat) (r : Option (Out × S)) : Option Res :=
  r.bind fun p => match p.1 with
    | .nx => finish pf m p.2
    | .rt => finish pf m p.2
    | .pn v => (close m ⟨[(0, v)], p.2.obs⟩).bind fun q => some (.pan (get q.env 0) q.obs)
    | .ex _ => none
section
variable (call : FuncId → List V → Obs → Option Res) (loop : PC → S → Option (Out × S))
noncomputable def enter (pf : PF) (args : List V) (obs : Obs) : Option Res :=
  bif args.length == pf.np && decide (obs.length ≤ 1000) && (obs.zipIdx.all fun x => x.1.1 == x.2) then fend pf obs.length (run call loop pf.code ⟨zipEnv 0 args, obs⟩) else none
/-- Behind a round of a loop. -/
def again (c : PC) (r : Option (Out × S)) : Option (Out × S) :=
  r.bind fun p => match p.1 with
    | .nx => loop c p.2
    | q => some (q, p.2)
noncomputable def round : PC → S → Option (Out × S)
  | .lp keep own a, s => (norm keep own s).bind fun s0 => again loop (.lp keep own a) (run call loop a s0)
  | _, _ => none
end
variable (tab : FuncId → Option PF) (lib : FuncId → List V → Obs → Option Res)
mutual
noncomputable def callN : Nat → FuncId → List V → Obs → Option Res
  | 0, _, _, _ => none
  | n + 1, k, args, obs => match lib k args obs with
    | some r => some r
    | none => match tab k with
      | some pf => enter (callN n) (loopN n) pf args obs
      | none => none
noncomputable def loopN : Nat → PC → S → Option (Out × S)
  | 0, _, _ => none
  | n + 1, c, s => round (callN n) (loopN n) c s
end
end Go.Proofs.Av
