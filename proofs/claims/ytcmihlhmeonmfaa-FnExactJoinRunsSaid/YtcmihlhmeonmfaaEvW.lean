/- The evaluator on typed data: lists are lists of numbers, of pairs, of lists; the answer is a partial function. -/
import Derived.Test.YtcmihlhmeonmfaaEvT
namespace Go.Proofs.Ytcmihlhmeonmfaa.Ev
open Go
set_option linter.unusedVariables false
set_option linter.unusedSimpArgs false

/-- What a row of cells is read as. -/
inductive Ty where
  | int (k : IntKind)
  | bool
  | str
  | pair (a b : Ty)
  | sl (e : Ty)
  deriving DecidableEq

abbrev Str := List UInt8

@[reducible] def Ty.den : Ty → Type
  | .int _ => Int
  | .bool => Bool
  | .str => Str
  | .pair a b => a.den × b.den
  | .sl e => List e.den

def Ty.size : Ty → Nat
  | .pair a b => a.size + b.size
  | _ => 1

inductive SV where
  | int (k : IntKind) (n : Int)
  | bool (b : Bool)
  | str (s : Str)
  | sc (x : Value)
  | em
  | im (t : Ty) (l : List t.den)
  | ow (id : Nat)
  | ar (id lo n : Nat)
  | rf (id r c : Nat)
  | ir (t : Ty) (a : t.den) (c : Nat)
  | agg (cs : List SV)
  | tup (vs : List SV)
  | cl (f : FuncId) (caps : List SV)
  | any
  deriving Inhabited

inductive TB where
  | box (ty : TypeId) (cs : List SV)
  | arr (ty : TypeId) (deep : Bool) (t : Ty) (l : List t.den)
  | frz (ty : TypeId) (deep : Bool) (t : Ty) (l : List t.den)

abbrev TTm := List (Nat × SV)
abbrev THp := List (Nat × Option TB)

structure TSt where
  tm : TTm
  hp : THp
  c : Nat

def getV : TTm → Nat → SV
  | [], _ => .any
  | (k, x) :: l, i => cond (Nat.beq i k) x (getV l i)

def getB : THp → Nat → Option TB
  | [], _ => none
  | (k, x) :: l, i => cond (Nat.beq i k) x (getB l i)

def getD : List (Nat × TyD) → Nat → Option TyD
  | [], _ => none
  | (k, x) :: l, i => cond (Nat.beq i k) (some x) (getD l i)

def cellT : Value → SV
  | .int k n => .int k n
  | .bool b => .bool b
  | .string s => .str s.data.toList
  | .slice none 0 0 => .em
  | x => if scalarB x then .sc x else .any

def constT : Value → SV
  | .agg cs => .agg (cs.toList.map cellT)
  | x => cellT x

/-- A cell of a type's zero value. -/
def zeroT : V → SV
  | .v (.int k n) => .int k n
  | .v (.bool b) => .bool b
  | .v (.string s) => .str s.data.toList
  | .v x => .sc x
  | .em => .em
  | _ => .any

def opT (tm : TTm) : Operand → SV
  | .tmp t => getV tm t
  | .const c => constT c
  | .global _ => .any
  | .func f => .cl f []

def force {α : Type} (x : SV) (F : SV → α) : α :=
  match x with
  | .int k n => F (.int k n)
  | .bool b => F (.bool b)
  | .str s => F (.str s)
  | .sc x => F (.sc x)
  | .em => F .em
  | .im t l => F (.im t l)
  | .ow id => F (.ow id)
  | .ar id lo n => F (.ar id lo n)
  | .rf id r c => F (.rf id r c)
  | .ir t a c => F (.ir t a c)
  | .agg cs => F (.agg cs)
  | .tup vs => F (.tup vs)
  | .cl f caps => F (.cl f caps)
  | .any => F .any

/-- The cells of a typed value. -/
def encT : (t : Ty) → t.den → List SV
  | .int k, n => [.int k n]
  | .bool, b => [.bool b]
  | .str, s => [.str s]
  | .pair a b, x => encT a x.1 ++ encT b x.2
  | .sl e, l => [.im e l]

def castL {t e : Ty} (h : t = e) (l : List t.den) : List e.den := h ▸ l

/-- The elements that a slice's value has, if they are of a type. -/
def asL (e : Ty) : SV → Option (List e.den)
  | .em => some []
  | .im t l => if h : t = e then some (castL h l) else none
  | _ => none

def decT : (t : Ty) → List SV → Option (t.den × List SV)
  | .int k, .int k' n :: r => if k' = k then some (n, r) else none
  | .bool, .bool b :: r => some (b, r)
  | .str, .str s :: r => some (s, r)
  | .pair a b, cs =>
    match decT a cs with
    | some (x, r) => (match decT b r with | some (y, r') => some ((x, y), r') | none => none)
    | none => none
  | .sl e, v :: r => (match asL e v with | some l => some (l, r) | none => none)
  | _, _ => none

def decR (t : Ty) (cs : List SV) : Option t.den :=
  match decT t cs with
  | some (x, []) => some x
  | _ => none

def flatT : SV → List SV
  | .agg cs => cs
  | x => [x]

def okT : SV → Bool
  | .int .. | .bool _ | .str _ | .sc _ | .em | .im .. | .ow _ | .ar .. | .rf .. | .ir .. => true
  | .cl _ [] => true
  | _ => false

def mkT (g : Bool) (cs : List SV) : Option SV :=
  if g then some (.agg cs) else match cs with | [x] => some x | _ => none

def segT (cs : List SV) (off n : Nat) : Option (List SV) := if off + n ≤ cs.length then some ((cs.drop off).take n) else none

def putT (cs : List SV) (off : Nat) (new : List SV) : Option (List SV) :=
  if off + new.length ≤ cs.length then some (cs.take off ++ new ++ cs.drop (off + new.length)) else none

/-- An element of a list. -/
def getN {β : Type} (l : List β) (n : Nat) : Option β := l[n]?

/-! ### primitives of the typed text -/
/-- An element of a list. -/
def getI {α : Type} (l : List α) (n : Int) : Option α := if 0 ≤ n then l[n.toNat]? else none

/-- A number below a length. -/
def idxI (n : Int) (len : Nat) : Option Nat := if 0 ≤ n ∧ n.toNat < len then some n.toNat else none

/-- The bounds of a slice. -/
def subI (lo hi : Int) (len : Nat) : Option (Nat × Nat) := if 0 ≤ lo ∧ lo ≤ hi ∧ hi ≤ len then some (lo.toNat, hi.toNat) else none

def catS (s t : Str) : Option Str := if ((s.length + t.length : Nat) : Int) ≤ 9223372036854775807 then some (s ++ t) else none

/-- A length for a new slice. -/
def lenI (n : Int) (bytes size : Nat) : Option Nat := if 0 ≤ n ∧ n.toNat * bytes ≤ maxBytes ∧ n.toNat * size ≤ maxBytes then some n.toNat else none

/-- Room for so many elements. -/
def roomI (n bytes size : Nat) : Bool := decide (n * bytes ≤ maxBytes) && decide (n * size ≤ maxBytes)

def shlI (k : IntKind) (a b : Int) : Int := k.wrap (a * 2 ^ (min b.toNat k.bits))
def shrI (k : IntKind) (a b : Int) : Int := a.fdiv (2 ^ (min b.toNat k.bits))
def andI (k : IntKind) (a b : Int) : Int := k.wrap ((BitVec.ofInt k.bits a &&& BitVec.ofInt k.bits b).toNat : Int)
def orI (k : IntKind) (a b : Int) : Int := k.wrap ((BitVec.ofInt k.bits a ||| BitVec.ofInt k.bits b).toNat : Int)
def xorI (k : IntKind) (a b : Int) : Int := k.wrap ((BitVec.ofInt k.bits a ^^^ BitVec.ofInt k.bits b).toNat : Int)

/-- The bytes of a text, as numbers; and back. -/
def numsOf (s : Str) : List Int := s.map fun c => (c.toNat : Int)
def strOf (l : List Int) : Str := l.map fun n => UInt8.ofNat n.toNat

section
variable {α : Type}

def tBinI (op : BinOp) (k k' : IntKind) (a b : Int) (K : SV → Option α) : Option α :=
  match op with
  | .shl => cond (decide (b < 0)) none (K (.int k (shlI k a b)))
  | .shr => cond (decide (b < 0)) none (K (.int k (shrI k a b)))
  | _ =>
    if k = k' then
      match op with
      | .add => K (.int k (k.wrap (a + b)))
      | .sub => K (.int k (k.wrap (a - b)))
      | .mul => K (.int k (k.wrap (a * b)))
      | .quo => cond (b == 0) none (K (.int k (k.wrap (a.tdiv b))))
      | .rem => cond (b == 0) none (K (.int k (a.tmod b)))
      | .and => K (.int k (andI k a b))
      | .or => K (.int k (orI k a b))
      | .xor => K (.int k (xorI k a b))
      | .eql => K (.bool (a == b))
      | .neq => K (.bool (a != b))
      | .lss => K (.bool (decide (a < b)))
      | .leq => K (.bool (decide (a ≤ b)))
      | .gtr => K (.bool (decide (a > b)))
      | .geq => K (.bool (decide (a ≥ b)))
      | _ => none
    else none

def tBinS (op : BinOp) (s t : Str) (K : SV → Option α) : Option α :=
  match op with
  | .add => (catS s t).bind fun u => K (.str u)
  | .eql => K (.bool (s == t))
  | .neq => K (.bool (!(s == t)))
  | .lss => K (.bool (Op.bytesLess s t))
  | .leq => K (.bool (Op.bytesLess s t || s == t))
  | .gtr => K (.bool (!(Op.bytesLess s t || s == t)))
  | .geq => K (.bool (!(Op.bytesLess s t)))
  | _ => none

/-- Are two structs' cells equal? -/
def eqCells : List SV → List SV → Option Bool
  | [], [] => some true
  | [.int k a], [.int k' b] => if k = k' then some (a == b) else none
  | [.bool a], [.bool b] => some (a == b)
  | .int k a :: x, .int k' b :: y => if k = k' then (match eqCells x y with | some r => some ((a == b) && r) | none => none) else none
  | .bool a :: x, .bool b :: y => (match eqCells x y with | some r => some ((a == b) && r) | none => none)
  | _, _ => none

def tUn (u : UnOp) (x : SV) (K : SV → Option α) : Option α :=
  match u, x with
  | .not, .bool b => K (.bool (!b))
  | .neg, .int k n => K (.int k (k.wrap (0 - n)))
  | _, _ => none

def tFill (flds : List Fld) (tm : TTm) : List SV → List (Nat × Operand) → (List SV → Option α) → Option α
  | cs, [], K => K cs
  | cs, (k, x) :: rest, K =>
    match flds[k]? with
    | some f => force (opT tm x) fun v => if (flatT v).length = f.size && (flatT v).all okT then (match putT cs f.off (flatT v) with | some cs => tFill flds tm cs rest K | none => none) else none
    | none => none

def intOf' : SV → Option Int
  | .int _ n => some n
  | _ => none

def tBnd (tm : TTm) : Option Operand → Int → Option Int
  | none, d => some d
  | some x, _ => intOf' (opT tm x)

def allInts : List SV → Option (IntKind × List Int)
  | [.int k n] => some (k, [n])
  | .int k n :: l => match allInts l with | some (k', ns) => if k = k' then some (k, n :: ns) else none | none => none
  | _ => none

def minL : List Int → Int
  | [] => 0
  | x :: l => l.foldl (fun a b => if b < a then b else a) x
def maxL : List Int → Int
  | [] => 0
  | x :: l => l.foldl (fun a b => if b > a then b else a) x
end

/-! ### blocks -/
/-- The blocks of our own that a value leans on. -/
def ids0 : SV → List Nat
  | .ow id => [id]
  | _ => []
def ids1 : SV → List Nat
  | .agg cs => cs.flatMap ids0
  | .cl _ cs => cs.flatMap ids0
  | x => ids0 x
def ids2 : SV → List Nat
  | .tup vs => vs.flatMap ids1
  | x => ids1 x
def idsB : TB → List Nat
  | .box _ cs => cs.flatMap ids0
  | _ => []

def notIn (b : Nat) (l : List Nat) : Bool := l.all fun i => !Nat.beq i b

/-- Nothing leans on a number. -/
def freshT (tm : TTm) (hp : THp) (b : Nat) : Bool :=
  tm.all (fun x => notIn b (ids2 x.2)) && hp.all fun x => match x.2 with | some k => notIn b (idsB k) | none => true

def killT (hp : THp) : List Nat → THp
  | [] => hp
  | id :: l => killT ((id, none) :: hp) l

def frzB : TB → TB
  | .arr ty deep t l => .frz ty deep t l
  | x => x

def freezeT (hp : THp) : List Nat → THp
  | [] => hp
  | id :: l => freezeT ((id, (getB hp id).map frzB) :: hp) l

def maskT (b : Nat) (hp : THp) : THp := hp.filter fun x => Nat.blt x.1 b

/-! ### what a state is read as -/
/-- A cell. -/
inductive AC where
  | int (k : IntKind)
  | bool
  | str
  | im (t : Ty)

/-- A block of our own. -/
inductive AB where
  | arr (ty : TypeId) (deep : Bool) (t : Ty)
  | box (ty : TypeId) (cs : List AC)

inductive AS where
  | cell (c : AC)
  | agg (cs : List AC)
  | new (b : AB)
  | ref (j : Nat) (isbox : Bool)
  | clo (f : FuncId)

inductive Item where
  | root (b : AB)
  | slot (s : Nat) (a : AS)

@[reducible] def AC.den : AC → Type
  | .int _ => Int
  | .bool => Bool
  | .str => Str
  | .im t => List t.den

@[reducible] def denC : List AC → Type
  | [] => Unit
  | [a] => a.den
  | a :: b :: l => a.den × denC (b :: l)

@[reducible] def AB.den : AB → Type
  | .arr _ _ t => List t.den
  | .box _ cs => denC cs

@[reducible] def AS.den : AS → Type
  | .cell c => c.den
  | .agg cs => denC cs
  | .new b => b.den
  | .ref _ _ => Unit
  | .clo _ => Unit

@[reducible] def Item.den : Item → Type
  | .root b => b.den
  | .slot _ a => a.den

def AS.isU : AS → Bool
  | .ref _ _ => true
  | .clo _ => true
  | _ => false

def Item.isU : Item → Bool
  | .root _ => false
  | .slot _ a => a.isU

def allU (l : List Item) : Bool := l.all Item.isU

@[reducible] def PairT (u v : Bool) (A B : Type) : Type :=
  match u, v with
  | true, _ => B
  | false, true => A
  | false, false => A × B

def mkP : (u v : Bool) → (A B : Type) → A → B → PairT u v A B
  | true, _, _, _, _, b => b
  | false, true, _, _, a, _ => a
  | false, false, _, _, a, b => (a, b)

def fstP : (u v : Bool) → (A B : Type) → (u = true → A) → PairT u v A B → A
  | true, _, _, _, a, _ => a rfl
  | false, true, _, _, _, x => x
  | false, false, _, _, _, x => x.1

def sndP : (u v : Bool) → (A B : Type) → (v = true → B) → PairT u v A B → B
  | true, _, _, _, _, x => x
  | false, true, _, _, b, _ => b rfl
  | false, false, _, _, _, x => x.2

@[reducible] def denI : List Item → Type
  | [] => Unit
  | x :: l => PairT x.isU (allU l) x.den (denI l)

def unitS : (x : Item) → x.isU = true → x.den
  | .slot _ (.ref _ _), _ => ()
  | .slot _ (.clo _), _ => ()
  | .root _, h => by cases h
  | .slot _ (.cell _), h => by cases h
  | .slot _ (.agg _), h => by cases h
  | .slot _ (.new _), h => by cases h

def unitI : (l : List Item) → allU l = true → denI l
  | [], _ => ()
  | x :: l, h => mkP x.isU (allU l) x.den (denI l) (unitS x (by simp [allU] at h; exact h.1)) (unitI l (by simp [allU] at h ⊢; exact h.2))

def hdI (x : Item) (l : List Item) (d : denI (x :: l)) : x.den := fstP x.isU (allU l) x.den (denI l) (unitS x) d
def tlI (x : Item) (l : List Item) (d : denI (x :: l)) : denI l := sndP x.isU (allU l) x.den (denI l) (unitI l) d
def consI (x : Item) (l : List Item) (a : x.den) (d : denI l) : denI (x :: l) := mkP x.isU (allU l) x.den (denI l) a d

/-- A slice's elements: from this on it is only read. -/
def asLh (hp : THp) (e : Ty) : SV → Option (List e.den)
  | .ow id =>
    match getB hp id with
    | some (.arr _ _ t l) | some (.frz _ _ t l) => if h : t = e then some (castL h l) else none
    | _ => none
  | .ar id lo n =>
    match getB hp id with
    | some (.arr _ _ t l) | some (.frz _ _ t l) => if h : t = e then some (((castL h l).take (lo + n)).drop lo) else none
    | _ => none
  | v => asL e v

def decC (hp : THp) : (c : AC) → SV → Option c.den
  | .int k, .int k' n => if k' = k then some n else none
  | .bool, .bool b => some b
  | .str, .str s => some s
  | .im t, v => asLh hp t v
  | _, _ => none

def encC : (c : AC) → c.den → SV
  | .int k, n => .int k n
  | .bool, b => .bool b
  | .str, s => .str s
  | .im t, l => .im t l

def decCs (hp : THp) : (cs : List AC) → List SV → Option (denC cs)
  | [], [] => some ()
  | [a], [v] => decC hp a v
  | a :: b :: l, v :: vs => (match decC hp a v with | some x => (match decCs hp (b :: l) vs with | some y => some (x, y) | none => none) | none => none)
  | _, _ => none

def encCs : (cs : List AC) → denC cs → List SV
  | [], _ => []
  | [a], x => [encC a x]
  | a :: b :: l, x => encC a x.1 :: encCs (b :: l) x.2

def decB (hp : THp) : (b : AB) → Option TB → Option b.den
  | .arr ty deep t, some (.arr ty' deep' t' l) => if h : t' = t then (if Nat.beq ty' ty && (deep' == deep) then some (castL h l) else none) else none
  | .box ty cs, some (.box ty' vs) => if Nat.beq ty' ty then decCs hp cs vs else none
  | _, _ => none

def encB : (b : AB) → b.den → TB
  | .arr ty deep t, l => .arr ty deep t l
  | .box ty cs, x => .box ty (encCs cs x)

/-- The blocks that are only read from this on. -/
def frC : AC → SV → List Nat
  | .im _, .ow id => [id]
  | .im _, .ar id _ _ => [id]
  | _, _ => []

def frCs : List AC → List SV → List Nat
  | c :: cs, v :: vs => frC c v ++ frCs cs vs
  | _, _ => []

/-- A slot's value; the blocks that are known then; memory. -/
def decS (tm : TTm) (hp : THp) (c : Nat) (order : List Nat) : (a : AS) → SV → Option (a.den × List Nat × THp)
  | .cell k, v => if (frC k v).all (fun id => notIn id order) then (match decC hp k v with | some x => some (x, order, freezeT hp (frC k v)) | none => none) else none
  | .agg cs, .agg vs => if (frCs cs vs).all (fun id => notIn id order) then (match decCs hp cs vs with | some x => some (x, order, freezeT hp (frCs cs vs)) | none => none) else none
  | .new (.arr ty deep t), .em => if notIn (16 * c) order && freshT tm hp (16 * c) then some (([] : List t.den), order ++ [16 * c], (16 * c, some (.arr ty deep t [])) :: hp) else none
  | .new (.arr ty deep t), .ow id => if notIn id order then (match decB hp (.arr ty deep t) (getB hp id) with | some x => some (x, order ++ [id], hp) | none => none) else none
  | .new (.box ty cs), .rf id 0 0 =>
    match getB hp id with
    | some (.box ty' vs) =>
      if Nat.beq ty' ty && notIn id order && (frCs cs vs).all (fun i => notIn i order) then
        match decCs hp cs vs with
        | some x => some (x, order ++ [id], (id, some (.box ty (encCs cs x))) :: freezeT hp (frCs cs vs))
        | none => none
      else none
    | _ => none
  | .ref j false, .ow id => (match order[j]? with | some i => if Nat.beq i id then some ((), order, hp) else none | none => none)
  | .ref j true, .rf id 0 0 => (match order[j]? with | some i => if Nat.beq i id then some ((), order, hp) else none | none => none)
  | .clo f, .cl g [] => if Nat.beq f g then some ((), order, hp) else none
  | _, _ => none

/-- A block that was handed in. -/
def decRoot : (b : AB) → Option TB → Option b.den
  | .arr ty deep t, some (.arr ty' deep' t' l) => if h : t' = t then (if Nat.beq ty' ty && (deep' == deep) then some (castL h l) else none) else none
  | .box ty cs, some (.box ty' vs) => if Nat.beq ty' ty && vs.all (fun v => match v with | .ow _ => false | .ar .. => false | _ => true) then decCs [] cs vs else none
  | _, _ => none

def decI (tm : TTm) : THp → Nat → List Nat → (l : List Item) → Option (denI l × List Nat)
  | _, _, order, [] => some ((), order)
  | hp, c, order, .root b :: l =>
    match decRoot b (getB hp order.length) with
    | some x => (match decI tm hp c (order ++ [order.length]) l with | some (y, o) => some (consI (.root b) l x y, o) | none => none)
    | none => none
  | hp, c, order, .slot s a :: l =>
    match decS tm hp c order a (getV tm s) with
    | some (x, order, hp) => (match decI tm hp (c + 1) order l with | some (y, o) => some (consI (.slot s a) l x y, o) | none => none)
    | none => none

def encSV (f : Nat → Nat) (id : Nat) : (a : AS) → a.den → SV
  | .cell c, x => encC c x
  | .agg cs, x => .agg (encCs cs x)
  | .new (.arr _ _ _), _ => .ow (f id)
  | .new (.box _ _), _ => .rf (f id) 0 0
  | .ref j false, _ => .ow (f j)
  | .ref j true, _ => .rf (f j) 0 0
  | .clo g, _ => .cl g []

def newB : (a : AS) → a.den → Option TB
  | .new b, x => some (encB b x)
  | _, _ => none

/-- The slots and the blocks of what is read. -/
def encI (f : Nat → Nat) : Nat → (l : List Item) → denI l → TTm × THp
  | _, [], _ => ([], [])
  | id, .root b :: l, d => ((encI f (id + 1) l (tlI _ l d)).1, (f id, some (encB b (hdI (.root b) l d))) :: (encI f (id + 1) l (tlI _ l d)).2)
  | id, .slot s a :: l, d =>
    match newB a (hdI (.slot s a) l d) with
    | some k => ((s, encSV f id a (hdI (.slot s a) l d)) :: (encI f (id + 1) l (tlI _ l d)).1, (f id, some k) :: (encI f (id + 1) l (tlI _ l d)).2)
    | none => ((s, encSV f id a (hdI (.slot s a) l d)) :: (encI f id l (tlI _ l d)).1, (encI f id l (tlI _ l d)).2)

def encSt (l : List Item) (d : denI l) : TSt := { tm := (encI id 0 l d).1, hp := (encI id 0 l d).2, c := 1 }

def nRoots : List Item → Nat
  | .root _ :: l => nRoots l + 1
  | _ => 0

def slotsI : List Item → List Nat
  | [] => []
  | .root _ :: l => slotsI l
  | .slot s _ :: l => s :: slotsI l

/-- Those that were handed in come first; no slot twice; not too many. -/
def wfI (l : List Item) : Bool := Nat.beq (slotsI l).length (l.length - nRoots l) && nodupB (slotsI l) && Nat.ble l.length 40

def decSt (e : Nat) (l : List Item) (st : TSt) : Option (denI l) :=
  if wfI l && Nat.beq (nRoots l) e then
    match decI st.tm st.hp st.c [] l with
    | some (x, o) => if Nat.ble o.length 16 then some x else none
    | none => none
  else none

/-! ### functions and their tables -/
structure FAnn where
  g : FuncId
  byref : Bool := false
  params : List Item
  res : List Item
  heads : List (Nat × List Item) := []
  outs : List (Nat × List (Ex × List Item)) := []
  joins : List (Nat × List Item) := []

def findA : List FAnn → FuncId → Option FAnn
  | [], _ => none
  | a :: l, g => cond (Nat.beq a.g g) (some a) (findA l g)

def findN {α : Type} : List (Nat × α) → Nat → Option α
  | [], _ => none
  | (k, x) :: l, i => cond (Nat.beq k i) (some x) (findN l i)

def exEq : Ex → Ex → Bool
  | .normal, .normal => true
  | .ret, .ret => true
  | .exit i, .exit j => Nat.beq i j
  | _, _ => false

def findE : List (Ex × List Item) → Ex → Option (List Item)
  | [], _ => none
  | (e, x) :: l, i => cond (exEq e i) (some x) (findE l i)

def mdC : AC → Md
  | .im _ => .im
  | _ => .keep

def mdA : AS → Mds
  | .cell c => .one (mdC c)
  | .agg cs => .agg (cs.map mdC)
  | .new (.arr ty deep t) => .one (.own ty t.size deep)
  | .new (.box _ cs) => .box (cs.map mdC)
  | .ref _ _ => .one .keep
  | .clo _ => .one .keep

def keepI : List Item → List (Nat × Mds)
  | [] => []
  | .root _ :: l => keepI l
  | .slot s a :: l => (s, mdA a) :: keepI l

def rootsI : List Item → List AB
  | .root b :: l => b :: rootsI l
  | _ => []

/-- The evaluator's table, out of what is said of the functions. -/
def cfOf (tab : List FAnn) (ext : FuncId → Bool) : Cfg where
  live g r := match (findA tab g).bind fun a => findN a.heads r with | some l => keepI l | none => []
  out g r ex := match ((findA tab g).bind fun a => findN a.outs r).bind fun l => findE l ex with | some l => keepI l | none => []
  join g r := match (findA tab g).bind fun a => findN a.joins r with | some l => some (keepI l) | none => none
  res g := match findA tab g with | some a => (keepI a.res).map (·.2) | none => []
  byref g := match findA tab g with | some a => a.byref | none => false
  isExt := ext

/-- A function that is known: what it takes, what it gives. -/
structure Ent where
  a : FAnn
  F : denI a.params → Option (denI a.res)

def findF : List Ent → FuncId → Option Ent
  | [], _ => none
  | x :: l, g => cond (Nat.beq x.a.g g) (some x) (findF l g)

/-- What a walk is told. -/
structure TX where
  ty : List (Nat × TyD)
  cod : List (Nat × Ty)
  eqs : List Nat
  bools : List Nat
  ents : List Ent
  ann : FAnn

def flatTy : Ty → Bool
  | .sl _ => false
  | .pair a b => flatTy a && flatTy b
  | _ => true

section
variable {α : Type} (X : TX)

/-- A slice type's elements: their type, what is known of it, how they are read. -/
def elemX (t : TypeId) : Option (TypeId × TyD × Ty) :=
  match getD X.ty t with
  | some d =>
    match d.elem with
    | some e =>
      match getD X.ty e, findN X.cod e with
      | some de, some c => if Nat.beq de.size c.size && (de.zero.all isVB == flatTy c) then some (e, de, c) else none
      | _, _ => none
    | none => none
  | none => none

def isStrX (t : TypeId) : Bool := match getD X.ty t with | some d => d.str | none => false

def tBin (op : BinOp) (t : TypeId) (x y : SV) (K : SV → Option α) : Option α :=
  match x, y with
  | .int k a, .int k' b => tBinI op k k' a b K
  | .str s, .str u => tBinS op s u K
  | .bool a, .bool b =>
    if X.bools.contains t then (match op with | .eql => K (.bool (a == b)) | .neq => K (.bool (!(a == b))) | _ => none) else none
  | .agg cs, .agg ds =>
    if X.eqs.contains t then
      match eqCells cs ds with
      | some r => (match op with | .eql => K (.bool r) | .neq => K (.bool (!r)) | _ => none)
      | none => none
    else none
  | _, _ => none

def scalarT : SV → Bool
  | .int .. | .bool _ | .str _ | .sc _ | .em => true
  | _ => false

def tMk (g : Bool) (cs : Option (List SV)) (K : SV → Option α) : Option α :=
  match cs with
  | some cs => (match mkT g cs with | some x => force x K | none => none)
  | none => none

def tLoad (t : TypeId) (v : SV) (hp : THp) (K : SV → Option α) : Option α :=
  match getD X.ty t, v with
  | some d, .ir ty a c => tMk d.agg (segT (encT ty a) c d.size) K
  | some d, .rf id r c =>
    match getB hp id with
    | some (.box _ cs) => (match r with | 0 => tMk d.agg (segT cs c d.size) K | _ => none)
    | some (.arr _ deep ty l) => if !deep || flatTy ty then (getN l r).bind fun a => tMk d.agg (segT (encT ty a) c d.size) K else none
    | some (.frz _ _ ty l) => if flatTy ty then (getN l r).bind fun a => tMk d.agg (segT (encT ty a) c d.size) K else none
    | none => none
  | _, _ => none

def closeCT (hp : THp) : SV → Option (SV × List Nat × Bool)
  | .int k n => some (.int k n, [], true)
  | .bool b => some (.bool b, [], true)
  | .str s => some (.str s, [], true)
  | .sc x => some (.sc x, [], true)
  | .em => some (.em, [], false)
  | .im t l => some (.im t l, [], false)
  | .ow id =>
    match getB hp id with
    | some (.arr _ deep t l) => some (.im t l, [id], deep)
    | some (.frz _ _ t l) => some (.im t l, [], false)
    | _ => none
  | .ar id lo n =>
    match getB hp id with
    | some (.arr _ deep t l) => some (.im t ((l.take (lo + n)).drop lo), [id], deep)
    | some (.frz _ _ t l) => some (.im t ((l.take (lo + n)).drop lo), [], false)
    | _ => none
  | _ => none

def closeLT (hp : THp) : List SV → Option (List SV × List Nat × Bool)
  | [] => some ([], [], true)
  | x :: l =>
    match closeCT hp x, closeLT hp l with
    | some (y, a, d), some (ys, as, ds) => some (y :: ys, a ++ as, d && ds)
    | _, _ => none

def tStore (t : TypeId) (a x : SV) (hp : THp) (K : SV → THp → Cls → Option α) : Option α :=
  match getD X.ty t, a with
  | some d, .rf id r c =>
    if Nat.beq (flatT x).length d.size then
      match getB hp id with
      | some (.box ty cs) =>
        match r with
        | 0 => if (flatT x).all okT then (match putT cs c (flatT x) with | some cs => K .any ((id, some (.box ty cs)) :: hp) .E | none => none) else none
        | _ => none
      | some (.arr ty deep e l) =>
        (getN l r).bind fun y =>
        match closeLT hp (flatT x) with
        | some (cs, kills, deep') =>
          if nodupB (id :: kills) then
            match putT (encT e y) c cs with
            | some cs => (match decR e cs with | some z => K .any ((id, some (.arr ty (deep && deep') e (l.set r z))) :: killT hp kills) .E | none => none)
            | none => none
          else none
        | none => none
      | _ => none
    else none
  | _, _ => none

def closePT (hp : THp) (tm : TTm) (e : Ty) : Nat → List (Nat × Operand) → Option (List e.den × List Nat × Bool)
  | _, [] => some ([], [], true)
  | n, (k, x) :: l =>
    if Nat.beq k n && Nat.beq (flatT (opT tm x)).length e.size then
      match closeLT hp (flatT (opT tm x)), closePT hp tm e (n + 1) l with
      | some (cs, a, d), some (ys, as, ds) => (match decR e cs with | some y => some (y :: ys, a ++ as, d && ds) | none => none)
      | _, _ => none
    else none

def tBuildSl (t : TypeId) (len : Nat) (parts : List (Nat × Operand)) (tm : TTm) (hp : THp) (b : Nat) (K : SV → THp → Cls → Option α) : Option α :=
  match elemX X t with
  | some (e, de, c) =>
    match len, parts with
    | 0, [] => K .em hp .M
    | 0, _ :: _ => none
    | len + 1, parts =>
      match closePT hp tm c 0 parts with
      | some (l, kills, deep) =>
        if Nat.beq l.length (len + 1) && Nat.ble ((len + 1) * de.size) 16777216 && nodupB kills && freshT tm hp b then
          K (.ow b) ((b, some (.arr e deep c l)) :: killT hp kills) (match kills with | [] => .M | _ => .E)
        else none
      | none => none
  | none => none

/-- What is appended. -/
def srcT (c : Ty) (x : SV) (hp : THp) : Option (List c.den × List Nat × Bool) :=
  match x with
  | .ow id =>
    match getB hp id with
    | some (.arr _ deep t l) => if h : t = c then (if flatTy c then some (castL h l, [], true) else some (castL h l, [id], deep)) else none
    | some (.frz _ _ t l) => if h : t = c then some (castL h l, [], flatTy c) else none
    | _ => none
  | .ar id lo n =>
    match getB hp id with
    | some (.arr _ deep t l) => if h : t = c then (if flatTy c then some (((castL h l).take (lo + n)).drop lo, [], true) else some (((castL h l).take (lo + n)).drop lo, [id], deep)) else none
    | some (.frz _ _ t l) => if h : t = c then some (((castL h l).take (lo + n)).drop lo, [], flatTy c) else none
    | _ => none
  | v => match asL c v with | some l => some (l, [], flatTy c) | none => none

/-- Two lists one behind the other, if there is room. -/
def appL {β : Type} (bytes size : Nat) (l m : List β) : Option (List β) := if (l.length + m.length) * bytes ≤ maxBytes ∧ (l.length + m.length) * size ≤ maxBytes then some (l ++ m) else none

def tAppend (ts : List TypeId) (s x : SV) (tm : TTm) (hp : THp) (b : Nat) (K : SV → THp → Cls → Option α) : Option α :=
  match ts with
  | [t, t'] =>
    if Nat.beq t' t then
      match elemX X t with
      | some (e, de, c) =>
        match srcT c x hp with
        | some (m, kills, deep) =>
          match s with
          | .em => if nodupB kills && freshT tm hp b then cond (roomI m.length de.bytes de.size) (K (.ow b) ((b, some (.arr e deep c m)) :: killT hp kills) (match kills with | [] => .M | _ => .E)) none else none
          | .ow id =>
            match getB hp id with
            | some (.arr ty d0 t0 l) =>
              if h : t0 = c then
                if Nat.beq ty e && nodupB (id :: kills) && freshT tm hp b then
                  (appL de.bytes de.size (castL h l) m).bind fun r => K (.ow b) ((b, some (.arr e (d0 && deep) c r)) :: killT hp (id :: kills)) .E
                else none
              else none
            | _ => none
          | .ar id 0 n =>
            match getB hp id with
            | some (.arr ty d0 t0 l) =>
              if h : t0 = c then
                if Nat.beq ty e && nodupB (id :: kills) && freshT tm hp b then
                  cond (decide (n ≤ l.length)) ((appL de.bytes de.size ((castL h l).take n) m).bind fun r => K (.ow b) ((b, some (.arr e (d0 && deep) c r)) :: killT hp (id :: kills)) .E) none
                else none
              else none
            | _ => none
          | _ => none
        | none => none
      | none => none
    else none
  | _ => none

/-- The bounds 's[lo:hi]'. -/
def tSub (tm : TTm) (lo hi : Option Operand) (len : Nat) (K : Nat → Nat → Option α) : Option α :=
  match lo, hi with
  | none, none => K 0 len
  | _, _ =>
    match tBnd tm lo 0, tBnd tm hi (len : Int) with
    | some l, some h => (subI l h len).bind fun p => K p.1 p.2
    | _, _ => none

def tSubW (tm : TTm) (lo hi : Option Operand) (len : Nat) (A : Option α) (K : Nat → Nat → Option α) : Option α :=
  match lo, hi with
  | none, none => A
  | _, _ => tSub tm lo hi len K

def tSlice (t : TypeId) (x : SV) (lo hi : Option Operand) (tm : TTm) (hp : THp) (K : SV → Option α) : Option α :=
  match x with
  | .str s => if isStrX X t then tSub tm lo hi s.length fun l h => K (.str ((s.take h).drop l)) else none
  | x =>
    match elemX X t with
    | some (e, de, c) =>
      match x with
      | .em => tSub tm lo hi 0 fun _ _ => K .em
      | .im ty l => if Nat.beq ty.size de.size then tSub tm lo hi l.length fun lo hi => K (.im ty ((l.take hi).drop lo)) else none
      | .ow id =>
        match getB hp id with
        | some (.arr _ _ ty l) | some (.frz _ _ ty l) => if Nat.beq ty.size de.size then tSubW tm lo hi l.length (K (.ow id)) fun l h => K (.ar id l (h - l)) else none
        | _ => none
      | .ar id l0 n =>
        match getB hp id with
        | some (.arr _ _ ty l) | some (.frz _ _ ty l) => if Nat.beq ty.size de.size then tSub tm lo hi n fun l h => K (.ar id (l0 + l) (h - l)) else none
        | _ => none
      | _ => none
    | none => none

def tIdx (t : TypeId) (x i : SV) (hp : THp) (K : SV → Cls → Option α) : Option α :=
  match elemX X t with
  | some (_, de, _) =>
    match x, i with
    | .im ty l, .int _ n => if Nat.beq ty.size de.size then (getI l n).bind fun a => K (.ir ty a 0) .T else none
    | .ow id, .int _ n =>
      match getB hp id with
      | some (.arr _ _ ty l) | some (.frz _ _ ty l) => if Nat.beq ty.size de.size then (idxI n l.length).bind fun k => K (.rf id k 0) .M else none
      | _ => none
    | .ar id lo len, .int _ n =>
      match getB hp id with
      | some (.arr _ _ ty l) | some (.frz _ _ ty l) => if Nat.beq ty.size de.size then (idxI n len).bind fun k => K (.rf id (lo + k) 0) .M else none
      | _ => none
    | _, _ => none
  | none => none

def tMake (t : TypeId) (same : Bool) (l c : SV) (tm : TTm) (hp : THp) (b : Nat) (K : SV → THp → Cls → Option α) : Option α :=
  match elemX X t, l, c with
  | some (e, de, ty), .int _ n, .int _ m =>
    match decR ty (de.zero.map zeroT) with
    | some z =>
      if freshT tm hp b && de.zero.all scalarV then
        cond same
          ((lenI m de.bytes de.size).bind fun k => K (.ow b) ((b, some (.arr e true ty (List.replicate k z))) :: hp) .M)
          ((lenI m de.bytes de.size).bind fun _ => cond (decide (0 ≤ n) && decide (n ≤ m)) (K (.ow b) ((b, some (.arr e true ty (List.replicate n.toNat z))) :: hp) .M) none)
      else none
    | none => none
  | _, _, _ => none

def isSlX (t : TypeId) : Bool := match getD X.ty t with | some d => d.elem.isSome | none => false
def isBytesX (t : TypeId) : Bool := match getD X.ty t with | some d => (match d.elem with | some e => (match getD X.ty e with | some de => de.int == some .u8 | none => false) | none => false) | none => false

def tConv (s d : TypeId) (x : SV) (hp : THp) (K : SV → Cls → Option α) : Option α :=
  match x with
  | .int _ n => (match getD X.ty s, getD X.ty d with | some _, some dd => (match dd.int with | some k => K (.int k (k.wrap n)) .T | none => none) | _, _ => none)
  | .str v =>
    if isStrX X s then
      if isBytesX X d then cond (decide (v.length ≤ maxBytes)) (K (.im (.int .u8) (numsOf v)) .M) none
      else if isStrX X d then K (.str v) .T else none
    else none
  | x =>
    if isBytesX X s && isStrX X d then
      match asLh hp (.int .u8) x with
      | some l => K (.str (strOf l)) .M
      | none => none
    else none

def tLen (t : TypeId) (x : SV) (hp : THp) (K : SV → Option α) : Option α :=
  match x with
  | .str s => if isStrX X t && !isSlX X t then K (.int .i64 (s.length : Int)) else none
  | x =>
    if isSlX X t then
      match x with
      | .em => K (.int .i64 0)
      | .im _ l => K (.int .i64 (l.length : Int))
      | .ow id =>
        match getB hp id with
        | some (.arr _ _ _ l) | some (.frz _ _ _ l) => K (.int .i64 (l.length : Int))
        | _ => none
      | .ar _ _ n => K (.int .i64 (n : Int))
      | _ => none
    else none

def tMinMax (mx : Bool) (xs : List SV) (K : SV → Option α) : Option α :=
  match allInts xs with
  | some (k, ns) => K (.int k (if mx then maxL ns else minL ns))
  | none => none

/-! ### calls -/
def lentV : SV → List Nat
  | .ow id => [id]
  | .ar id _ _ => [id]
  | _ => []

/-- What a slot of the parameters is handed. -/
def argS (hp : THp) (byref : Bool) (order : List Nat) (a : AS) (v : SV) : Option (a.den × List Nat × List Nat) :=
  match a, v with
  | .cell (.im t), v => if byref then (match asL t v with | some x => some (x, order, []) | none => none) else (match asLh hp t v with | some x => some (x, order, lentV v) | none => none)
  | .agg cs, .agg us => (match decCs (if byref then [] else hp) cs us with | some x => some (x, order, if byref then [] else us.flatMap fun v => lentV v) | none => none)
  | .new (.arr ty deep t), .ow id => if byref && notIn id order then (match decB hp (.arr ty deep t) (getB hp id) with | some x => some (x, order ++ [id], []) | none => none) else none
  | .new (.box ty cs), .rf id 0 0 => if notIn id order then (match decB [] (.box ty cs) (getB hp id) with | some x => some (x, order ++ [id], []) | none => none) else none
  | .cell c, v => (match decC [] c v with | some x => some (x, order, []) | none => none)
  | .clo f, .cl g [] => if Nat.beq f g then some ((), order, []) else none
  | _, _ => none

/-- What a function is handed: what its parameters are read as; the numbers of the blocks that it may write to; those that are lent. -/
def decP (hp : THp) (byref : Bool) : List Nat → (l : List Item) → List SV → Option (denI l × List Nat × List Nat)
  | order, [], [] => some ((), order, [])
  | order, .slot s a :: l, v :: vs =>
    match argS hp byref order a v with
    | some (x, order, lent) => (match decP hp byref order l vs with | some (y, o, m) => some (consI (.slot s a) l x y, o, lent ++ m) | none => none)
    | none => none
  | _, _, _ => none

def noImT0 : SV → Bool
  | .int .. | .bool _ | .str _ | .sc _ | .ow _ | .ar .. | .rf .. => true
  | .cl _ [] => true
  | _ => false
def noImT1 : SV → Bool
  | .agg cs => cs.all noImT0
  | x => noImT0 x
def noImBT : TB → Bool
  | .box _ cs => cs.all noImT0
  | .arr _ deep _ _ => deep
  | .frz .. => false

def backT (order : List Nat) (e b j : Nat) : Nat := match order[j]? with | some i => cond (Nat.blt j e) i (b + (j - e)) | none => b + (j - e)

def tupT (vs : List SV) : SV := match vs with | [v] => v | vs => .tup vs

/-- The slices that a call may write to are as long as they were. -/
def lensC (hp out : THp) : List Nat → Option α → Option α
  | [], A => A
  | id :: l, A =>
    match getB out id, getB hp id with
    | some (.arr _ _ _ l'), some (.arr _ _ _ l0) => cond (decide (l'.length = l0.length)) (lensC hp out l A) none
    | some (.box _ _), some (.box _ _) => lensC hp out l A
    | _, _ => none

def noImRes (vs : List SV) (bs : THp) : Bool := vs.all noImT1 && bs.all fun x => match x.2 with | some k => noImBT k | none => false

def tCall (g : FuncId) (args : List SV) (tm : TTm) (hp : THp) (b : Nat) (K : SV → THp → Cls → Option α) : Option α :=
  match findF X.ents g with
  | some E =>
    match decP hp E.a.byref [] E.a.params args with
    | some (x, order, lent) =>
      if wfI E.a.params && (slotsI E.a.params == List.range args.length) && wfI E.a.res && (slotsI E.a.res == List.range (slotsI E.a.res).length) && Nat.beq (nRoots E.a.res) order.length && Nat.ble order.length 16 && (List.range 16).all (fun i => freshT tm hp (b + i)) && order.all (fun id => notIn id lent && Nat.blt id b) then
        (E.F x).bind fun y =>
          let out := encI (backT order order.length b) 0 E.a.res y
          if Nat.ble out.2.length (order.length + 16) then
            lensC hp out.2 order (force (tupT (out.1.map (·.2))) fun v =>
              match order, lent.isEmpty || noImRes (out.1.map (·.2)) out.2 with
              | [], true => K v (out.2 ++ hp) .M
              | [], false => K v (out.2 ++ freezeT hp lent) .E
              | _ :: _, true => K v (out.2 ++ hp) .E
              | _ :: _, false => K v (out.2 ++ freezeT hp lent) .E)
          else none
      else none
    | none => none
  | none => none

/-! ### operations, regions, code -/
def sameOp : Operand → Operand → Bool
  | .tmp a, .tmp b => Nat.beq a b
  | _, _ => false

def wtOp (op : Op) (b : Nat) (tm : TTm) (hp : THp) (K : SV → THp → Cls → Option α) : Option α :=
  match op with
  | .store t a x => tStore X t (opT tm a) (opT tm x) hp K
  | .buildSlice t len parts => tBuildSl X t len parts.toList tm hp b K
  | .slice t x lo hi none => tSlice X t (opT tm x) lo hi tm hp fun v => K v hp .M
  | .move x | .assign x => force (opT tm x) fun v => K v hp .T
  | .pick c x y => (match opT tm c with | .bool t => cond t (force (opT tm x) fun v => K v hp .T) (force (opT tm y) fun v => K v hp .T) | _ => none)
  | .build t parts => (match getD X.ty t with | some d => if d.agg && !d.flds.isEmpty then tFill d.flds tm (d.zero.map zeroT) parts.toList fun cs => K (.agg cs) hp .T else none | none => none)
  | .nilCheck x => (match opT tm x with | .rf id r c => K (.rf id r c) hp .T | .ir t a c => K (.ir t a c) hp .T | .cl f caps => K (.cl f caps) hp .T | _ => none)
  | .binOp op t x y _ => tBin X op t (opT tm x) (opT tm y) fun v => K v hp .T
  | .unOp u _ x => tUn u (opT tm x) fun v => K v hp .T
  | .convert s d x => tConv X s d (opT tm x) hp fun v c => K v hp c
  | .field t x k =>
    match opT tm x, getD X.ty t with
    | .agg cs, some d => (match d.flds[k]? with | some f => tMk f.agg (segT cs f.off f.size) fun v => K v hp .T | none => none)
    | _, _ => none
  | .fieldAddr t x k =>
    match getD X.ty t with
    | some d =>
      match d.flds[k]?, opT tm x with
      | some f, .rf id r c => K (.rf id r (c + f.off)) hp .T
      | some f, .ir t a c => K (.ir t a (c + f.off)) hp .T
      | _, _ => none
    | none => none
  | .index t x i =>
    match isStrX X t, opT tm x, opT tm i with
    | true, .str s, .int _ n => (getI s n).bind fun c => K (.int .u8 (c.toNat : Int)) hp .T
    | _, _, _ => none
  | .indexAddr t x i => tIdx X t (opT tm x) (opT tm i) hp fun v c => K v hp c
  | .slice t x lo (some hi) (some mx) =>
    match elemX X t, opT tm x with
    | some (_, _, _), .im _ l =>
      match tBnd tm lo 0, tBnd tm (some hi) 0, tBnd tm (some mx) 0 with
      | some lo, some hi, some mx => cond (decide (lo = 0 ∧ hi = 0 ∧ mx = 0)) (K .em hp .T) none
      | _, _, _ => none
    | _, _ => none
  | .extract x k => (match opT tm x with | .tup vs => (match vs[k]? with | some v => force v fun v => K v hp .T | none => none) | _ => none)
  | .makeFunc (.func f) first caps => if first.isEmpty && (caps.toList.map (opT tm)).all okT then K (.cl f (caps.toList.map (opT tm))) hp .T else none
  | .call { callee := .builtin .append, args, argTypes } => (match args.toList with | [s, x] => tAppend X argTypes.toList (opT tm s) (opT tm x) tm hp b K | _ => none)
  | .call { callee := .builtin .len, args, argTypes } => (match args.toList, argTypes.toList with | [x], [t] => tLen X t (opT tm x) hp fun v => K v hp .T | _, _ => none)
  | .call { callee := .builtin .min, args, .. } => tMinMax false (args.toList.map (opT tm)) fun v => K v hp .T
  | .call { callee := .builtin .max, args, .. } => tMinMax true (args.toList.map (opT tm)) fun v => K v hp .T
  | .call { callee := .value f, args, .. } => (match opT tm f with | .cl g caps => tCall X g (args.toList.map (opT tm) ++ caps) tm hp b K | _ => none)
  | .alloc t => (match getD X.ty t with | some d => if freshT tm hp b then K (.rf b 0 0) ((b, some (.box t (d.zero.map zeroT))) :: hp) .M else none | none => none)
  | .box t x => (match getD X.ty t with | some d => if Nat.beq (flatT (opT tm x)).length d.size && (flatT (opT tm x)).all okT && freshT tm hp b then K (.rf b 0 0) ((b, some (.box t (flatT (opT tm x)))) :: hp) .M else none | none => none)
  | .load t a => tLoad X t (opT tm a) hp fun v => K v hp .M
  | .makeSlice t l c => tMake X t (sameOp l c) (opT tm l) (opT tm c) tm hp b K
  | _ => none

def wtAt (draw : Bool) (op : Op) (b : Nat) (tm : TTm) (hp : THp) (K : SV → THp → Cls → Option α) : Option α :=
  match draw && isR op with
  | true => wtOp X op b tm (maskT b hp) fun x _ cls => K x hp cls
  | false => wtOp X op b tm hp K

def drawnT (draw ok : Bool) (cls : Cls) (A : Option α) : Option α :=
  match draw, cls with
  | true, .E => cond ok A none
  | _, _ => A

def putTm (tm : TTm) (dst : Option Tmp) (x : SV) : TTm :=
  match dst with
  | some d => (d, x) :: tm
  | none => tm

def wtOps (all : List Oper) (draw : Bool) : List Oper → Nat → TSt → (TSt → Option α) → Option α
  | [], _, st, K => K st
  | o :: l, i, st, K =>
    match o.guard with
    | none =>
      wtAt X draw o.op (16 * (st.c + i)) st.tm st.hp fun x hp cls => drawnT draw (eOK all i) cls (wtOps all draw l (i + 1) { tm := putTm st.tm o.dst x, hp := hp, c := st.c } K)
    | some (j, want) =>
      match (all[j]?).bind (·.dst) with
      | some d =>
        match getV st.tm d with
        | .bool t =>
          let go (tm : TTm) : Option α := wtAt X draw o.op (16 * (st.c + i)) tm st.hp fun x hp cls => drawnT draw (eOK all i) cls (wtOps all draw l (i + 1) { tm := putTm tm o.dst x, hp := hp, c := st.c } K)
          let no (tm : TTm) : Option α := wtOps all draw l (i + 1) { tm := putTm tm o.dst (.tup []), hp := st.hp, c := st.c } K
          match want with
          | true => cond t (go ((d, .bool true) :: st.tm)) (no ((d, .bool false) :: st.tm))
          | false => cond t (no ((d, .bool true) :: st.tm)) (go ((d, .bool false) :: st.tm))
        | .tup [] => wtOps all draw l (i + 1) { tm := putTm st.tm o.dst (.tup []), hp := st.hp, c := st.c } K
        | _ => none
      | none => none
end

@[reducible] def denX : List (Ex × List Item) → Type
  | [] => Empty
  | [a] => denI a.2
  | a :: b :: l => denI a.2 ⊕ denX (b :: l)

def injX (e : Nat) : (l : List (Ex × List Item)) → Ex → TSt → Option (denX l)
  | [], _, _ => none
  | [a], ex, st => cond (exEq a.1 ex) (decSt e a.2 st) none
  | a :: b :: l, ex, st => cond (exEq a.1 ex) ((decSt e a.2 st).map .inl) ((injX e (b :: l) ex st).map .inr)

def elimX {α : Type} (K : Ex → TSt → Option α) : (l : List (Ex × List Item)) → denX l → Option α
  | [] => fun d => nomatch d
  | [a] => fun d => K a.1 (encSt a.2 d)
  | a :: b :: l => fun d => Sum.elim (fun d => K a.1 (encSt a.2 d)) (elimX K (b :: l)) d

abbrev TPost (α : Type) := Ex → TSt → Option α

/-- How many blocks a function is handed. -/
def nBlks (l : List Item) : Nat := (l.filter fun i => match i with | .slot _ (.new _) => true | .root _ => true | _ => false).length

def TX.e (X : TX) : Nat := nBlks X.ann.params

noncomputable def wtC (X : TX) : Code → {α : Type} → TSt → TPost α → Option α
  | .skip, _, st, Q => Q .normal st
  | .region _ ops draw, _, st, Q => wtOps X ops.toList draw ops.toList 0 st fun s => Q .normal { s with c := s.c + ops.size }
  | .seq a b, _, st, Q =>
    match findN X.ann.joins (rid b) with
    | none => wtC X a st fun ex s => match ex with | .normal => wtC X b s Q | ex => Q ex s
    | some an =>
      (wtC X a (α := _ ⊕ denI an) st fun ex s => match ex with | .normal => (decSt X.e an s).map .inr | ex => (Q ex s).map .inl).bind fun z => Sum.elim some (fun d => wtC X b (encSt an d) Q) z
  | .cond c x y, _, st, Q =>
    match opT st.tm c with
    | .bool t => cond t (wtC X x st Q) (wtC X y st Q)
    | _ => none
  | .block id c, _, st, Q => wtC X c st fun ex s => match ex with | .exit j => cond (Nat.beq j id) (Q .normal s) (Q (.exit j) s) | ex => Q ex s
  | .loop c, _, st, Q =>
    match findN X.ann.heads (rid c), findN X.ann.outs (rid c) with
    | some an, some outs =>
      (decSt X.e an st).bind fun d0 =>
      (loopM (fun d => wtC X c (encSt an d) fun ex s => match ex with | .normal => (decSt X.e an s).map .inl | ex => (injX X.e outs ex s).map .inr) d0).bind fun z => elimX Q outs z
    | _, _ => none
  | .exit id, _, st, Q => Q (.exit id) st
  | .ret, _, st, Q => Q .ret st
  | _, _, _, _ => none

def tRes {α : Type} (X : TX) (tm : TTm) (hp : THp) : List ResultVar → (List SV → Option α) → Option α
  | [], K => K []
  | .tmp t :: l, K => tRes X tm hp l fun xs => K (getV tm t :: xs)
  | .cell a t :: l, K => tLoad X t (getV tm a) hp fun x => tRes X tm hp l fun xs => K (x :: xs)

def enumT : Nat → List SV → TTm
  | _, [] => []
  | n, x :: l => (n, x) :: enumT (n + 1) l

/-- What goes out. -/
def outT (res : List Item) (e : Nat) (s : TSt) (xs : List SV) : Option (denI res) :=
  if wfI res && Nat.beq (nRoots res) e && (slotsI res == List.range xs.length) then (match decI (enumT 0 xs) s.hp (s.c + 1) [] res with | some (y, o) => if Nat.ble o.length 16 then some y else none | none => none) else none

/-- What a function gives. -/
noncomputable def wtF (X : TX) (fn : Func) (x : denI X.ann.params) : Option (denI X.ann.res) :=
  match fn.body with
  | some c => wtC X c (encSt X.ann.params x) fun ex s =>
    match ex with
    | .exit _ => none
    | _ => tRes X s.tm s.hp fn.results.toList fun xs => outT X.ann.res X.e s xs
  | none => none

end Go.Proofs.Ytcmihlhmeonmfaa.Ev
