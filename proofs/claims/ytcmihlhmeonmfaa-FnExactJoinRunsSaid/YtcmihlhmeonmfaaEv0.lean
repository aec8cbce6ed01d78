/- A pure evaluator over the model's code: its values, its state, its operations. Nothing is claimed here. -/
import Derived.WalkKit
import Derived.Below
namespace Go.Proofs.Ytcmihlhmeonmfaa.Ev
open Go

/-- A value, memory apart: 'im' is a slice that is only read, 'ar' a slice of a block of our own, 'rf' an address in such a block, 'ir' an address of what is only read. -/
inductive V where
  | v (x : Value)
  | em
  | im (rows : List (List V))
  | ar (id lo n : Nat)
  | rf (id r c : Nat)
  | ir (row : List V) (c : Nat)
  | agg (cs : List V)
  | tup (vs : List V)
  | cl (f : FuncId) (caps : List V)
  | any
  deriving Inhabited

inductive Kind where
  | box | arr | frz
  deriving DecidableEq, Inhabited

/-- A block: rows of cells; 'deep': what its cells lead to belongs to it alone. -/
structure Blk where
  kind : Kind
  ty : TypeId
  size : Nat
  deep : Bool
  rows : List (List V)
  deriving Inhabited

abbrev Hp := Nat → Option Blk
abbrev Tm := Nat → V

structure St where
  tm : Tm
  hp : Hp
  c : Nat

structure Fld where
  off : Nat
  ty : TypeId
  size : Nat
  agg : Bool

structure TyD where
  size : Nat
  bytes : Nat
  agg : Bool
  zero : List V
  elem : Option TypeId
  str : Bool
  int : Option IntKind
  flds : List Fld

def scalarB : Value → Bool
  | .bool _ | .int _ _ | .float _ _ | .complex _ _ _ | .string _ | .nilFunc | .nilIface | .pointer none => true
  | .iface _ (.string _) | .iface _ (.int _ _) | .iface _ (.bool _) => true
  | _ => false

def ofCell : Value → V
  | .slice none 0 0 => .em
  | x => if scalarB x then .v x else .any

def ofConst : Value → V
  | .agg cs => .agg (cs.toList.map ofCell)
  | x => ofCell x

def isAggD : TypeDesc → Bool
  | .struct _ | .array _ _ => true
  | _ => false

def elemD : TypeDesc → Option TypeId
  | .slice e => some e
  | _ => none

def strD : TypeDesc → Bool
  | .string => true
  | _ => false

def intD : TypeDesc → Option IntKind
  | .int k => some k
  | _ => none

def fldsL (P : Program) : List Field → Option (List Fld)
  | [] => some []
  | f :: l =>
    match P.info? f.type, P.underlying f.type, fldsL P l with
    | some i, some u, some r => if i.size = 0 then none else some ({ off := f.offset, ty := f.type, size := i.size, agg := isAggD u } :: r)
    | _, _, _ => none

def fldsD (P : Program) : TypeDesc → List Fld
  | .struct fs => (fldsL P fs.toList).getD []
  | _ => []

def tyOf (P : Program) (t : TypeId) : Option TyD :=
  match P.info? t, P.underlying t with
  | some i, some u =>
    match i.zero with
    | some z =>
      if i.size = 0 ∨ z.cells.size ≠ i.size ∨ (z.cells.toList.all (·.oneCell')) = false then none
      else some { size := i.size, bytes := i.bytes, agg := isAggD u, zero := z.cells.toList.map ofCell, elem := elemD u, str := strD u, int := intD u, flds := fldsD P u }
    | none => none
  | _, _ => none

def opnd (tm : Tm) : Operand → V
  | .tmp t => tm t
  | .const c => ofConst c
  | .global _ => .any
  | .func f => .cl f []

def flat : V → List V
  | .agg cs => cs
  | x => [x]

def mk (g : Bool) (cs : List V) : Option V :=
  if g then some (.agg cs) else match cs with | [x] => some x | _ => none

def toVals : List V → Option (List Value)
  | [] => some []
  | .v x :: l => match toVals l with | some r => some (x :: r) | none => none
  | _ => none

def toVal : V → Option Value
  | .v x => some x
  | .agg cs => match toVals cs with | some r => some (.agg r.toArray) | none => none
  | _ => none

def caseB (x : V) (F : Bool → Prop) : Prop := match x with | .v (.bool t) => F t | _ => False

def caseO {α : Type} (x : Option α) (F : α → Prop) : Prop := match x with | some y => F y | none => False

/-- What a computation gives that neither reads nor writes memory. -/
def pureRun {α : Type} (P : Program) : Sem α → Option α
  | .pure a => some a
  | .program k => pureRun P (k P)
  | _ => none

def ofScalar (x : Value) : Option V := if scalarB x then some (.v x) else none

def seg (cs : List V) (off n : Nat) : Option (List V) := if off + n ≤ cs.length then some ((cs.drop off).take n) else none

def putSeg (cs : List V) (off : Nat) (new : List V) : Option (List V) :=
  if off + new.length ≤ cs.length then some (cs.take off ++ new ++ cs.drop (off + new.length)) else none

/-- What a cell may hold. -/
def okCell : V → Bool
  | .v _ | .em | .im _ | .ar .. | .rf .. | .ir .. => true
  | .cl _ [] => true
  | _ => false

def fillV (flds : List Fld) (ρ : Operand → V) (cs : List V) : List (Nat × Operand) → Option (List V)
  | [] => some cs
  | (k, x) :: rest =>
    match flds[k]? with
    | some f => if (flat (ρ x)).length = f.size && (flat (ρ x)).all okCell then (putSeg cs f.off (flat (ρ x))).bind fun cs => fillV flds ρ cs rest else none
    | none => none

def bnd (ρ : Operand → V) : Option Operand → Nat → Option Nat
  | none, d => some d
  | some x, _ => match ρ x with | .v (.int _ n) => if 0 ≤ n then some n.toNat else none | _ => none

def byteOfRow : List V → Option UInt8
  | [.v (.int .u8 n)] => some (UInt8.ofNat n.toNat)
  | _ => none

def bytesOfRows : List (List V) → Option (List UInt8)
  | [] => some []
  | r :: l => match byteOfRow r, bytesOfRows l with | some b, some bs => some (b :: bs) | _, _ => none

def u8rows (s : ByteArray) : List (List V) := s.data.toList.map fun b => [.v (.int .u8 b.toNat)]

def allScalars : List V → Option (List Value) := toVals

def isStr (P : Program) (t : TypeId) : Bool := match tyOf P t with | some d => d.str | none => false

def isSl (P : Program) (t : TypeId) : Bool := match tyOf P t with | some d => d.elem.isSome | none => false

/-- Operations that look at their operands alone. -/
def nevT (P : Program) (op : Op) (ρ : Operand → V) : Option V :=
  match op with
  | .move x | .assign x => some (ρ x)
  | .pick c a b => match ρ c with | .v (.bool t) => some (if t then ρ a else ρ b) | _ => none
  | .build t parts => match tyOf P t with | some d => if d.agg && !d.flds.isEmpty then (fillV d.flds ρ d.zero parts.toList).map .agg else none | none => none
  | .nilCheck x => match ρ x with | .rf id r c => some (.rf id r c) | .ir row c => some (.ir row c) | .cl f caps => some (.cl f caps) | _ => none
  | .binOp b t x y _ =>
    match toVal (ρ x), toVal (ρ y) with
    | some a, some e => (pureRun P (do eqGuard b t x y a e; binOp b t a e)).bind ofScalar
    | _, _ => none
  | .unOp u _ x => match ρ x with | .v a => (pureRun P (Op.unary u a)).bind ofScalar | _ => none
  | .convert s d x => match ρ x with | .v a => (pureRun P (Go.convert s d a)).bind ofScalar | _ => none
  | .field t x k =>
    match ρ x, tyOf P t with
    | .agg cs, some d => match d.flds[k]? with | some f => (seg cs f.off f.size).bind (mk f.agg) | none => none
    | _, _ => none
  | .fieldAddr t x k =>
    match tyOf P t with
    | some d =>
      match d.flds[k]?, ρ x with
      | some f, .rf id r c => some (.rf id r (c + f.off))
      | some f, .ir row c => some (.ir row (c + f.off))
      | _, _ => none
    | none => none
  | .index t x i =>
    match isStr P t, ρ x, ρ i with
    | true, .v (.string s), .v (.int _ n) => if h : 0 ≤ n ∧ n.toNat < s.size then some (.v (.int .u8 (s[n.toNat]'h.2).toNat)) else none
    | _, _, _ => none
  | .indexAddr t x i =>
    match ρ x, ρ i with
    | .im rows, .v (.int _ n) =>
      match (tyOf P t).bind (·.elem) with
      | some e =>
        match tyOf P e with
        | some d => if h : 0 ≤ n ∧ n.toNat < rows.length then if (rows[n.toNat]'h.2).length = d.size then some (.ir (rows[n.toNat]'h.2) 0) else none else none
        | none => none
      | none => none
    | _, _ => none
  | .slice t x lo hi none =>
    match isStr P t, ρ x with
    | true, .v (.string s) =>
      match bnd ρ lo 0, bnd ρ hi s.size with
      | some l, some h => if l ≤ h ∧ h ≤ s.size then some (.v (.string (s.extract l h))) else none
      | _, _ => none
    | _, _ => none
  | .slice t x lo (some hi) (some mx) =>
    match ((tyOf P t).bind (·.elem)).bind (tyOf P), ρ x with
    | some _, .im rows =>
      match bnd ρ lo 0, bnd ρ (some hi) 0, bnd ρ (some mx) 0 with
      | some l, some h, some m => if l = h ∧ h = m ∧ m ≤ rows.length then some .em else none
      | _, _, _ => none
    | some _, .em =>
      match bnd ρ lo 0, bnd ρ (some hi) 0, bnd ρ (some mx) 0 with
      | some l, some h, some m => if l = h ∧ h = m ∧ m ≤ 0 then some .em else none
      | _, _, _ => none
    | _, _ => none
  | .extract x k => match ρ x with | .tup vs => vs[k]? | _ => none
  | .makeFunc (.func f) first caps => if first.isEmpty && (caps.toList.map ρ).all okCell then some (.cl f (caps.toList.map ρ)) else none
  | .call { callee := .builtin .len, args, argTypes } =>
    match args.toList, argTypes.toList with
    | [x], [t] =>
      match isSl P t, isStr P t, ρ x with
      | true, _, .im rows => some (.v (.int .i64 rows.length))
      | true, _, .em => some (.v (.int .i64 0))
      | true, _, .ar _ _ n => some (.v (.int .i64 n))
      | _, true, .v (.string s) => some (.v (.int .i64 s.size))
      | _, _, _ => none
    | _, _ => none
  | .call { callee := .builtin .min, args, .. } =>
    match toVals (args.toList.map ρ) with
    | some xs => (pureRun P (Builtin.min_ #[] 0 xs.toArray)).bind ofScalar
    | none => none
  | .call { callee := .builtin .max, args, .. } =>
    match toVals (args.toList.map ρ) with
    | some xs => (pureRun P (Builtin.max_ #[] 0 xs.toArray)).bind ofScalar
    | none => none
  | _ => none

/-- Kinds of operations that 'nevT' may serve and no other rule does. -/
def isT : Op → Bool
  | .move _ | .assign _ | .pick .. | .build .. | .nilCheck _ | .binOp .. | .unOp .. | .field .. | .fieldAddr .. | .index .. | .extract .. | .makeFunc .. => true
  | .call { callee := .builtin .len, .. } | .call { callee := .builtin .min, .. } | .call { callee := .builtin .max, .. } => true
  | _ => false

def scalarV : V → Bool
  | .v _ | .em => true
  | _ => false

def closedB : V → Bool
  | .v _ | .em | .im _ => true
  | _ => false

/-- No slice that is only borrowed is reached from here. -/
def noIm0 : V → Bool
  | .v _ | .ar .. | .rf .. => true
  | .cl _ [] => true
  | _ => false

def noIm : V → Bool
  | .agg cs => cs.all noIm0
  | .tup vs => vs.all fun | .agg cs => cs.all noIm0 | x => noIm0 x
  | x => noIm0 x

def noImB (b : Blk) : Bool :=
  match b.kind with
  | .box => b.rows.all (·.all noIm0)
  | .arr => b.deep
  | .frz => false

def upd {α : Type} (f : Nat → α) (d : Nat) (x : α) : Nat → α := fun i => if i = d then x else f i

def put (tm : Tm) (dst : Option Tmp) (x : V) : Tm :=
  match dst with
  | some d => upd tm d x
  | none => tm

def inst (hp : Hp) (b : Nat) : List Blk → Hp
  | [] => hp
  | k :: l => inst (upd hp b (some k)) (b + 1) l

def boxOf (t : TypeId) (cs : List V) : Blk := { kind := .box, ty := t, size := cs.length, deep := false, rows := [cs] }

def arrOf (e : TypeId) (size : Nat) (deep : Bool) (rows : List (List V)) : Blk := { kind := .arr, ty := e, size := size, deep := deep, rows := rows }

def maxBytes : Nat := 140737488351232

def isBytes (P : Program) (t : TypeId) : Bool :=
  match (tyOf P t).bind (·.elem) with
  | some e => match tyOf P e with | some d => d.int == some .u8 | none => false
  | none => false

/-- Operations that look at blocks, and may lay new ones. -/
def nevM (P : Program) (op : Op) (ρ : Operand → V) (hp : Hp) (b : Nat) : Option (V × List Blk) :=
  match op with
  | .alloc t => match tyOf P t with | some d => some (.rf b 0 0, [boxOf t d.zero]) | none => none
  | .box t x => match tyOf P t with | some d => if (flat (ρ x)).length = d.size && (flat (ρ x)).all okCell then some (.rf b 0 0, [boxOf t (flat (ρ x))]) else none | none => none
  | .load t a =>
    match tyOf P t with
    | some d =>
      match ρ a with
      | .ir row c => match (seg row c d.size).bind (mk d.agg) with | some x => some (x, []) | none => none
      | .rf id r c =>
        match hp id with
        | some k =>
          match k.rows[r]? with
          | some row =>
            match seg row c d.size with
            | some cs => if k.kind = .box || !k.deep || cs.all scalarV then match mk d.agg cs with | some x => some (x, []) | none => none else none
            | none => none
          | none => none
        | none => none
      | _ => none
    | none => none
  | .indexAddr t x i =>
    match ρ x, ρ i with
    | .ar id lo n, .v (.int _ j) =>
      match (tyOf P t).bind (·.elem) with
      | some e =>
        match tyOf P e, hp id with
        | some d, some k => if k.size = d.size ∧ 0 ≤ j ∧ j.toNat < n then some (.rf id (lo + j.toNat) 0, []) else none
        | _, _ => none
      | none => none
    | _, _ => none
  | .makeSlice t l c =>
    match ρ l, ρ c, (tyOf P t).bind (·.elem) with
    | .v (.int _ n), .v (.int _ m), some e =>
      match tyOf P e with
      | some d => if 0 ≤ n ∧ n ≤ m ∧ m.toNat * d.bytes ≤ maxBytes ∧ m.toNat * d.size ≤ maxBytes ∧ d.zero.all scalarV = true then some (.ar b 0 n.toNat, [arrOf e d.size true (List.replicate n.toNat d.zero)]) else none
      | none => none
    | _, _, _ => none
  | .convert s d x =>
    match ρ x with
    | .im rows => if isBytes P s && isStr P d then match bytesOfRows rows with | some bs => some (.v (.string ⟨bs.toArray⟩), []) | none => none else none
    | .ar id lo n =>
      match hp id with
      | some k => if k.kind ≠ .box ∧ isBytes P s && isStr P d then match bytesOfRows ((k.rows.take (lo + n)).drop lo) with | some bs => some (.v (.string ⟨bs.toArray⟩), []) | none => none else none
      | none => none
    | .v (.string str) => if isStr P s && isBytes P d && decide (str.size ≤ maxBytes) then some (.im (u8rows str), []) else none
    | .em => if isBytes P s && isStr P d then some (.v (.string ⟨#[]⟩), []) else none
    | _ => none
  | _ => none

end Go.Proofs.Ytcmihlhmeonmfaa.Ev
