/- A pure evaluator over the model's code: code, loops, calls. Nothing is claimed here. -/
import Derived.Test.YtcmihlhmeonmfaaEv0
namespace Go.Proofs.Ytcmihlhmeonmfaa.Ev
open Go

/-- Numbers of blocks turned; what has none reads as anything. -/
def ren0 (f : Nat → Option Nat) : V → V
  | .ar id lo n => match f id with | some j => .ar j lo n | none => .any
  | .rf id r c => match f id with | some j => .rf j r c | none => .any
  | .cl g [] => .cl g []
  | .cl _ _ | .agg _ | .tup _ => .any
  | x => x

def ren1 (f : Nat → Option Nat) : V → V
  | .agg cs => .agg (cs.map (ren0 f))
  | .cl g caps => .cl g (caps.map (ren0 f))
  | x => ren0 f x

def ren2 (f : Nat → Option Nat) : V → V
  | .tup vs => .tup (vs.map (ren1 f))
  | x => ren1 f x

def renB (f : Nat → Option Nat) (k : Blk) : Blk :=
  match k.kind with
  | .box => { k with rows := k.rows.map (·.map (ren0 f)) }
  | _ => k

def refs0 : V → List Nat
  | .ar id _ _ => [id]
  | .rf id _ _ => [id]
  | _ => []

def refs1 : V → List Nat
  | .agg cs => cs.flatMap refs0
  | .cl _ caps => caps.flatMap refs0
  | x => refs0 x

def refs2 : V → List Nat
  | .tup vs => vs.flatMap refs1
  | x => refs1 x

def refsB (k : Blk) : List Nat :=
  match k.kind with
  | .box => k.rows.flatMap (·.flatMap refs0)
  | _ => []

/-- The blocks that are reached, in order; those that are not there are passed by. -/
def close (hp : Hp) : Nat → List Nat → List Nat → Option (List Nat)
  | 0, _, _ => none
  | _ + 1, [], acc => some acc
  | k + 1, id :: l, acc =>
    if acc.contains id then close hp k l acc
    else match hp id with
      | none => close hp k l acc
      | some b => close hp k (l ++ refsB b) (acc ++ [id])

def idx (order : List Nat) (id : Nat) : Option Nat := order.idxOf? id

def blksOf (hp : Hp) (order : List Nat) : List Blk := order.map fun id => renB (idx order) ((hp id).getD default)

def lk {α : Type} (d : α) : List (Nat × α) → Nat → α
  | [], _ => d
  | (k, x) :: l, i => if i = k then x else lk d l i

def enum {α : Type} (n : Nat) : List α → List (Nat × α)
  | [] => []
  | x :: l => (n, x) :: enum (n + 1) l

def lkB (l : List Blk) : Hp := fun id => l[id]?

inductive Ex where
  | normal
  | exit (id : Nat)
  | ret

inductive Cls where
  | T | M | E

def freeze (hp : Hp) : List Nat → Hp
  | [] => hp
  | id :: l => freeze (upd hp id ((hp id).map fun k => { k with kind := match k.kind with | .arr => .frz | x => x })) l

/-- How a slice is laid where ways meet: as it is; as a block of our own; as one that is only read. -/
inductive Md where
  | keep
  | own (ty size : Nat) (deep : Bool)
  | im

inductive Mds where
  | one (m : Md)
  | agg (l : List Md)
  | box (l : List Md)

/-- A cell turned to its form: the cell, the blocks, how many new numbers (from b on) are used. -/
def normC (m : Md) (x : V) (hp : Hp) (b : Nat) : Option (V × Hp × Nat) :=
  match m with
  | .keep => some (x, hp, 0)
  | .own ty size deep =>
    match x with
    | .em => some (.ar b 0 0, upd hp b (some (arrOf ty size deep [])), 1)
    | .ar id lo n =>
      match hp id with
      | some k => if k.kind = .arr ∧ lo = 0 ∧ n = k.rows.length ∧ k.ty = ty ∧ k.size = size ∧ k.deep = deep then some (.ar id lo n, hp, 0) else none
      | none => none
    | _ => none
  | .im =>
    match x with
    | .em => some (.im [], hp, 0)
    | .im rows => some (.im rows, hp, 0)
    | .ar id lo n =>
      match hp id with
      | some k => match k.kind with | .box => none | _ => some (.im ((k.rows.take (lo + n)).drop lo), freeze hp [id], 0)
      | none => none
    | _ => none

def normL : List Md → List V → Hp → Nat → Option (List V × Hp × Nat)
  | [], [], hp, _ => some ([], hp, 0)
  | m :: ms, x :: xs, hp, b =>
    match normC m x hp b with
    | some (y, hp1, n) =>
      match normL ms xs hp1 (b + n) with
      | some (ys, hp2, k) => some (y :: ys, hp2, n + k)
      | none => none
    | none => none
  | _, _, _, _ => none

def normV (m : Mds) (x : V) (hp : Hp) (b : Nat) : Option (V × Hp × Nat) :=
  match m with
  | .one m => normC m x hp b
  | .agg l => match x with | .agg cs => (normL l cs hp b).map fun z => (.agg z.1, z.2.1, z.2.2) | _ => none
  | .box l =>
    match x with
    | .rf id r c =>
      match hp id with
      | some k =>
        match k.kind, k.rows with
        | .box, [row] =>
          match normL l row hp b with
          | some (cs, hp1, n) => if cs.all okCell then some (.rf id r c, upd hp1 id (some { k with rows := [cs] }), n) else none
          | none => none
        | _, _ => none
      | none => none
    | _ => none

def normS : List (Nat × Mds) → St → Option St
  | [], st => some st
  | (s, m) :: l, st =>
    match normV m (st.tm s) st.hp (16 * st.c) with
    | some (x, hp, n) => if n ≤ 16 then normS l { tm := upd st.tm s x, hp := hp, c := st.c + 1 } else none
    | none => none

/-- The state at a loop's head: the slots that are kept, blocks numbered anew. -/
def canon0 (e : Nat) (keep : List Nat) (st : St) (K : St → Prop) : Prop :=
  match close st.hp 64 (List.range e ++ keep.flatMap fun s => refs2 (st.tm s)) [] with
  | some order => order.length ≤ 16 ∧ order.take e = List.range e ∧ K { tm := lk .any (keep.map fun s => (s, ren2 (idx order) (st.tm s))), hp := lkB (blksOf st.hp order), c := 1 }
  | none => False

def canon (e : Nat) (keep : List (Nat × Mds)) (st : St) (K : St → Prop) : Prop :=
  caseO (normS keep st) fun st => canon0 e (keep.map (·.1)) st K

/-- Where two ways meet: the state, if it is to be laid anew there. -/
def meet (e : Nat) (j : Option (List (Nat × Mds))) (st : St) (K : St → Prop) : Prop :=
  match j with
  | some keep => canon e keep st K
  | none => K st

def rid : Code → Nat
  | .region id _ _ => id
  | .seq a _ => rid a
  | .block _ a => rid a
  | .scope a => rid a
  | .loop a => rid a
  | _ => 0

def lend0 (hp : Hp) : V → Option V
  | .ar id lo n =>
    match hp id with
    | some k => match k.kind with | .box => none | _ => some (.im ((k.rows.take (lo + n)).drop lo))
    | none => none
  | .em => some (.im [])
  | .tup _ | .agg _ => none
  | .cl g [] => some (.cl g [])
  | .cl _ _ => none
  | x => some x

def lendL (hp : Hp) : List V → Option (List V)
  | [] => some []
  | x :: l => match lend0 hp x, lendL hp l with | some y, some r => some (y :: r) | _, _ => none

def lend1 (hp : Hp) : V → Option V
  | .agg cs => match lendL hp cs with | some r => some (.agg r) | none => none
  | .cl g caps => match lendL hp caps with | some r => some (.cl g r) | none => none
  | x => lend0 hp x

def lendA (hp : Hp) : List V → Option (List V)
  | [] => some []
  | x :: l => match lend1 hp x, lendA hp l with | some y, some r => some (y :: r) | _, _ => none

def arIds0 : V → List Nat
  | .ar id _ _ => [id]
  | _ => []

def arIds1 : V → List Nat
  | .agg cs => cs.flatMap arIds0
  | .cl _ caps => caps.flatMap arIds0
  | x => arIds0 x

def kill (hp : Hp) : List Nat → Hp
  | [] => hp
  | id :: l => kill (upd hp id none) l

/-- Numbers of blocks are small. -/
def idsOK (args : List V) (blks : List Blk) : Bool :=
  (args.flatMap refs1).all (fun i => decide (i < 16)) && (blks.flatMap refsB).all (fun i => decide (i < 16)) && decide (blks.length ≤ 16) &&
  ((args.flatMap refs1).eraseDups == List.range (args.flatMap refs1).eraseDups.length)

structure Cfg where
  live : FuncId → Nat → List (Nat × Mds)
  out : FuncId → Nat → Ex → List (Nat × Mds)
  join : FuncId → Nat → Option (List (Nat × Mds))
  res : FuncId → List Mds
  byref : FuncId → Bool
  isExt : FuncId → Bool

abbrev Rel := FuncId → List V → List Blk → V → List Blk → Prop

def callR (R : Rel) (g : FuncId) (args : List V) (blks : List Blk) (K : V → List Blk → Prop) : Prop :=
  ∃ r blks', R g args blks r blks' ∧ K r blks'

abbrev Cont := V → Hp → Cls → Prop

def setAt (hp : Hp) : List Nat → List Blk → Hp
  | id :: l, k :: ks => setAt (upd hp id (some k)) l ks
  | _, _ => hp

/-- The numbers that the caller gives to what a call hands back. -/
def back (order : List Nat) (e n b j : Nat) : Option Nat := if j < e then order[j]? else if j < n then some (b + (j - e)) else none

/-- The caller's blocks behind a call. -/
def callHp (hp1 : Hp) (order : List Nat) (e b : Nat) (blks : List Blk) : Hp :=
  inst (setAt (kill hp1 order) (order.take e) ((blks.map (renB (back order e blks.length b))).take e)) b ((blks.map (renB (back order e blks.length b))).drop e)

/-- A call that is handed no block to write to. -/
def wePure (R : Rel) (g : FuncId) (args : List V) (lent : List Nat) (hp : Hp) (b : Nat) (K : Cont) : Prop :=
  callR R g args [] fun r blks =>
    blks.length ≤ 16 ∧ idsOK args [] = true ∧
    if (lent.isEmpty || (noIm r && blks.all noImB)) = true then K (ren2 (back [] 0 blks.length b) r) (callHp hp [] 0 b blks) .M
    else K (ren2 (back [] 0 blks.length b) r) (callHp (freeze hp lent) [] 0 b blks) .E

/-- A call that may write to blocks. -/
def weRef (R : Rel) (g : FuncId) (args : List V) (lent direct order : List Nat) (hp : Hp) (b : Nat) (K : Cont) : Prop :=
  (order.all fun id => !lent.contains id) = true ∧ order.take direct.length = direct ∧ idsOK (args.map (ren1 (idx order))) (blksOf hp order) = true ∧
  callR R g (args.map (ren1 (idx order))) (blksOf hp order) fun r blks =>
    direct.length ≤ blks.length ∧ blks.length - direct.length ≤ 16 ∧
    K (ren2 (back order direct.length blks.length b) r)
      (callHp (if (lent.isEmpty || (noIm r && blks.all noImB)) = true then hp else freeze hp lent) order direct.length b blks) .E

def notTup : V → Bool
  | .tup _ => false
  | _ => true

def weInv (R : Rel) (cf : Cfg) (g : FuncId) (args : List V) (hp : Hp) (b : Nat) (K : Cont) : Prop :=
  match (if cf.byref g then (if args.all notTup then some args else none) else lendA hp args) with
  | none => False
  | some args' =>
    match close hp 64 (args'.flatMap refs1) [] with
    | none => False
    | some [] => wePure R g args' (if cf.byref g then [] else args.flatMap arIds1) hp b K
    | some order => weRef R g args' (if cf.byref g then [] else args.flatMap arIds1) (args'.flatMap refs1).eraseDups order hp b K

def closeCell (hp : Hp) : V → Option (V × List Nat × Bool)
  | .v x => some (.v x, [], true)
  | .em => some (.em, [], false)
  | .im rows => some (.im rows, [], false)
  | .ar id lo n =>
    match hp id with
    | some k =>
      match k.kind with
      | .arr => some (.im ((k.rows.take (lo + n)).drop lo), [id], k.deep)
      | .frz => some (.im ((k.rows.take (lo + n)).drop lo), [], false)
      | .box => none
    | none => none
  | _ => none

def closeCells (hp : Hp) : List V → Option (List V × List Nat × Bool)
  | [] => some ([], [], true)
  | x :: l =>
    match closeCell hp x, closeCells hp l with
    | some (y, a, d), some (ys, as, ds) => some (y :: ys, a ++ as, d && ds)
    | _, _ => none

def closeParts (hp : Hp) (ρ : Operand → V) (size : Nat) : Nat → List (Nat × Operand) → Option (List (List V) × List Nat × Bool)
  | _, [] => some ([], [], true)
  | n, (k, x) :: l =>
    if k = n ∧ (flat (ρ x)).length = size then
      match closeCells hp (flat (ρ x)), closeParts hp ρ size (n + 1) l with
      | some (row, a, d), some (rows, as, ds) => some (row :: rows, a ++ as, d && ds)
      | _, _ => none
    else none

def scalarRows (rows : List (List V)) : Bool := rows.all fun r => r.all scalarV

def isVB : V → Bool
  | .v _ => true
  | _ => false

def nodupB : List Nat → Bool
  | [] => true
  | x :: l => !l.contains x && nodupB l

def weStore (P : Program) (t : TypeId) (a x : V) (hp : Hp) (K : Cont) : Prop :=
  match tyOf P t, a with
  | some d, .rf id r c =>
    match hp id with
    | some k =>
      match k.rows[r]? with
      | some row =>
        if (flat x).length = d.size then
          match k.kind with
          | .box =>
            if (flat x).all okCell then
              match putSeg row c (flat x) with
              | some row' => K .any (upd hp id (some { k with rows := k.rows.set r row' })) .E
              | none => False
            else False
          | .arr =>
            match closeCells hp (flat x) with
            | some (cs, kills, deep) =>
              if nodupB (id :: kills) then
                match putSeg row c cs with
                | some row' => K .any (upd (kill hp kills) id (some { k with rows := k.rows.set r row', deep := k.deep && deep })) .E
                | none => False
              else False
            | none => False
          | .frz => False
        else False
      | none => False
    | none => False
  | _, _ => False

def weBuildSlice (P : Program) (t : TypeId) (len : Nat) (parts : List (Nat × Operand)) (ρ : Operand → V) (hp : Hp) (b : Nat) (K : Cont) : Prop :=
  caseO ((tyOf P t).bind (·.elem)) fun e => caseO (tyOf P e) fun d =>
    match len with
    | 0 => parts = [] ∧ K .em hp .M
    | len + 1 =>
      caseO (closeParts hp ρ d.size 0 parts) fun z =>
        z.1.length = len + 1 ∧ (len + 1) * d.size ≤ 2 ^ 24 ∧ nodupB z.2.1 = true ∧
        K (.ar b 0 (len + 1)) (upd (kill hp z.2.1) b (some (arrOf e d.size z.2.2 z.1))) (match z.2.1 with | [] => .M | _ => .E)

/-- The rows that are appended, what is used up, and whether nothing borrowed is in them. -/
def srcRows (d : TyD) (x : V) (hp : Hp) (K : List (List V) → List Nat → Bool → Prop) : Prop :=
  match x with
  | .em => K [] [] (d.zero.all isVB)
  | .im rows => K rows [] (d.zero.all isVB && scalarRows rows)
  | .ar id lo n =>
    match hp id with
    | some k =>
      match k.kind with
      | .box => False
      | .frz => K ((k.rows.take (lo + n)).drop lo) [] (d.zero.all isVB && scalarRows ((k.rows.take (lo + n)).drop lo))
      | .arr =>
        if d.zero.all isVB then scalarRows ((k.rows.take (lo + n)).drop lo) = true ∧ K ((k.rows.take (lo + n)).drop lo) [] true
        else K ((k.rows.take (lo + n)).drop lo) [id] k.deep
    | none => False
  | _ => False

def weAppend (P : Program) (ts : List TypeId) (s x : V) (hp : Hp) (b : Nat) (K : Cont) : Prop :=
  match ts with
  | [t, t'] =>
    caseO ((tyOf P t).bind (·.elem)) fun e => caseO (tyOf P e) fun d =>
      t' = t ∧
      srcRows d x hp fun rows kills deep =>
        match s with
        | .em =>
          rows.length * d.bytes ≤ maxBytes ∧ rows.length * d.size ≤ maxBytes ∧ (∀ r ∈ rows, r.length = d.size) ∧ nodupB kills = true ∧
          K (.ar b 0 rows.length) (upd (kill hp kills) b (some (arrOf e d.size deep rows))) (match kills with | [] => .M | _ => .E)
        | .ar id lo n =>
          caseO (hp id) fun k =>
            k.kind = .arr ∧ lo = 0 ∧ k.ty = e ∧ k.size = d.size ∧ nodupB (id :: kills) = true ∧
            (n + rows.length) * d.bytes ≤ maxBytes ∧ (n + rows.length) * d.size ≤ maxBytes ∧ (∀ r ∈ rows, r.length = d.size) ∧
            K (.ar b 0 (n + rows.length)) (upd (kill hp (id :: kills)) b (some (arrOf e d.size (k.deep && deep) (k.rows.take n ++ rows)))) .E
        | _ => False
  | _ => False

/-- 's[l:h]' of a slice. -/
def weSlice (P : Program) (t : TypeId) (s : V) (lo hi : Option Operand) (ρ : Operand → V) (hp : Hp) (K : Cont) : Prop :=
  caseO ((tyOf P t).bind (·.elem)) fun e => caseO (tyOf P e) fun d =>
  match s with
  | .em => caseO (bnd ρ lo 0) fun l => caseO (bnd ρ hi 0) fun h => l = 0 ∧ h = 0 ∧ K .em hp .M
  | .im rows =>
    caseO (bnd ρ lo 0) fun l => caseO (bnd ρ hi rows.length) fun h =>
      l ≤ h ∧ h ≤ rows.length ∧ (∀ r ∈ rows, r.length = d.size) ∧ K (.im ((rows.take h).drop l)) hp .M
  | .ar id l0 n =>
    caseO (bnd ρ lo 0) fun l => caseO (bnd ρ hi n) fun h => caseO (hp id) fun k =>
      l ≤ h ∧ h ≤ n ∧ k.size = d.size ∧ K (.ar id (l0 + l) (h - l)) hp .M
  | _ => False

/-- One operation. -/
def weOp (P : Program) (R : Rel) (cf : Cfg) (op : Op) (b : Nat) (ρ : Operand → V) (hp : Hp) (K : Cont) : Prop :=
  match op with
  | .store t a x => weStore P t (ρ a) (ρ x) hp K
  | .buildSlice t len parts => weBuildSlice P t len parts.toList ρ hp b K
  | .slice t x lo hi none => if isStr P t then caseO (nevT P (.slice t x lo hi none) ρ) fun z => K z hp .M else weSlice P t (ρ x) lo hi ρ hp K
  | .call { callee := .builtin .append, args, argTypes } =>
    match args.toList with
    | [s, x] => weAppend P argTypes.toList (ρ s) (ρ x) hp b K
    | _ => False
  | .call { callee := .value f, args, .. } =>
    match ρ f with
    | .cl g caps => weInv R cf g (args.toList.map ρ ++ caps) hp b K
    | _ => False
  | op =>
    match nevT P op ρ with
    | some x => K x hp .T
    | none =>
      caseO (nevM P op ρ hp b) fun z => z.2.length ≤ 16 ∧ K z.1 (inst hp b z.2) .M

/-- For each operation those that come ahead of it in each order, as a number's bits. -/
def anc : List Oper → List Nat → List Nat
  | [], acc => acc
  | o :: l, acc => anc l (acc ++ [o.after.toList.foldr (fun e s => if Region.binds .any e then s ||| 2 ^ e.on ||| acc.getD e.on 0 else s) 0])

/-- Does j come ahead of i in each order? -/
def befB (ops : List Oper) (i j : Nat) : Bool := ((anc ops []).getD i 0).testBit j

/-- Are the two ordered by the edges? -/
def aheadB (ops : List Oper) (i j : Nat) : Bool := befB ops i j || befB ops j i

/-- An operation that writes: each other one that looks at memory is ordered with it. -/
def eOK (ops : List Oper) (i : Nat) : Bool :=
  (List.range ops.length).all fun j => j == i || (match ops[j]? with | some o => isT o.op | none => true) || aheadB ops i j

/-- An operation of a region that draws its order: one that writes must be ordered. -/
def drawn (draw ok : Bool) (cls : Cls) (A : Prop) : Prop :=
  match draw, cls with
  | true, .E => ok = true ∧ A
  | _, _ => A

/-- Operations that look at blocks and write none. -/
def isR : Op → Bool
  | .load .. | .indexAddr .. | .convert .. | .slice .. => true
  | _ => false

/-- The blocks with numbers below b. -/
def mask (b : Nat) (hp : Hp) : Hp := fun id => if id < b then hp id else none

/-- An operation where it stands: in a region that draws its order one that only looks at blocks sees those below its own numbers. -/
def opAt (P : Program) (R : Rel) (cf : Cfg) (draw : Bool) (op : Op) (b : Nat) (ρ : Operand → V) (hp : Hp) (K : Cont) : Prop :=
  match draw && isR op with
  | true => weOp P R cf op b ρ (mask b hp) fun x _ cls => K x hp cls
  | false => weOp P R cf op b ρ hp K

/-- Is a guarded operation done? One that hangs on an operation that was passed by isn't. -/
def guardC : V → Bool → Option Bool
  | .v (.bool t), want => some (t == want)
  | .tup [], _ => some false
  | _, _ => none

def weOps (P : Program) (R : Rel) (cf : Cfg) (all : List Oper) (draw : Bool) : List Oper → Nat → St → (St → Prop) → Prop
  | [], _, st, K => K st
  | o :: l, i, st, K =>
    match o.guard with
    | none =>
      opAt P R cf draw o.op (16 * (st.c + i)) (opnd st.tm) st.hp fun x hp cls =>
        drawn draw (eOK all i) cls (weOps P R cf all draw l (i + 1) { tm := put st.tm o.dst x, hp := hp, c := st.c } K)
    | some (j, want) =>
      caseO (((all[j]?).bind (·.dst)).map st.tm) fun y => caseO (guardC y want) fun w =>
        if w = true then
          opAt P R cf draw o.op (16 * (st.c + i)) (opnd st.tm) st.hp fun x hp cls =>
            drawn draw (eOK all i) cls (weOps P R cf all draw l (i + 1) { tm := put st.tm o.dst x, hp := hp, c := st.c } K)
        else weOps P R cf all draw l (i + 1) { tm := put st.tm o.dst (.tup []), hp := st.hp, c := st.c } K

abbrev Post := Ex → St → Prop

def iter (F : St → Post → Prop) (e : Nat) (keep : List (Nat × Mds)) (out : Ex → List (Nat × Mds)) : Nat → St → Post → Prop
  | 0, _, _ => False
  | n + 1, st, Q => canon e keep st fun st => F st fun ex s => match ex with | .normal => iter F e keep out n s Q | ex => canon e (out ex) s (Q ex)

def we (P : Program) (R : Rel) (cf : Cfg) (g : FuncId) (e : Nat) : Code → St → Post → Prop
  | .skip, st, Q => Q .normal st
  | .region _ ops draw, st, Q => weOps P R cf ops.toList draw ops.toList 0 st fun s => Q .normal { s with c := s.c + ops.size }
  | .seq a b, st, Q => we P R cf g e a st fun ex s => match ex with | .normal => meet e (cf.join g (rid b)) s fun s => we P R cf g e b s Q | ex => Q ex s
  | .cond c x y, st, Q => caseB (opnd st.tm c) fun b => if b = true then we P R cf g e x st Q else we P R cf g e y st Q
  | .block id c, st, Q => we P R cf g e c st fun ex s => match ex with | .exit j => if j = id then Q .normal s else Q (.exit j) s | ex => Q ex s
  | .loop c, st, Q => ∃ n, iter (we P R cf g e c) e (cf.live g (rid c)) (cf.out g (rid c)) n st Q
  | .exit id, st, Q => Q (.exit id) st
  | .ret, st, Q => Q .ret st
  | _, _, _ => False

def resV (P : Program) (st : St) (r : ResultVar) (K : V → Prop) : Prop :=
  match r with
  | .tmp t => K (st.tm t)
  | .cell a t => match nevM P (.load t (.tmp a)) (opnd st.tm) st.hp 0 with | some (x, _) => K x | none => False

def resVs (P : Program) (st : St) : List ResultVar → (List V → Prop) → Prop
  | [], K => K []
  | r :: l, K => resV P st r fun x => resVs P st l fun xs => K (x :: xs)

def out1 (hp : Hp) (e : Nat) (x : V) (r : V) (blks : List Blk) : Prop :=
  match close hp 64 (List.range e ++ refs2 x) [] with
  | some order => order.take e = List.range e ∧ r = ren2 (idx order) x ∧ blks = blksOf hp order
  | none => False

def normR : List Mds → List V → Hp → Nat → Option (List V × Hp × Nat)
  | [], [], hp, c => some ([], hp, c)
  | m :: ms, x :: xs, hp, c =>
    match normV m x hp (16 * c) with
    | some (y, hp1, n) =>
      if n ≤ 16 then
        match normR ms xs hp1 (c + 1) with
        | some (ys, hp2, c2) => some (y :: ys, hp2, c2)
        | none => none
      else none
    | none => none
  | _, _, _, _ => none

def outL (hp : Hp) (e : Nat) (r : V) (blks : List Blk) (xs : List V) : Prop :=
  match xs with
  | [x] => out1 hp e x r blks
  | xs => xs.all notTup = true ∧ out1 hp e (.tup xs) r blks

def outs (P : Program) (rs : List ResultVar) (ms : List Mds) (e : Nat) (r : V) (blks : List Blk) : Post := fun ex st =>
  match ex with
  | .exit _ => False
  | _ => resVs P st rs fun xs => caseO (normR ms xs st.hp (st.c + 1)) fun z => outL z.2.1 e r blks z.1

def entry (args : List V) (blks : List Blk) : St := { tm := lk .any (enum 0 args), hp := lkB blks, c := 1 }

/-- No slot beyond the frame is written. -/
def dstsOK (nt : Nat) : Code → Bool
  | .region _ ops _ => ops.toList.all fun o => match o.dst with | some d => d < nt | none => true
  | .seq a b => dstsOK nt a && dstsOK nt b
  | .cond _ a b => dstsOK nt a && dstsOK nt b
  | .block _ a | .loop a | .scope a => dstsOK nt a
  | .rangeFunc .. => false
  | _ => true

def names (ops : List Oper) (o : Oper) : List Tmp :=
  (o.op.operands.toList.filterMap fun | .tmp t => some t | _ => none) ++ (match o.guard with | some (j, _) => ((ops[j]?).bind (·.dst)).toList | none => [])

/-- In a region that draws its order: two operations that the edges leave free write no slot that the other one knows. -/
def freeOK (ops : List Oper) : Bool :=
  (List.range ops.length).all fun i => (List.range i).all fun j =>
    aheadB ops i j ||
    match ops[i]?, ops[j]? with
    | some a, some b => (a.dst.toList.all fun d => !(names ops b).contains d && b.dst != some d) && (b.dst.toList.all fun d => !(names ops a).contains d && a.dst != some d)
    | _, _ => false

/-- Operations that may write or lay blocks are ordered, each with each. -/
def chainOK (ops : List Oper) : Bool :=
  (List.range ops.length).all fun i => (List.range i).all fun j =>
    aheadB ops i j ||
    match ops[i]?, ops[j]? with
    | some a, some b => isT a.op || isR a.op || isT b.op || isR b.op
    | _, _ => false

/-- Each operation's edges lead back. -/
def backOK (ops : List Oper) : Bool :=
  (List.range ops.length).all fun i => match ops[i]? with
    | some o => (o.after.all fun e => e.on < i && Region.binds .any e) && (match o.guard with | some (j, _) => j < i && aheadB ops i j | none => true)
    | none => true

def drawsOK : Code → Bool
  | .region _ ops true => freeOK ops.toList && backOK ops.toList && chainOK ops.toList
  | .seq a b => drawsOK a && drawsOK b
  | .cond _ a b => drawsOK a && drawsOK b
  | .block _ a | .loop a | .scope a => drawsOK a
  | _ => true

def okEnter (fn : Func) : Bool := !(fn.name == "runtime.NumGoroutine")

def bodyOK (fn : Func) (c : Code) (n : Nat) : Bool := okEnter fn && dstsOK fn.ntmps c && drawsOK c && decide (n ≤ fn.ntmps)

def runsN (P : Program) (cf : Cfg) (ext : Rel) : Nat → Rel
  | 0 => ext
  | k + 1 => fun g args blks r blks' =>
    ext g args blks r blks' ∨
    cf.isExt g = false ∧ ∃ fn c, P.funcs[g]? = some fn ∧ fn.body = some c ∧ bodyOK fn c args.length = true ∧ idsOK args blks = true ∧
      we P (runsN P cf ext k) cf g (args.flatMap refs1).eraseDups.length c (entry args blks) (outs P fn.results.toList (cf.res g) (args.flatMap refs1).eraseDups.length r blks')

def Runs (P : Program) (cf : Cfg) (ext : Rel) : Rel := fun g args blks r blks' => ∃ k, runsN P cf ext k g args blks r blks'

end Go.Proofs.Ytcmihlhmeonmfaa.Ev
