/- What the evaluator's values stand for in memory, and that this lasts while the blocks that bear it last. -/
import Derived.Test.YtcmihlhmeonmfaaEv1
namespace Go.Proofs.Ytcmihlhmeonmfaa.Ev
open Go
set_option linter.unusedVariables false
set_option linter.unusedSimpArgs false

/-- A value that is only read stands in memory; each block that bears it is good. -/
inductive Rep (w : World) (G : Nat → Prop) : V → Value → Prop
  | v (x : Value) : scalarB x = true → Rep w G (.v x) x
  | em (a : Option Addr) : Rep w G .em (.slice a 0 0)
  | im0 (a : Option Addr) (cap : Nat) : Rep w G (.im []) (.slice a 0 cap)
  | im (b off cap size : Nat) (rows : List (List V)) (f : Nat → Nat → Value) : G b → 0 < size → rows.length ≤ cap → cap ≤ maxLen →
      (∀ (i : Nat) (row : List V), rows[i]? = some row → row.length = size) →
      (∀ (i j : Nat) (row : List V) (x : V), rows[i]? = some row → row[j]? = some x → w.cell? ⟨b, off + i * size + j, none⟩ = some (f i j)) →
      (∀ (i j : Nat) (row : List V) (x : V), rows[i]? = some row → row[j]? = some x → Rep w G x (f i j)) → Rep w G (.im rows) (.slice (some ⟨b, off, none⟩) rows.length cap)

/-- The blocks of S are in w' as they were in w. -/
def Same (S : Nat → Prop) (w w' : World) : Prop := ∀ b, S b → w'.heap[b]? = w.heap[b]?

theorem cell_same {w w' : World} {b o : Nat} (h : w'.heap[b]? = w.heap[b]?) : w'.cell? ⟨b, o, none⟩ = w.cell? ⟨b, o, none⟩ := by
  simp [World.cell?, h]

theorem Rep.same {w w' : World} {G G' : Nat → Prop} {x : V} {y : Value} (h : Rep w G x y) (hs : Same G w w') (hg : ∀ b, G b → G' b) : Rep w' G' x y := by
  induction h with
  | v x h => exact .v x h
  | em a => exact .em a
  | im0 a cap => exact .im0 a cap
  | im b off cap size rows f hb h0 hr hc hl hcell _ ih =>
    exact .im b off cap size rows f (hg b hb) h0 hr hc hl (fun i j row x h1 h2 => by rw [cell_same (hs b hb)]; exact hcell i j row x h1 h2) (fun i j row x h1 h2 => ih i j row x h1 h2)

theorem Rep.mono {w : World} {G G' : Nat → Prop} {x : V} {y : Value} (h : Rep w G x y) (hg : ∀ b, G b → G' b) : Rep w G' x y := h.same (fun _ _ => rfl) hg

theorem Rep.one {w : World} {G : Nat → Prop} {x : V} {y : Value} (h : Rep w G x y) : y.oneCell' = true := by
  cases h with
  | v x h => cases y <;> simp_all [scalarB, Value.oneCell']
  | _ => rfl

/-- Where each block of the evaluator lies, and which blocks are its alone besides. -/
structure Env where
  m : Nat → Option Nat
  N : Nat → Nat → Prop

section
variable (w : World) (E : Env) (hp : Hp) (G : Nat → Prop)

/-- A value of one cell. -/
def VR0 : V → Value → Prop
  | .any, _ => True
  | .ar id lo n, y => ∃ a cap, y = .slice a n cap ∧ ∀ k, hp id = some k → k.kind ≠ .box ∧ lo + n ≤ k.rows.length ∧
      ((n = 0 ∧ cap = 0) ∨
       ∃ b cur ty fz, E.m id = some b ∧ a = some ⟨b, lo * k.size, none⟩ ∧ n ≤ cap ∧ w.heap[b]? = some (.cells cur ty fz) ∧ cur.size = (lo + cap) * k.size)
  | .rf id r c, y => ∃ b o, y = .pointer (some ⟨b, o, none⟩) ∧ ∀ k, hp id = some k → E.m id = some b ∧ o = r * k.size + c
  | .ir row c, y => ∃ (b off : Nat) (f : Nat → Value), G b ∧ y = .pointer (some ⟨b, off + c, none⟩) ∧
      ∀ (j : Nat) (x : V), row[j]? = some x → w.cell? ⟨b, off + j, none⟩ = some (f j) ∧ Rep w G x (f j)
  | .cl f [], y => y = .func (.func f) #[] #[]
  | .cl _ (_ :: _), _ => False
  | .agg _, _ => False
  | .tup _, _ => False
  | .v x, y => Rep w G (.v x) y
  | .em, y => Rep w G .em y
  | .im rows, y => Rep w G (.im rows) y

/-- Values, cell by cell. -/
def VL (R : V → Value → Prop) : List V → List Value → Prop
  | [], [] => True
  | x :: xs, y :: ys => R x y ∧ VL R xs ys
  | _, _ => False

def VR1 : V → Value → Prop
  | .agg cs, y => ∃ us, y = .agg us ∧ VL (VR0 w E hp G) cs us.toList
  | .cl f caps, y => ∃ us, y = .func (.func f) #[] us ∧ VL (VR0 w E hp G) caps us.toList
  | x, y => VR0 w E hp G x y

def VR2 : V → Value → Prop
  | .tup vs, y => ∃ us, y = .tuple us ∧ VL (VR1 w E hp G) vs us.toList
  | x, y => VR1 w E hp G x y
end

theorem VL.length {R : V → Value → Prop} : ∀ {xs : List V} {ys : List Value}, VL R xs ys → ys.length = xs.length
  | [], [], _ => rfl
  | _ :: xs, _ :: ys, h => by simp [VL.length (xs := xs) (ys := ys) h.2]
  | [], _ :: _, h => h.elim
  | _ :: _, [], h => h.elim

theorem VL.mono {R R' : V → Value → Prop} : ∀ {xs : List V} {ys : List Value}, VL R xs ys → (∀ x ∈ xs, ∀ y, R x y → R' x y) → VL R' xs ys
  | [], [], _, _ => trivial
  | x :: xs, y :: ys, h, hm => ⟨hm x (by simp) y h.1, VL.mono h.2 fun x hx => hm x (by simp [hx])⟩
  | [], _ :: _, h, _ => h.elim
  | _ :: _, [], h, _ => h.elim

theorem VL.get {R : V → Value → Prop} : ∀ {xs : List V} {ys : List Value}, VL R xs ys → ∀ (j : Nat) (x : V), xs[j]? = some x → ∃ y, ys[j]? = some y ∧ R x y
  | [], [], _, j, x, h => by simp at h
  | a :: xs, b :: ys, h, 0, x, hx => by simp at hx; subst hx; exact ⟨b, by simp, h.1⟩
  | a :: xs, b :: ys, h, j + 1, x, hx => by simpa using VL.get h.2 j x (by simpa using hx)
  | [], _ :: _, h, _, _, _ => h.elim
  | _ :: _, [], h, _, _, _ => h.elim

theorem VL.of_get {R : V → Value → Prop} : ∀ {xs : List V} {ys : List Value}, ys.length = xs.length → (∀ (j : Nat) (x : V) (y : Value), xs[j]? = some x → ys[j]? = some y → R x y) → VL R xs ys
  | [], [], _, _ => trivial
  | a :: xs, b :: ys, hl, h => ⟨h 0 a b (by simp) (by simp), VL.of_get (by simpa using hl) fun j x y h1 h2 => h (j + 1) x y (by simpa using h1) (by simpa using h2)⟩
  | [], _ :: _, hl, _ => by simp at hl
  | _ :: _, [], hl, _ => by simp at hl

theorem VL.append {R : V → Value → Prop} : ∀ {xs xs' : List V} {ys ys' : List Value}, VL R xs ys → VL R xs' ys' → VL R (xs ++ xs') (ys ++ ys')
  | [], _, [], _, _, h => h
  | _ :: xs, _, _ :: ys, _, h, h' => ⟨h.1, VL.append h.2 h'⟩
  | [], _, _ :: _, _, h, _ => h.elim
  | _ :: _, _, [], _, h, _ => h.elim

theorem VL.take {R : V → Value → Prop} : ∀ {xs : List V} {ys : List Value} (n : Nat), VL R xs ys → VL R (xs.take n) (ys.take n)
  | [], [], n, _ => by simp [VL]
  | a :: xs, b :: ys, 0, _ => by simp [VL]
  | a :: xs, b :: ys, n + 1, h => ⟨h.1, VL.take n h.2⟩
  | [], _ :: _, _, h => h.elim
  | _ :: _, [], _, h => h.elim

theorem VL.drop {R : V → Value → Prop} : ∀ {xs : List V} {ys : List Value} (n : Nat), VL R xs ys → VL R (xs.drop n) (ys.drop n)
  | [], [], n, _ => by simp [VL]
  | a :: xs, b :: ys, 0, h => h
  | a :: xs, b :: ys, n + 1, h => by simpa using VL.drop n h.2
  | [], _ :: _, _, h => h.elim
  | _ :: _, [], _, h => h.elim

/-- Is a block used by one alone? -/
def liveB (k : Blk) : Bool := match k.kind with | .frz => false | _ => true

section
variable (E : Env) (hp : Hp)
/-- The blocks of memory that one block of the evaluator has to itself. -/
def OwnBy (id b : Nat) : Prop := E.m id = some b ∨ E.N id b
def Own (b : Nat) : Prop := ∃ id k, hp id = some k ∧ liveB k = true ∧ OwnBy E id b
end

/-- A block of the evaluator in memory. -/
def BlkRel (w : World) (E : Env) (hp : Hp) (G : Nat → Prop) (id : Nat) (k : Blk) : Prop :=
  match k.kind with
  | .box => ∃ b row cur, E.m id = some b ∧ w.heap[b]? = some (.cells cur k.ty (0, 0)) ∧ k.rows = [row] ∧ k.size = row.length ∧ 0 < k.size ∧
      VL (fun x y => VR0 w E hp G x y ∧ y.oneCell' = true) row cur.toList
  | .arr => (k.rows = [] ∧ E.m id = none) ∨
      ∃ b cur cap, E.m id = some b ∧ w.heap[b]? = some (.cells cur k.ty (0, 0)) ∧ 0 < k.size ∧ cur.size = cap * k.size ∧ cap ≤ maxLen ∧ k.rows.length ≤ cap ∧
        (∀ (i : Nat) (row : List V), k.rows[i]? = some row → row.length = k.size) ∧
        ∀ (i j : Nat) (row : List V) (x : V), k.rows[i]? = some row → row[j]? = some x → ∃ u, cur[i * k.size + j]? = some u ∧ Rep w (if k.deep then E.N id else G) x u
  | .frz => (k.rows = [] ∧ E.m id = none) ∨
      ∃ b cur cap fz, E.m id = some b ∧ G b ∧ w.heap[b]? = some (.cells cur k.ty fz) ∧ 0 < k.size ∧ cur.size = cap * k.size ∧ cap ≤ maxLen ∧ k.rows.length ≤ cap ∧
        (∀ (i : Nat) (row : List V), k.rows[i]? = some row → row.length = k.size) ∧
        ∀ (i j : Nat) (row : List V) (x : V), k.rows[i]? = some row → row[j]? = some x → ∃ u, cur[i * k.size + j]? = some u ∧ Rep w G x u

/-- The world besides the blocks of U is as it was; no row of cells turns its length. -/
structure Fr (U : Nat → Prop) (w w' : World) : Prop where
  os : w'.os = w.os
  tape : w'.tape = w.tape
  output : w'.output = w.output
  size : w.heap.size ≤ w'.heap.size
  block : ∀ b, b < w.heap.size → ¬ U b → w'.heap[b]? = w.heap[b]?
  shape : ∀ (b : Nat) (cur : Array Value) (ty : TypeId) (fz : Nat × Nat), w.heap[b]? = some (.cells cur ty fz) → ∃ cur' fz', w'.heap[b]? = some (.cells cur' ty fz') ∧ cur'.size = cur.size

theorem Fr.refl (U : Nat → Prop) (w : World) : Fr U w w := ⟨rfl, rfl, rfl, Nat.le_refl _, fun _ _ _ => rfl, fun _ cur _ fz h => ⟨cur, fz, h, rfl⟩⟩

theorem Fr.mk' {U : Nat → Prop} {w w' : World} (os : w'.os = w.os) (tape : w'.tape = w.tape) (output : w'.output = w.output) (size : w.heap.size ≤ w'.heap.size)
    (block : ∀ b, b < w.heap.size → ¬ U b → w'.heap[b]? = w.heap[b]?)
    (shape : ∀ (b : Nat) (cur : Array Value) (ty : TypeId) (fz : Nat × Nat), U b → w.heap[b]? = some (.cells cur ty fz) → ∃ cur' fz', w'.heap[b]? = some (.cells cur' ty fz') ∧ cur'.size = cur.size) : Fr U w w' :=
  ⟨os, tape, output, size, block, fun b cur ty fz h => by
    by_cases hu : U b
    · exact shape b cur ty fz hu h
    · exact ⟨cur, fz, by rw [block b (Array.getElem?_eq_some_iff.1 h).1 hu]; exact h, rfl⟩⟩

/-- From a world on, with blocks that may be written or are new. -/
theorem Fr.then {U U' : Nat → Prop} {a b c : World} (h : Fr U a b) (k : Fr U' b c) (hu : ∀ i, U' i → U i ∨ a.heap.size ≤ i) : Fr U a c :=
  ⟨k.os.trans h.os, k.tape.trans h.tape, k.output.trans h.output, Nat.le_trans h.size k.size, fun i hi hn => (k.block i (Nat.lt_of_lt_of_le hi h.size) (fun hU => (hu i hU).elim hn (by omega))).trans (h.block i hi hn), fun b cur ty fz hb => by
    obtain ⟨c1, f1, h1, s1⟩ := h.shape b cur ty fz hb
    obtain ⟨c2, f2, h2, s2⟩ := k.shape b c1 ty f1 h1
    exact ⟨c2, f2, h2, s2.trans s1⟩⟩

theorem Fr.trans {U : Nat → Prop} {a b c : World} (h : Fr U a b) (k : Fr U b c) : Fr U a c := h.then k fun _ h => .inl h

/-- The evaluator's blocks in memory: w0: the world at the call; U: the blocks that the call may write; A: those that it may read. -/
structure HpInv (w0 : World) (U A : Nat → Prop) (E : Env) (G : Nat → Prop) (hp : Hp) (w : World) : Prop where
  fr : Fr U w0 w
  g1 : ∀ b, G b → b < w.heap.size ∧ (A b ∨ U b ∨ w0.heap.size ≤ b)
  g2 : ∀ b, G b → ¬ Own E hp b
  o1 : ∀ b, Own E hp b → b < w.heap.size ∧ (U b ∨ w0.heap.size ≤ b)
  dis : ∀ id k id' k', hp id = some k → liveB k = true → hp id' = some k' → liveB k' = true → ∀ b, OwnBy E id b → OwnBy E id' b → id = id'
  self : ∀ id k b, hp id = some k → liveB k = true → E.m id = some b → ¬ E.N id b
  blk : ∀ id k, hp id = some k → BlkRel w E hp G id k

/-- The evaluator's blocks are numbered by B. -/
def HpWf (B : Nat → Prop) (hp : Hp) : Prop := ∀ id k, hp id = some k → B id ∧ ∀ j ∈ refsB k, B j

/-- What one step does: from a world to the next, every old value stands as it stood. -/
structure Ext (B : Nat → Prop) (E : Env) (G : Nat → Prop) (hp : Hp) (w : World) (E' : Env) (G' : Nat → Prop) (hp' : Hp) (w' : World) : Prop where
  v0 : ∀ x y, (∀ id ∈ refs0 x, B id) → VR0 w E hp G x y → VR0 w' E' hp' G' x y

theorem Ext.refl (B : Nat → Prop) (E : Env) (G : Nat → Prop) (hp : Hp) (w : World) : Ext B E G hp w E G hp w := ⟨fun _ _ _ h => h⟩

theorem Ext.trans {B B' : Nat → Prop} {E G hp w E' G' hp' w' E'' G'' hp'' w''} (h : Ext B E G hp w E' G' hp' w') (k : Ext B' E' G' hp' w' E'' G'' hp'' w'') (hb : ∀ i, B i → B' i) : Ext B E G hp w E'' G'' hp'' w'' :=
  ⟨fun x y hx h0 => k.v0 x y (fun id hi => hb id (hx id hi)) (h.v0 x y hx h0)⟩

theorem Ext.v1 {B E G hp w E' G' hp' w'} (h : Ext B E G hp w E' G' hp' w') (x : V) (y : Value) (hx : ∀ id ∈ refs1 x, B id) (h1 : VR1 w E hp G x y) : VR1 w' E' hp' G' x y := by
  cases x with
  | agg cs =>
    obtain ⟨us, rfl, hl⟩ := h1
    exact ⟨us, rfl, hl.mono fun x hm y => h.v0 x y fun id hi => hx id (by simp only [refs1, List.mem_flatMap]; exact ⟨x, hm, hi⟩)⟩
  | cl f caps =>
    obtain ⟨us, rfl, hl⟩ := h1
    exact ⟨us, rfl, hl.mono fun x hm y => h.v0 x y fun id hi => hx id (by simp only [refs1, List.mem_flatMap]; exact ⟨x, hm, hi⟩)⟩
  | v a => exact h.v0 (.v a) y hx h1
  | em  => exact h.v0 (.em) y hx h1
  | im a => exact h.v0 (.im a) y hx h1
  | ar a b c => exact h.v0 (.ar a b c) y hx h1
  | rf a b c => exact h.v0 (.rf a b c) y hx h1
  | ir a b => exact h.v0 (.ir a b) y hx h1
  | tup a => exact h.v0 (.tup a) y hx h1
  | any  => exact h.v0 (.any) y hx h1

theorem Ext.v2 {B E G hp w E' G' hp' w'} (h : Ext B E G hp w E' G' hp' w') (x : V) (y : Value) (hx : ∀ id ∈ refs2 x, B id) (h1 : VR2 w E hp G x y) : VR2 w' E' hp' G' x y := by
  cases x with
  | tup vs =>
    obtain ⟨us, rfl, hl⟩ := h1
    exact ⟨us, rfl, hl.mono fun x hm y => h.v1 x y fun id hi => hx id (by simp only [refs2, List.mem_flatMap]; exact ⟨x, hm, hi⟩)⟩
  | v a => exact h.v1 (.v a) y hx h1
  | em  => exact h.v1 (.em) y hx h1
  | im a => exact h.v1 (.im a) y hx h1
  | ar a b c => exact h.v1 (.ar a b c) y hx h1
  | rf a b c => exact h.v1 (.rf a b c) y hx h1
  | ir a b => exact h.v1 (.ir a b) y hx h1
  | agg a => exact h.v1 (.agg a) y hx h1
  | cl a b => exact h.v1 (.cl a b) y hx h1
  | any  => exact h.v1 (.any) y hx h1

end Go.Proofs.Ytcmihlhmeonmfaa.Ev
