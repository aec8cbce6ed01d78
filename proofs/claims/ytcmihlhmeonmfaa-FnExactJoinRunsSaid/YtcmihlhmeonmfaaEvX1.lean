/- The typed evaluator and the evaluator: what stands for what. -/
import Derived.Test.YtcmihlhmeonmfaaEvW
namespace Go.Proofs.Ytcmihlhmeonmfaa.Ev
open Go
set_option linter.unusedVariables false
set_option linter.unusedSimpArgs false

def RLx {α : Type} (R : α → List V → Prop) (l : List α) (rows : List (List V)) : Prop :=
  rows.length = l.length ∧ ∀ (i : Nat) (a : α) (r : List V), l[i]? = some a → rows[i]? = some r → R a r

section
variable {α : Type} {R : α → List V → Prop} {l m : List α} {rows rs : List (List V)}
theorem RLx.nil : RLx R ([] : List α) [] := ⟨rfl, fun i a r h => by simp at h⟩
theorem RLx.of_nil (h : RLx R ([] : List α) rows) : rows = [] := List.eq_nil_of_length_eq_zero h.1
theorem RLx.get (h : RLx R l rows) {i : Nat} {a : α} (hi : l[i]? = some a) : ∃ r, rows[i]? = some r ∧ R a r := by
  have hlt : i < rows.length := by rw [h.1]; exact (List.getElem?_eq_some_iff.1 hi).1
  exact ⟨rows[i], List.getElem?_eq_getElem hlt, h.2 i a _ hi (List.getElem?_eq_getElem hlt)⟩
theorem RLx.get' (h : RLx R l rows) {i : Nat} {r : List V} (hi : rows[i]? = some r) : ∃ a, l[i]? = some a ∧ R a r := by
  have hlt : i < l.length := by rw [← h.1]; exact (List.getElem?_eq_some_iff.1 hi).1
  exact ⟨l[i], List.getElem?_eq_getElem hlt, h.2 i _ r (List.getElem?_eq_getElem hlt) hi⟩
theorem RLx.mono {R' : α → List V → Prop} (h : RLx R l rows) (hm : ∀ a r, R a r → R' a r) : RLx R' l rows := ⟨h.1, fun i a r h1 h2 => hm a r (h.2 i a r h1 h2)⟩
theorem RLx.set (h : RLx R l rows) (k : Nat) {z : α} {r : List V} (hz : R z r) : RLx R (l.set k z) (rows.set k r) := by
  refine ⟨by simp [h.1], fun i a q h1 h2 => ?_⟩
  rw [List.getElem?_set] at h1 h2
  by_cases hk : k = i
  · subst hk
    rw [if_pos rfl] at h1 h2
    split at h1
    · split at h2
      · cases h1; cases h2; exact hz
      · cases h2
    · cases h1
  · rw [if_neg hk] at h1 h2
    exact h.2 i a q h1 h2
theorem RLx.append (h : RLx R l rows) (k : RLx R m rs) : RLx R (l ++ m) (rows ++ rs) := by
  refine ⟨by simp [h.1, k.1], fun i a q h1 h2 => ?_⟩
  rw [List.getElem?_append] at h1 h2
  rw [h.1] at h2
  split at h1
  · rename_i hi; rw [if_pos hi] at h2; exact h.2 i a q h1 h2
  · rename_i hi; rw [if_neg hi] at h2; exact k.2 _ a q h1 h2
theorem RLx.take (h : RLx R l rows) (n : Nat) : RLx R (l.take n) (rows.take n) := by
  refine ⟨by simp [h.1], fun i a q h1 h2 => ?_⟩
  rw [List.getElem?_take] at h1 h2
  split at h1
  · rename_i hi; rw [if_pos hi] at h2; exact h.2 i a q h1 h2
  · cases h1
theorem RLx.drop (h : RLx R l rows) (n : Nat) : RLx R (l.drop n) (rows.drop n) := by
  refine ⟨by simp [h.1], fun i a q h1 h2 => ?_⟩
  rw [List.getElem?_drop] at h1 h2
  exact h.2 _ a q h1 h2
theorem RLx.replicate {z : α} {r : List V} (h : R z r) (n : Nat) : RLx R (List.replicate n z) (List.replicate n r) := by
  refine ⟨by simp, fun i a q h1 h2 => ?_⟩
  rw [List.getElem?_replicate] at h1 h2
  split at h1
  · rename_i hi; rw [if_pos hi] at h2; cases h1; cases h2; exact h
  · cases h1
theorem RLx.cons {a : α} {r : List V} (h : R a r) (k : RLx R l rows) : RLx R (a :: l) (r :: rows) := by
  refine ⟨by simp [k.1], fun i a' q h1 h2 => ?_⟩
  cases i with
  | zero => simp at h1 h2; subst h1; subst h2; exact h
  | succ i => exact k.2 i a' q (by simpa using h1) (by simpa using h2)
end

def RE : (t : Ty) → t.den → List V → Prop
  | .int k, n, row => row = [.v (.int k n)]
  | .bool, b, row => row = [.v (.bool b)]
  | .str, s, row => row = [.v (.string ⟨s.toArray⟩)]
  | .pair a b, x, row => ∃ r1 r2, row = r1 ++ r2 ∧ RE a x.1 r1 ∧ RE b x.2 r2
  | .sl e, l, row => (l = [] ∧ row = [.em]) ∨ ∃ rows, row = [.im rows] ∧ RLx (RE e) l rows

theorem RE.len : ∀ {t : Ty} {a : t.den} {row : List V}, RE t a row → row.length = t.size
  | .int _, _, _, h => by simp only [RE] at h; subst h; rfl
  | .bool, _, _, h => by simp only [RE] at h; subst h; rfl
  | .str, _, _, h => by simp only [RE] at h; subst h; rfl
  | .pair a b, x, _, h => by
    obtain ⟨r1, r2, rfl, h1, h2⟩ := h
    simp [Ty.size, h1.len, h2.len]
  | .sl e, _, _, h => by
    rcases h with ⟨_, rfl⟩ | ⟨rows, rfl, _⟩ <;> rfl

def blen : TB → Option Nat
  | .box _ _ => none
  | .arr _ _ _ l => some l.length
  | .frz _ _ _ l => some l.length

def RV0 (hp : THp) : SV → V → Prop
  | .int k n, y => y = .v (.int k n)
  | .bool b, y => y = .v (.bool b)
  | .str s, y => y = .v (.string ⟨s.toArray⟩)
  | .sc x, y => y = .v x
  | .em, y => y = .em
  | .im t l, y => (l = [] ∧ y = .em) ∨ ∃ rows, y = .im rows ∧ RLx (RE t) l rows
  | .ow id, y => ∃ n, y = .ar id 0 n ∧ ∀ b, getB hp id = some b → blen b = some n
  | .ar id lo n, y => y = .ar id lo n
  | .rf id r c, y => y = .rf id r c
  | .ir t a c, y => ∃ row, y = .ir row c ∧ RE t a row
  | .cl f [], y => y = .cl f []
  | .any, _ => True
  | _, _ => False

/-- Cells, one by one. -/
def RC (R : SV → V → Prop) : List SV → List V → Prop
  | [], [] => True
  | x :: xs, y :: ys => R x y ∧ RC R xs ys
  | _, _ => False

def RV1 (hp : THp) : SV → V → Prop
  | .agg cs, y => ∃ us, y = .agg us ∧ RC (RV0 hp) cs us
  | .cl f caps, y => ∃ us, y = .cl f us ∧ RC (RV0 hp) caps us
  | x, y => RV0 hp x y

def RV2 (hp : THp) : SV → V → Prop
  | .tup vs, y => ∃ us, y = .tup us ∧ RC (RV1 hp) vs us
  | x, y => RV1 hp x y

section
variable {R R' : SV → V → Prop}
theorem RC.length : ∀ {xs : List SV} {ys : List V}, RC R xs ys → ys.length = xs.length
  | [], [], _ => rfl
  | _ :: xs, _ :: ys, h => by simp [RC.length (xs := xs) (ys := ys) h.2]
  | [], _ :: _, h => h.elim
  | _ :: _, [], h => h.elim
theorem RC.mono : ∀ {xs : List SV} {ys : List V}, RC R xs ys → (∀ x ∈ xs, ∀ y, R x y → R' x y) → RC R' xs ys
  | [], [], _, _ => trivial
  | x :: xs, y :: ys, h, hm => ⟨hm x (by simp) y h.1, RC.mono h.2 fun x hx => hm x (by simp [hx])⟩
  | [], _ :: _, h, _ => h.elim
  | _ :: _, [], h, _ => h.elim
theorem RC.append : ∀ {xs xs' : List SV} {ys ys' : List V}, RC R xs ys → RC R xs' ys' → RC R (xs ++ xs') (ys ++ ys')
  | [], _, [], _, _, h => h
  | _ :: xs, _, _ :: ys, _, h, h' => ⟨h.1, RC.append h.2 h'⟩
  | [], _, _ :: _, _, h, _ => h.elim
  | _ :: _, _, [], _, h, _ => h.elim
theorem RC.take : ∀ {xs : List SV} {ys : List V} (n : Nat), RC R xs ys → RC R (xs.take n) (ys.take n)
  | [], [], n, _ => by simp [RC]
  | a :: xs, b :: ys, 0, _ => by simp [RC]
  | a :: xs, b :: ys, n + 1, h => ⟨h.1, RC.take n h.2⟩
  | [], _ :: _, _, h => h.elim
  | _ :: _, [], _, h => h.elim
theorem RC.drop : ∀ {xs : List SV} {ys : List V} (n : Nat), RC R xs ys → RC R (xs.drop n) (ys.drop n)
  | [], [], n, _ => by simp [RC]
  | a :: xs, b :: ys, 0, h => h
  | a :: xs, b :: ys, n + 1, h => by simpa using RC.drop n h.2
  | [], _ :: _, _, h => h.elim
  | _ :: _, [], _, h => h.elim
theorem RC.get : ∀ {xs : List SV} {ys : List V}, RC R xs ys → ∀ {j : Nat} {x : SV}, xs[j]? = some x → ∃ y, ys[j]? = some y ∧ R x y
  | [], [], _, j, x, h => by simp at h
  | a :: xs, b :: ys, h, 0, x, hx => by simp at hx; subst hx; exact ⟨b, by simp, h.1⟩
  | a :: xs, b :: ys, h, j + 1, x, hx => by simpa using RC.get h.2 (by simpa using hx)
  | [], _ :: _, h, _, _, _ => h.elim
  | _ :: _, [], h, _, _, _ => h.elim
theorem RC.map {α : Type} {f : α → SV} {g : α → V} : ∀ {l : List α}, (∀ x ∈ l, R (f x) (g x)) → RC R (l.map f) (l.map g)
  | [], _ => trivial
  | x :: l, h => ⟨h x (by simp), RC.map fun y hy => h y (by simp [hy])⟩
end

theorem RC.seg {hp : THp} {cs l : List SV} {us : List V} {off n : Nat} (h : segT cs off n = some l) (hr : RC (RV0 hp) cs us) : ∃ vs, seg us off n = some vs ∧ RC (RV0 hp) l vs := by
  unfold segT at h
  split at h
  · rename_i hn
    cases h
    refine ⟨_, by unfold Ev.seg; rw [if_pos (by rw [hr.length]; exact hn)], (hr.drop off).take n⟩
  · cases h

theorem RC.put {hp : THp} {cs cs' new : List SV} {us vs : List V} {off : Nat} (h : putT cs off new = some cs') (hr : RC (RV0 hp) cs us) (hn : RC (RV0 hp) new vs) : ∃ us', putSeg us off vs = some us' ∧ RC (RV0 hp) cs' us' := by
  unfold putT at h
  split at h
  · rename_i hl
    cases h
    have h1 := hr.length
    have h2 := hn.length
    refine ⟨_, by unfold putSeg; rw [if_pos (by omega)], ?_⟩
    rw [h2]
    exact ((hr.take off).append hn).append (hr.drop _)
  · cases h

theorem RV0.to1 {hp : THp} : ∀ {x : SV} {y : V}, RV0 hp x y → RV1 hp x y
  | .cl f [], y, h => ⟨[], h, trivial⟩
  | .cl _ (_ :: _), _, h => h.elim
  | .agg _, _, h => h.elim
  | .tup _, _, h => h
  | .int .., _, h | .bool _, _, h | .str _, _, h | .sc _, _, h | .em, _, h | .im .., _, h | .ow _, _, h | .ar .., _, h | .rf .., _, h | .ir .., _, h | .any, _, h => h

theorem RV1.to2 {hp : THp} : ∀ {x : SV} {y : V}, RV1 hp x y → RV2 hp x y
  | .tup _, _, h => False.elim h
  | .cl .., _, h | .agg _, _, h | .int .., _, h | .bool _, _, h | .str _, _, h | .sc _, _, h | .em, _, h | .im .., _, h | .ow _, _, h | .ar .., _, h | .rf .., _, h | .ir .., _, h | .any, _, h => h

/-- Lengths of blocks are as they were. -/
def Keeps (hp hp' : THp) (id : Nat) : Prop := ∀ b', getB hp' id = some b' → ∃ b, getB hp id = some b ∧ blen b = blen b'

theorem Keeps.refl (hp : THp) (id : Nat) : Keeps hp hp id := fun b h => ⟨b, h, rfl⟩
theorem Keeps.trans {a b c : THp} {id : Nat} (h : Keeps a b id) (k : Keeps b c id) : Keeps a c id := fun x hx => by
  obtain ⟨y, hy, e⟩ := k x hx
  obtain ⟨z, hz, e'⟩ := h y hy
  exact ⟨z, hz, e'.trans e⟩

theorem RV0.keeps {hp hp' : THp} : ∀ {x : SV} {y : V}, RV0 hp x y → (∀ id ∈ ids0 x, Keeps hp hp' id) → RV0 hp' x y
  | .ow id, y, ⟨n, hy, h⟩, hk => ⟨n, hy, fun b hb => by
      obtain ⟨b0, h0, e⟩ := hk id (by simp [ids0]) b hb
      rw [← e]; exact h b0 h0⟩
  | .cl _ [], _, h, _ => h
  | .cl _ (_ :: _), _, h, _ => h.elim
  | .int .., _, h, _ | .bool _, _, h, _ | .str _, _, h, _ | .sc _, _, h, _ | .em, _, h, _ | .im .., _, h, _ | .ar .., _, h, _ | .rf .., _, h, _ | .ir .., _, h, _ | .any, _, h, _ => h
  | .agg _, _, h, _ => h.elim
  | .tup _, _, h, _ => h.elim

theorem RV1.keeps {hp hp' : THp} {x : SV} {y : V} (h : RV1 hp x y) (hk : ∀ id ∈ ids1 x, Keeps hp hp' id) : RV1 hp' x y := by
  have key : ∀ {cs : List SV} {us : List V}, (∀ id ∈ cs.flatMap ids0, Keeps hp hp' id) → RC (RV0 hp) cs us → RC (RV0 hp') cs us := fun hk h =>
    h.mono fun x hx y hxy => hxy.keeps fun id hid => hk id (List.mem_flatMap.2 ⟨x, hx, hid⟩)
  cases x with
  | agg cs => obtain ⟨us, rfl, h⟩ := h; exact ⟨us, rfl, key hk h⟩
  | cl f cs => obtain ⟨us, rfl, h⟩ := h; exact ⟨us, rfl, key hk h⟩
  | int k n => exact RV0.keeps (x := .int k n) h hk
  | bool b => exact RV0.keeps (x := .bool b) h hk
  | str s => exact RV0.keeps (x := .str s) h hk
  | sc v => exact RV0.keeps (x := .sc v) h hk
  | em => exact RV0.keeps (x := .em) h hk
  | im t l => exact RV0.keeps (x := .im t l) h hk
  | ow id => exact RV0.keeps (x := .ow id) h hk
  | ar a b c => exact RV0.keeps (x := .ar a b c) h hk
  | rf a b c => exact RV0.keeps (x := .rf a b c) h hk
  | ir a b c => exact RV0.keeps (x := .ir a b c) h hk
  | tup l => exact h.elim
  | any => trivial

theorem RV2.keeps {hp hp' : THp} {x : SV} {y : V} (h : RV2 hp x y) (hk : ∀ id ∈ ids2 x, Keeps hp hp' id) : RV2 hp' x y := by
  cases x with
  | tup vs => obtain ⟨us, rfl, h⟩ := h; exact ⟨us, rfl, h.mono fun x hx y hxy => hxy.keeps fun id hid => hk id (List.mem_flatMap.2 ⟨x, hx, hid⟩)⟩
  | agg cs => exact RV1.keeps (x := .agg cs) h hk
  | cl f cs => exact RV1.keeps (x := .cl f cs) h hk
  | int k n => exact RV1.keeps (x := .int k n) h hk
  | bool b => exact RV1.keeps (x := .bool b) h hk
  | str s => exact RV1.keeps (x := .str s) h hk
  | sc v => exact RV1.keeps (x := .sc v) h hk
  | em => exact RV1.keeps (x := .em) h hk
  | im t l => exact RV1.keeps (x := .im t l) h hk
  | ow id => exact RV1.keeps (x := .ow id) h hk
  | ar a b c => exact RV1.keeps (x := .ar a b c) h hk
  | rf a b c => exact RV1.keeps (x := .rf a b c) h hk
  | ir a b c => exact RV1.keeps (x := .ir a b c) h hk
  | any => trivial

/-- A block. -/
def RB (hp : THp) : TB → Blk → Prop
  | .box ty cs, k => k.kind = .box ∧ k.ty = ty ∧ ∃ row, k.rows = [row] ∧ k.size = row.length ∧ RC (RV0 hp) cs row
  | .arr ty deep t l, k => k.kind = .arr ∧ k.ty = ty ∧ k.deep = deep ∧ k.size = t.size ∧ RLx (RE t) l k.rows
  | .frz ty deep t l, k => k.kind = .frz ∧ k.ty = ty ∧ k.deep = deep ∧ k.size = t.size ∧ RLx (RE t) l k.rows

theorem RB.keeps {hp hp' : THp} : ∀ {b : TB} {k : Blk}, RB hp b k → (∀ id ∈ idsB b, Keeps hp hp' id) → RB hp' b k
  | .box ty cs, k, ⟨h1, h2, row, h3, h4, h5⟩, hk => ⟨h1, h2, row, h3, h4, h5.mono fun x hx y hxy => hxy.keeps fun id hid => hk id (List.mem_flatMap.2 ⟨x, hx, hid⟩)⟩
  | .arr .., _, h, _ => h
  | .frz .., _, h, _ => h

def RH (hp : THp) (h : Hp) : Prop := ∀ id b, getB hp id = some b → ∃ k, h id = some k ∧ RB hp b k

def RT (hp : THp) (tm : TTm) (m : Tm) : Prop := ∀ t, RV2 hp (getV tm t) (m t)

structure RS (st : TSt) (s : St) : Prop where
  tm : RT st.hp st.tm s.tm
  hp : RH st.hp s.hp
  c : s.c = st.c

theorem getB_cons (k : Nat) (x : Option TB) (l : THp) (i : Nat) : getB ((k, x) :: l) i = if i = k then x else getB l i := by
  simp only [getB]
  by_cases h : i = k
  · subst h; simp
  · rw [if_neg h]
    have : Nat.beq i k = false := by cases hb : Nat.beq i k with | false => rfl | true => exact absurd (Nat.eq_of_beq_eq_true hb) h
    rw [this]; rfl

theorem getV_cons (k : Nat) (x : SV) (l : TTm) (i : Nat) : getV ((k, x) :: l) i = if i = k then x else getV l i := by
  simp only [getV]
  by_cases h : i = k
  · subst h; simp
  · rw [if_neg h]
    have : Nat.beq i k = false := by cases hb : Nat.beq i k with | false => rfl | true => exact absurd (Nat.eq_of_beq_eq_true hb) h
    rw [this]; rfl

theorem getV_mem {tm : TTm} {t : Nat} : getV tm t = .any ∨ ∃ x ∈ tm, x.2 = getV tm t := by
  induction tm with
  | nil => exact .inl rfl
  | cons a l ih =>
    obtain ⟨k, x⟩ := a
    rw [getV_cons]
    split
    · exact .inr ⟨(k, x), by simp, rfl⟩
    · rcases ih with h | ⟨y, hy, h⟩
      · exact .inl h
      · exact .inr ⟨y, by simp [hy], h⟩

theorem getB_mem {hp : THp} {id : Nat} {b : TB} (h : getB hp id = some b) : ∃ x ∈ hp, x.2 = some b := by
  induction hp with
  | nil => cases h
  | cons a l ih =>
    obtain ⟨k, x⟩ := a
    rw [getB_cons] at h
    split at h
    · exact ⟨(k, x), by simp, h⟩
    · obtain ⟨y, hy, h⟩ := ih h
      exact ⟨y, by simp [hy], h⟩

theorem notIn_not {b : Nat} {l : List Nat} (h : notIn b l = true) : b ∉ l := by
  intro hm
  have := List.all_eq_true.1 h b hm
  simp at this

theorem ids_any : ids2 .any = [] := rfl

theorem fresh_tm {tm : TTm} {hp : THp} {b : Nat} (h : freshT tm hp b = true) (t : Nat) : b ∉ ids2 (getV tm t) := by
  simp only [freshT, Bool.and_eq_true] at h
  rcases getV_mem (tm := tm) (t := t) with h' | ⟨x, hx, h'⟩
  · rw [h']; simp [ids2, ids1, ids0]
  · rw [← h']; exact notIn_not (List.all_eq_true.1 h.1 x hx)

theorem fresh_hp {tm : TTm} {hp : THp} {b : Nat} (h : freshT tm hp b = true) {id : Nat} {k : TB} (hk : getB hp id = some k) : b ∉ idsB k := by
  simp only [freshT, Bool.and_eq_true] at h
  obtain ⟨x, hx, h'⟩ := getB_mem hk
  have := List.all_eq_true.1 h.2 x hx
  rw [h'] at this
  exact notIn_not this

theorem RT.keeps {hp hp' : THp} {tm : TTm} {m : Tm} (h : RT hp tm m) (hk : ∀ t, ∀ id ∈ ids2 (getV tm t), Keeps hp hp' id) : RT hp' tm m := fun t => (h t).keeps (hk t)

/-- A block is laid where nothing leans on its number, or one of the same length is. -/
theorem keeps_put {hp : THp} {b : Nat} {x : Option TB} {id : Nat} (h : id ≠ b) : Keeps hp ((b, x) :: hp) id := fun k hk => by
  rw [getB_cons, if_neg h] at hk
  exact ⟨k, hk, rfl⟩

theorem keeps_same {hp : THp} {b : Nat} {x y : TB} (hx : getB hp b = some x) (hl : blen x = blen y) (id : Nat) : Keeps hp ((b, some y) :: hp) id := fun k hk => by
  rw [getB_cons] at hk
  split at hk
  · rename_i he; subst he; cases hk; exact ⟨x, hx, hl⟩
  · exact ⟨k, hk, rfl⟩

theorem keeps_none {hp : THp} {b : Nat} (id : Nat) : Keeps hp ((b, none) :: hp) id := fun k hk => by
  rw [getB_cons] at hk
  split at hk
  · cases hk
  · exact ⟨k, hk, rfl⟩

theorem keeps_kill : ∀ (l : List Nat) (hp : THp) (id : Nat), Keeps hp (killT hp l) id
  | [], hp, id => Keeps.refl hp id
  | b :: l, hp, id => (keeps_none id).trans (keeps_kill l _ id)

theorem kill_get : ∀ (l : List Nat) (hp : THp) (id : Nat) (b : TB), getB (killT hp l) id = some b → getB hp id = some b ∧ id ∉ l
  | [], _, _, _, h => ⟨h, by simp⟩
  | x :: l, hp, id, b, h => by
    obtain ⟨h1, h2⟩ := kill_get l _ id b h
    rw [getB_cons] at h1
    split at h1
    · cases h1
    · rename_i hne
      exact ⟨h1, by simp [hne, h2]⟩

theorem kill_V : ∀ (l : List Nat) (hp : Hp) (id : Nat), id ∉ l → kill hp l id = hp id := kill_other

theorem RH.kill {hp : THp} {h : Hp} (hr : RH hp h) (l : List Nat) : RH (killT hp l) (Ev.kill h l) := fun id b hb => by
  obtain ⟨h1, h2⟩ := kill_get l hp id b hb
  obtain ⟨k, hk, hrb⟩ := hr id b h1
  exact ⟨k, by rw [kill_other l h id h2]; exact hk, hrb.keeps fun i _ => keeps_kill l hp i⟩

theorem RH.put {hp : THp} {h : Hp} (hr : RH hp h) {b : Nat} {x : TB} {k : Blk} (hk : ∀ id ∈ idsB x, Keeps hp ((b, some x) :: hp) id) (hold : ∀ id y, id ≠ b → getB hp id = some y → ∀ i ∈ idsB y, Keeps hp ((b, some x) :: hp) i) (hx : RB hp x k) : RH ((b, some x) :: hp) (upd h b (some k)) := fun id y hy => by
  rw [getB_cons] at hy
  split at hy
  · rename_i he
    subst he
    cases hy
    exact ⟨k, by simp [upd], hx.keeps hk⟩
  · rename_i he
    obtain ⟨k', hk', hr'⟩ := hr id y hy
    exact ⟨k', by simp [upd, he, hk'], hr'.keeps (hold id y he hy)⟩

end Go.Proofs.Ytcmihlhmeonmfaa.Ev
