/- Rings of points: each corner with the next, sums round about. -/
import Derived.Test.YtcmihlhmeonmfaaCPuCur
namespace Go.Proofs.Ytcmihlhmeonmfaa.Ev
open Go
set_option linter.unusedVariables false
set_option linter.unusedSimpArgs false
set_option linter.unusedSectionVars false

section
variable {α β : Type}
/-- The list turned by one. -/
def rot (l : List α) : List α := l.tail ++ l.head?.toList
theorem rot_len (l : List α) : (rot l).length = l.length := by cases l <;> simp [rot]
theorem rot_get (l : List α) {k : Nat} (h : k < l.length) : (rot l)[k]? = l[(k + 1) % l.length]? := by
  cases l with
  | nil => simp at h
  | cons a t =>
    simp only [rot, List.tail_cons, List.head?_cons, Option.toList_some, List.length_cons] at *
    by_cases hk : k < t.length
    · rw [List.getElem?_append_left hk, Nat.mod_eq_of_lt (by omega), List.getElem?_cons_succ]
    · have : k = t.length := by omega
      subst this
      rw [List.getElem?_append_right (by omega), Nat.sub_self, Nat.mod_self]
      rfl
theorem rot_map (f : α → β) (l : List α) : rot (l.map f) = (rot l).map f := by cases l <;> simp [rot]
theorem rot_mem {l : List α} {a : α} : a ∈ rot l ↔ a ∈ l := by
  cases l with
  | nil => simp [rot]
  | cons b t => simp [rot]; exact or_comm

/-- The sides of a ring. -/
def ring (l : List α) : List (α × α) := l.zip (rot l)
theorem ring_len (l : List α) : (ring l).length = l.length := by simp [ring, rot_len]
theorem ring_get {l : List α} {k : Nat} {p : α × α} (h : (ring l)[k]? = some p) : k < l.length ∧ l[k]? = some p.1 ∧ l[(k + 1) % l.length]? = some p.2 := by
  have hk := (List.getElem?_eq_some_iff.1 h).1
  rw [ring_len] at hk
  unfold ring at h
  rw [List.getElem?_zip_eq_some] at h
  rw [rot_get l hk] at h
  exact ⟨hk, h⟩
theorem ring_map (f : α → β) (l : List α) : ring (l.map f) = (ring l).map fun p => (f p.1, f p.2) := by
  unfold ring
  rw [rot_map, List.zip_map]
  rfl
theorem ring_mem {l : List α} {p : α × α} (h : p ∈ ring l) : p.1 ∈ l ∧ p.2 ∈ l := by
  unfold ring at h
  have := List.of_mem_zip (show (p.1, p.2) ∈ _ from h)
  exact ⟨this.1, rot_mem.1 this.2⟩

/-- A sum over a list. -/
def tot (f : α → Int) : List α → Int
  | [] => 0
  | a :: l => f a + tot f l
theorem tot_append (f : α → Int) (l m : List α) : tot f (l ++ m) = tot f l + tot f m := by
  induction l with
  | nil => simp [tot]
  | cons a l ih => simp only [List.cons_append, tot, ih]; omega
theorem tot_map (f : β → Int) (g : α → β) (l : List α) : tot f (l.map g) = tot (fun a => f (g a)) l := by
  induction l with
  | nil => rfl
  | cons a l ih => simp only [List.map_cons, tot, ih]
theorem tot_rot (f : α → Int) (l : List α) : tot f (rot l) = tot f l := by
  cases l with
  | nil => rfl
  | cons a t => simp only [rot, List.tail_cons, List.head?_cons, Option.toList_some, tot_append, tot]; omega
theorem tot_congr {f g : α → Int} {l : List α} (h : ∀ a ∈ l, f a = g a) : tot f l = tot g l := by
  induction l with
  | nil => rfl
  | cons a l ih => simp only [tot]; rw [h a (List.mem_cons_self ..), ih (fun b hb => h b (List.mem_cons_of_mem _ hb))]
theorem tot_add (f g : α → Int) (l : List α) : tot (fun a => f a + g a) l = tot f l + tot g l := by
  induction l with
  | nil => rfl
  | cons a l ih => simp only [tot, ih]; omega
theorem tot_neg (f : α → Int) (l : List α) : tot (fun a => - f a) l = - tot f l := by
  induction l with
  | nil => rfl
  | cons a l ih => simp only [tot, ih]; omega
theorem tot_mulL (c : Int) (f : α → Int) (l : List α) : tot (fun a => c * f a) l = c * tot f l := by
  induction l with
  | nil => simp [tot]
  | cons a l ih => simp only [tot, ih, Int.mul_add]
theorem tot_zipL (f : α → Int) : ∀ (l : List α) (m : List β), l.length = m.length → tot (fun p : α × β => f p.1) (l.zip m) = tot f l
  | [], [], _ => rfl
  | a :: l, b :: m, h => by simp only [List.zip_cons_cons, tot, tot_zipL f l m (by simpa using h)]
theorem tot_zipR (f : β → Int) : ∀ (l : List α) (m : List β), l.length = m.length → tot (fun p : α × β => f p.2) (l.zip m) = tot f m
  | [], [], _ => rfl
  | a :: l, b :: m, h => by simp only [List.zip_cons_cons, tot, tot_zipR f l m (by simpa using h)]
theorem tot_ring_fst (f : α → Int) (l : List α) : tot (fun p : α × α => f p.1) (ring l) = tot f l := tot_zipL f l _ (rot_len l).symm
theorem tot_ring_snd (f : α → Int) (l : List α) : tot (fun p : α × α => f p.2) (ring l) = tot f l := (tot_zipR f l _ (rot_len l).symm).trans (tot_rot f l)
theorem tot_bound {f : α → Int} {B : Int} : ∀ {l : List α}, (∀ a ∈ l, -B ≤ f a ∧ f a ≤ B) → -(B * l.length) ≤ tot f l ∧ tot f l ≤ B * l.length
  | [], _ => by simp [tot]
  | a :: l, h => by
    have h1 := h a (List.mem_cons_self ..)
    have h2 := tot_bound (l := l) (fun b hb => h b (List.mem_cons_of_mem _ hb))
    have : B * ((a :: l).length : Int) = B * l.length + B := by rw [List.length_cons, Int.natCast_add, Int.mul_add]; simp
    simp only [tot]
    omega
theorem tot_snoc_take (f : α → Int) {l : List α} {k : Nat} {a : α} (h : l[k]? = some a) : tot f (l.take (k + 1)) = tot f (l.take k) + f a := by
  rw [List.take_add_one, h, tot_append]
  simp [tot]
theorem tot_take_bound {f : α → Int} {B : Int} (hB : 0 ≤ B) {l : List α} (h : ∀ a ∈ l, -B ≤ f a ∧ f a ≤ B) (k : Nat) : -(B * l.length) ≤ tot f (l.take k) ∧ tot f (l.take k) ≤ B * l.length := by
  have h1 := tot_bound (l := l.take k) (fun a ha => h a (List.mem_of_mem_take ha))
  have h2 : ((l.take k).length : Int) ≤ l.length := by simp; omega
  have h3 := Int.mul_le_mul_of_nonneg_left h2 hB
  omega
end

/-! ### ways as walks -/
section
variable {α : Type}
/-- A sum over the steps of a walk. -/
def walk (f : α → α → Int) : List α → Int
  | [] => 0
  | [_] => 0
  | a :: b :: l => f a b + walk f (b :: l)

theorem walk_join (f : α → α → Int) (x : α) : ∀ (u v : List α), walk f (u ++ x :: v) = walk f (u ++ [x]) + walk f (x :: v)
  | [], v => by simp [walk]
  | [a], v => by simp [walk]
  | a :: b :: u, v => by
    have := walk_join f x (b :: u) v
    simp only [List.cons_append, walk] at this ⊢
    rw [this]
    omega

theorem ring_walk (f : α → α → Int) (a : α) (t : List α) : tot (fun p : α × α => f p.1 p.2) (ring (a :: t)) = walk f (a :: t ++ [a]) := by
  have key : ∀ (t : List α) (a b : α), tot (fun p : α × α => f p.1 p.2) ((a :: t).zip (t ++ [b])) = walk f (a :: t ++ [b]) := by
    intro t
    induction t with
    | nil => intro a b; simp [tot, walk]
    | cons c t ih =>
      intro a b
      simp only [List.cons_append, List.zip_cons_cons, tot, walk]
      rw [← List.cons_append, ih c b]
  have h := key t a a
  simpa [ring, rot] using h

theorem ring_turn (f : α → α → Int) (u v : List α) : tot (fun p : α × α => f p.1 p.2) (ring (u ++ v)) = tot (fun p : α × α => f p.1 p.2) (ring (v ++ u)) := by
  cases u with
  | nil => simp
  | cons a u =>
    cases v with
    | nil => simp
    | cons b v =>
      rw [List.cons_append, List.cons_append, ring_walk, ring_walk]
      have e1 : a :: (u ++ b :: v) ++ [a] = (a :: u) ++ b :: (v ++ [a]) := by simp
      have e2 : b :: (v ++ a :: u) ++ [b] = (b :: v) ++ a :: (u ++ [b]) := by simp
      rw [e1, e2, walk_join, walk_join f a]
      have e3 : a :: u ++ [b] = a :: (u ++ [b]) := rfl
      have e4 : b :: v ++ [a] = b :: (v ++ [a]) := rfl
      rw [e3, e4]
      omega

/-- A ring that is cut in two from one corner to another: what is lost on one side of the cut comes back on the other one. -/
theorem ring_split (f : α → α → Int) (hf : ∀ a b, f b a = - f a b) (l : List α) (i j : Nat) (hij : i < j) (hj : j < l.length) :
    tot (fun p : α × α => f p.1 p.2) (ring ((l.take (j + 1)).drop i)) + tot (fun p : α × α => f p.1 p.2) (ring (l.drop j ++ l.take (i + 1))) = tot (fun p : α × α => f p.1 p.2) (ring l) := by
  have hi : i < l.length := by omega
  generalize hx : l[i] = x
  generalize hy : l[j] = y
  -- the parts
  have e1 : l.take (i + 1) = l.take i ++ [x] := by rw [List.take_add_one, List.getElem?_eq_getElem hi, hx]; rfl
  have e2 : l.drop j = y :: l.drop (j + 1) := by rw [List.drop_eq_getElem_cons hj, hy]
  obtain ⟨M, hM⟩ : ∃ M, (l.take j).drop i = x :: M := ⟨(l.take j).drop (i + 1), by
    have h1 : i < (l.take j).length := by simp; omega
    rw [List.drop_eq_getElem_cons h1, List.getElem_take, hx]⟩
  have e3 : (l.take (j + 1)).drop i = x :: (M ++ [y]) := by
    rw [List.take_add_one, List.getElem?_eq_getElem hj, hy, List.drop_append_of_le_length (by simp; omega), hM]
    rfl
  have e4 : l = l.take i ++ (x :: M ++ (y :: l.drop (j + 1))) := by
    have h1 : l.take j = l.take i ++ (x :: M) := by
      rw [← hM]
      have := (List.take_append_drop i (l.take j)).symm
      rwa [List.take_take, Nat.min_eq_left (by omega)] at this
    rw [← List.append_assoc, ← h1, ← e2, List.take_append_drop]
  have e5 : tot (fun p : α × α => f p.1 p.2) (ring l) = walk f ((x :: M) ++ y :: (l.drop (j + 1) ++ l.take i ++ [x])) := by
    rw [e4, ring_turn]
    rw [← e4]
    have : x :: M ++ y :: l.drop (j + 1) ++ l.take i = x :: (M ++ y :: (l.drop (j + 1) ++ l.take i)) := by simp
    rw [this, ring_walk]
    simp
  rw [e5, walk_join, e3, e2, e1, ring_walk]
  have e6 : y :: l.drop (j + 1) ++ (l.take i ++ [x]) = y :: (l.drop (j + 1) ++ l.take i ++ [x]) := by simp
  rw [e6, ring_walk]
  have e7 : x :: (M ++ [y]) ++ [x] = (x :: M) ++ y :: [x] := by simp
  have e8 : y :: (l.drop (j + 1) ++ l.take i ++ [x]) ++ [y] = (y :: (l.drop (j + 1) ++ l.take i)) ++ x :: [y] := by simp
  rw [e7, e8, walk_join, walk_join f x]
  have e9 : y :: (l.drop (j + 1) ++ l.take i) ++ [x] = y :: (l.drop (j + 1) ++ l.take i ++ [x]) := by simp
  rw [e9]
  have := hf x y
  simp only [walk]
  omega
end

/-- Twice the area of a ring. -/
def area2 (l : List (Int × Int)) : Int := tot (fun p : (Int × Int) × (Int × Int) => p.1.1 * p.2.2 - p.2.1 * p.1.2) (ring l)

theorem area2_move (l : List (Int × Int)) (d : Int × Int) : area2 (l.map fun p => (p.1 + d.1, p.2 + d.2)) = area2 l := by
  unfold area2
  rw [ring_map, tot_map]
  have : ∀ p : (Int × Int) × (Int × Int), (p.1.1 + d.1) * (p.2.2 + d.2) - (p.2.1 + d.1) * (p.1.2 + d.2) = (p.1.1 * p.2.2 - p.2.1 * p.1.2) + ((d.2 * p.1.1 + -(d.2 * p.2.1)) + (d.1 * p.2.2 + -(d.1 * p.1.2))) := by
    intro p
    grind
  simp only [this]
  rw [tot_add, tot_add, tot_add, tot_add, tot_neg, tot_neg, tot_mulL, tot_mulL, tot_mulL, tot_mulL]
  have h1 : tot (fun p : (Int × Int) × (Int × Int) => p.1.1) (ring l) = tot (fun p : Int × Int => p.1) l := tot_ring_fst (fun p : Int × Int => p.1) l
  have h2 : tot (fun p : (Int × Int) × (Int × Int) => p.2.1) (ring l) = tot (fun p : Int × Int => p.1) l := tot_ring_snd (fun p : Int × Int => p.1) l
  have h3 : tot (fun p : (Int × Int) × (Int × Int) => p.1.2) (ring l) = tot (fun p : Int × Int => p.2) l := tot_ring_fst (fun p : Int × Int => p.2) l
  have h4 : tot (fun p : (Int × Int) × (Int × Int) => p.2.2) (ring l) = tot (fun p : Int × Int => p.2) l := tot_ring_snd (fun p : Int × Int => p.2) l
  rw [h1, h2, h3, h4]
  omega
end Go.Proofs.Ytcmihlhmeonmfaa.Ev
