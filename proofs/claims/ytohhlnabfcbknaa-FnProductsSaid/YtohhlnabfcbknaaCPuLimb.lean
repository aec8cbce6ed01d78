/- Lists of limbs as numbers, with no program in sight. -/
import Derived.Test.YtohhlnabfcbknaaCPuBase
namespace Go.Proofs.Ytohhlnabfcbknaa.Ev
open Go
set_option linter.unusedVariables false
set_option linter.unusedSimpArgs false
set_option linter.unusedSectionVars false

/-- Powers of the base. -/
def B : Nat → Int
  | 0 => 1
  | n + 1 => 65536 * B n
theorem B_pos : ∀ n, 0 < B n
  | 0 => by decide
  | n + 1 => by have := B_pos n; simp only [B]; omega
theorem B_add : ∀ m n, B (m + n) = B m * B n
  | 0, n => by simp [B]
  | m + 1, n => by rw [show m + 1 + n = (m + n) + 1 by omega]; simp only [B]; rw [B_add m n, Int.mul_assoc]
theorem B_mono {m n : Nat} (h : m ≤ n) : B m ≤ B n := by
  induction h with
  | refl => exact Int.le_refl _
  | @step n h ih => have := B_pos n; simp only [B]; omega
theorem B_lt {m n : Nat} (h : m < n) : B m < B n := by
  have h1 := B_mono (show m + 1 ≤ n by omega)
  have h2 := B_pos m
  simp only [B] at h1
  omega

/-- The number of a list of limbs, the least one first. -/
def val : List Int → Int
  | [] => 0
  | x :: l => x + 65536 * val l
def LB (l : List Int) : Prop := ∀ x ∈ l, 0 ≤ x ∧ x < 65536
theorem LB.nil : LB [] := fun _ h => absurd h (List.not_mem_nil)
theorem LB.head {x : Int} {l : List Int} (h : LB (x :: l)) : 0 ≤ x ∧ x < 65536 := h x (List.mem_cons_self ..)
theorem LB.tail {x : Int} {l : List Int} (h : LB (x :: l)) : LB l := fun y hy => h y (List.mem_cons_of_mem _ hy)
theorem LB.cons {x : Int} {l : List Int} (hx : 0 ≤ x ∧ x < 65536) (h : LB l) : LB (x :: l) := fun y hy => by
  rcases List.mem_cons.1 hy with rfl | hy
  · exact hx
  · exact h y hy
theorem LB.append {l m : List Int} (h : LB l) (h' : LB m) : LB (l ++ m) := fun y hy => (List.mem_append.1 hy).elim (h y) (h' y)
theorem LB.take {l : List Int} (h : LB l) (n : Nat) : LB (l.take n) := fun y hy => h y (List.mem_of_mem_take hy)
theorem LB.drop {l : List Int} (h : LB l) (n : Nat) : LB (l.drop n) := fun y hy => h y (List.mem_of_mem_drop hy)
theorem LB.get {l : List Int} (h : LB l) {k : Nat} {x : Int} (hk : l[k]? = some x) : 0 ≤ x ∧ x < 65536 := h x (List.mem_of_getElem? hk)
theorem LB.set {l : List Int} (h : LB l) {k : Nat} {x : Int} (hx : 0 ≤ x ∧ x < 65536) : LB (l.set k x) := fun y hy => by
  rcases List.mem_or_eq_of_mem_set hy with hy | rfl
  · exact h y hy
  · exact hx
theorem LB.zeros (n : Nat) : LB (List.replicate n 0) := fun y hy => by have := List.eq_of_mem_replicate hy; omega

theorem val_nonneg : ∀ {l : List Int}, LB l → 0 ≤ val l
  | [], _ => Int.le_refl _
  | x :: l, h => by have := h.head; have := val_nonneg h.tail; simp only [val]; omega
theorem val_lt : ∀ {l : List Int}, LB l → val l < B l.length
  | [], _ => by decide
  | x :: l, h => by have := h.head; have := val_lt h.tail; simp only [val, List.length_cons, B]; omega
theorem val_append : ∀ (l m : List Int), val (l ++ m) = val l + B l.length * val m
  | [], m => by simp [val, B]
  | x :: l, m => by
    simp only [List.cons_append, val, List.length_cons, B, val_append l m]
    rw [Int.mul_add, Int.mul_assoc]
    omega
theorem val_zeros : ∀ n, val (List.replicate n 0) = 0
  | 0 => rfl
  | n + 1 => by simp only [List.replicate_succ, val, val_zeros n]; omega
theorem val_snoc (l : List Int) (x : Int) : val (l ++ [x]) = val l + B l.length * x := by rw [val_append]; simp [val]
theorem val_split (l : List Int) (n : Nat) (h : n ≤ l.length) : val l = val (l.take n) + B n * val (l.drop n) := by
  have := val_append (l.take n) (l.drop n)
  rw [List.take_append_drop, List.length_take, Nat.min_eq_left h] at this
  exact this
theorem val_set : ∀ {l : List Int} {k : Nat} {x y : Int}, l[k]? = some x → val (l.set k y) = val l + B k * (y - x)
  | [], k, x, y, h => by simp at h
  | a :: l, 0, x, y, h => by
    simp at h
    subst h
    simp only [List.set_cons_zero, val, B]
    omega
  | a :: l, k + 1, x, y, h => by
    simp only [List.getElem?_cons_succ] at h
    simp only [List.set_cons_succ, val, B, val_set (y := y) h]
    rw [Int.mul_add, Int.mul_assoc]
    omega

/-- No nought at the end. -/
def NB (l : List Int) : Prop := ∀ x, l.getLast? = some x → x ≠ 0
theorem NB.nil : NB [] := fun x h => by simp at h
theorem NB.tail {x : Int} {l : List Int} (h : NB (x :: l)) : NB l := fun y hy => by
  cases l with
  | nil => simp at hy
  | cons a t => exact h y (by rw [List.getLast?_cons_cons]; exact hy)
theorem val_pos : ∀ {l : List Int}, LB l → NB l → l ≠ [] → B (l.length - 1) ≤ val l
  | [], _, _, h => absurd rfl h
  | [x], h, hn, _ => by
    have h1 := h.head
    have h2 := hn x rfl
    simp only [val, List.length_cons, List.length_nil, B]
    simp [B]
    omega
  | x :: y :: l, h, hn, _ => by
    have h1 := h.head
    have h2 := val_pos h.tail hn.tail (by simp)
    simp only [List.length_cons, Nat.add_sub_cancel] at h2 ⊢
    rw [val]
    simp only [B]
    omega
theorem val_zero {l : List Int} (h : LB l) (hn : NB l) (h0 : val l = 0) : l = [] := by
  cases l with
  | nil => rfl
  | cons x l =>
    have h1 := val_pos h hn (by simp)
    have h2 := B_pos ((x :: l).length - 1)
    omega
theorem val_inj : ∀ {l m : List Int}, LB l → NB l → LB m → NB m → val l = val m → l = m
  | [], m, _, _, hm, nm, h => by
    have : val m = 0 := by rw [← h]; rfl
    exact (val_zero hm nm this).symm
  | x :: l, [], hl, nl, _, _, h => val_zero hl nl (by rw [h]; rfl)
  | x :: l, y :: m, hl, nl, hm, nm, h => by
    have h1 := hl.head
    have h2 := hm.head
    simp only [val] at h
    have hx : x = y := by omega
    have hv : val l = val m := by omega
    rw [hx, val_inj hl.tail nl.tail hm.tail nm.tail hv]

/-- The limbs of a number. -/
def lim (n : Nat) : List Int := if h : n = 0 then [] else ((n % 65536 : Nat) : Int) :: lim (n / 65536)
termination_by n
decreasing_by omega
theorem lim_zero : lim 0 = [] := by unfold lim; simp
theorem lim_lb (n : Nat) : LB (lim n) := by
  induction n using Nat.strongRecOn with
  | _ n ih =>
    unfold lim
    split
    · exact LB.nil
    · exact LB.cons (by omega) (ih (n / 65536) (by omega))
theorem lim_val (n : Nat) : val (lim n) = n := by
  induction n using Nat.strongRecOn with
  | _ n ih =>
    unfold lim
    split
    · rename_i h; rw [h]; rfl
    · simp only [val, ih (n / 65536) (by omega)]
      omega
theorem lim_nil {n : Nat} : lim n = [] ↔ n = 0 := by
  constructor
  · intro h
    have := lim_val n
    rw [h] at this
    simp only [val] at this
    omega
  · rintro rfl; exact lim_zero
theorem lim_nb (n : Nat) : NB (lim n) := by
  induction n using Nat.strongRecOn with
  | _ n ih =>
    unfold lim
    split
    · exact NB.nil
    · rename_i hn
      intro x hx
      by_cases h0 : n / 65536 = 0
      · rw [h0, lim_zero] at hx
        simp at hx
        omega
      · have hne : lim (n / 65536) ≠ [] := fun h => h0 (lim_nil.1 h)
        cases hl : lim (n / 65536) with
        | nil => exact absurd hl hne
        | cons a t =>
          rw [hl, List.getLast?_cons_cons] at hx
          exact ih (n / 65536) (by omega) x (by rw [hl]; exact hx)
theorem lim_of {l : List Int} (h : LB l) (hn : NB l) : l = lim (val l).toNat := val_inj h hn (lim_lb _) (lim_nb _) (by rw [lim_val]; have := val_nonneg h; omega)
theorem lim_eq {l : List Int} (h : LB l) (hn : NB l) {n : Nat} (hv : val l = n) : l = lim n := by rw [lim_of h hn, hv]; rfl
theorem lim_len {n k : Nat} : (lim n).length ≤ k ↔ (n : Int) < B k := by
  constructor
  · intro h
    have h1 := val_lt (lim_lb n)
    rw [lim_val] at h1
    have := B_mono h
    omega
  · intro h
    rcases Nat.lt_or_ge k (lim n).length with hk | hk
    · exfalso
      have hne : lim n ≠ [] := by intro h0; rw [h0] at hk; simp at hk
      have h1 := val_pos (lim_lb n) (lim_nb n) hne
      rw [lim_val] at h1
      have := B_mono (show k ≤ (lim n).length - 1 by omega)
      omega
    · exact hk

/-- Noughts off the end. -/
def strip : List Int → List Int
  | [] => []
  | x :: l => match strip l with | [] => if x = 0 then [] else [x] | m => x :: m
theorem strip_prop : ∀ {l : List Int}, LB l → LB (strip l) ∧ NB (strip l) ∧ val (strip l) = val l
  | [], _ => ⟨LB.nil, NB.nil, rfl⟩
  | x :: l, h => by
    obtain ⟨h1, h2, h3⟩ := strip_prop h.tail
    simp only [strip]
    cases hs : strip l with
    | nil =>
      rw [hs] at h3
      simp only [val] at h3
      simp only
      split
      · rename_i hx; subst hx; exact ⟨LB.nil, NB.nil, by simp only [val]; omega⟩
      · rename_i hx
        exact ⟨LB.cons h.head LB.nil, fun y hy => by simp at hy; subst hy; exact hx, by simp only [val]; omega⟩
    | cons a t =>
      rw [hs] at h1 h2 h3
      simp only
      exact ⟨LB.cons h.head h1, fun y hy => h2 y (by rw [List.getLast?_cons_cons] at hy; exact hy), by rw [val, h3]; rfl⟩
theorem strip_lim {l : List Int} (h : LB l) : strip l = lim (val l).toNat := by
  obtain ⟨h1, h2, h3⟩ := strip_prop h
  rw [lim_of h1 h2, h3]
theorem strip_snoc_zero : ∀ (l : List Int), strip (l ++ [0]) = strip l
  | [] => rfl
  | x :: l => by simp only [List.cons_append, strip, strip_snoc_zero l]
theorem strip_nb : ∀ {l : List Int}, NB l → strip l = l
  | [], _ => rfl
  | x :: l, h => by
    simp only [strip, strip_nb h.tail]
    cases l with
    | nil => simp only; rw [if_neg (h x rfl)]
    | cons a t => rfl
theorem strip_len : ∀ (l : List Int), (strip l).length ≤ l.length
  | [] => Nat.le_refl _
  | x :: l => by
    have := strip_len l
    simp only [strip]
    split
    · split <;> simp
    · rename_i m hm; simp only [List.length_cons] at *; omega
end Go.Proofs.Ytohhlnabfcbknaa.Ev
