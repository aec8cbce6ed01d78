/- Big numbers: cutting, validity, order, sums and differences. -/
import Derived.Test.YtohhlnabfcbknaaCPuLimb
import Derived.Test.YtohhlnabfcbknaaCPuCur
namespace Go.Proofs.Ytohhlnabfcbknaa.Ev
open Go
set_option linter.unusedVariables false
set_option linter.unusedSimpArgs false
set_option linter.unusedSectionVars false

/-- Not too long. -/
def Brief (l : List Int) : Prop := l.length ≤ 100000000

theorem snoc_of {l : List Int} (h : l ≠ []) : ∃ m x, l = m ++ [x] := ⟨l.dropLast, l.getLast h, (List.dropLast_concat_getLast h).symm⟩
theorem nb_snoc {m : List Int} {x : Int} (h : x ≠ 0) : NB (m ++ [x]) := fun y hy => by
  rw [List.getLast?_append] at hy
  simp at hy
  subst hy
  exact h

theorem room1 {n : Nat} (h : n ≤ 200000000) : roomI n 8 1 = true := by unfold roomI; rw [decide_eq_true (by unfold maxBytes; omega), decide_eq_true (by unfold maxBytes; omega)]; rfl

theorem s_l1Cut {l : List Int} (hb : Brief l) : F_s_l1Cut l = some (strip l) := by
  have key : ∀ (n : Nat) (l : List Int), l.length = n → n ≤ 100000000 → loopM (fun (s : (List Int)) => B_s_l1Cut_0 s) l = some (strip l) := by
    intro n
    induction n with
    | zero =>
      intro l hl _
      have : l = [] := List.eq_nil_of_length_eq_zero hl
      subst this
      exact loop_end rfl
    | succ n ih =>
      intro l hl hn
      obtain ⟨m, x, rfl⟩ := snoc_of (l := l) (by intro h; subst h; simp at hl)
      have hm : m.length = n := by simpa using hl
      have hlen : (((m ++ [x]).length : Nat) : Int) = (n : Int) + 1 := by simp [hm]
      have hg : getI (m ++ [x]) (n : Int) = some x := by rw [getI_nat, ← hm]; simp
      have hstep : B_s_l1Cut_0 (m ++ [x]) = if x = 0 then some (Sum.inl m) else some (Sum.inr (m ++ [x])) := by
        unfold B_s_l1Cut_0
        rw [hlen, wrapI (by omega) (by omega), show (n : Int) + 1 - 1 = (n : Int) by omega, hg, decide_eq_true (by omega)]
        simp only [cond_true, Option.bind_some]
        by_cases hx : x = 0
        · rw [if_pos hx, beq_iff_eq.2 hx]
          have : subI 0 (n : Int) (m ++ [x]).length = some (0, n) := by unfold subI; simp [hm]; omega
          rw [this]
          simp [← hm]
        · rw [if_neg hx, beq_eq_false_iff_ne.2 hx]
          rfl
      by_cases hx : x = 0
      · rw [if_pos hx] at hstep
        rw [loop_go hstep, ih m hm (by omega), hx, strip_snoc_zero]
      · rw [if_neg hx] at hstep
        rw [loop_end hstep, strip_nb (nb_snoc hx)]
  unfold F_s_l1Cut
  have h := strip_len l
  unfold Brief at hb
  rw [key _ l rfl hb]
  simp only [Option.bind_some, room1 (show (strip l).length ≤ 200000000 by omega), cond_true]

theorem i_cut {l : List Int} (hb : Brief l) : F_i_cut l = some (strip l) := by
  unfold Brief at hb
  have key : ∀ (n : Nat), n ≤ l.length → strip (l.take n) = strip l → ∃ k : Nat, k ≤ l.length ∧ l.take k = strip l ∧ loopM (fun (s : ((List Int) × Int)) => B_i_cut_0 s.1 s.2) (l, (n : Int)) = some (l, (k : Int)) := by
    intro n
    induction n with
    | zero =>
      intro _ h
      exact ⟨0, by omega, by simpa [strip] using h, loop_end rfl⟩
    | succ n ih =>
      intro hn h
      have hlt : n < l.length := by omega
      have hg : getI l (n : Int) = some l[n] := by rw [getI_nat, List.getElem?_eq_getElem hlt]
      have ht : l.take (n + 1) = l.take n ++ [l[n]] := by rw [List.take_add_one, List.getElem?_eq_getElem hlt]; rfl
      have hstep : B_i_cut_0 l ((n + 1 : Nat) : Int) = if l[n] = 0 then some (Sum.inl (l, (n : Int))) else some (Sum.inr (l, ((n + 1 : Nat) : Int))) := by
        unfold B_i_cut_0
        rw [wrapI (by omega) (by omega), show ((n + 1 : Nat) : Int) - 1 = (n : Int) by omega, hg, decide_eq_true (by omega)]
        simp only [cond_true, Option.bind_some]
        by_cases hx : l[n] = 0
        · rw [if_pos hx, beq_iff_eq.2 hx]; rfl
        · rw [if_neg hx, beq_eq_false_iff_ne.2 hx]; rfl
      by_cases hx : l[n] = 0
      · rw [if_pos hx] at hstep
        obtain ⟨k, h1, h2, h3⟩ := ih (by omega) (by rw [← h, ht, hx, strip_snoc_zero])
        exact ⟨k, h1, h2, by rw [loop_go hstep]; exact h3⟩
      · rw [if_neg hx] at hstep
        refine ⟨n + 1, hn, ?_, loop_end hstep⟩
        rw [← h, ht, strip_nb (nb_snoc hx)]
  obtain ⟨k, h1, h2, h3⟩ := key l.length (Nat.le_refl _) (by rw [List.take_length])
  unfold F_i_cut
  rw [h3]
  have : subI 0 (k : Int) l.length = some (0, k) := by unfold subI; simp [h1]
  simp only [Option.bind_some, this, List.drop_zero, h2]

theorem clone_int {l : List Int} (hb : Brief l) : F_slices_Clone_Sint_int l = some l := by
  unfold F_slices_Clone_Sint_int orNil
  cases l with
  | nil => rfl
  | cons a t =>
    unfold Brief at hb
    simp only [F_slices_Clone_Sint_int_ne, neL, Option.bind_some, room1 (show (a :: t).length ≤ 200000000 by omega), cond_true]

theorem strip_brief {l : List Int} (h : Brief l) : Brief (strip l) := by have := strip_len l; unfold Brief at *; omega

theorem len_pos_dec (l : List Int) : decide (((l.length : Nat) : Int) > 0) = !l.isEmpty := by cases l <;> simp <;> omega
theorem lim_empty (n : Nat) : (!(lim n).isEmpty) = decide (n ≠ 0) := by
  cases h : lim n with
  | nil => rw [lim_nil.1 h]; rfl
  | cons a t => simp; intro h0; rw [h0, lim_zero] at h; cases h

theorem i_bigOf {l : List Int} (h : LB l) (hb : Brief l) (neg : Bool) : F_i_bigOf neg l = some (lim (val l).toNat, neg && decide ((val l).toNat ≠ 0)) := by
  unfold F_i_bigOf
  simp only [i_cut hb, Option.bind_some, clone_int (strip_brief hb), len_pos_dec]
  rw [strip_lim h, lim_empty]
  cases neg <;> rfl
theorem s_l1Make {l : List Int} (h : LB l) (hb : Brief l) (neg : Bool) : F_s_l1Make neg l = some (lim (val l).toNat, neg && decide ((val l).toNat ≠ 0)) := by
  unfold F_s_l1Make
  simp only [s_l1Cut hb, Option.bind_some, len_pos_dec]
  rw [strip_lim h, lim_empty]
  cases neg <;> rfl

/-- The big number of a number. -/
def big (z : Int) : Bool × List Int := (decide (z < 0), lim z.natAbs)
theorem big_inj {x y : Int} (h : big x = big y) : x = y := by
  unfold big at h
  have h1 := congrArg Prod.fst h
  have h2 := congrArg Prod.snd h
  simp only at h1 h2
  have h3 : x.natAbs = y.natAbs := by
    have := congrArg val h2
    rw [lim_val, lim_val] at this
    omega
  by_cases hx : x < 0 <;> by_cases hy : y < 0 <;> simp [hx, hy] at h1 <;> omega

/-! ### validity -/
def goodB (b : Bool × List Int) : Bool := (b.2.all fun x => decide (0 ≤ x) && decide (x ≤ 65535)) && (match b.2.getLast? with | none => !b.1 | some x => decide (b.2.length ≤ 40) && (x != 0))

theorem goodB_iff {b : Bool × List Int} : goodB b = true ↔ ∃ z : Int, (z.natAbs : Int) < B 40 ∧ b = big z := by
  obtain ⟨neg, l⟩ := b
  unfold goodB
  simp only [Bool.and_eq_true, List.all_eq_true, decide_eq_true_eq]
  constructor
  · rintro ⟨h1, h2⟩
    have hl : LB l := fun x hx => by have := h1 x hx; omega
    cases hg : l.getLast? with
    | none =>
      rw [hg] at h2
      have : l = [] := List.getLast?_eq_none_iff.1 hg
      subst this
      have hn : neg = false := by simpa using h2
      subst hn
      exact ⟨0, by decide, by unfold big; simp [lim_zero]⟩
    | some x =>
      rw [hg] at h2
      simp only [Bool.and_eq_true, decide_eq_true_eq, bne_iff_ne] at h2
      have hn : NB l := fun y hy => by rw [hg] at hy; cases hy; exact h2.2
      have hv := lim_of hl hn
      have h0 : (val l).toNat ≠ 0 := by
        intro h0
        rw [h0, lim_zero] at hv
        rw [hv] at hg
        simp at hg
      have hlt : ((val l).toNat : Int) < B 40 := lim_len.1 (by rw [← hv]; exact h2.1)
      refine ⟨if neg then -((val l).toNat : Int) else ((val l).toNat : Int), ?_, ?_⟩
      · cases neg <;> simp <;> omega
      · unfold big
        cases neg
        · simp only [Bool.false_eq_true, if_false]
          rw [decide_eq_false (by omega), Int.natAbs_natCast, ← hv]
        · simp only [if_true]
          rw [decide_eq_true (by omega), Int.natAbs_neg, Int.natAbs_natCast, ← hv]
  · rintro ⟨z, hz, h⟩
    unfold big at h
    have hn : neg = decide (z < 0) := congrArg Prod.fst h
    have hl : l = lim z.natAbs := congrArg Prod.snd h
    subst hl
    refine ⟨fun x hx => by have := lim_lb _ x hx; omega, ?_⟩
    cases hg : (lim z.natAbs).getLast? with
    | none =>
      have : lim z.natAbs = [] := List.getLast?_eq_none_iff.1 hg
      have := lim_nil.1 this
      rw [hn]
      simp
      omega
    | some x =>
      simp only [Bool.and_eq_true, decide_eq_true_eq, bne_iff_ne]
      exact ⟨lim_len.2 hz, lim_nb _ x hg⟩
theorem goodB_big {z : Int} (h : (z.natAbs : Int) < B 40) : goodB (big z) = true := goodB_iff.2 ⟨z, h, rfl⟩

theorem i_within2 (a b c : Int) : F_i_within a b c = some (decide (b ≤ a) && decide (a ≤ c)) := by
  unfold F_i_within
  by_cases h : a ≥ b <;> simp [h]
theorem s_l1In2 (a b c : Int) : F_s_l1In a b c = some (decide (b ≤ a) && decide (a ≤ c)) := by
  unfold F_s_l1In
  by_cases h : a ≥ b <;> simp [h]

theorem lt_dec' {k : Nat} {α : Type} {l : List α} {a : α} (h : l[k]? = some a) : decide ((k : Int) < (l.length : Int)) = true := by have := getL h; simpa using this
theorem ge_dec' {α : Type} (l : List α) : decide ((l.length : Int) < (l.length : Int)) = false := by simp

theorem contains_int {l : List Int} (hb : Brief l) : F_slices_ContainsFunc_Sint_int l = some (!(l.all fun x => decide (0 ≤ x) && decide (x ≤ 65535))) := by
  unfold F_slices_ContainsFunc_Sint_int F_slices_IndexFunc_Sint_int
  unfold Brief at hb
  have key := all_loop (body := fun (s : ((List Int) × (Int × Int))) => B_slices_IndexFunc_Sint_int_0 s.1 s.2.1 s.2.2) (l := l) (st := fun k => (l, (l.length : Int), (k : Int))) (p := fun x => decide (0 ≤ x) && decide (x ≤ 65535)) (fin := .inl ()) (bad := fun k => .inr (k : Int))
    (fun k a hk hp => by
      have := getL hk
      unfold B_slices_IndexFunc_Sint_int_0 F_i_GoodBig_1
      simp only [lt_dec' hk, cond_true, getI_nat, hk, Option.bind_some, i_within2, hp, Bool.not_true, cond_false, wrap1 (show k < 4611686018427387904 by omega)])
    (fun k a hk hp => by
      unfold B_slices_IndexFunc_Sint_int_0 F_i_GoodBig_1
      simp only [lt_dec' hk, cond_true, getI_nat, hk, Option.bind_some, i_within2, hp, Bool.not_false])
    (by unfold B_slices_IndexFunc_Sint_int_0; simp only [ge_dec', cond_false])
  cases hall : l.all fun x => decide (0 ≤ x) && decide (x ≤ 65535) with
  | true =>
    have h := key.1 hall
    rw [show ((0 : Nat) : Int) = 0 from rfl] at h
    simp only [h, Option.bind_some, Sum.elim_inl]
    rfl
  | false =>
    obtain ⟨k, _, h⟩ := key.2 hall
    rw [show ((0 : Nat) : Int) = 0 from rfl] at h
    simp only [h, Option.bind_some, Sum.elim_inr]
    have : decide ((k : Int) ≥ 0) = true := by simp
    rw [this]; rfl

theorem getLast_get {l : List Int} {x : Int} (h : l.getLast? = some x) : l.length ≠ 0 ∧ getI l ((l.length : Int) - 1) = some x := by
  have hne : l ≠ [] := by intro h0; subst h0; simp at h
  obtain ⟨m, y, rfl⟩ := snoc_of hne
  rw [List.getLast?_append] at h
  simp at h
  subst h
  refine ⟨by simp, ?_⟩
  have : (((m ++ [y]).length : Nat) : Int) - 1 = (m.length : Int) := by simp
  rw [this, getI_nat]
  simp

theorem i_GoodBig {b : Bool × List Int} (hb : Brief b.2) : F_i_GoodBig b = some (goodB b) := by
  obtain ⟨neg, l⟩ := b
  unfold F_i_GoodBig goodB
  have hb' := hb
  unfold Brief at hb'
  simp only at hb hb' ⊢
  rw [wrapI (by omega) (by omega), contains_int hb]
  cases hg : l.getLast? with
  | none =>
    have : l = [] := List.getLast?_eq_none_iff.1 hg
    subst this
    cases neg <;> rfl
  | some x =>
    obtain ⟨h0, h1⟩ := getLast_get hg
    have e0 : (((l.length : Nat) : Int) == 0) = false := beq_eq_false_iff_ne.2 (by omega)
    have e1 : decide (((l.length : Nat) : Int) > 0) = true := decide_eq_true (by omega)
    by_cases h40 : l.length ≤ 40
    · have e2 : decide (((l.length : Nat) : Int) > 40) = false := decide_eq_false (by omega)
      simp only [e2, e0, e1, cond_false, cond_true, h1, Option.bind_some, Bool.not_not, decide_eq_true h40, Bool.true_and]
      by_cases hx : x = 0
      · subst hx; simp
      · rw [beq_eq_false_iff_ne.2 hx]; simp [hx]
    · have e2 : decide (((l.length : Nat) : Int) > 40) = true := decide_eq_true (by omega)
      simp only [e2, cond_true, decide_eq_false h40, Bool.false_and, Bool.and_false]

theorem s_GoodBig {b : Bool × List Int} (hb : Brief b.2) : F_s_GoodBig b = some (goodB b) := by
  obtain ⟨neg, l⟩ := b
  unfold F_s_GoodBig goodB
  have hb' := hb
  unfold Brief at hb'
  simp only at hb hb' ⊢
  have key := all_loop (body := fun (s : ((Bool × (List Int)) × ((List Int) × (Int × Int)))) => B_s_GoodBig_0 s.1 s.2.1 s.2.2.1 s.2.2.2) (l := l) (st := fun k => ((neg, l), (l, ((l.length : Int), (k : Int))))) (p := fun x => decide (0 ≤ x) && decide (x ≤ 65535)) (fin := .inl (neg, l)) (bad := fun k => .inr false)
    (fun k a hk hp => by
      have := getL hk
      unfold B_s_GoodBig_0
      simp only [lt_dec' hk, cond_true, getI_nat, hk, Option.bind_some, s_l1In2, hp, Bool.not_true, cond_false, wrap1 (show k < 4611686018427387904 by omega)])
    (fun k a hk hp => by
      unfold B_s_GoodBig_0
      simp only [lt_dec' hk, cond_true, getI_nat, hk, Option.bind_some, s_l1In2, hp, Bool.not_false])
    (by unfold B_s_GoodBig_0; simp only [ge_dec', cond_false])
  rw [show ((0 : Nat) : Int) = 0 from rfl] at key
  cases hall : l.all fun x => decide (0 ≤ x) && decide (x ≤ 65535) with
  | false => obtain ⟨k, _, h⟩ := key.2 hall; rw [h]; rfl
  | true =>
    rw [key.1 hall]
    simp only [Option.bind_some, Sum.elim_inl, Bool.true_and]
    rw [wrapI (by omega) (by omega)]
    cases hg : l.getLast? with
    | none =>
      have : l = [] := List.getLast?_eq_none_iff.1 hg
      subst this
      rfl
    | some x =>
      obtain ⟨h0, h1⟩ := getLast_get hg
      have e0 : (((l.length : Nat) : Int) == 0) = false := beq_eq_false_iff_ne.2 (by omega)
      simp only [e0, cond_false, h1, Option.bind_some]
      by_cases h40 : l.length ≤ 40
      · rw [decide_eq_true (show ((l.length : Nat) : Int) ≤ 40 by omega), decide_eq_true h40]; rfl
      · rw [decide_eq_false (show ¬ ((l.length : Nat) : Int) ≤ 40 by omega), decide_eq_false h40]; rfl

theorem i_areBig {l : List (Bool × List Int)} (hl : l.length ≤ 1000) (hb : ∀ b ∈ l, Brief b.2) : F_i_areBig l = some (l.all goodB) := by
  unfold F_i_areBig F_slices_ContainsFunc_Si_Big_i_Big F_slices_IndexFunc_Si_Big_i_Big
  have key := all_loop (body := fun (s : ((List (Bool × (List Int))) × (Int × Int))) => B_slices_IndexFunc_Si_Big_i_Big_0 s.1 s.2.1 s.2.2) (l := l) (st := fun k => (l, (l.length : Int), (k : Int))) (p := goodB) (fin := .inl ()) (bad := fun k => .inr (k : Int))
    (fun k a hk hp => by
      have := getL hk
      unfold B_slices_IndexFunc_Si_Big_i_Big_0 F_i_areBig_1
      simp only [lt_dec' hk, cond_true, getI_nat, hk, Option.bind_some, i_GoodBig (hb a (List.mem_of_getElem? hk)), hp, Bool.not_true, cond_false, wrap1 (show k < 4611686018427387904 by omega)])
    (fun k a hk hp => by
      unfold B_slices_IndexFunc_Si_Big_i_Big_0 F_i_areBig_1
      simp only [lt_dec' hk, cond_true, getI_nat, hk, Option.bind_some, i_GoodBig (hb a (List.mem_of_getElem? hk)), hp, Bool.not_false])
    (by unfold B_slices_IndexFunc_Si_Big_i_Big_0; simp only [ge_dec', cond_false])
  rw [show ((0 : Nat) : Int) = 0 from rfl] at key
  cases hall : l.all goodB with
  | true => rw [key.1 hall]; rfl
  | false =>
    obtain ⟨k, _, h⟩ := key.2 hall
    rw [h]
    simp only [Option.bind_some, Sum.elim_inr]
    have : decide ((k : Int) ≥ 0) = true := by simp
    rw [this]; rfl
end Go.Proofs.Ytohhlnabfcbknaa.Ev
