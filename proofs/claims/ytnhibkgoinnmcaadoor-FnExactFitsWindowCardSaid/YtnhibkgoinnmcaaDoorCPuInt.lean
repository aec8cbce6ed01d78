/- A number that is read out of a text from a place on. -/
import Derived.Test.YtnhibkgoinnmcaaDoorCPuDig
import Derived.Test.YtnhibkgoinnmcaaDoorCLawFnExactFitsWindow
namespace Go.Proofs.YtnhibkgoinnmcaaDoor.Ev
open Go
set_option linter.unusedVariables false
set_option linter.unusedSimpArgs false
set_option linter.unusedSectionVars false

theorem take_while_all {p : UInt8 → Bool} : ∀ {l : Str}, ∀ b ∈ l.takeWhile p, p b = true
  | [], b, h => by simp at h
  | a :: l, b, h => by
    rw [List.takeWhile_cons] at h
    by_cases ha : p a = true
    · rw [if_pos ha] at h
      rcases List.mem_cons.1 h with rfl | h
      · exact ha
      · exact take_while_all b h
    · rw [if_neg ha] at h
      exact absurd h List.not_mem_nil

/-- The digits from a place on, four at most. -/
def digs (s : Str) (n k : Nat) : Str := ((s.drop k).take n).takeWhile isDig
theorem digs_zero (s : Str) (k : Nat) : digs s 0 k = [] := by simp [digs]
theorem digs_end {s : Str} {k : Nat} (n : Nat) (h : s.length ≤ k) : digs s n k = [] := by simp [digs, List.drop_eq_nil_of_le h]
theorem digs_succ {s : Str} {k n : Nat} {b : UInt8} (h : s[k]? = some b) : digs s (n + 1) k = if isDig b then b :: digs s n (k + 1) else [] := by
  have hlt := getL h
  unfold digs
  rw [List.drop_eq_getElem_cons hlt, List.take_succ_cons, List.takeWhile_cons]
  have : s[k] = b := by rw [List.getElem?_eq_getElem hlt] at h; exact Option.some.inj h
  rw [this]
theorem digs_len (s : Str) (n k : Nat) : (digs s n k).length ≤ n := by
  have h1 := (List.takeWhile_sublist isDig (l := (s.drop k).take n)).length_le
  have h2 := List.length_take_le n (s.drop k)
  unfold digs; omega
theorem digs_dig (s : Str) (n k : Nat) : ∀ b ∈ digs s n k, isDig b = true := take_while_all
theorem digs_at (s : Str) : ∀ (n k i : Nat), i < (digs s n k).length → s[k + i]? = (digs s n k)[i]?
  | 0, k, i, h => by rw [digs_zero] at h; simp at h
  | n + 1, k, i, h => by
    by_cases hk : k < s.length
    · have e := digs_succ (n := n) (List.getElem?_eq_getElem hk)
      rw [e] at h ⊢
      by_cases hd : isDig s[k] = true
      · rw [if_pos hd] at h ⊢
        cases i with
        | zero => simp [hk]
        | succ i =>
          rw [show k + (i + 1) = (k + 1) + i by omega, digs_at s n (k + 1) i (by simpa using h)]
          simp
      · rw [if_neg hd] at h; simp at h
    · rw [digs_end _ (by omega)] at h; simp at h
/-- Behind fewer than four digits stands none. -/
theorem digs_next (s : Str) : ∀ (n k : Nat), (digs s n k).length < n → ∀ b, s[k + (digs s n k).length]? = some b → isDig b = false
  | 0, k, h, b, _ => by omega
  | n + 1, k, h, b, hb => by
    by_cases hk : k < s.length
    · have e := digs_succ (n := n) (List.getElem?_eq_getElem hk)
      rw [e] at h hb
      by_cases hd : isDig s[k] = true
      · rw [if_pos hd] at h hb
        simp only [List.length_cons] at h hb
        exact digs_next s n (k + 1) (by omega) b (by rw [← hb]; congr 1; omega)
      · rw [if_neg hd] at hb
        simp only [List.length_nil, Nat.add_zero] at hb
        rw [List.getElem?_eq_getElem hk] at hb
        cases hb
        simpa using hd
    · rw [List.getElem?_eq_none (by omega)] at hb; cases hb
theorem valF_le (l : Str) (h : ∀ b ∈ l, isDig b = true) : valF 0 l < 10 ^ l.length := by
  have key : ∀ (l : Str) (n : Nat), (∀ b ∈ l, isDig b = true) → valF n l < (n + 1) * 10 ^ l.length := by
    intro l
    induction l with
    | nil => intro n _; simp [valF]
    | cons b l ih =>
      intro n h
      have hb := isDig_iff.1 (h b (by simp))
      have := ih (n * 10 + (b.toNat - 48)) (fun x hx => h x (List.mem_cons_of_mem _ hx))
      have e : valF n (b :: l) = valF (n * 10 + (b.toNat - 48)) l := rfl
      rw [e, List.length_cons, Nat.pow_succ, Nat.mul_comm (10 ^ l.length) 10, ← Nat.mul_assoc]
      refine Nat.lt_of_lt_of_le this (Nat.mul_le_mul_right _ (by omega))
  have := key l 0 h
  simpa using this

theorem int_loop {s : Str} (hs : s.length < 4611686018427387904) {a : Nat} (ha : a < 4611686018427387904) : ∀ (m : Nat) (n k : Nat), k + m = a + 4 → a ≤ k → n < 10 ^ (k - a) →
    loopM (fun (t : (Str × (Int × (Int × Int)))) => B_s_l15Int_0 t.1 t.2.1 t.2.2.1 t.2.2.2) (s, (a : Int), (n : Int), (k : Int)) = some (s, (a : Int), ((valF n (digs s m k) : Nat) : Int), ((k + (digs s m k).length : Nat) : Int)) := by
  intro m
  induction m with
  | zero =>
    intro n k hk hak hn
    rw [digs_zero]
    refine loop_end ?_
    unfold B_s_l15Int_0
    simp only
    by_cases h1 : (k : Int) < (s.length : Int)
    · rw [decide_eq_true h1, cT, wrapI (by omega) (by omega), decide_eq_false (by omega), cF]
      rfl
    · rw [decide_eq_false h1, cF]
      rfl
  | succ m ih =>
    intro n k hk hak hn
    by_cases h1 : k < s.length
    · have e : s[k]? = some s[k] := List.getElem?_eq_getElem h1
      generalize s[k] = b at e
      rw [digs_succ e]
      have hb := b.toNat_lt
      by_cases hd : isDig b = true
      · have hd' := isDig_iff.1 hd
        have hp : 10 ^ (k - a) ≤ 10 ^ 3 := Nat.pow_le_pow_right (by omega) (by omega)
        rw [if_pos hd]
        have hgo : (fun (t : (Str × (Int × (Int × Int)))) => B_s_l15Int_0 t.1 t.2.1 t.2.2.1 t.2.2.2) (s, (a : Int), (n : Int), (k : Int)) = some (.inl (s, (a : Int), ((n * 10 + (b.toNat - 48) : Nat) : Int), ((k + 1 : Nat) : Int))) := by
          unfold B_s_l15Int_0
          simp only
          rw [decide_eq_true (by omega), cT, wrapI (n := (a : Int) + 4) (by omega) (by omega), decide_eq_true (by omega), cT, getI_nat, e, obs, decide_eq_true (by omega), cT, obs, decide_eq_true (by omega), cT, obs, wrap1 (by omega)]
          have w1 : IntKind.wrap .u8 (((b.toNat : Nat) : Int) - 48) = ((b.toNat - 48 : Nat) : Int) := by rw [IntKind.wrap_u8]; omega
          rw [w1, wrapI (n := ((b.toNat - 48 : Nat) : Int)) (by omega) (by omega), wrapI (n := 10 * (n : Int)) (by omega) (by omega), wrapI (by omega) (by omega)]
          congr 4
          have : (10 : Int) * (n : Int) + ((b.toNat - 48 : Nat) : Int) = ((n * 10 + (b.toNat - 48) : Nat) : Int) := by push_cast; omega
          rw [this]
        rw [loop_go hgo, ih (n * 10 + (b.toNat - 48)) (k + 1) (by omega) (by omega) (by
          rw [show k + 1 - a = (k - a) + 1 by omega, Nat.pow_succ]; omega)]
        congr 4
        simp only [List.length_cons]
        congr 1
        omega
      · have hd' : ¬(48 ≤ b.toNat ∧ b.toNat ≤ 57) := fun h => hd (isDig_iff.2 h)
        rw [if_neg hd]
        refine loop_end ?_
        unfold B_s_l15Int_0
        simp only
        rw [decide_eq_true (by omega), cT, wrapI (n := (a : Int) + 4) (by omega) (by omega), decide_eq_true (by omega), cT, getI_nat, e, obs]
        by_cases c : 48 ≤ b.toNat
        · rw [decide_eq_true (by omega), cT, obs, decide_eq_false (by omega), cF]
          rfl
        · rw [decide_eq_false (by omega), cF]
          rfl
    · rw [digs_end _ (by omega)]
      refine loop_end ?_
      unfold B_s_l15Int_0
      simp only
      rw [decide_eq_false (by omega), cF]
      rfl

def badD (d : Str) : Prop := d = [] ∨ (d.head? = some 48 ∧ 1 < d.length)
instance (d : Str) : Decidable (badD d) := by unfold badD; infer_instance
/-- A number from a place on: it, and the place behind, or -1. -/
def intAt (s : Str) (a : Nat) : Int × Int := let d := digs s 4 a; if badD d then (-1, (a : Int)) else ((valF 0 d : Nat), ((a + d.length : Nat) : Int))

theorem s_l15Int {s : Str} (hs : s.length < 4611686018427387904) {a : Nat} (ha : a < 4611686018427387904) : F_s_l15Int s (a : Int) = some (intAt s a) := by
  unfold F_s_l15Int intAt
  have h := int_loop hs ha 4 0 a rfl (Nat.le_refl _) (by simp)
  have h' : loopM (fun (t : (Str × (Int × (Int × Int)))) => B_s_l15Int_0 t.1 t.2.1 t.2.2.1 t.2.2.2) (s, (a : Int), (0 : Int), (a : Int)) = _ := h
  rw [h', obs]
  have hl := digs_len s 4 a
  have h0 := digs_at s 4 a 0
  cases hd : digs s 4 a with
  | nil =>
    have hb0 : badD ([] : Str) := Or.inl rfl
    simp only [hb0, if_true, List.length_nil, Nat.add_zero, beq_self_eq_true, cond_true]
  | cons b t =>
    rw [hd] at hl h0
    have hb : s[a]? = some b := by
      have := h0 (by simp)
      rw [Nat.add_zero] at this
      rw [this]
      rfl
    have hlb := getL hb
    simp only [List.length_cons] at hl ⊢
    rw [show (((a + (t.length + 1) : Nat) : Int) == (a : Int)) = false by simp; omega, cF, getI_nat, hb, obs]
    by_cases c : b = 48
    · subst c
      rw [show ((((48 : UInt8).toNat : Nat) : Int) == 48) = true from rfl, cT, wrapI (by omega) (by omega)]
      by_cases c2 : t.length = 0
      · have hn : ¬ badD (48 :: t) := by
          rintro (h | ⟨_, h⟩)
          · cases h
          · simp at h; omega
        rw [decide_eq_false (by omega), cF, if_neg hn]
      · rw [decide_eq_true (by omega), cT, if_pos (show badD (48 :: t) from Or.inr ⟨rfl, by simp; omega⟩)]
    · have c' : ¬ b.toNat = 48 := fun h => c (u8_eq48.2 h)
      have hn : ¬ badD (b :: t) := by
        rintro (h | ⟨h, _⟩)
        · cases h
        · exact c (Option.some.inj h)
      rw [show ((((b.toNat : Nat) : Int)) == 48) = false by simp; omega, cF, if_neg hn]
end Go.Proofs.YtnhibkgoinnmcaaDoor.Ev
