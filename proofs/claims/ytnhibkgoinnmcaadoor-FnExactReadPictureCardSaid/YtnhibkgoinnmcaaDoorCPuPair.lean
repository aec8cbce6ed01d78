/- Two numbers that are read with a byte between. -/
import Derived.Test.YtnhibkgoinnmcaaDoorCPuInt
namespace Go.Proofs.YtnhibkgoinnmcaaDoor.Ev
open Go
set_option linter.unusedVariables false
set_option linter.unusedSimpArgs false
set_option linter.unusedSectionVars false

def pairAt (s : Str) (a : Nat) (b : Nat) : Int × Int × Int :=
  let d := digs s 4 a
  if badD d ∨ (s[a + d.length]?).map (·.toNat) ≠ some b then (-1, -1, (a : Int)) else (((valF 0 d : Nat) : Int), intAt s (a + d.length + 1))
theorem s_l15Pair {s : Str} (hs : s.length < 4611686018427387904) {a : Nat} (ha : a < 4611686018427387000) (b : Nat) : F_s_l15Pair s (a : Int) (b : Int) = some (pairAt s a b) := by
  unfold F_s_l15Pair pairAt
  rw [s_l15Int hs (by omega), obs]
  have hl := digs_len s 4 a
  have hat := digs_at s 4 a
  unfold intAt
  simp only
  by_cases hb : badD (digs s 4 a)
  · rw [if_pos hb, if_pos (.inl hb)]
    rfl
  · rw [if_neg hb]
    simp only
    generalize hd : digs s 4 a = d at *
    have hne : d ≠ [] := fun h => hb (.inl h)
    have hpos : 0 < d.length := List.length_pos_iff.2 hne
    have hle : a + d.length ≤ s.length := by
      have h1 := hat (d.length - 1) (by omega)
      rw [List.getElem?_eq_getElem (l := d) (by omega)] at h1
      have := getL h1
      omega
    rw [decide_eq_false (by omega), cF]
    by_cases he : a + d.length = s.length
    · rw [show (((a + d.length : Nat) : Int) == (s.length : Int)) = true by simp; omega, cT, if_pos]
      right
      rw [List.getElem?_eq_none (by omega)]
      simp
    · rw [show (((a + d.length : Nat) : Int) == (s.length : Int)) = false by simp; omega, cF, getI_nat]
      obtain ⟨c, hc⟩ : ∃ c, s[a + d.length]? = some c := ⟨_, List.getElem?_eq_getElem (by omega)⟩
      rw [hc, obs]
      by_cases hcb : c.toNat = b
      · rw [show (((c.toNat : Nat) : Int) != (b : Int)) = false by simp [bne, hcb], cF, wrapI (by omega) (by omega), if_neg]
        · have := s_l15Int hs (a := a + d.length + 1) (by omega)
          rw [show (((a + d.length : Nat) : Int) + 1) = ((a + d.length + 1 : Nat) : Int) by omega, this, obs]
          rfl
        · rintro (h | h)
          · exact hb h
          · exact h (by simp [hcb])
      · rw [show (((c.toNat : Nat) : Int) != (b : Int)) = true by simp [bne]; omega, cT, if_pos]
        right
        simp [hcb]

theorem drop_get {s : Str} {a : Nat} {X Y : Str} (h : s.drop a = X ++ Y) (i : Nat) : s[a + X.length + i]? = Y[i]? := by
  have : (s.drop a)[X.length + i]? = Y[i]? := by rw [h, List.getElem?_append_right (by omega)]; congr 1; omega
  rw [List.getElem?_drop] at this
  rw [← this]; congr 1; omega
theorem drop_drop' {s : Str} {a : Nat} {X Y : Str} (h : s.drop a = X ++ Y) : s.drop (a + X.length) = Y := by
  rw [← List.drop_drop, h]; simp
theorem digs_drop (s : Str) (n a : Nat) : digs s n a = digs (s.drop a) n 0 := by unfold digs; rw [List.drop_zero]
theorem drop_len {s : Str} {a : Nat} {X Y : Str} (h : s.drop a = X ++ Y) (hx : X ≠ []) : a + X.length + Y.length = s.length := by
  have := congrArg List.length h
  rw [List.length_drop, List.length_append] at this
  have := List.length_pos_iff.2 hx
  omega

theorem canon_digs' {d t : Str} {n : Nat} (h : Canon d) (hn : d.length ≤ n) (hb : ∀ b, t.head? = some b → isDig b = false) : digs (d ++ t) n 0 = d := by
  unfold digs
  rw [List.drop_zero]
  have key : ∀ (d : Str) (n : Nat), (∀ b ∈ d, isDig b = true) → d.length ≤ n → ((d ++ t).take n).takeWhile isDig = d := by
    intro d
    induction d with
    | nil =>
      intro n _ _
      cases n with
      | zero => simp
      | succ n =>
        cases t with
        | nil => simp
        | cons b t => simp [hb b rfl]
    | cons b d ih =>
      intro n hd hn
      cases n with
      | zero => simp at hn
      | succ n =>
        rw [List.cons_append, List.take_succ_cons, List.takeWhile_cons, if_pos (hd b (by simp)), ih n (fun x hx => hd x (List.mem_cons_of_mem _ hx)) (by simpa using hn)]
  exact key d n h.1 hn
theorem good_of_canon {d : Str} (h : Canon d) : ¬ badD d := by
  rintro (h1 | h1)
  · exact h.2.1 h1
  · exact h.2.2 h1

/-- Where a text of two numbers stands. -/
theorem pairAt_num {s : Str} {a : Nat} {m v : Nat} {c : UInt8} {t : Str} (h : s.drop a = Lib.decDigits m ++ (c :: (Lib.decDigits v ++ t))) (hm : m ≤ 9999) (hv : v ≤ 9999) (hc : isDig c = false)
    (ht : ∀ b, t.head? = some b → isDig b = false) : pairAt s a c.toNat = ((m : Int), (v : Int), ((a + (Lib.decDigits m).length + 1 + (Lib.decDigits v).length : Nat) : Int)) := by
  obtain ⟨m1, m2, _⟩ := canon_dec m
  obtain ⟨v1, v2, _⟩ := canon_dec v
  have e1 : digs s 4 a = Lib.decDigits m := by
    rw [digs_drop, h]
    exact canon_digs' m1 (dec_len4.2 hm) (fun b hb => by cases hb; exact hc)
  have h2 : s.drop (a + (Lib.decDigits m).length + 1) = Lib.decDigits v ++ t := by
    rw [← List.drop_drop, drop_drop' h]; rfl
  have e2 : digs s 4 (a + (Lib.decDigits m).length + 1) = Lib.decDigits v := by
    rw [digs_drop, h2]
    exact canon_digs' v1 (dec_len4.2 hv) ht
  have e3 := drop_get h 0
  rw [Nat.add_zero] at e3
  unfold pairAt intAt
  simp only [e1, e2]
  rw [if_neg, if_neg (good_of_canon v1), m2, v2]
  rintro (hb | hb)
  · exact good_of_canon m1 hb
  · exact hb (by rw [e3]; rfl)
end Go.Proofs.YtnhibkgoinnmcaaDoor.Ev
