/- Numbers that are read: the two readings agree. -/
import Derived.Test.YtnhibkgoinnmcaaDoorCPuInt
import Derived.Test.YtnhibkgoinnmcaaDoorCPuItoa
namespace Go.Proofs.YtnhibkgoinnmcaaDoor.Ev
open Go
set_option linter.unusedVariables false
set_option linter.unusedSimpArgs false
set_option linter.unusedSectionVars false

theorem itoa_inj {v w : Int} (hv : -9999 ≤ v ∧ v ≤ 9999) (hw : -9999 ≤ w ∧ w ≤ 9999) (h : Lib.itoa v = Lib.itoa w) : v = w := by
  have h1 := atoi_itoa hv.1 hv.2
  rw [h, atoi_itoa hw.1 hw.2] at h1
  cases h1; rfl
/-- What a number's text reads as. -/
def rdNum (s : Str) : Int × Bool := match Lib.atoiAll s with | .ok v => if -9999 ≤ v ∧ v ≤ 9999 ∧ Lib.itoa v = s then (v, true) else (0, false) | _ => (0, false)
theorem rdNum_is {v : Int} (h : -9999 ≤ v ∧ v ≤ 9999) : rdNum (Lib.itoa v) = (v, true) := by
  unfold rdNum
  rw [atoi_itoa h.1 h.2]
  simp only
  rw [if_pos ⟨h.1, h.2, trivial⟩]
theorem rdNum_cases (s : Str) : (∃ v : Int, -9999 ≤ v ∧ v ≤ 9999 ∧ s = Lib.itoa v ∧ rdNum s = (v, true)) ∨ (rdNum s = (0, false) ∧ ∀ v : Int, -9999 ≤ v → v ≤ 9999 → s ≠ Lib.itoa v) := by
  by_cases h : ∃ v : Int, -9999 ≤ v ∧ v ≤ 9999 ∧ s = Lib.itoa v
  · obtain ⟨v, h0, h1, rfl⟩ := h
    exact .inl ⟨v, h0, h1, rfl, rdNum_is ⟨h0, h1⟩⟩
  · refine .inr ⟨?_, fun v h0 h1 h2 => h ⟨v, h0, h1, h2⟩⟩
    unfold rdNum
    split
    · rw [if_neg]
      rintro ⟨h0, h1, h2⟩
      exact h ⟨_, h0, h1, h2.symm⟩
    · rfl

theorem i_isNum (n : Int) : F_i_isNumber n = some (decide (-9999 ≤ n ∧ n ≤ 9999)) := by
  unfold F_i_isNumber F_i_within
  by_cases h : n ≥ -9999
  · rw [decide_eq_true h, cT, obs]; congr 1; simp; omega
  · rw [decide_eq_false h, cF, obs]; congr 1; simp; omega

theorem i_ReadNumber {s : Str} (hs : s.length ≤ 281474976710656) : F_i_ReadNumber s = some (rdNum s) := by
  unfold F_i_ReadNumber F_strconv_Atoi F_atoi rdNum atoiV
  rw [if_pos hs, obs]
  cases hz : Lib.atoiAll s with
  | ok v =>
    simp only [cF, i_isNum, obs]
    by_cases h : -9999 ≤ v ∧ v ≤ 9999
    · rw [decide_eq_true h, nT, cF, l_Itoa (by omega) (by omega), obs]
      by_cases h2 : Lib.itoa v = s
      · rw [if_pos ⟨h.1, h.2, h2⟩, h2, beq_self_eq_true, nT, cF]
      · rw [if_neg (fun hh => h2 hh.2.2), beq_eq_false_iff_ne.2 h2, nF, cT]
    · rw [decide_eq_false h, nF, cT, if_neg (fun hh => h ⟨hh.1, hh.2.1⟩)]
  | range => rfl
  | _ => rfl

theorem canon_digs {d t : Str} {n : Nat} (h : Canon d) (hn : d.length ≤ n) (hb : ∀ b, t.head? = some b → isDig b = false) : digs (d ++ t) n 0 = d := by
  unfold digs
  rw [List.drop_zero]
  have key : ∀ (d : Str) (n : Nat), (∀ b ∈ d, isDig b = true) → d.length ≤ n → ((d ++ t).take n).takeWhile isDig = d := by
    intro d
    induction d with
    | nil =>
      intro n _ _
      cases n with
      | zero => simp
      | succ n =>
        cases t with
        | nil => simp
        | cons b t => simp [hb b rfl]
    | cons b d ih =>
      intro n hd hn
      cases n with
      | zero => simp at hn
      | succ n =>
        rw [List.cons_append, List.take_succ_cons, List.takeWhile_cons, if_pos (hd b (by simp)), ih n (fun x hx => hd x (List.mem_cons_of_mem _ hx)) (by simpa using hn)]
  exact key d n h.1 hn
theorem canon_good {d : Str} (h : Canon d) : ¬ badD d := by
  rintro (h1 | h1)
  · exact h.2.1 h1
  · exact h.2.2 h1
theorem good_canon {s : Str} {n k : Nat} (h : ¬ badD (digs s n k)) : Canon (digs s n k) := ⟨digs_dig s n k, fun h1 => h (.inl h1), fun h1 => h (.inr h1)⟩

/-- The text is one number, of four digits at most. -/
theorem intAt_num (u : Nat) (hu : u ≤ 9999) : intAt (Lib.decDigits u) 0 = ((u : Int), ((Lib.decDigits u).length : Int)) := by
  obtain ⟨h1, h2, _⟩ := canon_dec u
  have hd := canon_digs (t := []) h1 (dec_len4.2 hu) (by simp)
  rw [List.append_nil] at hd
  unfold intAt
  simp only [hd, if_neg (canon_good h1), h2, Nat.zero_add]
theorem intAt_cases (t : Str) : (∃ u : Nat, u ≤ 9999 ∧ t = Lib.decDigits u) ∨ ((intAt t 0).1 < 0 ∨ (intAt t 0).2 < (t.length : Int)) := by
  by_cases hb : badD (digs t 4 0)
  · right; left
    unfold intAt
    simp only [if_pos hb]
    omega
  · have hc := good_canon hb
    have hl := digs_len t 4 0
    by_cases hh : (digs t 4 0).length < t.length
    · right; right
      unfold intAt
      simp only [if_neg hb, Nat.zero_add]
      omega
    · left
      have he : digs t 4 0 = t := by
        have h1 : (digs t 4 0).length ≤ t.length := by
          have := (List.takeWhile_sublist isDig (l := (t.drop 0).take 4)).length_le
          have h2 := List.length_take_le' 4 (t.drop 0)
          unfold digs
          simp only [List.drop_zero] at this h2 ⊢
          omega
        refine List.ext_getElem (by omega) fun i h2 h3 => ?_
        have := digs_at t 4 0 i h2
        rw [Nat.zero_add, List.getElem?_eq_getElem h3, List.getElem?_eq_getElem h2] at this
        exact (Option.some.inj this).symm
      refine ⟨valF 0 (digs t 4 0), ?_, ?_⟩
      · have := valF_le _ (digs_dig t 4 0)
        have h2 : 10 ^ (digs t 4 0).length ≤ 10 ^ 4 := Nat.pow_le_pow_right (by omega) hl
        omega
      · rw [dec_canon _ _ rfl hc, he]

theorem sub1 {s : Str} {b : UInt8} : (subI (1 : Int) (((b :: s).length : Nat) : Int) (b :: s).length) = some (1, (b :: s).length) := by
  unfold subI
  rw [if_pos (by simp only [List.length_cons]; omega)]
  simp

theorem s_ReadNumber {s : Str} (hs : s.length < 4611686018427387904) : F_s_ReadNumber s = some (rdNum s) := by
  unfold F_s_ReadNumber
  cases s with
  | nil =>
    rw [show decide ((((([] : Str).length) : Nat) : Int) > 0) = false from rfl, cF, obs]
    simp only [Sum.elim_inr]
    rw [cF, obs]
    simp only [Sum.elim_inr]
    rw [show ((0 : Int)) = ((0 : Nat) : Int) from rfl, s_l15Int hs (by omega), obs]
    rcases rdNum_cases ([] : Str) with ⟨v, h0, h1, h2, _⟩ | ⟨h, _⟩
    · exfalso
      unfold Lib.itoa at h2
      split at h2
      · cases h2
      · exact (canon_dec _).1.2.1 h2.symm
    · rw [h]
      have : intAt ([] : Str) 0 = (-1, 0) := by
        unfold intAt
        simp only [digs_end 4 (show ([] : Str).length ≤ 0 by simp)]
        rfl
      rw [this]
      rfl
  | cons b t =>
    rw [decide_eq_true (show (((((b :: t)).length : Nat) : Int) > 0) by simp only [List.length_cons]; omega), cT]
    have hg : getI (b :: t) 0 = some b := rfl
    rw [hg, obs, obs]
    simp only [Sum.elim_inr]
    have hlt : t.length < 4611686018427387904 := by simp only [List.length_cons] at hs; omega
    by_cases hb : b.toNat = 45
    · have hb' : b = 45 := UInt8.toNat_inj.1 (show b.toNat = (45 : UInt8).toNat from hb)
      subst hb'
      rw [show ((((45 : UInt8).toNat : Nat) : Int) == 45) = true from rfl, cT, sub1, obs, obs]
      simp only [Sum.elim_inr]
      rw [List.take_length, show List.drop 1 ((45 : UInt8) :: t) = t from rfl, show ((0 : Int)) = ((0 : Nat) : Int) from rfl, s_l15Int hlt (by omega), obs]
      rcases rdNum_cases ((45 : UInt8) :: t) with ⟨v, h0, h1, h2, h3⟩ | ⟨h3, h4⟩
      · rw [h3]
        have hv : v < 0 := by
          rcases Int.lt_or_le v 0 with h | h
          · exact h
          · unfold Lib.itoa at h2
            rw [if_neg (by omega)] at h2
            exact absurd h2.symm dec_ne_minus
        have ht : t = Lib.decDigits v.natAbs := by
          unfold Lib.itoa at h2
          rw [if_pos hv] at h2
          exact (List.cons.inj h2).2
        rw [ht, intAt_num _ (by omega)]
        simp only
        rw [decide_eq_false (by omega), cF, decide_eq_false (by omega), cF, cT, show (((v.natAbs : Nat) : Int) == ((0 : Nat) : Int)) = false by simp; omega, cF, obs]
        simp only [Sum.elim_inr, cT]
        rw [wrapI (by omega) (by omega)]
        congr 2; omega
      · rw [h3]
        rcases intAt_cases t with ⟨u, hu, rfl⟩ | h
        · rw [intAt_num _ hu]
          simp only
          rw [decide_eq_false (by omega), cF, decide_eq_false (by omega), cF, cT]
          by_cases hu0 : u = 0
          · subst hu0
            rw [show ((((0 : Nat) : Int)) == ((0 : Nat) : Int)) = true from rfl, cT, obs]
            rfl
          · exfalso
            refine h4 (-(u : Int)) (by omega) (by omega) ?_
            unfold Lib.itoa
            rw [if_pos (by omega), Int.natAbs_neg, Int.natAbs_natCast]
        · by_cases hn : (intAt t 0).1 < 0
          · rw [decide_eq_true (show (intAt t 0).1 < ((0 : Nat) : Int) from hn), cT, obs]; rfl
          · have h := h.resolve_left hn
            rw [decide_eq_false (show ¬ (intAt t 0).1 < ((0 : Nat) : Int) from hn), cF, decide_eq_true h, cT, obs]; rfl
    · rw [show (((b.toNat : Nat) : Int) == 45) = false by simp; omega, cF, obs]
      simp only [Sum.elim_inr]
      rw [show ((0 : Int)) = ((0 : Nat) : Int) from rfl, s_l15Int hs (by omega), obs]
      rcases rdNum_cases (b :: t) with ⟨v, h0, h1, h2, h3⟩ | ⟨h3, h4⟩
      · rw [h3]
        have hv : ¬ v < 0 := by
          intro h
          unfold Lib.itoa at h2
          rw [if_pos h] at h2
          exact hb (by rw [(List.cons.inj h2).1]; rfl)
        have ht : b :: t = Lib.decDigits v.toNat := by
          unfold Lib.itoa at h2
          rw [if_neg hv] at h2
          exact h2
        rw [ht, intAt_num _ (by omega)]
        simp only
        rw [decide_eq_false (by omega), cF, decide_eq_false (by omega), cF, cF, obs]
        simp only [Sum.elim_inr, cF]
        congr 2; omega
      · rw [h3]
        rcases intAt_cases (b :: t) with ⟨u, hu, he⟩ | h
        · exfalso
          refine h4 (u : Int) (by omega) (by omega) ?_
          unfold Lib.itoa
          rw [if_neg (by omega), Int.toNat_natCast, he]
        · by_cases hn : (intAt (b :: t) 0).1 < 0
          · rw [decide_eq_true (show (intAt (b :: t) 0).1 < ((0 : Nat) : Int) from hn), cT, obs]; rfl
          · have h := h.resolve_left hn
            rw [decide_eq_false (show ¬ (intAt (b :: t) 0).1 < ((0 : Nat) : Int) from hn), cF, decide_eq_true h, cT, obs]; rfl
end Go.Proofs.YtnhibkgoinnmcaaDoor.Ev
