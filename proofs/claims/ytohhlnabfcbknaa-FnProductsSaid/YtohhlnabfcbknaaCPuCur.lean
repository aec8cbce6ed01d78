/- The draws' cursor: it never fails. -/
import Derived.Test.YtohhlnabfcbknaaCPuBase
import Derived.Test.YtohhlnabfcbknaaCLawFnProducts
namespace Go.Proofs.Ytohhlnabfcbknaa.Ev
open Go
set_option linter.unusedVariables false
set_option linter.unusedSimpArgs false
set_option linter.unusedSectionVars false

theorem and255 (a : Int) : 0 ≤ andI .u64 a 255 ∧ andI .u64 a 255 ≤ 255 := by
  unfold andI
  have h : ((BitVec.ofInt (IntKind.bits .u64) a &&& BitVec.ofInt (IntKind.bits .u64) 255).toNat) ≤ 255 := by
    rw [BitVec.toNat_and]
    exact Nat.le_trans Nat.and_le_right (by decide)
  rw [wrapU (by omega) (by omega)]
  omega

theorem next_ok {B : Nat} {c : List Int × Int × Int} (h : Cur B c) (hB : B ≤ 1125899906842624) : ∃ c' v, F_s_l1Cur_next c = some (c', v) ∧ Cur (B + 1) c' ∧ 0 ≤ v ∧ v ≤ 255 := by
  obtain ⟨l, i, s⟩ := c
  obtain ⟨h1, h2, h3, h4, h5, h6⟩ := h
  simp only at h1 h2 h3 h4 h5 h6
  have w1 : IntKind.wrap .i64 (i + 1) = i + 1 := wrapI (by omega) (by omega)
  have hcur : ∀ x : Int, Cur (B + 1) (l, i + 1, IntKind.wrap .u64 x) := fun x => ⟨h1, h2, by simp only; omega, by simp only; omega, (wrapU' x).1, (wrapU' x).2⟩
  unfold F_s_l1Cur_next
  by_cases hi : i < (l.length : Int)
  · obtain ⟨a, ha, hm⟩ := getI_lt h3 hi
    have hb := h1 a (List.mem_of_getElem? hm)
    have hd : decide (i < (l.length : Int)) = true := by simpa using hi
    have hd2 : decide (i + 1 ≤ (l.length : Int)) = true := by simp; omega
    simp only [hd, cond_true, ha, Option.bind_some, Sum.elim_inr, w1, hd2, wrapI (show -9223372036854775808 ≤ a by omega) (show a ≤ 9223372036854775807 by omega)]
    exact ⟨_, _, rfl, hcur _, hb.1, hb.2⟩
  · have hd : decide (i < (l.length : Int)) = false := by simpa using hi
    have hd2 : decide (i + 1 ≤ (l.length : Int)) = false := by simp; omega
    simp only [hd, cond_false, Option.bind_some, Sum.elim_inr, w1, hd2]
    refine ⟨_, _, rfl, hcur _, ?_⟩
    have := and255 (shrI .u64 (IntKind.wrap .u64 (IntKind.wrap .u64 (IntKind.wrap .u64 (s * 6364136223846793005) + IntKind.wrap .u64 0) + 1442695040888963407)) 40)
    rw [wrapI (by omega) (by omega)]
    exact this

theorem tmod_lt {a n : Int} (h0 : 0 ≤ a) (hn : 1 < n) : 0 ≤ a.tmod n ∧ a.tmod n < n := by
  rw [Int.tmod_eq_emod_of_nonneg h0]
  exact ⟨Int.emod_nonneg _ (by omega), Int.emod_lt_of_pos _ (by omega)⟩

theorem pick_ok {B : Nat} {c : List Int × Int × Int} (h : Cur B c) (hB : B ≤ 1000000000000000) (n : Int) : ∃ c' v, F_s_l1Cur_pick c n = some (c', v) ∧ Cur (B + 2) c' ∧ 0 ≤ v ∧ (1 ≤ n → v < n) := by
  unfold F_s_l1Cur_pick
  by_cases h1 : n ≤ 1
  · have hd : decide (n ≤ 1) = true := by simpa using h1
    simp only [hd, cond_true]
    exact ⟨_, _, rfl, h.mono (by omega), by omega, by omega⟩
  · have hd : decide (n ≤ 1) = false := by simpa using h1
    have hz : (n == 0) = false := by simp; omega
    obtain ⟨c1, v1, e1, q1, b1, b2⟩ := next_ok h (by omega)
    simp only [hd, cond_false, e1, Option.bind_some, hz]
    by_cases h2 : n > 200
    · obtain ⟨c2, v2, e2, q2, b3, b4⟩ := next_ok q1 (by omega)
      have hd2 : decide (n > 200) = true := by simpa using h2
      simp only [hd2, cond_true, e2, Option.bind_some]
      refine ⟨_, _, rfl, q2.mono (by omega), ?_⟩
      rw [wrapI (by rw [wrapI (by omega) (by omega)]; omega) (by rw [wrapI (by omega) (by omega)]; omega), wrapI (by omega) (by omega)]
      have := tmod_lt (a := v1 * 256 + v2) (n := n) (by omega) (by omega)
      exact ⟨this.1, fun _ => this.2⟩
    · have hd2 : decide (n > 200) = false := by simpa using h2
      simp only [hd2, cond_false]
      have := tmod_lt (a := v1) (n := n) (by omega) (by omega)
      exact ⟨_, _, rfl, q1.mono (by omega), this.1, fun _ => this.2⟩

theorem one_ok {B : Nat} {c : List Int × Int × Int} (h : Cur B c) (hB : B ≤ 1000000000000000) (n : Int) : ∃ c' v, F_s_l1Cur_one c n = some (c', v) ∧ Cur (B + 2) c' := by
  unfold F_s_l1Cur_one
  obtain ⟨c1, v1, e1, q1, _⟩ := pick_ok h hB n
  simp only [e1, Option.bind_some]
  exact ⟨_, _, rfl, q1⟩

theorem among_ok {B : Nat} {c : List Int × Int × Int} (h : Cur B c) (hB : B ≤ 1000000000000000) (l : List Int) (h1 : 1 ≤ l.length) (h2 : l.length < 1000000) : ∃ c' v, F_s_l1Cur_among c l = some (c', v) ∧ Cur (B + 2) c' ∧ v ∈ l := by
  unfold F_s_l1Cur_among
  obtain ⟨c1, v1, e1, q1, b1, b2⟩ := pick_ok h hB (l.length : Int)
  have := b2 (by omega)
  obtain ⟨a, ha, hm⟩ := getI_lt b1 this
  simp only [e1, Option.bind_some, ha]
  exact ⟨_, _, rfl, q1, List.mem_of_getElem? hm⟩

end Go.Proofs.Ytohhlnabfcbknaa.Ev
