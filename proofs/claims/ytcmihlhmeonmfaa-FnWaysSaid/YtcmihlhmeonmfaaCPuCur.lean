/- The draws' cursor: it never fails. -/
import Derived.Test.YtcmihlhmeonmfaaCPuBase
import Derived.Test.YtcmihlhmeonmfaaCLawFnWays
namespace Go.Proofs.Ytcmihlhmeonmfaa.Ev
open Go
set_option linter.unusedVariables false
set_option linter.unusedSimpArgs false
set_option linter.unusedSectionVars false

theorem and255 (a : Int) : 0 ≤ andI .u64 a 255 ∧ andI .u64 a 255 ≤ 255 := by
  unfold andI
  have h : ((BitVec.ofInt (IntKind.bits .u64) a &&& BitVec.ofInt (IntKind.bits .u64) 255).toNat) ≤ 255 := by
    rw [BitVec.toNat_and]
    exact Nat.le_trans Nat.and_le_right (by decide)
  rw [wrapU (by omega) (by omega)]
  omega

theorem next_ok {B : Nat} {c : List Int × Int × Int} (h : Cur B c) (hB : B ≤ 1125899906842624) : ∃ c' v, F_s_l1Cur_next c = some (c', v) ∧ Cur (B + 1) c' ∧ 0 ≤ v ∧ v ≤ 255 := by
  obtain ⟨l, i, s⟩ := c
  obtain ⟨h1, h2, h3, h4, h5, h6⟩ := h
  simp only at h1 h2 h3 h4 h5 h6
  have w1 : IntKind.wrap .i64 (i + 1) = i + 1 := wrapI (by omega) (by omega)
  have hcur : ∀ x : Int, Cur (B + 1) (l, i + 1, IntKind.wrap .u64 x) := fun x => ⟨h1, h2, by simp only; omega, by simp only; omega, (wrapU' x).1, (wrapU' x).2⟩
  unfold F_s_l1Cur_next
  by_cases hi : i < (l.length : Int)
  · obtain ⟨a, ha, hm⟩ := getI_lt h3 hi
    have hb := h1 a (List.mem_of_getElem? hm)
    have hd : decide (i < (l.length : Int)) = true := by simpa using hi
    have hd2 : decide (i + 1 ≤ (l.length : Int)) = true := by simp; omega
    simp only [hd, cond_true, ha, Option.bind_some, Sum.elim_inr, w1, hd2, wrapI (show -9223372036854775808 ≤ a by omega) (show a ≤ 9223372036854775807 by omega)]
    exact ⟨_, _, rfl, hcur _, hb.1, hb.2⟩
  · have hd : decide (i < (l.length : Int)) = false := by simpa using hi
    have hd2 : decide (i + 1 ≤ (l.length : Int)) = false := by simp; omega
    simp only [hd, cond_false, Option.bind_some, Sum.elim_inr, w1, hd2]
    refine ⟨_, _, rfl, hcur _, ?_⟩
    have := and255 (shrI .u64 (IntKind.wrap .u64 (IntKind.wrap .u64 (IntKind.wrap .u64 (s * 6364136223846793005) + IntKind.wrap .u64 0) + 1442695040888963407)) 40)
    rw [wrapI (by omega) (by omega)]
    exact this

theorem tmod_lt {a n : Int} (h0 : 0 ≤ a) (hn : 1 < n) : 0 ≤ a.tmod n ∧ a.tmod n < n := by
  rw [Int.tmod_eq_emod_of_nonneg h0]
  exact ⟨Int.emod_nonneg _ (by omega), Int.emod_lt_of_pos _ (by omega)⟩

theorem pick_ok {B : Nat} {c : List Int × Int × Int} (h : Cur B c) (hB : B ≤ 1000000000000000) (n : Int) : ∃ c' v, F_s_l1Cur_pick c n = some (c', v) ∧ Cur (B + 2) c' ∧ 0 ≤ v ∧ (1 ≤ n → v < n) := by
  unfold F_s_l1Cur_pick
  by_cases h1 : n ≤ 1
  · have hd : decide (n ≤ 1) = true := by simpa using h1
    simp only [hd, cond_true]
    exact ⟨_, _, rfl, h.mono (by omega), by omega, by omega⟩
  · have hd : decide (n ≤ 1) = false := by simpa using h1
    have hz : (n == 0) = false := by simp; omega
    obtain ⟨c1, v1, e1, q1, b1, b2⟩ := next_ok h (by omega)
    simp only [hd, cond_false, e1, Option.bind_some, hz]
    by_cases h2 : n > 200
    · obtain ⟨c2, v2, e2, q2, b3, b4⟩ := next_ok q1 (by omega)
      have hd2 : decide (n > 200) = true := by simpa using h2
      simp only [hd2, cond_true, e2, Option.bind_some]
      refine ⟨_, _, rfl, q2.mono (by omega), ?_⟩
      rw [wrapI (by rw [wrapI (by omega) (by omega)]; omega) (by rw [wrapI (by omega) (by omega)]; omega), wrapI (by omega) (by omega)]
      have := tmod_lt (a := v1 * 256 + v2) (n := n) (by omega) (by omega)
      exact ⟨this.1, fun _ => this.2⟩
    · have hd2 : decide (n > 200) = false := by simpa using h2
      simp only [hd2, cond_false]
      have := tmod_lt (a := v1) (n := n) (by omega) (by omega)
      exact ⟨_, _, rfl, q1.mono (by omega), this.1, fun _ => this.2⟩

theorem one_ok {B : Nat} {c : List Int × Int × Int} (h : Cur B c) (hB : B ≤ 1000000000000000) (n : Int) : ∃ c' v, F_s_l1Cur_one c n = some (c', v) ∧ Cur (B + 2) c' := by
  unfold F_s_l1Cur_one
  obtain ⟨c1, v1, e1, q1, _⟩ := pick_ok h hB n
  simp only [e1, Option.bind_some]
  exact ⟨_, _, rfl, q1⟩

theorem among_ok {B : Nat} {c : List Int × Int × Int} (h : Cur B c) (hB : B ≤ 1000000000000000) (l : List Int) (h1 : 1 ≤ l.length) (h2 : l.length < 1000000) : ∃ c' v, F_s_l1Cur_among c l = some (c', v) ∧ Cur (B + 2) c' ∧ v ∈ l := by
  unfold F_s_l1Cur_among
  obtain ⟨c1, v1, e1, q1, b1, b2⟩ := pick_ok h hB (l.length : Int)
  have := b2 (by omega)
  obtain ⟨a, ha, hm⟩ := getI_lt b1 this
  simp only [e1, Option.bind_some, ha]
  exact ⟨_, _, rfl, q1, List.mem_of_getElem? hm⟩

/-- A drawn point. -/
structure GP (p : Int × Int) : Prop where
  a : -1000 ≤ p.1
  b : p.1 ≤ 1001
  c : -2 ≤ p.2
  d : p.2 ≤ 8

theorem pt_ok {B : Nat} {c : List Int × Int × Int} (h : Cur B c) (hB : B ≤ 100000000000000) : ∃ c' v, F_s_l1Cur_pt c = some (c', v) ∧ Cur (B + 8) c' ∧ GP v := by
  unfold F_s_l1Cur_pt
  obtain ⟨c1, v1, e1, q1⟩ := one_ok h (by omega) 40
  simp only [e1, Option.bind_some]
  cases v1
  · obtain ⟨c2, v2, e2, q2, a2, b2⟩ := pick_ok q1 (by omega) 9
    obtain ⟨c3, v3, e3, q3, a3, b3⟩ := pick_ok q2 (by omega) 9
    simp only [cond_false, e2, e3, Option.bind_some]
    have b2 := b2 (by omega)
    have b3 := b3 (by omega)
    refine ⟨_, _, rfl, q3.mono (by omega), ?_⟩
    rw [wrapI (by omega) (by omega), wrapI (by omega) (by omega)]
    constructor <;> simp only <;> omega
  · obtain ⟨c2, v2, e2, q2, m2⟩ := among_ok q1 (by omega) [-(1000 : Int), 1000, 1001] (by simp) (by simp)
    obtain ⟨c3, v3, e3, q3, a3, b3⟩ := pick_ok q2 (by omega) 5
    simp only [cond_true, e2, e3, Option.bind_some]
    have b3 := b3 (by omega)
    refine ⟨_, _, rfl, q3.mono (by omega), ?_⟩
    simp at m2
    constructor <;> simp only <;> omega

/-- A drawn way. -/
structure GW (l : List (Int × Int)) : Prop where
  pts : ∀ p ∈ l, GP p
  lo : 3 ≤ l.length
  hi : l.length ≤ 13

theorem gp_snoc {l : List (Int × Int)} {p : Int × Int} (h : ∀ q ∈ l, GP q) (hp : GP p) : ∀ q ∈ l ++ [p], GP q := by
  intro q hq
  rcases List.mem_append.1 hq with h1 | h1
  · exact h q h1
  · cases List.mem_singleton.1 h1; exact hp

theorem way_ok {B : Nat} {c : List Int × Int × Int} (h : Cur B c) (hB : B ≤ 10000000000000) : ∃ c' l, F_s_l1Cur_way c = some (c', l) ∧ Cur (B + 500) c' ∧ GW l := by
  unfold F_s_l1Cur_way
  obtain ⟨c0, v0, e0, q0, a0, b0⟩ := pick_ok h (by omega) 4
  simp only [e0, Option.bind_some]
  by_cases h0 : v0 = 0
  · have : (v0 == 0) = true := by simp [h0]
    obtain ⟨c1, v1, e1, q1, a1, b1⟩ := pick_ok q0 (by omega) 6
    obtain ⟨c2, v2, e2, q2, a2, b2⟩ := pick_ok q1 (by omega) 2
    obtain ⟨c3, v3, e3, q3, a3, b3⟩ := pick_ok q2 (by omega) 3
    obtain ⟨c4, v4, e4, q4, a4, b4⟩ := pick_ok q3 (by omega) 5
    obtain ⟨c5, v5, e5, q5, a5, b5⟩ := pick_ok q4 (by omega) 2
    obtain ⟨c6, v6, e6, q6, a6, b6⟩ := pick_ok q5 (by omega) 5
    have b1 := b1 (by omega); have b2 := b2 (by omega); have b3 := b3 (by omega); have b4 := b4 (by omega); have b5 := b5 (by omega); have b6 := b6 (by omega)
    simp only [this, cond_true, e1, e2, e3, e4, e5, e6, Option.bind_some]
    rw [wrapI (by omega) (by omega), wrapI (by omega) (by omega), wrapI (by omega) (by omega), wrapI (by omega) (by omega)]
    refine ⟨_, _, rfl, q6.mono (by omega), ?_, by simp, by simp⟩
    intro p hp
    simp only [List.mem_cons, List.not_mem_nil, or_false] at hp
    rcases hp with rfl | rfl | rfl | rfl <;> constructor <;> simp only <;> omega
  · have t0 : (v0 == 0) = false := by simp [h0]
    by_cases h1 : v0 = 1
    · have t1 : (v0 == 1) = true := by simp [h1]
      obtain ⟨c1, v1, e1, q1, a1, b1⟩ := pick_ok q0 (by omega) 4
      obtain ⟨c2, v2, e2, q2, a2, b2⟩ := pick_ok q1 (by omega) 4
      have b1 := b1 (by omega); have b2 := b2 (by omega)
      simp only [t0, t1, cond_true, cond_false, e1, e2, Option.bind_some]
      rw [wrapI (by omega) (by omega), wrapI (by omega) (by omega)]
      refine ⟨_, _, rfl, q2.mono (by omega), ?_, by simp, by simp⟩
      intro p hp
      simp only [List.mem_cons, List.not_mem_nil, or_false] at hp
      rcases hp with rfl | rfl | rfl | rfl | rfl | rfl | rfl | rfl <;> constructor <;> simp only <;> omega
    · have t1 : (v0 == 1) = false := by simp [h1]
      obtain ⟨c1, v1, e1, q1, a1, b1⟩ := pick_ok q0 (by omega) 4
      have b1 := b1 (by omega)
      obtain ⟨n, hn, hn1⟩ : ∃ n : Nat, (3 + v1 : Int) = (n : Int) ∧ 3 ≤ n ∧ n ≤ 6 := ⟨(3 + v1).toNat, by omega, by omega⟩
      simp only [t0, t1, cond_true, cond_false, e1, Option.bind_some]
      rw [wrapI (by omega) (by omega), hn]
      obtain ⟨⟨c2, l2⟩, e2, q2, g2, n2⟩ := down_loop (body := fun (s : (((List Int) × (Int × Int)) × ((List (Int × Int)) × Int))) => B_s_l1Cur_way_0 s.1 s.2.1 s.2.2)
        (st := fun k (b : (List Int × Int × Int) × List (Int × Int)) => (b.1, b.2, (k : Int))) (fin := fun b => b) (I := fun k b => Cur (B + 100 - 8 * k) b.1 ∧ (∀ p ∈ b.2, GP p) ∧ b.2.length + k = n)
        (by
          rintro k ⟨c, l⟩ ⟨i1, i2, i3⟩
          obtain ⟨c', v, e, q, g⟩ := pt_ok i1 (by omega)
          unfold B_s_l1Cur_way_0
          have : decide (((k + 1 : Nat) : Int) > 0) = true := decide_eq_true (by omega)
          simp only at i3
          simp only [this, cond_true, e, Option.bind_some, appL_is (l := l) (m := [(v.1, v.2)]) (b := 16) (s := 2) (by simp [maxBytes]; omega) (by simp [maxBytes]; omega)]
          rw [wrapI (by omega) (by omega), show ((k + 1 : Nat) : Int) - 1 = (k : Int) by omega]
          exact ⟨(c', l ++ [(v.1, v.2)]), rfl, q.mono (by omega), gp_snoc i2 g, by simp; omega⟩)
        (by
          rintro ⟨c, l⟩ ⟨i1, i2, i3⟩
          unfold B_s_l1Cur_way_0
          rfl) n (c1, []) ⟨q1.mono (by omega), by simp, by simp⟩
      obtain ⟨c3, v3, e3, q3⟩ := one_ok q2 (by omega) 20
      simp only at e2 n2 g2
      simp only [e2, Option.bind_some, e3]
      cases v3
      · exact ⟨_, _, rfl, q3.mono (by omega), g2, by omega, by omega⟩
      · obtain ⟨r, e4, q4, g4, n4, n5⟩ := loop_one (f := fun (s : (((List Int) × (Int × Int)) × (List (Int × Int)))) => B_s_l1Cur_way_1 s.1 s.2) (I := fun s => Cur (B + 102 + 10 * s.2.length) s.1 ∧ (∀ p ∈ s.2, GP p) ∧ 3 ≤ s.2.length ∧ s.2.length ≤ 13)
          (R := fun s => Cur (B + 400) s.1 ∧ (∀ p ∈ s.2, GP p) ∧ 3 ≤ s.2.length ∧ s.2.length ≤ 13) (fun s => 20 - s.2.length)
          (by
            rintro ⟨c, l⟩ ⟨i1, i2, i3, i4⟩
            unfold B_s_l1Cur_way_1
            simp only at i1 i2 i3 i4
            obtain ⟨c', v, e, q, a, b⟩ := pick_ok i1 (by omega) 2
            have b := b (by omega)
            simp only [e, Option.bind_some]
            rw [wrapI (by omega) (by omega)]
            by_cases hlt : (l.length : Int) < 12 + v
            · have : decide ((l.length : Int) < 12 + v) = true := by simpa using hlt
              obtain ⟨c2, v2, e2, q2, g2⟩ := pt_ok q (by omega)
              simp only [this, cond_true, e2, Option.bind_some, appL_is (l := l) (m := [(v2.1, v2.2)]) (b := 16) (s := 2) (by simp [maxBytes]; omega) (by simp [maxBytes]; omega)]
              refine .inl ⟨_, rfl, ⟨q2.mono (by simp; omega), gp_snoc i2 g2, by simp; omega, by simp; omega⟩, by simp; omega⟩
            · have : decide ((l.length : Int) < 12 + v) = false := by simpa using hlt
              simp only [this, cond_false]
              exact .inr ⟨_, rfl, q.mono (by omega), i2, i3, i4⟩) (c3, l2) ⟨q3.mono (by omega), g2, by simp only; omega, by simp only; omega⟩
        simp only [cond_true, e4, Option.bind_some]
        exact ⟨_, _, rfl, q4.mono (by omega), g4, n4, n5⟩
end Go.Proofs.Ytcmihlhmeonmfaa.Ev
