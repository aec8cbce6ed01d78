/- Long division: limbs shifted by bits, and the whole of the reference's division. -/
import Derived.Test.YtohhlnabfcbknaaCPuBigQ
namespace Go.Proofs.Ytohhlnabfcbknaa.Ev
open Go
set_option linter.unusedVariables false
set_option linter.unusedSimpArgs false
set_option linter.unusedSectionVars false

/-- Two numbers whose bits lie apart. -/
theorem orI_add {s o t : Nat} (ho : o < 2 ^ s) (h : 2 ^ s * t + o < 4611686018427387904) : orI .i64 (o : Int) ((2 ^ s * t : Nat) : Int) = ((o + 2 ^ s * t : Nat) : Int) := by
  unfold orI
  rw [BitVec.ofInt_natCast, BitVec.ofInt_natCast, BitVec.toNat_or, BitVec.toNat_ofNat, BitVec.toNat_ofNat]
  have h64 : IntKind.bits .i64 = 64 := rfl
  rw [h64, Nat.mod_eq_of_lt (by omega), Nat.mod_eq_of_lt (by omega), Nat.or_comm, ← Nat.two_pow_add_eq_or_of_lt ho, wrapI (by omega) (by omega)]
  omega

theorem shlI_nat {x : Int} {s : Nat} (hs : s ≤ 63) (h0 : -9223372036854775808 ≤ x * 2 ^ s) (h1 : x * 2 ^ s ≤ 9223372036854775807) : shlI .i64 x (IntKind.wrap .u64 (s : Int)) = x * 2 ^ s := by
  unfold shlI
  rw [wrapU (by omega) (by omega), show min ((s : Int).toNat) (IntKind.bits .i64) = s by simp [IntKind.bits]; omega, wrapI h0 h1]
theorem shrI_nat {x : Int} {s : Nat} (hs : s ≤ 63) : shrI .i64 x (IntKind.wrap .u64 (s : Int)) = x / 2 ^ s := by
  unfold shrI
  rw [wrapU (by omega) (by omega), show min ((s : Int).toNat) (IntKind.bits .i64) = s by simp [IntKind.bits]; omega]
  exact Int.fdiv_eq_ediv_of_nonneg _ (Int.le_of_lt (Int.pow_pos (by decide)))

/-- A power of two, as a factor of the base. -/
theorem two_split {s : Nat} (hs : s ≤ 16) : ∃ S T : Nat, S = 2 ^ s ∧ T = 2 ^ (16 - s) ∧ S * T = 65536 ∧ 1 ≤ S ∧ 1 ≤ T ∧ S ≤ 65536 := by
  refine ⟨2 ^ s, 2 ^ (16 - s), rfl, rfl, ?_, Nat.one_le_two_pow, Nat.one_le_two_pow, ?_⟩
  · rw [← Nat.pow_add, show s + (16 - s) = 16 by omega]
  · exact Nat.pow_le_pow_right (by decide) hs

theorem up_digit {S T x : Int} (hST : S * T = 65536) (hS : 1 ≤ S) (hT : 1 ≤ T) (hx : 0 ≤ x ∧ x < 65536) :
    x * S % 65536 = S * (x % T) ∧ x * S / 65536 = x / T ∧ 0 ≤ x / T ∧ x / T < S ∧ 0 ≤ x % T ∧ x % T < T ∧ S * (x % T) + 65536 * (x / T) = x * S ∧ S * (x % T) + S ≤ 65536 := by
  have e1 := Int.emod_add_mul_ediv x T
  have e2 := Int.emod_nonneg x (show T ≠ 0 by omega)
  have e3 := Int.emod_lt_of_pos x (show 0 < T by omega)
  have e4 := Int.ediv_nonneg hx.1 (show 0 ≤ T by omega)
  have e5 : x / T < S := Int.ediv_lt_of_lt_mul (by omega) (by rw [hST]; exact hx.2)
  have e6 : x * S = S * (x % T) + 65536 * (x / T) := by
    have h2 : S * (x % T + T * (x / T)) = S * (x % T) + (S * T) * (x / T) := by rw [Int.mul_add, Int.mul_assoc]
    rw [e1, hST] at h2
    rw [← h2, Int.mul_comm]
  have e7 : S * (x % T) + S ≤ 65536 := by
    have h2 := Int.mul_le_mul_of_nonneg_left (show x % T + 1 ≤ T by omega) (show 0 ≤ S by omega)
    rw [Int.mul_add, hST] at h2
    omega
  have e8 : 0 ≤ S * (x % T) := Int.mul_nonneg (by omega) e2
  rw [e6]
  refine ⟨?_, ?_, e4, e5, e2, e3, rfl, e7⟩ <;> omega

theorem down_digit {S T x y R : Int} (hST : S * T = 65536) (hS : 1 ≤ S) (hT : 1 ≤ T) (hx : 0 ≤ x ∧ x < 65536) : (x + 65536 * (y + 65536 * R)) / S = (x + 65536 * y) / S % 65536 + 65536 * ((y + 65536 * R) / S) := by
  have e1 : x + 65536 * (y + 65536 * R) = (x + 65536 * y) + S * (T * 65536 * R) := by
    have : S * (T * 65536 * R) = (S * T) * (65536 * R) := by grind
    rw [this, hST]; omega
  have e2 : (x + 65536 * (y + 65536 * R)) / S = (x + 65536 * y) / S + T * 65536 * R := by rw [e1, Int.add_mul_ediv_left _ _ (by omega)]
  have e3 : (x + 65536 * (y + 65536 * R)) / S % 65536 = (x + 65536 * y) / S % 65536 := by
    rw [e2, show T * 65536 * R = 65536 * (T * R) by grind, Int.add_mul_emod_self_left]
  have e4 : (x + 65536 * (y + 65536 * R)) / S / 65536 = (y + 65536 * R) / S := by
    rw [Int.ediv_ediv_of_nonneg (by omega), Int.mul_comm S, ← Int.ediv_ediv_of_nonneg (by decide)]
    congr 1
    omega
  have e5 := Int.emod_add_mul_ediv ((x + 65536 * (y + 65536 * R)) / S) 65536
  rw [e3, e4] at e5
  omega

structure Up (l out : List Int) (s i : Nat) : Prop where
  lb : LB out
  len : out.length = l.length + 1
  c : dg out i < 2 ^ s
  z : ∀ k, i < k → dg out k = 0
  v : val out = val (l.take i) * 2 ^ s

theorem Up.next {l out : List Int} {s i : Nat} (h : Up l out s i) (hl : LB l) (hs : s ≤ 15) (hi : i < l.length) :
    Up l ((out.set i (dg out i + dg l i * 2 ^ s % 65536)).set (i + 1) (dg l i * 2 ^ s / 65536)) s (i + 1) := by
  obtain ⟨S, T, eS, eT, hST, hS, hT, hS2⟩ := two_split (show s ≤ 16 by omega)
  have hSi : ((S : Nat) : Int) = 2 ^ s := by rw [eS]; simp
  have hc := h.c
  rw [← hSi] at hc ⊢
  have hx := dg_lb hl i
  obtain ⟨d1, d2, d3, d4, d5, d6, d7, d8⟩ := up_digit (S := (S : Int)) (T := (T : Int)) (by rw [← Int.natCast_mul, hST]; rfl) (by omega) (by omega) hx
  have ho := dg_lb h.lb i
  have hol := h.len
  have hv := h.v
  rw [← hSi] at hv
  have m0 : 0 ≤ (S : Int) * (dg l i % T) := Int.mul_nonneg (by omega) d5
  rw [d1, d2]
  have hz := h.z (i + 1) (by omega)
  refine ⟨?_, by simp [hol], ?_, fun k hk => ?_, ?_⟩
  · refine (h.lb.set ⟨by omega, by omega⟩).set ⟨d3, by omega⟩
  · rw [dg_set (by simp; omega), if_pos rfl, ← hSi]; exact d4
  · rw [dg_set_ne (by omega), dg_set_ne (by omega)]; exact h.z k (by omega)
  · rw [val_set (get_of_dg (by simp; omega)), dg_set_ne (by omega), hz, val_set (get_of_dg (show i < out.length by omega)), hv, val_take_succ, ← hSi]
    have e1 : B (i + 1) * (dg l i / T - 0) = B i * (65536 * (dg l i / T)) := by simp only [B]; grind
    have e2 : (val (l.take i) + B i * dg l i) * S = val (l.take i) * S + B i * (dg l i * S) := by grind
    rw [e1, e2, ← d7, Int.mul_add]
    have e3 : B i * (dg out i + S * (dg l i % T) - dg out i) = B i * (S * (dg l i % T)) := by congr 1; omega
    omega

theorem s_l1Up {l : List Int} {s : Nat} (hl : LB l) (hs : s ≤ 15) (hn : l.length ≤ 1000000) : ∃ out, F_s_l1Up l (s : Int) = some out ∧ LB out ∧ out.length = l.length + 1 ∧ val out = val l * 2 ^ s := by
  obtain ⟨out, h1, h2⟩ := up_loop (body := fun (s : ((List Int) × (Int × ((List Int) × (Int × Int))))) => B_s_l1Up_0 s.1 s.2.1 s.2.2.1 s.2.2.2.1 s.2.2.2.2)
    (st := fun k (b : List Int) => (b, ((s : Int), (l, ((l.length : Int), (k : Int)))))) (fin := fun b => b) (I := fun k b => Up l b s k) (e := l.length)
    (by
      rintro k out hk hI
      refine ⟨_, ?_, hI.next hl hs hk⟩
      obtain ⟨S, T, eS, eT, hST, hS, hT, hS2⟩ := two_split (show s ≤ 16 by omega)
      have hSi : ((S : Nat) : Int) = 2 ^ s := by rw [eS]; simp
      have hx := dg_lb hl k
      have ho := dg_lb hI.lb k
      have hol := hI.len
      have hc := hI.c
      rw [← hSi] at hc ⊢
      obtain ⟨d1, d2, d3, d4, d5, d6, d7, d8⟩ := up_digit (S := (S : Int)) (T := (T : Int)) (by rw [← Int.natCast_mul, hST]; rfl) (by omega) (by omega) hx
      have hxS : 0 ≤ dg l k * (S : Int) ∧ dg l k * (S : Int) ≤ 65536 * 65536 := ⟨Int.mul_nonneg hx.1 (by omega), Int.le_trans (Int.mul_le_mul_of_nonneg_left (show (S : Int) ≤ 65536 by omega) hx.1) (Int.mul_le_mul_of_nonneg_right (by omega) (by decide))⟩
      have hsh : shlI .i64 (dg l k) (IntKind.wrap .u64 (s : Int)) = dg l k * S := by rw [hSi]; exact shlI_nat (by omega) (by rw [← hSi]; omega) (by rw [← hSi]; omega)
      have hor : orI .i64 (dg out k) (dg l k * S % 65536) = dg out k + dg l k * S % 65536 := by
        obtain ⟨o, eo⟩ : ∃ o : Nat, dg out k = (o : Int) := ⟨(dg out k).toNat, by omega⟩
        obtain ⟨t, et⟩ : ∃ t : Nat, dg l k % T = (t : Int) := ⟨(dg l k % T).toNat, by omega⟩
        rw [d1, et, eo, ← Int.natCast_mul, eS, orI_add (by rw [← eS]; omega) (by
          rw [← eS]
          have : ((S * t : Nat) : Int) ≤ 65536 := by rw [Int.natCast_mul, ← et]; omega
          omega)]
        simp
      have hu : IntKind.wrap .u64 (s : Int) = (s : Int) := wrapU (by omega) (by omega)
      unfold B_s_l1Up_0 getN
      dsimp only
      rw [decide_eq_true (by omega), wrap1 (by omega)]
      have i1 : idxI (k : Int) out.length = some k := idxI_nat (by omega)
      have hd : decide (IntKind.wrap .u64 (s : Int) < 0) = false := by rw [hu]; exact decide_eq_false (by omega)
      simp only [cond_true, getI_nat, get_of_dg hk, Option.bind_some, hd, cond_false, i1, get_of_dg (show k < out.length by omega), hsh, Int.tmod_eq_emod_of_nonneg hxS.1, Int.tdiv_eq_ediv_of_nonneg hxS.1, hor, List.length_set]
      rw [idxI_nat (by omega)]
      simp only [Option.bind_some]
      rw [get_of_dg (by simp; omega)]
      simp only [Option.bind_some]
      rw [wrapI (n := dg l k * S / 65536) (by omega) (by omega)])
    (by
      rintro out _
      unfold B_s_l1Up_0
      dsimp only
      rw [decide_eq_false (Int.lt_irrefl _)]
      rfl) 0 (List.replicate (l.length + 1) 0) (by omega) ⟨LB.zeros _, by simp, by
        rw [show dg (List.replicate (l.length + 1) (0 : Int)) 0 = 0 from rfl]
        exact Int.pow_pos (by decide), fun k _ => by unfold dg; rw [List.getD_eq_getElem?_getD, List.getElem?_replicate]; split <;> rfl, by simp [val_zeros, val]⟩
  have hv := h2.v
  rw [List.take_length] at hv
  refine ⟨out, ?_, h2.lb, h2.len, hv⟩
  unfold F_s_l1Up
  rw [wrap1 (by omega), lenI_nat (by unfold maxBytes; omega) (by unfold maxBytes; omega)]
  simp only [Option.bind_some]
  rw [show ((0 : Nat) : Int) = 0 from rfl] at h1
  rw [h1]
  rfl

theorem s_l1Down {l : List Int} {s : Nat} (hl : LB l) (hs : s ≤ 15) (hn : l.length ≤ 1000000) : F_s_l1Down l (s : Int) = some (lim (val l / 2 ^ s).toNat) := by
  obtain ⟨S, T, eS, eT, hST, hS, hT, hS2⟩ := two_split (show s ≤ 16 by omega)
  have hSi : ((S : Nat) : Int) = 2 ^ s := by rw [eS]; simp
  have hSTi : (S : Int) * T = 65536 := by rw [← Int.natCast_mul, hST]; rfl
  obtain ⟨out, h1, h2⟩ := up_loop (body := fun (s : ((List Int) × ((List Int) × (Int × (Int × Int))))) => B_s_l1Down_0 s.1 s.2.1 s.2.2.1 s.2.2.2.1 s.2.2.2.2)
    (st := fun k (b : List Int) => (b, (l, ((s : Int), ((l.length : Int), (k : Int)))))) (fin := fun b => b)
    (I := fun k b => LB b ∧ b.length = l.length ∧ (∀ i, k ≤ i → dg b i = 0) ∧ val b + B k * (val (l.drop k) / S) = val l / S) (e := l.length)
    (by
      rintro k out hk ⟨g1, g2, g3, g4⟩
      have hx := dg_lb hl k
      have hy := dg_lb hl (k + 1)
      have hm0 : 0 ≤ (dg l k + 65536 * dg l (k + 1)) / (S : Int) % 65536 ∧ (dg l k + 65536 * dg l (k + 1)) / (S : Int) % 65536 < 65536 := by omega
      refine ⟨out.set k ((dg l k + 65536 * dg l (k + 1)) / (S : Int) % 65536), ?_, g1.set hm0, by simp [g2], fun i hi => by rw [dg_set_ne (by omega)]; exact g3 i (by omega), ?_⟩
      · have hor : orI .i64 (dg l k) (shlI .i64 (dg l (k + 1)) 16) = dg l k + 65536 * dg l (k + 1) := by
          obtain ⟨o, eo⟩ : ∃ o : Nat, dg l k = (o : Int) := ⟨(dg l k).toNat, by omega⟩
          obtain ⟨t, et⟩ : ∃ t : Nat, dg l (k + 1) = (t : Int) := ⟨(dg l (k + 1)).toNat, by omega⟩
          have h16 : shlI .i64 (dg l (k + 1)) 16 = ((2 ^ 16 * t : Nat) : Int) := by
            have := shlI_nat (x := dg l (k + 1)) (s := 16) (by omega) (by omega) (by omega)
            rw [show IntKind.wrap .u64 ((16 : Nat) : Int) = 16 by decide] at this
            rw [this, et]; omega
          rw [h16, eo, orI_add (by omega) (by omega), et]
          omega
        have hu : IntKind.wrap .u64 (s : Int) = (s : Int) := wrapU (by omega) (by omega)
        unfold B_s_l1Down_0 getN
        dsimp only
        rw [decide_eq_true (by omega), wrap1 (by omega)]
        have i1 : idxI (k : Int) out.length = some k := idxI_nat (by omega)
        have hd : decide (IntKind.wrap .u64 (s : Int) < 0) = false := by rw [hu]; exact decide_eq_false (by omega)
        have hsr : shrI .i64 (dg l k + 65536 * dg l (k + 1)) (IntKind.wrap .u64 (s : Int)) = (dg l k + 65536 * dg l (k + 1)) / (S : Int) := by rw [shrI_nat (by omega), hSi]
        have hq0 : 0 ≤ (dg l k + 65536 * dg l (k + 1)) / (S : Int) := Int.ediv_nonneg (by omega) (by omega)
        simp only [cond_true, getI_nat, get_of_dg hk, Option.bind_some, s_l1Limb, hd, cond_false, i1, get_of_dg (show k < out.length by omega), hor, hsr, Int.tmod_eq_emod_of_nonneg hq0]
      · rw [val_set (get_of_dg (show k < out.length by omega)), g3 k (Nat.le_refl _), Int.sub_zero]
        rw [val_drop l k, val_drop l (k + 1), down_digit hSTi (by omega) (by omega) hx, ← val_drop l (k + 1), Int.mul_add] at g4
        have e : B (k + 1) * (val (l.drop (k + 1)) / S) = B k * (65536 * (val (l.drop (k + 1)) / S)) := by simp only [B]; grind
        omega)
    (by
      rintro out _
      unfold B_s_l1Down_0
      dsimp only
      rw [decide_eq_false (Int.lt_irrefl _)]
      rfl) 0 (List.replicate l.length 0) (by omega) ⟨LB.zeros _, by simp, fun i _ => by unfold dg; rw [List.getD_eq_getElem?_getD, List.getElem?_replicate]; split <;> rfl, by rw [val_zeros, List.drop_zero]; simp [B]⟩
  obtain ⟨g1, g2, g3, g4⟩ := h2
  rw [List.drop_length, show val [] = 0 from rfl, Int.zero_ediv, Int.mul_zero, Int.add_zero] at g4
  unfold F_s_l1Down
  rw [lenI_nat (by unfold maxBytes; omega) (by unfold maxBytes; omega)]
  simp only [Option.bind_some]
  rw [show ((0 : Nat) : Int) = 0 from rfl] at h1
  rw [h1]
  simp only [Option.bind_some]
  rw [s_l1Cut (by unfold Brief; omega)]
  simp only [Option.bind_some]
  rw [strip_lim g1, g4, hSi]

/-- The number of bits by which the top limb becomes great. -/
theorem s_bits {a b : List Int} {t : Int} {m : Nat} (hm : b.length = m + 1) (hml : m ≤ 1000000) (ht : dg b m = t) (h1 : 1 ≤ t) (h2 : t < 65536) :
    ∃ s : Nat, s ≤ 15 ∧ t * 2 ^ s < 65536 ∧ loopM (fun (s : ((List Int) × ((List Int) × Int))) => B_s_l1DivLimbs_0 s.1 s.2.1 s.2.2) (a, (b, 0)) = some (a, (b, (s : Int))) := by
  have bound : ∀ s : Nat, t * 2 ^ s < 65536 → s ≤ 15 := fun s h => by
    have h3 : (2 : Int) ^ s < 2 ^ 16 := by
      have h4 : (1 : Int) * 2 ^ s ≤ t * 2 ^ s := Int.mul_le_mul_of_nonneg_right h1 (Int.le_of_lt (Int.pow_pos (by decide)))
      have h5 : (2 : Int) ^ 16 = 65536 := by decide
      omega
    have h5 : ((2 ^ s : Nat) : Int) < ((2 ^ 16 : Nat) : Int) := by simpa using h3
    have h6 : 2 ^ s < 2 ^ 16 := by omega
    have := (Nat.pow_lt_pow_iff_right (show 1 < 2 by decide)).1 h6
    omega
  obtain ⟨r, g1, s, rfl, g2⟩ := loop_one (f := fun (s : ((List Int) × ((List Int) × Int))) => B_s_l1DivLimbs_0 s.1 s.2.1 s.2.2)
    (I := fun x => ∃ s : Nat, x = (a, (b, (s : Int))) ∧ t * 2 ^ s < 65536) (R := fun x => ∃ s : Nat, x = (a, (b, (s : Int))) ∧ t * 2 ^ s < 65536) (fun x => 100 - x.2.2.toNat) (by
      rintro x ⟨s, rfl, hs⟩
      have hb := bound s hs
      have p0 : (0 : Int) < 2 ^ s := Int.pow_pos (by decide)
      have p1 : 0 ≤ t * 2 ^ s := Int.mul_nonneg (by omega) (by omega)
      have hsh : shlI .i64 t (IntKind.wrap .u64 (s : Int)) = t * 2 ^ s := shlI_nat (by omega) (by omega) (by omega)
      have hu : IntKind.wrap .u64 (s : Int) = (s : Int) := wrapU (by omega) (by omega)
      have hd : decide (IntKind.wrap .u64 (s : Int) < 0) = false := by rw [hu]; exact decide_eq_false (by omega)
      have hg : getI b (IntKind.wrap .i64 ((b.length : Int) - 1)) = some t := by rw [← ht]; exact getI_dg (by rw [wrapI (by omega) (by omega)]; omega) (by omega)
      simp only
      by_cases hc : t * 2 ^ s < 32768
      · refine .inl ⟨(a, (b, ((s + 1 : Nat) : Int))), ?_, ⟨s + 1, rfl, by rw [Int.pow_succ, ← Int.mul_assoc]; omega⟩, by simp only; omega⟩
        unfold B_s_l1DivLimbs_0
        simp only [hg, Option.bind_some, hd, cond_false, hsh, decide_eq_true hc, cond_true]
        rw [wrap1 (by omega)]
      · refine .inr ⟨(a, (b, (s : Int))), ?_, s, rfl, hs⟩
        unfold B_s_l1DivLimbs_0
        simp only [hg, Option.bind_some, hd, cond_false, hsh, decide_eq_false hc]) (a, (b, 0)) ⟨0, rfl, by simp; omega⟩
  exact ⟨s, bound s g2, g2, g1⟩

theorem s_places {u0 v : List Int} {m : Nat} {bits : Int} (hv : LB v) (hvl : v.length = m + 2) (ht : 1 ≤ dg v (m + 1)) (hl : u0.length ≤ 1000000) {n : Nat} {out : List Int} (h : Places u0 v m n u0 out) :
    ∃ u out', loopM (fun (s : ((List Int) × ((List Int) × ((List Int) × (Int × Int))))) => B_s_l1DivLimbs_1 s.1 s.2.1 s.2.2.1 s.2.2.2.1 s.2.2.2.2) (u0, (v, (out, (bits, (n : Int) - 1)))) = some (u, (out', bits)) ∧ Places u0 v m 0 u out' := by
  obtain ⟨⟨u, out'⟩, h1, h2⟩ := down_loop (body := fun (s : ((List Int) × ((List Int) × ((List Int) × (Int × Int))))) => B_s_l1DivLimbs_1 s.1 s.2.1 s.2.2.1 s.2.2.2.1 s.2.2.2.2)
    (st := fun n (b : List Int × List Int) => (b.1, (v, (b.2, (bits, (n : Int) - 1))))) (fin := fun b => (b.1, (b.2, bits))) (I := fun n b => Places u0 v m n b.1 b.2)
    (by
      rintro n ⟨u, out⟩ hI
      simp only at hI
      have H := hI.place hv hvl ht
      have hle := hI.le
      have hol := hI.olen
      have hul := hI.len
      obtain ⟨u', g1, g2, g3, g4, g5⟩ := s_place (out := out) (bits := bits) H (by omega) (by omega)
      refine ⟨(u', out.set n (val (u.drop n) / val v)), ?_, hI.next H g2 g3 g4 g5⟩
      simp only
      rw [show ((n + 1 : Nat) : Int) - 1 = (n : Int) by omega, g1])
    (by
      rintro ⟨u, out⟩ _
      unfold B_s_l1DivLimbs_1
      dsimp only
      rw [decide_eq_false (by omega)]
      rfl) n (u0, out) h
  exact ⟨u, out', h1, h2⟩

theorem Places.start2 {u0 v : List Int} {m n : Nat} (hu : LB u0) (hn : u0.length = n + (m + 2)) (h0 : val (u0.drop n) < val v) : Places u0 v m n u0 (List.replicate n 0) :=
  ⟨rfl, hu, by omega, h0, LB.zeros n, by simp; omega, fun i hi => by unfold dg; rw [List.getD_eq_getElem?_getD, List.getElem?_replicate]; split <;> rfl, by rw [val_zeros]; omega⟩

set_option maxHeartbeats 1000000 in
theorem s_l1DivLimbs {a b : Nat} (hb0 : b ≠ 0) (ha : (lim a).length ≤ 90000) (hb : (lim b).length ≤ 90000) : F_s_l1DivLimbs (lim a) (lim b) = some (lim (a / b), lim (a % b)) := by
  unfold F_s_l1DivLimbs
  rw [s_l1Cut (by unfold Brief; omega)]
  simp only [Option.bind_some]
  rw [strip_nb (lim_nb a), s_l1Cmp (by unfold Brief; omega) (by unfold Brief; omega)]
  simp only [Option.bind_some]
  by_cases hab : a < b
  · rw [cmpZ_lt (by omega)]
    simp only [show decide ((-1 : Int) < 0) = true from rfl, cond_true]
    rw [Nat.div_eq_of_lt hab, Nat.mod_eq_of_lt hab, lim_zero]
  have hc : decide (cmpZ (a : Int) b < 0) = false := by
    rcases cmpZ_cases (a : Int) b with ⟨h, g⟩ | ⟨h, _⟩ | ⟨h, _⟩
    · omega
    · rw [h]; rfl
    · rw [h]; rfl
  simp only [hc, cond_false]
  have hbl : (lim b).length ≠ 0 := fun h => hb0 (lim_nil.1 (List.eq_nil_of_length_eq_zero h))
  by_cases h1 : (lim b).length = 1
  · obtain ⟨e1, e2, e3⟩ := lim_one h1
    rw [e1]
    simp only [List.length_singleton, show (((1 : Nat) : Int) == 1) = true from rfl, cond_true]
    rw [show getI [(b : Int)] 0 = some (b : Int) from rfl]
    simp only [Option.bind_some]
    rw [s_l1Short (by omega) (by omega)]
    simp only [Option.bind_some, Int.toNat_natCast]
  have hn1 : ((((lim b).length : Nat) : Int) == 1) = false := beq_eq_false_iff_ne.2 (by omega)
  obtain ⟨m, hm⟩ : ∃ m, (lim b).length = m + 2 := ⟨(lim b).length - 2, by omega⟩
  obtain ⟨t1, t2, t3, t4⟩ := lim_top hb0
  rw [hm, show m + 2 - 1 = m + 1 by omega] at t1 t2 t3 t4
  generalize ht : dg (lim b) (m + 1) = t at *
  obtain ⟨s, hs1, hs2, hs3⟩ := s_bits (a := lim a) (b := lim b) (m := m + 1) (by omega) (by omega) ht t1 t2
  obtain ⟨S, T, eS, eT, hST, hS, hT, hS2⟩ := two_split (show s ≤ 16 by omega)
  have hSi : ((S : Nat) : Int) = 2 ^ s := by rw [eS]; simp
  obtain ⟨u, hu1, hu2, hu3, hu4⟩ := s_l1Up (lim_lb a) hs1 (by omega)
  obtain ⟨v, hv1, hv2, hv3, hv4⟩ := s_l1Up (lim_lb b) hs1 (by omega)
  rw [lim_val, ← hSi, ← Int.natCast_mul] at hu4 hv4
  simp only [hn1, cond_false, hs3, Option.bind_some, hu1, hv1]
  rw [s_l1Cut (by unfold Brief; omega)]
  simp only [Option.bind_some]
  rw [strip_lim hv2, hv4, Int.toNat_natCast]
  have hBa : (a : Int) < B (lim a).length := lim_len.1 (Nat.le_refl _)
  have lb : (lim (b * S)).length = m + 2 := by
    apply Nat.le_antisymm
    · rw [lim_len]
      rw [show ((b * S : Nat) : Int) = (b : Int) * S by simp]
      rw [← hSi] at hs2
      have e1 : (b : Int) * S < B (m + 1) * (t + 1) * S := Int.mul_lt_mul_of_pos_right t4 (by omega)
      have hts : (t + 1) * (S : Int) ≤ 65536 := by
        obtain ⟨d1, d2, d3, d4, d5, d6, d7, d8⟩ := up_digit (S := (S : Int)) (T := (T : Int)) (by rw [← Int.natCast_mul, hST]; rfl) (by omega) (by omega) (show 0 ≤ t ∧ t < 65536 by omega)
        have d9 : t * S % 65536 = t * S := Int.emod_eq_of_lt (Int.mul_nonneg (by omega) (by omega)) hs2
        rw [Int.add_mul, Int.one_mul, ← d9, d1]
        exact d8
      have e2 : B (m + 1) * ((t + 1) * (S : Int)) ≤ B (m + 1) * 65536 := Int.mul_le_mul_of_nonneg_left hts (Int.le_of_lt (B_pos _))
      have e3 : B (m + 1) * (t + 1) * S = B (m + 1) * ((t + 1) * (S : Int)) := Int.mul_assoc ..
      have e4 : B (m + 2) = B (m + 1) * 65536 := by simp only [B]; omega
      omega
    · rw [← hm, lim_len]
      have h1 : ((b * S : Nat) : Int) < B (lim (b * S)).length := lim_len.1 (Nat.le_refl _)
      have : b * 1 ≤ b * S := Nat.mul_le_mul_left _ (by omega)
      omega
  have hle : (lim b).length ≤ (lim a).length := by rw [lim_len]; omega
  have hbS0 : b * S ≠ 0 := Nat.mul_ne_zero hb0 (by omega)
  have htop := (lim_top hbS0).1
  rw [lb, show m + 2 - 1 = m + 1 by omega] at htop
  generalize hn : (lim a).length - (lim b).length + 1 = n at *
  have w0 : IntKind.wrap .i64 (((lim a).length : Int) - ((lim b).length : Int)) = (n : Int) - 1 := by rw [wrapI (by omega) (by omega)]; omega
  rw [w0, wrapI (n := (n : Int) - 1 + 1) (by omega) (by omega), show (n : Int) - 1 + 1 = (n : Int) by omega, lenI_nat (by unfold maxBytes; omega) (by unfold maxBytes; omega)]
  simp only [Option.bind_some]
  have hless : val (u.drop n) < val (lim (b * S)) := by
    rw [lim_val]
    have h1 := val_parts u n
    have h2 := val_nonneg (hu2.take n)
    rw [hu4] at h1
    have h3 : B n * val (u.drop n) ≤ ((a * S : Nat) : Int) := by omega
    have h4 : ((a * S : Nat) : Int) < B (lim a).length * S := by rw [Int.natCast_mul]; exact Int.mul_lt_mul_of_pos_right hBa (by omega)
    have h5 : (lim a).length = n + (m + 1) := by omega
    rw [h5, B_add] at h4
    have h6 : B (m + 1) * S ≤ ((b * S : Nat) : Int) := by
      rw [Int.natCast_mul]
      have : B (m + 1) * 1 ≤ B (m + 1) * t := Int.mul_le_mul_of_nonneg_left t1 (Int.le_of_lt (B_pos _))
      exact Int.mul_le_mul_of_nonneg_right (by omega) (by omega)
    have h7 : B n * (val (u.drop n)) < B n * (B (m + 1) * S) := by rw [← Int.mul_assoc]; omega
    have h8 := Int.lt_of_mul_lt_mul_left h7 (Int.le_of_lt (B_pos n))
    omega
  obtain ⟨u', out, hp, P⟩ := s_places (bits := (s : Int)) (lim_lb (b * S)) lb htop (by omega) (Places.start2 (n := n) hu2 (by omega) hless)
  rw [hp]
  simp only [Option.bind_some]
  obtain ⟨p1, p2⟩ := P.end (lim_lb _)
  rw [hu4, lim_val] at p1 p2
  obtain ⟨q1, q2⟩ := divmul_nat (a := a) (b := b) (c := S) (by omega)
  have p1' : val out = ((a / b : Nat) : Int) := by rw [p1, ← q1]; simp
  have p2' : val u' = ((a % b * S : Nat) : Int) := by rw [p2, ← q2]; simp
  have hul := P.len
  have hol := P.olen
  rw [s_l1Cut (by unfold Brief; omega)]
  simp only [Option.bind_some]
  rw [s_l1Cut (by unfold Brief; omega)]
  simp only [Option.bind_some]
  rw [strip_lim P.lo, strip_lim P.lu, p1', p2', Int.toNat_natCast, Int.toNat_natCast, s_l1Down (lim_lb _) hs1 (by
    have : (lim (a % b * S)).length ≤ m + 2 := by
      rw [← lb, lim_len]
      have h1 : ((b * S : Nat) : Int) < B (lim (b * S)).length := lim_len.1 (Nat.le_refl _)
      have := Nat.mul_lt_mul_of_pos_right (Nat.mod_lt a (show b > 0 by omega)) (show S > 0 by omega)
      omega
    omega), lim_val]
  simp only [Option.bind_some]
  rw [← hSi, Int.natCast_mul, Int.mul_ediv_cancel _ (by omega), Int.toNat_natCast]
end Go.Proofs.Ytohhlnabfcbknaa.Ev
