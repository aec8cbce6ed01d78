/- Image files that are read: the two readings agree. -/
import Derived.Test.YtnhibkgoinnmcaaDoorCPuPair
import Derived.Test.YtnhibkgoinnmcaaDoorCPuItoa
import Derived.Lib.Strings
namespace Go.Proofs.YtnhibkgoinnmcaaDoor.Ev
open Go
set_option linter.unusedVariables false
set_option linter.unusedSimpArgs false
set_option linter.unusedSectionVars false

/-- A loop that counts up, to where it ends. -/
theorem scan_to {σ ρ : Type} {body : σ → Option (σ ⊕ ρ)} (st : Int → σ) (c : Int) {z : ρ} (hgo : ∀ k, k < c → 1 ≤ k → body (st k) = some (.inl (st (k + 1)))) (hz : body (st c) = some (.inr z)) (hc : 1 ≤ c) : loopM body (st 1) = some z := by
  have key : ∀ (n : Nat) (a : Int), a + n = c → 1 ≤ a → loopM body (st a) = some z := by
    intro n
    induction n with
    | zero =>
      intro a ha _
      have : a = c := by omega
      subst this
      exact loop_end hz
    | succ n ih =>
      intro a ha h1
      rw [loop_go (hgo a (by omega) h1)]
      exact ih (a + 1) (by omega) (by omega)
  exact key (c - 1).toNat 1 (by omega) (by omega)

theorem take_while_split {p : UInt8 → Bool} : ∀ (l : Str), l = l.takeWhile p ++ l.drop (l.takeWhile p).length
  | [] => rfl
  | a :: l => by
    rw [List.takeWhile_cons]
    by_cases h : p a = true
    · rw [if_pos h, List.length_cons, List.drop_succ_cons, List.cons_append, ← take_while_split l]
    · rw [if_neg h]; rfl
theorem digs_split (s : Str) (n a : Nat) : s.drop a = digs s n a ++ s.drop (a + (digs s n a).length) := by
  have h1 : s.drop a = (s.drop a).take n ++ (s.drop a).drop n := (List.take_append_drop n (s.drop a)).symm
  have h2 := take_while_split (p := isDig) ((s.drop a).take n)
  have hl : (digs s n a).length ≤ ((s.drop a).take n).length := (List.takeWhile_sublist isDig).length_le
  have h3 : (s.drop a).drop (digs s n a).length = ((s.drop a).take n).drop (digs s n a).length ++ (s.drop a).drop n := by
    conv => lhs; rw [h1]
    rw [List.drop_append_of_le_length hl]
  rw [← List.drop_drop, h3, ← List.append_assoc]
  unfold digs at h2 ⊢
  rw [← h2]
  exact h1

/-- What stands where two numbers were read. -/
theorem pairAt_inv {s : Str} {a : Nat} {c : UInt8} (h : 0 ≤ (pairAt s a c.toNat).2.1) : ∃ m v e : Nat, pairAt s a c.toNat = ((m : Int), (v : Int), (e : Int)) ∧ s.drop a = Lib.decDigits m ++ (c :: (Lib.decDigits v ++ s.drop e)) ∧ e ≤ s.length ∧
    e = a + (Lib.decDigits m).length + 1 + (Lib.decDigits v).length := by
  unfold pairAt at h ⊢
  simp only at h ⊢
  split at h
  · simp at h
  rename_i hc
  rw [if_neg hc]
  simp only at h ⊢
  unfold intAt at h ⊢
  simp only at h ⊢
  split at h
  · simp at h
  rename_i hc2
  rw [if_neg hc2]
  have hb : ¬ badD (digs s 4 a) := fun h => hc (.inl h)
  have hcan1 : Canon (digs s 4 a) := ⟨digs_dig s 4 a, fun h => hb (.inl h), fun h => hb (.inr h)⟩
  have hcan2 : Canon (digs s 4 (a + (digs s 4 a).length + 1)) := ⟨digs_dig s 4 _, fun h => hc2 (.inl h), fun h => hc2 (.inr h)⟩
  have d1 := dec_canon _ _ rfl hcan1
  have d2 := dec_canon _ _ rfl hcan2
  have s1 := digs_split s 4 a
  have s2 := digs_split s 4 (a + (digs s 4 a).length + 1)
  have hget : s[a + (digs s 4 a).length]? = some c := by
    cases hz : s[a + (digs s 4 a).length]? with
    | none => exact absurd (.inr (by rw [hz]; simp)) hc
    | some x =>
      by_cases hx : x.toNat = c.toNat
      · rw [UInt8.toNat_inj.1 hx]
      · exact absurd (.inr (by rw [hz]; simpa using hx)) hc
  have hlt := getL hget
  have hdc : s.drop (a + (digs s 4 a).length) = c :: s.drop (a + (digs s 4 a).length + 1) := by
    rw [List.drop_eq_getElem_cons hlt]
    rw [List.getElem?_eq_getElem hlt] at hget
    rw [Option.some.inj hget]
  refine ⟨_, _, _, rfl, ?_, ?_, ?_⟩
  · rw [d1, d2, s1, hdc, s2]
  · have hne := List.length_pos_iff.2 hcan2.2.1
    have h3 := digs_at s 4 (a + (digs s 4 a).length + 1) ((digs s 4 (a + (digs s 4 a).length + 1)).length - 1) (by omega)
    rw [List.getElem?_eq_getElem (l := digs s 4 (a + (digs s 4 a).length + 1)) (by omega)] at h3
    have := getL h3
    omega
  · rw [d1, d2]

def headS (w h : Int) : Str := [80, 53, 10] ++ (Lib.itoa w ++ (32 :: (Lib.itoa h ++ [10, 50, 53, 53, 10])))
/-- The text is an image file of that width and height. -/
def IsPic (s : Str) (w h : Int) (b : Str) : Prop := 1 ≤ w ∧ w ≤ 10 ∧ 1 ≤ h ∧ h ≤ 10 ∧ s = headS w h ++ b ∧ (b.length : Int) = w * h

theorem i_head {w h : Int} (hw : 1 ≤ w ∧ w ≤ 10) (hh : 1 ≤ h ∧ h ≤ 10) : F_i_head w h = some (headS w h) := by
  unfold F_i_head headS
  have n1 := itoa_len (n := w) (by omega) (by omega)
  have n2 := itoa_len (n := h) (by omega) (by omega)
  rw [l_Itoa (by omega) (by omega), obs, catS_is (by simp; omega), obs, catS_is (by simp; omega), obs, l_Itoa (by omega) (by omega), obs, catS_is (by simp; omega), obs, catS_is (by simp; omega), obs]
  try simp
theorem pic_pair {s : Str} {w h : Int} {b : Str} (p : IsPic s w h b) : pairAt s 3 32 = (w, h, ((3 + (Lib.itoa w).length + 1 + (Lib.itoa h).length : Nat) : Int)) := by
  obtain ⟨w0, w1, h0, h1, hs, hb⟩ := p
  have hd : s.drop 3 = Lib.decDigits w.toNat ++ (32 :: (Lib.decDigits h.toNat ++ ([10, 50, 53, 53, 10] ++ b))) := by
    rw [hs]
    unfold headS
    rw [itoa_pos (by omega), itoa_pos (by omega)]
    simp
  have := pairAt_num (c := 32) hd (by omega) (by omega) (by decide) (fun b hb => by cases hb; decide)
  rw [itoa_pos (by omega), itoa_pos (by omega)]
  have e1 : ((w.toNat : Nat) : Int) = w := by omega
  have e2 : ((h.toNat : Nat) : Int) = h := by omega
  rw [e1, e2] at this
  exact this
theorem pic_unique {s : Str} {w h w' h' : Int} {b b' : Str} (p : IsPic s w h b) (p' : IsPic s w' h' b') : w = w' ∧ h = h' ∧ b = b' := by
  have e := (pic_pair p).symm.trans (pic_pair p')
  have e1 : w = w' := (Prod.mk.inj e).1
  have e2 : h = h' := (Prod.mk.inj (Prod.mk.inj e).2).1
  subst e1; subst e2
  exact ⟨rfl, rfl, List.append_cancel_left (p.2.2.2.2.1.symm.trans p'.2.2.2.2.1)⟩
theorem prefix_iff {s p : Str} : Lib.hasPrefix s p = true ↔ ∃ b, s = p ++ b := by
  unfold Lib.hasPrefix
  rw [List.isPrefixOf_iff_prefix]
  constructor
  · rintro ⟨b, rfl⟩; exact ⟨b, rfl⟩
  · rintro ⟨b, rfl⟩; exact ⟨b, rfl⟩
theorem trim_is (p b : Str) : Lib.trimPrefix (p ++ b) p = b := by
  unfold Lib.trimPrefix
  rw [if_pos (prefix_iff.2 ⟨b, rfl⟩), List.drop_left]

abbrev PV := List Int × Int × Int × Bool
theorem mul_le {w h : Int} (hw : 1 ≤ w ∧ w ≤ 10) (hh : 1 ≤ h ∧ h ≤ 10) : 1 ≤ w * h ∧ w * h ≤ 100 := by
  have h1 : w * h ≤ 10 * 10 := Int.mul_le_mul hw.2 hh.2 (by omega) (by omega)
  have h2 : 1 * 1 ≤ w * h := Int.mul_le_mul hw.1 hh.1 (by omega) (by omega)
  omega

theorem i_nums {l : List Int} (w h : Int) (hl : l.length ≤ 1000) (hb : ∀ x ∈ l, 0 ≤ x ∧ x ≤ 255) : loopM (fun (s : ((List Int) × (Int × (Int × ((List Int) × (Int × Int)))))) => B_i_ReadPicture_2 s.1 s.2.1 s.2.2.1 s.2.2.2.1 s.2.2.2.2.1 s.2.2.2.2.2) (([] : List Int), (w, (h, (l, ((l.length : Int), (0 : Int)))))) = some (l, w, h) := by
  obtain ⟨_, h1, _⟩ := up_loop (body := fun (s : ((List Int) × (Int × (Int × ((List Int) × (Int × Int)))))) => B_i_ReadPicture_2 s.1 s.2.1 s.2.2.1 s.2.2.2.1 s.2.2.2.2.1 s.2.2.2.2.2)
    (fun k (_ : Unit) => (l.take k, w, h, l, (l.length : Int), (k : Int))) (fun _ => (l, w, h)) (fun _ _ => True) l.length (by
      intro k _ hk _
      have he : l[k]? = some l[k] := List.getElem?_eq_getElem hk
      generalize l[k] = x at he
      have hx := hb x (List.mem_of_getElem? he)
      refine ⟨(), ?_, trivial⟩
      unfold B_i_ReadPicture_2
      simp only
      rw [decide_eq_true (by omega), cT, getI_nat, he, obs, wrapI (n := x) (by omega) (by omega), appL_is (by simp [maxBytes]; omega) (by simp [maxBytes]; omega), obs, wrap1 (by omega), List.take_add_one, he]
      rfl) (by
      intro _ _
      unfold B_i_ReadPicture_2
      simp) 0 () (by omega) trivial
  exact h1
theorem nums_byte (b : Str) : ∀ x ∈ numsOf b, 0 ≤ x ∧ x ≤ 255 := by
  intro x hx
  unfold numsOf at hx
  obtain ⟨c, _, rfl⟩ := List.mem_map.1 hx
  have := c.toNat_lt
  omega

noncomputable def rpB1 : Str × (Int × Int) → Option ((Str × (Int × Int)) ⊕ ((Str × Int) ⊕ PV)) := fun s => B_i_ReadPicture_1 s.1 s.2.1 s.2.2
noncomputable def rpB0 : Str × Int → Option ((Str × Int) ⊕ (Unit ⊕ PV)) := fun s => B_i_ReadPicture_0 s.1 s.2

theorem rp1_hit {s : Str} {w h : Int} {b : Str} (p : IsPic s w h b) : rpB1 (s, w, h) = some (.inr (.inr (numsOf b, w, h, true))) := by
  obtain ⟨w0, w1, h0, h1, hs, hb⟩ := p
  have hm := mul_le ⟨w0, w1⟩ ⟨h0, h1⟩
  unfold rpB1 B_i_ReadPicture_1
  simp only
  unfold F_strings_CutPrefix F_cutp
  have hp : Lib.hasPrefix s (headS w h) = true := prefix_iff.2 ⟨b, hs⟩
  have ht : Lib.trimPrefix s (headS w h) = b := by rw [hs, trim_is]
  rw [decide_eq_true h1, cT, i_head ⟨w0, w1⟩ ⟨h0, h1⟩, obs, obs, hp, ht]
  simp only
  rw [nT, cF, wrapI (n := w * h) (by omega) (by omega), show (((b.length : Nat) : Int) != w * h) = false by simp [bne, hb], cF, decide_eq_true (by omega), cT, i_nums w h (by simp [numsOf]; omega) (nums_byte b), obs]
theorem rp1_miss {s : Str} {w h : Int} (hw : 1 ≤ w ∧ w ≤ 10) (hh : 1 ≤ h ∧ h ≤ 10) (hs : s.length ≤ 1048576) (p : ∀ b, ¬ IsPic s w h b) : rpB1 (s, w, h) = some (.inl (s, w, h + 1)) := by
  unfold rpB1 B_i_ReadPicture_1
  simp only
  unfold F_strings_CutPrefix F_cutp
  have hm := mul_le hw hh
  rw [decide_eq_true hh.2, cT, i_head hw hh, obs, obs, wrapI (n := h + 1) (by omega) (by omega)]
  cases hp : Lib.hasPrefix s (headS w h) with
  | false => rfl
  | true =>
    obtain ⟨b, hb⟩ := prefix_iff.1 hp
    have ht : Lib.trimPrefix s (headS w h) = b := by rw [hb, trim_is]
    simp only [ht]
    have hne : ¬ (b.length : Int) = w * h := fun he => p b ⟨hw.1, hw.2, hh.1, hh.2, hb, he⟩
    rw [nT, cF, wrapI (n := w * h) (by omega) (by omega), show (((b.length : Nat) : Int) != w * h) = true by simpa [bne] using hne, cT]
theorem rp1_end {s : Str} {w h : Int} (h1 : h = 11) : rpB1 (s, w, h) = some (.inr (.inl (s, w))) := by
  unfold rpB1 B_i_ReadPicture_1
  simp only
  rw [decide_eq_false (by omega), cF]
theorem rp0_miss {s : Str} {w : Int} (hw : 1 ≤ w ∧ w ≤ 10) (hs : s.length ≤ 1048576) (p : ∀ h b, ¬ IsPic s w h b) : rpB0 (s, w) = some (.inl (s, w + 1)) := by
  unfold rpB0 B_i_ReadPicture_0
  simp only
  have := scan_to (body := rpB1) (fun h => (s, w, h)) 11 (z := .inl (s, w)) (fun k hk hk1 => rp1_miss hw ⟨hk1, by omega⟩ hs (p k)) (rp1_end rfl) (by omega)
  have h' : loopM (fun (s : (Str × (Int × Int))) => B_i_ReadPicture_1 s.1 s.2.1 s.2.2) (s, w, (1 : Int)) = _ := this
  rw [decide_eq_true hw.2, cT, h', obs]
  simp only [Sum.elim_inl]
  rw [wrapI (by omega) (by omega)]
theorem rp0_hit {s : Str} {w h : Int} {b : Str} (hs : s.length ≤ 1048576) (p : IsPic s w h b) : rpB0 (s, w) = some (.inr (.inr (numsOf b, w, h, true))) := by
  unfold rpB0 B_i_ReadPicture_0
  simp only
  have hw : 1 ≤ w ∧ w ≤ 10 := ⟨p.1, p.2.1⟩
  have := scan_to (body := rpB1) (fun h => (s, w, h)) h (z := .inr (numsOf b, w, h, true)) (fun k hk hk1 => rp1_miss hw ⟨hk1, by have := p.2.2.2.1; omega⟩ hs (fun b' p' => by have := (pic_unique p p').2.1; omega)) (rp1_hit p) p.2.2.1
  have h' : loopM (fun (s : (Str × (Int × Int))) => B_i_ReadPicture_1 s.1 s.2.1 s.2.2) (s, w, (1 : Int)) = _ := this
  rw [decide_eq_true hw.2, cT, h', obs]
  rfl
theorem rp0_end {s : Str} {w : Int} (h1 : w = 11) : rpB0 (s, w) = some (.inr (.inl ())) := by
  unfold rpB0 B_i_ReadPicture_0
  simp only
  rw [decide_eq_false (by omega), cF]

theorem i_Pic_hit {s : Str} {w h : Int} {b : Str} (hs : s.length ≤ 1048576) (p : IsPic s w h b) : F_i_ReadPicture s = some (numsOf b, w, h, true) := by
  unfold F_i_ReadPicture
  have := scan_to (body := rpB0) (fun w => (s, w)) w (z := .inr (numsOf b, w, h, true)) (fun k hk hk1 => rp0_miss ⟨hk1, by have := p.2.1; omega⟩ hs (fun h' b' p' => by have := (pic_unique p p').1; omega)) (rp0_hit hs p) p.1
  have h' : loopM (fun (s : (Str × Int)) => B_i_ReadPicture_0 s.1 s.2) (s, (1 : Int)) = _ := this
  rw [h', obs]
  rfl
theorem i_Pic_miss {s : Str} (hs : s.length ≤ 1048576) (p : ∀ w h b, ¬ IsPic s w h b) : F_i_ReadPicture s = some ([], 0, 0, false) := by
  unfold F_i_ReadPicture
  have := scan_to (body := rpB0) (fun w => (s, w)) 11 (z := .inl ()) (fun k hk hk1 => rp0_miss ⟨hk1, by omega⟩ hs (p k)) (rp0_end rfl) (by omega)
  have h' : loopM (fun (s : (Str × Int)) => B_i_ReadPicture_0 s.1 s.2) (s, (1 : Int)) = _ := this
  rw [h', obs]
  rfl

theorem s_In' {a b c : Int} : F_s_l1In a b c = some (decide (b ≤ a ∧ a ≤ c)) := by
  unfold F_s_l1In
  by_cases h : a ≥ b
  · rw [decide_eq_true h, cT]; congr 1; simp; omega
  · rw [decide_eq_false h, cF]; congr 1; simp; omega

theorem s_nums {s : Str} (w h : Int) (hs : s.length ≤ 1000) : ∀ (n a : Nat) (acc : List Int), a + n = s.length → acc.length ≤ a → loopM (fun (t : ((List Int) × (Str × (Int × (Int × Int))))) => B_s_ReadPicture_0 t.1 t.2.1 t.2.2.1 t.2.2.2.1 t.2.2.2.2) (acc, (s, (w, (h, (a : Int))))) = some (acc ++ numsOf (s.drop a), w, h) := by
  intro n
  induction n with
  | zero =>
    intro a acc ha hacc
    rw [List.drop_eq_nil_of_le (by omega)]
    refine loop_end ?_
    unfold B_s_ReadPicture_0
    simp only
    rw [decide_eq_false (by omega), cF]
    simp [numsOf]
  | succ n ih =>
    intro a acc ha hacc
    have hlt : a < s.length := by omega
    have he : s[a]? = some s[a] := List.getElem?_eq_getElem hlt
    have hd : s.drop a = s[a] :: s.drop (a + 1) := List.drop_eq_getElem_cons hlt
    generalize s[a] = x at he hd
    have hx := x.toNat_lt
    have hgo : (fun (t : ((List Int) × (Str × (Int × (Int × Int))))) => B_s_ReadPicture_0 t.1 t.2.1 t.2.2.1 t.2.2.2.1 t.2.2.2.2) (acc, (s, (w, (h, (a : Int))))) = some (.inl (acc ++ [((x.toNat : Nat) : Int)], s, w, h, ((a + 1 : Nat) : Int))) := by
      unfold B_s_ReadPicture_0
      simp only
      rw [decide_eq_true (by omega), cT, getI_nat, he, obs, wrapI (n := ((x.toNat : Nat) : Int)) (by omega) (by omega), appL_is (by simp [maxBytes]; omega) (by simp [maxBytes]; omega), obs, wrap1 (by omega)]
    rw [loop_go hgo, ih (a + 1) _ (by omega) (by simp; omega), hd]
    simp [numsOf]

theorem s_Pic_hit {s : Str} {w h : Int} {b : Str} (p : IsPic s w h b) : F_s_ReadPicture s = some (numsOf b, w, h, true) := by
  have hp := pic_pair p
  obtain ⟨w0, w1, h0, h1, hs, hb⟩ := p
  have hm := mul_le ⟨w0, w1⟩ ⟨h0, h1⟩
  have n1 : (Lib.itoa w).length ≤ 4 := by rw [itoa_pos (by omega)]; exact dec_len4.2 (by omega)
  have n2 : (Lib.itoa h).length ≤ 4 := by rw [itoa_pos (by omega)]; exact dec_len4.2 (by omega)
  have hlen : s.length = 3 + (Lib.itoa w).length + 1 + (Lib.itoa h).length + 5 + b.length := by rw [hs]; unfold headS; simp; omega
  unfold F_s_ReadPicture
  have hsub : subI (0 : Int) 3 s.length = some (0, 3) := by unfold subI; rw [if_pos (by omega)]; rfl
  have htk : List.drop 0 (List.take 3 s) = [80, 53, 10] := by rw [hs]; unfold headS; simp
  have h15 := s_l15Pair (s := s) (by omega) (a := 3) (by omega) 32
  rw [decide_eq_false (by omega), cF, decide_eq_false (by omega), cF, hsub, obs, htk, beq_self_eq_true, nT, cF, show ((3 : Int)) = ((3 : Nat) : Int) from rfl, show ((32 : Int)) = ((32 : Nat) : Int) from rfl, h15, obs, hp]
  generalize hE : 3 + (Lib.itoa w).length + 1 + (Lib.itoa h).length = E at *
  have hdrop : s.drop E = [10, 50, 53, 53, 10] ++ b := by
    have e0 : s = ([80, 53, 10] ++ (Lib.itoa w ++ (32 :: Lib.itoa h))) ++ ([10, 50, 53, 53, 10] ++ b) := by rw [hs]; unfold headS; simp
    have e1 : ([80, 53, 10] ++ (Lib.itoa w ++ (32 :: Lib.itoa h))).length = E := by rw [← hE]; simp; omega
    rw [e0, ← e1, List.drop_left]
  have hsub2 : subI ((E : Nat) : Int) ((E + 5 : Nat) : Int) s.length = some (E, E + 5) := by
    unfold subI; rw [if_pos (by omega)]
    simp; omega
  have htk2 : List.drop E (List.take (E + 5) s) = [10, 50, 53, 53, 10] := by
    rw [List.drop_take, hdrop, show E + 5 - E = 5 by omega]
    rfl
  have hd5 : s.drop (E + 5) = b := by rw [← List.drop_drop, hdrop]; rfl
  simp only
  rw [s_In', obs, decide_eq_true ⟨w0, w1⟩, nT, cF, s_In', obs, decide_eq_true ⟨h0, h1⟩, nT, cF, wrapI (n := (s.length : Int) - (E : Int)) (by omega) (by omega), wrapI (n := w * h) (by omega) (by omega), wrapI (n := 5 + w * h) (by omega) (by omega),
    show (((s.length : Int) - (E : Int)) != 5 + w * h) = false by simp [bne]; omega, cF, wrapI (n := (E : Int) + 5) (by omega) (by omega), show (E : Int) + 5 = ((E + 5 : Nat) : Int) by omega, hsub2, obs, htk2, beq_self_eq_true, nT, cF,
    s_nums w h (by omega) (s.length - (E + 5)) (E + 5) [] (by omega) (by simp), obs, hd5]
  rfl
theorem s_Pic_miss {s : Str} (hs : s.length ≤ 1048576) (p : ∀ w h b, ¬ IsPic s w h b) : F_s_ReadPicture s = some ([], 0, 0, false) := by
  unfold F_s_ReadPicture
  by_cases c1 : s.length < 3
  · rw [decide_eq_true (by omega), cT]
  rw [decide_eq_false (by omega), cF]
  by_cases c2 : 200 < s.length
  · rw [decide_eq_true (by omega), cT]
  have hsub : subI (0 : Int) 3 s.length = some (0, 3) := by unfold subI; rw [if_pos (by omega)]; rfl
  rw [decide_eq_false (by omega), cF, hsub, obs]
  by_cases c3 : List.drop 0 (List.take 3 s) = [80, 53, 10]
  · have h15 := s_l15Pair (s := s) (by omega) (a := 3) (by omega) 32
    rw [beq_iff_eq.2 c3, nT, cF, show ((3 : Int)) = ((3 : Nat) : Int) from rfl, show ((32 : Int)) = ((32 : Nat) : Int) from rfl, h15, obs, s_In', obs]
    by_cases c4 : 1 ≤ (pairAt s 3 32).1 ∧ (pairAt s 3 32).1 ≤ 10
    · rw [decide_eq_true c4, nT, cF, s_In', obs]
      by_cases c5 : 1 ≤ (pairAt s 3 32).2.1 ∧ (pairAt s 3 32).2.1 ≤ 10
      · rw [decide_eq_true c5, nT, cF]
        obtain ⟨m, v, e, hq, hd, hes, hee⟩ := pairAt_inv (s := s) (a := 3) (c := 32) (by
          have : pairAt s 3 (32 : UInt8).toNat = pairAt s 3 32 := rfl
          rw [this]; omega)
        have hq : pairAt s 3 32 = ((m : Int), (v : Int), (e : Int)) := hq
        rw [hq] at c4 c5 ⊢
        simp only at c4 c5 ⊢
        have hm := mul_le c4 c5
        rw [wrapI (n := (s.length : Int) - (e : Int)) (by omega) (by omega), wrapI (n := (m : Int) * (v : Int)) (by omega) (by omega), wrapI (n := 5 + (m : Int) * (v : Int)) (by omega) (by omega)]
        by_cases c6 : (s.length : Int) - (e : Int) = 5 + (m : Int) * (v : Int)
        · rw [show (((s.length : Int) - (e : Int)) != 5 + (m : Int) * (v : Int)) = false by simpa [bne] using c6, cF, wrapI (n := (e : Int) + 5) (by omega) (by omega)]
          have hsub2 : subI ((e : Nat) : Int) ((e + 5 : Nat) : Int) s.length = some (e, e + 5) := by
            unfold subI; rw [if_pos (by omega)]
            simp; omega
          rw [show (e : Int) + 5 = ((e + 5 : Nat) : Int) by omega, hsub2, obs]
          by_cases c7 : List.drop e (List.take (e + 5) s) = [10, 50, 53, 53, 10]
          · exfalso
            have h5 : s.drop e = [10, 50, 53, 53, 10] ++ s.drop (e + 5) := by
              rw [List.drop_take, show e + 5 - e = 5 by omega] at c7
              rw [← c7, ← List.drop_drop, List.take_append_drop]
            refine p (m : Int) (v : Int) (s.drop (e + 5)) ⟨c4.1, c4.2, c5.1, c5.2, ?_, by rw [List.length_drop]; omega⟩
            unfold headS
            rw [itoa_pos (by omega), itoa_pos (by omega), Int.toNat_natCast, Int.toNat_natCast]
            have h3 : s = [80, 53, 10] ++ s.drop 3 := by
              rw [List.drop_zero] at c3
              rw [← c3, List.take_append_drop]
            conv => lhs; rw [h3, hd, h5]
            simp
          · rw [beq_eq_false_iff_ne.2 c7, nF, cT]
        · rw [show (((s.length : Int) - (e : Int)) != 5 + (m : Int) * (v : Int)) = true by simpa [bne] using c6, cT]
      · rw [decide_eq_false c5, nF, cT]
    · rw [decide_eq_false c4, nF, cT]
  · rw [beq_eq_false_iff_ne.2 c3, nF, cT]

theorem pic_cases {s : Str} (hs : s.length ≤ 1048576) : ∃ v : PV, F_i_ReadPicture s = some v ∧ F_s_ReadPicture s = some v ∧ v.1.length ≤ 1000 := by
  by_cases h : ∃ w h b, IsPic s w h b
  · obtain ⟨w, h, b, p⟩ := h
    refine ⟨_, i_Pic_hit hs p, s_Pic_hit p, ?_⟩
    have hm := mul_le ⟨p.1, p.2.1⟩ ⟨p.2.2.1, p.2.2.2.1⟩
    have := p.2.2.2.2.2
    simp [numsOf]; omega
  · have p : ∀ w h b, ¬ IsPic s w h b := fun w h' b p => h ⟨w, h', b, p⟩
    exact ⟨_, i_Pic_miss hs p, s_Pic_miss hs p, by simp⟩
end Go.Proofs.YtnhibkgoinnmcaaDoor.Ev
