/- Runs that are read: the two readings agree. -/
import Derived.Test.YtnhibkgoinnmcaaDoorCPuRunsTxt
import Derived.Test.YtnhibkgoinnmcaaDoorCPuPair
import Derived.Test.YtnhibkgoinnmcaaDoorCPuSplit
import Derived.Lib.AtoiAllCases
namespace Go.Proofs.YtnhibkgoinnmcaaDoor.Ev
open Go
set_option linter.unusedVariables false
set_option linter.unusedSimpArgs false
set_option linter.unusedSectionVars false

def rdPart (p : Str) : Rn := ((atoiV (Lib.cut p [120]).2.1).1, (atoiV (Lib.cut p [120]).1).1)
/-- What a text reads as. -/
def rdRuns (s : Str) : List Rn := if s = [] then [] else (parts 44 s).map rdPart
def rdRunsV (s : Str) : List Rn × Bool := if goodR (rdRuns s) = true ∧ runsTxt (rdRuns s) = s then (rdRuns s, true) else ([], false)

theorem atoiV_dec (u : Nat) (h : u ≤ 9999) : (atoiV (Lib.decDigits u)).1 = (u : Int) := by
  have := atoi_itoa (v := (u : Int)) (by omega) (by omega)
  rw [itoa_pos (by omega), Int.toNat_natCast] at this
  unfold atoiV
  rw [this]
theorem atoiV_i64 (s : Str) : I64 (atoiV s).1 := by
  unfold I64 atoiV
  split
  · have := Lib.atoiAll_bounds (by assumption); exact this
  · unfold Lib.atoiSat; split <;> simp
  · simp
theorem dec_no {u : Nat} {c : UInt8} (h : isDig c = false) : c ∉ Lib.decDigits u := fun hm => by rw [(canon_dec u).1.1 c hm] at h; cases h
theorem dg44 : isDig 44 = false := by decide
theorem dg120 : isDig 120 = false := by decide

theorem runTxt_dec {r : Rn} (h : 0 ≤ r.1 ∧ r.1 ≤ 255 ∧ 1 ≤ r.2 ∧ r.2 ≤ 100) : runTxt r = Lib.decDigits r.2.toNat ++ 120 :: Lib.decDigits r.1.toNat := by
  unfold runTxt
  rw [itoa_pos (by omega), itoa_pos (by omega)]
theorem runTxt_no {r : Rn} (h : 0 ≤ r.1 ∧ r.1 ≤ 255 ∧ 1 ≤ r.2 ∧ r.2 ≤ 100) : (44 : UInt8) ∉ runTxt r := by
  rw [runTxt_dec h]
  intro hm
  rcases List.mem_append.1 hm with hm | hm
  · exact dec_no dg44 hm
  · rcases List.mem_cons.1 hm with hm | hm
    · cases hm
    · exact dec_no dg44 hm
theorem rdPart_txt {r : Rn} (h : 0 ≤ r.1 ∧ r.1 ≤ 255 ∧ 1 ≤ r.2 ∧ r.2 ≤ 100) : rdPart (runTxt r) = r := by
  unfold rdPart
  rw [runTxt_dec h, cut_some (dec_no dg120)]
  simp only
  rw [atoiV_dec _ (by omega), atoiV_dec _ (by omega)]
  obtain ⟨a, b⟩ := r
  simp only at h ⊢
  congr 1 <;> omega
theorem runTxt_ne (r : Rn) : runTxt r ≠ [] := by unfold runTxt; simp
theorem runsTxt_ne {l : List Rn} (h : l ≠ []) : runsTxt l ≠ [] := by
  cases l with
  | nil => exact absurd rfl h
  | cons r l =>
    unfold runsTxt
    rw [List.map_cons, Lib.join_cons]
    intro hh
    exact runTxt_ne r (List.append_eq_nil_iff.1 hh).1
theorem rdRuns_txt {l : List Rn} (h : ∀ r ∈ l, 0 ≤ r.1 ∧ r.1 ≤ 255 ∧ 1 ≤ r.2 ∧ r.2 ≤ 100) : rdRuns (runsTxt l) = l := by
  by_cases h0 : l = []
  · subst h0; rfl
  · unfold rdRuns
    rw [if_neg (runsTxt_ne h0)]
    unfold runsTxt
    rw [parts_join _ (by simpa using h0) (fun x hx => by
      obtain ⟨r, hr, rfl⟩ := List.mem_map.1 hx
      exact runTxt_no (h r hr)), List.map_map]
    conv => rhs; rw [← List.map_id l]
    exact List.map_congr_left fun r hr => rdPart_txt (h r hr)

theorem i_ReadRuns {s : Str} (hs : s.length ≤ 1048576) : F_i_ReadRuns s = some (rdRunsV s) := by
  unfold F_i_ReadRuns
  by_cases h0 : s = []
  · subst h0
    rw [show (([] : Str) == []) = true from rfl, cT]
    rfl
  · rw [beq_eq_false_iff_ne.2 h0, cF]
    unfold F_strings_Split
    rw [split_is (by omega), obs]
    by_cases hn : 100 < (parts 44 s).length
    · rw [decide_eq_true (by omega), cT]
      unfold rdRunsV
      rw [if_neg]
      rintro ⟨h1, _⟩
      have := (goodR_facts h1).2
      unfold rdRuns at this
      rw [if_neg h0, List.length_map] at this
      omega
    · rw [decide_eq_false (by omega), cF]
      obtain ⟨_, h1, _⟩ := up_loop (body := fun (t : (List Rn × (List Str × (Str × (Int × Int))))) => B_i_ReadRuns_0 t.1 t.2.1 t.2.2.1 t.2.2.2.1 t.2.2.2.2)
        (fun k (_ : Unit) => (((parts 44 s).take k).map rdPart, parts 44 s, s, ((parts 44 s).length : Int), (k : Int))) (fun _ => ((parts 44 s).map rdPart, s)) (fun _ _ => True) (parts 44 s).length (by
          intro k _ hk _
          have he : (parts 44 s)[k]? = some (parts 44 s)[k] := List.getElem?_eq_getElem hk
          generalize (parts 44 s)[k] = p at he
          have hp := parts_len s.length s (Nat.le_refl _) p (List.mem_of_getElem? he)
          have hc : (Lib.cut p [120]).1.length ≤ p.length ∧ (Lib.cut p [120]).2.1.length ≤ p.length := by
            rcases cut_at 120 p with h | ⟨x, r, rfl, h⟩
            · rw [cut_none h]; simp
            · rw [cut_some h]; simp; omega
          refine ⟨(), ?_, trivial⟩
          unfold B_i_ReadRuns_0
          simp only
          unfold F_strings_Cut F_cut F_strconv_Atoi F_atoi
          rw [decide_eq_true (by omega), cT, idxI_nat hk, obs, show getN (parts 44 s) k = some p from he, obs, if_pos (by omega), obs, if_pos (by omega), obs, if_pos (by omega), obs,
            appL_is (by simp [maxBytes]; omega) (by simp [maxBytes]; omega), obs, wrap1 (by omega), List.take_add_one, he]
          simp [rdPart]) (by
          intro _ _
          unfold B_i_ReadRuns_0
          simp) 0 () (by omega) trivial
      have h1' : loopM (fun (t : (List Rn × (List Str × (Str × (Int × Int))))) => B_i_ReadRuns_0 t.1 t.2.1 t.2.2.1 t.2.2.2.1 t.2.2.2.2) (([] : List Rn), parts 44 s, s, ((parts 44 s).length : Int), (0 : Int)) = _ := h1
      rw [h1', obs]
      have er : (parts 44 s).map rdPart = rdRuns s := by unfold rdRuns; rw [if_neg h0]
      have hlen : (rdRuns s).length ≤ 100 := by rw [← er, List.length_map]; omega
      simp only [er]
      rw [i_GoodRuns (by omega), obs]
      unfold rdRunsV
      cases hg : goodR (rdRuns s) with
      | false => rw [nF, cT, if_neg (fun h => by cases h.1)]
      | true =>
        rw [nT, cF, i_runsText (fun r hr => by
          rw [← er] at hr
          obtain ⟨p, _, rfl⟩ := List.mem_map.1 hr
          exact ⟨atoiV_i64 _, atoiV_i64 _⟩) (by omega), obs]
        by_cases ht : runsTxt (rdRuns s) = s
        · rw [if_pos ⟨rfl, ht⟩, ht, beq_self_eq_true, nT, cF]
        · rw [if_neg (fun h => ht h.2), beq_eq_false_iff_ne.2 ht, nF, cT]

/-! ### the other reading -/
abbrev RRs := List Rn × (Str × Int)
noncomputable def rrB : RRs → Option (RRs ⊕ ((List Rn × Str) ⊕ (List Rn × Bool))) := fun t => B_s_ReadRuns_0 t.1 t.2.1 t.2.2

theorem pairAt_place (s : Str) (a b : Nat) (h : 0 ≤ (pairAt s a b).2.1) : ∃ e : Nat, (pairAt s a b).2.2 = (e : Int) ∧ a < e ∧ e ≤ a + 9 ∧ e ≤ s.length := by
  unfold pairAt at h ⊢
  simp only at h ⊢
  split at h
  · simp at h
  · rename_i hc
    rw [if_neg hc]
    simp only at h ⊢
    unfold intAt at h ⊢
    simp only at h ⊢
    split at h
    · simp at h
    · rename_i hc2
      rw [if_neg hc2]
      have h1 := digs_len s 4 a
      have h2 := digs_len s 4 (a + (digs s 4 a).length + 1)
      refine ⟨_, rfl, by omega, by omega, ?_⟩
      have hne : digs s 4 (a + (digs s 4 a).length + 1) ≠ [] := fun h => hc2 (.inl h)
      have hpos := List.length_pos_iff.2 hne
      have h3 := digs_at s 4 (a + (digs s 4 a).length + 1) ((digs s 4 (a + (digs s 4 a).length + 1)).length - 1) (by omega)
      rw [List.getElem?_eq_getElem (l := digs s 4 (a + (digs s 4 a).length + 1)) (by omega)] at h3
      have := getL h3
      omega

open Classical in
/-- One turn: it ends badly, or goes on behind the pair. -/
theorem rr_step {s : Str} (hs : s.length ≤ 1048576) {out : List Rn} (hout : out.length ≤ 101) {a : Nat} (ha : a < s.length) :
    rrB (out, s, (a : Int)) = if (pairAt s a 120).2.1 < 0 ∨ (∃ e : Nat, (pairAt s a 120).2.2 = (e : Int) ∧ ((∃ c, s[e]? = some c ∧ c ≠ 44) ∨ e + 1 = s.length)) ∨ 100 < out.length then some (.inr (.inr ([], false)))
      else some (.inl (out ++ [((pairAt s a 120).2.1, (pairAt s a 120).1)], s, (pairAt s a 120).2.2 + 1)) := by
  unfold rrB B_s_ReadRuns_0
  simp only
  have hp := s_l15Pair (s := s) (by omega) (a := a) (by omega) 120
  rw [decide_eq_true (by omega), cT, show ((120 : Int)) = ((120 : Nat) : Int) from rfl, hp, obs]
  by_cases h1 : (pairAt s a 120).2.1 < 0
  · rw [decide_eq_true h1, cT, if_pos (.inl h1), obs]; rfl
  · obtain ⟨e, he, hae, hea, hes⟩ := pairAt_place s a 120 (by omega)
    rw [decide_eq_false h1, cF]
    have hap : ∀ x : Rn, appL 16 2 out [x] = some (out ++ [x]) := fun x => appL_is (by simp [maxBytes]; omega) (by simp [maxBytes]; omega)
    generalize pairAt s a 120 = q at *
    obtain ⟨q1, q2, q3⟩ := q
    simp only at h1 he ⊢
    subst he
    have hw : IntKind.wrap .i64 ((e : Int) + 1) = ((e + 1 : Nat) : Int) := wrap1 (by omega)
    rw [hw]
    have fin : ∀ {Z : Option (RRs ⊕ ((List Rn × Str) ⊕ (List Rn × Bool)))}, e + 1 ≠ s.length → (¬ ∃ c, s[e]? = some c ∧ c ≠ 44) →
        ((bif (((e + 1 : Nat) : Int) == (s.length : Int)) then some (Sum.inl (Sum.inr (Sum.inr (([] : List Rn), false)))) else
          bif decide ((out.length : Int) > 100) then some (Sum.inl (Sum.inr (Sum.inr (([] : List Rn), false)))) else some (Sum.inr (out, (s, (q1, (q2, (e : Int)))))) : Option ((RRs ⊕ ((List Rn × Str) ⊕ (List Rn × Bool))) ⊕ (List Rn × (Str × (Int × (Int × Int))))))).bind (fun x2 => Sum.elim (fun x3 => some x3)
            (fun x4 => (appL 16 2 x4.1 (List.cons (x4.2.2.2.1, x4.2.2.1) List.nil)).bind fun x5 => some (Sum.inl (x5, (x4.2.1, IntKind.wrap .i64 (x4.2.2.2.2 + 1))))) x2) =
        if q2 < 0 ∨ (∃ e' : Nat, (e : Int) = (e' : Int) ∧ ((∃ c, s[e']? = some c ∧ c ≠ 44) ∨ e' + 1 = s.length)) ∨ 100 < out.length then some (.inr (.inr ([], false))) else some (.inl (out ++ [(q2, q1)], s, (e : Int) + 1)) := by
      intro _ h2 h3
      rw [show (((e + 1 : Nat) : Int) == (s.length : Int)) = false by simp; omega, cF]
      by_cases h4 : 100 < out.length
      · rw [decide_eq_true (by omega), cT, if_pos (.inr (.inr h4)), obs]; rfl
      · rw [decide_eq_false (by omega), cF, if_neg, obs]
        · simp only [Sum.elim_inr]
          rw [hap, obs, hw]
          rfl
        · rintro (h | ⟨e', he', h⟩ | h)
          · exact h1 h
          · have : e' = e := by omega
            subst this
            rcases h with h | h
            · exact h3 h
            · exact h2 h
          · exact h4 h
    by_cases h2 : e < s.length
    · obtain ⟨c, hc⟩ : ∃ c, s[e]? = some c := ⟨_, List.getElem?_eq_getElem h2⟩
      rw [decide_eq_true (by omega), cT, getI_nat, hc, obs]
      by_cases h3 : c = 44
      · subst h3
        rw [show ((((44 : UInt8).toNat : Nat) : Int) != 44) = false from rfl, cF]
        by_cases h4 : e + 1 = s.length
        · rw [show (((e + 1 : Nat) : Int) == (s.length : Int)) = true by simp; omega, cT, if_pos (.inr (.inl ⟨e, rfl, .inr h4⟩)), obs]; rfl
        · exact fin (Z := none) h4 (fun ⟨c, h5, h6⟩ => by rw [hc] at h5; cases h5; exact h6 rfl)
      · have h3' : c.toNat ≠ 44 := fun h => h3 (UInt8.toNat_inj.1 (show c.toNat = (44 : UInt8).toNat from h))
        rw [show (((c.toNat : Nat) : Int) != 44) = true by simp [bne]; omega, cT, if_pos (.inr (.inl ⟨e, rfl, .inl ⟨c, hc, h3⟩⟩)), obs]; rfl
    · rw [decide_eq_false (by omega), cF]
      exact fin (Z := none) (by omega) (fun ⟨c, h5, h6⟩ => by have := getL h5; omega)

theorem rr_end {s : Str} {out : List Rn} {a : Int} (ha : (s.length : Int) ≤ a) : rrB (out, s, a) = some (.inr (.inl (out, s))) := by
  unfold rrB B_s_ReadRuns_0
  simp only
  rw [decide_eq_false (by omega), cF]

/-- It ends, whatever the text. -/
theorem rr_any {s : Str} (hs : s.length ≤ 1048576) : ∃ r, loopM rrB (([] : List Rn), s, (0 : Int)) = some r ∧ (r = .inr ([], false) ∨ ∃ out, r = .inl (out, s) ∧ out.length ≤ 101) := by
  refine loop_one (f := rrB) (I := fun t => ∃ (out : List Rn) (a : Nat), t = (out, s, (a : Int)) ∧ out.length ≤ 101) (fun t => (s.length - t.2.2).toNat) ?_ _ ⟨[], 0, rfl, by simp⟩
  rintro t ⟨out, a, rfl, ho⟩
  by_cases ha : a < s.length
  · rw [rr_step hs ho ha]
    split
    · right; exact ⟨_, rfl, .inl rfl⟩
    · rename_i hc
      have h1 : ¬ (pairAt s a 120).2.1 < 0 := fun h => hc (.inl h)
      obtain ⟨e, he, hae, _, hes⟩ := pairAt_place s a 120 (by omega)
      have h4 : out.length ≤ 100 := by
        rcases Nat.lt_or_ge 100 out.length with h | h
        · exact absurd (.inr (.inr h)) hc
        · exact h
      left
      refine ⟨_, rfl, ⟨_, e + 1, by rw [he]; rfl, by simp; omega⟩, ?_⟩
      simp only [he]
      omega
  · right
    exact ⟨_, rr_end (by omega), .inr ⟨out, rfl, ho⟩⟩

/-- It reads what is written. -/
theorem rr_txt {l : List Rn} (h : ∀ r ∈ l, 0 ≤ r.1 ∧ r.1 ≤ 255 ∧ 1 ≤ r.2 ∧ r.2 ≤ 100) (hl : l.length ≤ 100) : loopM rrB (([] : List Rn), runsTxt l, (0 : Int)) = some (.inl (l, runsTxt l)) := by
  have hlen := runsTxt_len h
  generalize hs : runsTxt l = s at *
  have key : ∀ (n j a : Nat), j + n = l.length → (n ≠ 0 → s.drop a = runsTxt (l.drop j) ∧ a < s.length) → (n = 0 → s.length ≤ a) → loopM rrB (l.take j, s, (a : Int)) = some (.inl (l, s)) := by
    intro n
    induction n with
    | zero =>
      intro j a hj _ ha
      rw [loop_end (rr_end (by have := ha rfl; omega)), show j = l.length by omega, List.take_length]
    | succ n ih =>
      intro j a hj ha _
      obtain ⟨hd, hlt⟩ := ha (by omega)
      have hjl : j < l.length := by omega
      have he : l[j]? = some l[j] := List.getElem?_eq_getElem hjl
      have hdj : l.drop j = l[j] :: l.drop (j + 1) := List.drop_eq_getElem_cons hjl
      generalize l[j] = r at he hdj
      have hr := h r (List.mem_of_getElem? he)
      -- the text from here on
      obtain ⟨t, ht, ht1, ht2⟩ : ∃ t : Str, runsTxt (l.drop j) = runTxt r ++ t ∧ (n = 0 → t = []) ∧ (n ≠ 0 → t = 44 :: runsTxt (l.drop (j + 1))) := by
        rw [hdj]
        unfold runsTxt
        rw [List.map_cons, Lib.join_cons]
        refine ⟨_, rfl, fun h0 => ?_, fun h0 => ?_⟩
        · rw [List.drop_eq_nil_of_le (by omega)]; rfl
        · cases hz : l.drop (j + 1) with
          | nil =>
            have := congrArg List.length hz
            simp at this; omega
          | cons r2 l2 =>
            rw [List.map_cons, Lib.join_cons]
            simp [Lib.joinTail]
      rw [ht, runTxt_dec hr] at hd
      have hd' : s.drop a = Lib.decDigits r.2.toNat ++ (120 :: (Lib.decDigits r.1.toNat ++ t)) := by rw [hd]; simp
      have hth : ∀ b, t.head? = some b → isDig b = false := by
        intro b hb
        by_cases h0 : n = 0
        · rw [ht1 h0] at hb; cases hb
        · rw [ht2 h0] at hb; cases hb; exact dg44
      have hq : pairAt s a 120 = _ := pairAt_num (c := 120) hd' (by omega) (by omega) dg120 hth
      have hD : s.drop a = (Lib.decDigits r.2.toNat ++ 120 :: Lib.decDigits r.1.toNat) ++ t := hd
      have hL : (Lib.decDigits r.2.toNat ++ 120 :: Lib.decDigits r.1.toNat).length = (Lib.decDigits r.2.toNat).length + 1 + (Lib.decDigits r.1.toNat).length := by simp; omega
      have hlen2 := drop_len hD (by simp)
      have hg := drop_get hD 0
      have hdr := drop_drop' hD
      rw [hL] at hlen2 hg hdr
      generalize hE : a + ((Lib.decDigits r.2.toNat).length + 1 + (Lib.decDigits r.1.toNat).length) = E at *
      have hE' : a + (Lib.decDigits r.2.toNat).length + 1 + (Lib.decDigits r.1.toNat).length = E := by omega
      rw [hE'] at hq
      have hstep := rr_step (s := s) (by omega) (out := l.take j) (by rw [List.length_take]; omega) (a := a) hlt
      rw [hq] at hstep
      simp only at hstep
      have hne : ¬(((r.1.toNat : Nat) : Int) < 0 ∨ (∃ e : Nat, (E : Int) = (e : Int) ∧ ((∃ c, s[e]? = some c ∧ c ≠ 44) ∨ e + 1 = s.length)) ∨ 100 < (l.take j).length) := by
        rintro (h1 | ⟨e, he1, h1⟩ | h1)
        · omega
        · have : e = E := by omega
          subst this
          by_cases h0 : n = 0
          · rw [ht1 h0] at hg hlen2
            simp only [List.length_nil] at hlen2
            rcases h1 with ⟨c, hc, _⟩ | h1
            · rw [hg] at hc; cases hc
            · omega
          · rw [ht2 h0] at hg hlen2
            rcases h1 with ⟨c, hc, hc2⟩ | h1
            · rw [hg] at hc
              simp at hc
              exact hc2 hc.symm
            · have := List.length_pos_iff.2 (runsTxt_ne (l := l.drop (j + 1)) (fun hz => by
                have := congrArg List.length hz
                simp at this; omega))
              rw [List.length_cons] at hlen2
              omega
        · rw [List.length_take] at h1; omega
      rw [if_neg hne] at hstep
      rw [loop_go hstep]
      have e1 : (l.take j ++ [(((r.1.toNat : Nat) : Int), ((r.2.toNat : Nat) : Int))]) = l.take (j + 1) := by
        rw [List.take_add_one, he]
        congr 1
        have : (((r.1.toNat : Nat) : Int), ((r.2.toNat : Nat) : Int)) = r := by
          obtain ⟨r1, r2⟩ := r
          simp only at hr ⊢
          congr 1 <;> omega
        rw [this]; rfl
      rw [e1, show (E : Int) + 1 = ((E + 1 : Nat) : Int) by omega]
      refine ih (j + 1) (E + 1) (by omega) (fun h0 => ?_) (fun h0 => ?_)
      · rw [ht2 h0] at hdr hlen2
        have hpos := List.length_pos_iff.2 (runsTxt_ne (l := l.drop (j + 1)) (fun hz => by
          have := congrArg List.length hz
          simp at this; omega))
        rw [List.length_cons] at hlen2
        refine ⟨?_, by omega⟩
        rw [← List.drop_drop, hdr]; rfl
      · rw [ht1 h0] at hlen2
        simp only [List.length_nil] at hlen2
        omega
  have := key l.length 0 0 (by omega) (fun h0 => ⟨by rw [List.drop_zero, List.drop_zero, hs], by
    rw [← hs]
    exact List.length_pos_iff.2 (runsTxt_ne (fun h => h0 (by rw [h]; rfl)))⟩) (fun h0 => by
    have : l = [] := List.eq_nil_of_length_eq_zero h0
    subst this
    rw [← hs]; simp [runsTxt, Lib.join_nil])
  exact this

theorem s_ReadRuns {s : Str} (hs : s.length ≤ 1048576) : F_s_ReadRuns s = some (rdRunsV s) := by
  unfold F_s_ReadRuns
  show ((loopM rrB (([] : List Rn), s, (0 : Int))).bind _) = _
  unfold rdRunsV
  by_cases h : goodR (rdRuns s) = true ∧ runsTxt (rdRuns s) = s
  · obtain ⟨hg, ht⟩ := h
    obtain ⟨h1, h2⟩ := goodR_facts hg
    have := rr_txt h1 h2
    rw [ht] at this
    rw [this, obs, if_pos ⟨hg, ht⟩]
    simp only [Sum.elim_inl]
    rw [s_GoodRuns (by omega), hg, obs, nT, cF, s_l15Text h1 h2, obs, ht, beq_self_eq_true, nT, cF]
  · rw [if_neg h]
    obtain ⟨r, h1, h2⟩ := rr_any hs
    rw [h1, obs]
    rcases h2 with rfl | ⟨out, rfl, ho⟩
    · rfl
    · simp only [Sum.elim_inl]
      rw [s_GoodRuns (by omega), obs]
      cases hg : goodR out with
      | false => rw [nF, cT]
      | true =>
        obtain ⟨g1, g2⟩ := goodR_facts hg
        rw [nT, cF, s_l15Text g1 g2, obs]
        by_cases ht : runsTxt out = s
        · exfalso
          have := rdRuns_txt g1
          rw [ht] at this
          exact h ⟨by rw [this]; exact hg, by rw [this]; exact ht⟩
        · rw [beq_eq_false_iff_ne.2 ht, nF, cT]
end Go.Proofs.YtnhibkgoinnmcaaDoor.Ev
