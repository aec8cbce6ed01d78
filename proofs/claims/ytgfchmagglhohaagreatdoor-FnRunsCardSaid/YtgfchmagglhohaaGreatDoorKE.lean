/- Whatever comes in, the law of this claim answers true, and nothing that was handed in changes. -/
import Derived.Test.YtgfchmagglhohaaGreatDoorKD
import Derived.Lib.AtoiAllCases
import Derived.Test.YtgfchmagglhohaaGreatDoorRows
import Derived.Test.YtgfchmagglhohaaGreatDoorCards
import Derived.Test.YtgfchmagglhohaaGreatDoorTie
import Derived.WalkKit
import Derived.ProofKit
import Derived.OpenShut
import Derived.ShutString
import Derived.ChangeOld
import Derived.Below
import Derived.SizedLaws
import Derived.SevenTiedAt
import Derived.LaidMore
import Derived.Lay
import Derived.Stop.Joined
import Derived.Test.YtgfchmagglhohaaGreatDoorChecked
section
namespace Go.Proofs.YtgfchmagglhohaaGreatDoor.Ev
open Go
set_option linter.unusedVariables false
set_option linter.unusedSimpArgs false
set_option linter.unusedSectionVars false
def rdPart (p : Str) : Rn := ((atoiV (Lib.cut p [120]).2.1).1, (atoiV (Lib.cut p [120]).1).1)
def rdRuns (s : Str) : List Rn := if s = [] then [] else (parts 44 s).map rdPart
def rdRunsV (s : Str) : List Rn × Bool := if goodR (rdRuns s) = true ∧ runsTxt (rdRuns s) = s then (rdRuns s, true) else ([], false)
theorem Lb (u : Nat) (h : u ≤ 9999) : (atoiV (Lib.decDigits u)).1 = (u : Int) := by
  have := Pp (v := (u : Int)) (by omega) (by omega)
  rw [F7 (by omega), Int.toNat_natCast] at this
  unfold atoiV
  rw [this]
theorem KH (s : Str) : I64 (atoiV s).1 := by
  unfold I64 atoiV
  split
  · have := Lib.atoiAll_bounds (by assumption); exact this
  · unfold Lib.atoiSat; split <;> simp
  · simp
theorem Ns {u : Nat} {c : UInt8} (h : isDig c = false) : c ∉ Lib.decDigits u := fun hm => by rw [(Ds u).1.1 c hm] at h; cases h
theorem dg44 : isDig 44 = false := by decide
theorem dg120 : isDig 120 = false := by decide
theorem FL {r : Rn} (h : 0 ≤ r.1 ∧ r.1 ≤ 255 ∧ 1 ≤ r.2 ∧ r.2 ≤ 100) : runTxt r = Lib.decDigits r.2.toNat ++ 120 :: Lib.decDigits r.1.toNat := by
  unfold runTxt
  rw [F7 (by omega), F7 (by omega)]
theorem O5 {r : Rn} (h : 0 ≤ r.1 ∧ r.1 ≤ 255 ∧ 1 ≤ r.2 ∧ r.2 ≤ 100) : (44 : UInt8) ∉ runTxt r := by
  rw [FL h]
  intro hm
  rcases List.mem_append.1 hm with hm | hm
  · exact Ns dg44 hm
  · rcases List.mem_cons.1 hm with hm | hm
    · cases hm
    · exact Ns dg44 hm
theorem N4 {r : Rn} (h : 0 ≤ r.1 ∧ r.1 ≤ 255 ∧ 1 ≤ r.2 ∧ r.2 ≤ 100) : rdPart (runTxt r) = r := by
  unfold rdPart
  rw [FL h, Ni (Ns dg120)]
  simp only
  rw [Lb _ (by omega), Lb _ (by omega)]
  obtain ⟨a, b⟩ := r
  simp only at h ⊢
  congr 1 <;> omega
theorem Pv (r : Rn) : runTxt r ≠ [] := by unfold runTxt; simp
theorem Ec {l : List Rn} (h : l ≠ []) : runsTxt l ≠ [] := by
  cases l with
  | nil => exact absurd rfl h
  | cons r l =>
    unfold runsTxt
    rw [List.map_cons, Lib.join_cons]
    intro hh
    exact Pv r (List.append_eq_nil_iff.1 hh).1
theorem JO {l : List Rn} (h : ∀ r ∈ l, 0 ≤ r.1 ∧ r.1 ≤ 255 ∧ 1 ≤ r.2 ∧ r.2 ≤ 100) : rdRuns (runsTxt l) = l := by
  by_cases h0 : l = []
  · subst h0; rfl
  · unfold rdRuns
    rw [if_neg (Ec h0)]
    unfold runsTxt
    rw [JE _ (by simpa using h0) (fun x hx => by
      obtain ⟨r, hr, rfl⟩ := List.mem_map.1 hx
      exact O5 (h r hr)), List.map_map]
    conv => rhs; rw [← List.map_id l]
    exact List.map_congr_left fun r hr => N4 (h r hr)
theorem J1 {s : Str} (hs : s.length ≤ 1048576) : AJ s = some (rdRunsV s) := by
  unfold AJ
  by_cases h0 : s = []
  · subst h0
    rw [show (([] : Str) == []) = true from rfl, cT]
    rfl
  · rw [beq_eq_false_iff_ne.2 h0, cF]
    unfold CF
    rw [Qo (by omega), obs]
    by_cases hn : 100 < (parts 44 s).length
    · rw [decide_eq_true (by omega), cT]
      unfold rdRunsV
      rw [if_neg]
      rintro ⟨h1, _⟩
      have := (AL h1).2
      unfold rdRuns at this
      rw [if_neg h0, List.length_map] at this
      omega
    · rw [decide_eq_false (by omega), cF]
      obtain ⟨_, h1, _⟩ := D1 (body := fun (t : (List Rn × (List Str × (Str × (Int × Int))))) => Bo t.1 t.2.1 t.2.2.1 t.2.2.2.1 t.2.2.2.2)
        (fun k (_ : Unit) => (((parts 44 s).take k).map rdPart, parts 44 s, s, ((parts 44 s).length : Int), (k : Int))) (fun _ => ((parts 44 s).map rdPart, s)) (fun _ _ => True) (parts 44 s).length (by
          intro k _ hk _
          have he : (parts 44 s)[k]? = some (parts 44 s)[k] := List.getElem?_eq_getElem hk
          generalize (parts 44 s)[k] = p at he
          have hp := PH s.length s (Nat.le_refl _) p (List.mem_of_getElem? he)
          have hc : (Lib.cut p [120]).1.length ≤ p.length ∧ (Lib.cut p [120]).2.1.length ≤ p.length := by
            rcases QE 120 p with h | ⟨x, r, rfl, h⟩
            · rw [QS h]; simp
            · rw [Ni h]; simp; omega
          refine ⟨(), ?_, trivial⟩
          unfold Bo
          simp only
          unfold Dj Mr B5 JR
          rw [decide_eq_true (by omega), cT, EL hk, obs, show getN (parts 44 s) k = some p from he, obs, if_pos (by omega), obs, if_pos (by omega), obs, if_pos (by omega), obs,
            BN (by simp [maxBytes]; omega) (by simp [maxBytes]; omega), obs, wrap1 (by omega), List.take_add_one, he]
          simp [rdPart]) (by
          intro _ _
          unfold Bo
          simp) 0 () (by omega) trivial
      have h1' : loopM (fun (t : (List Rn × (List Str × (Str × (Int × Int))))) => Bo t.1 t.2.1 t.2.2.1 t.2.2.2.1 t.2.2.2.2) (([] : List Rn), parts 44 s, s, ((parts 44 s).length : Int), (0 : Int)) = _ := h1
      rw [h1', obs]
      have er : (parts 44 s).map rdPart = rdRuns s := by unfold rdRuns; rw [if_neg h0]
      have hlen : (rdRuns s).length ≤ 100 := by rw [← er, List.length_map]; omega
      simp only [er]
      rw [BP (by omega), obs]
      unfold rdRunsV
      cases hg : goodR (rdRuns s) with
      | false => rw [nF, cT, if_neg (fun h => by cases h.1)]
      | true =>
        rw [nT, cF, Jp (fun r hr => by
          rw [← er] at hr
          obtain ⟨p, _, rfl⟩ := List.mem_map.1 hr
          exact ⟨KH _, KH _⟩) (by omega), obs]
        by_cases ht : runsTxt (rdRuns s) = s
        · rw [if_pos ⟨rfl, ht⟩, ht, beq_self_eq_true, nT, cF]
        · rw [if_neg (fun h => ht h.2), beq_eq_false_iff_ne.2 ht, nF, cT]
abbrev RRs := List Rn × (Str × Int)
noncomputable def rrB : RRs → Option (RRs ⊕ ((List Rn × Str) ⊕ (List Rn × Bool))) := fun t => BX t.1 t.2.1 t.2.2
theorem GX (s : Str) (a b : Nat) (h : 0 ≤ (pairAt s a b).2.1) : ∃ e : Nat, (pairAt s a b).2.2 = (e : Int) ∧ a < e ∧ e ≤ a + 9 ∧ e ≤ s.length := by
  unfold pairAt at h ⊢
  simp only at h ⊢
  split at h
  · simp at h
  · rename_i hc
    rw [if_neg hc]
    simp only at h ⊢
    unfold intAt at h ⊢
    simp only at h ⊢
    split at h
    · simp at h
    · rename_i hc2
      rw [if_neg hc2]
      have h1 := Gp s 4 a
      have h2 := Gp s 4 (a + (digs s 4 a).length + 1)
      refine ⟨_, rfl, by omega, by omega, ?_⟩
      have hne : digs s 4 (a + (digs s 4 a).length + 1) ≠ [] := fun h => hc2 (.inl h)
      have hpos := List.length_pos_iff.2 hne
      have h3 := Ix s 4 (a + (digs s 4 a).length + 1) ((digs s 4 (a + (digs s 4 a).length + 1)).length - 1) (by omega)
      rw [List.getElem?_eq_getElem (l := digs s 4 (a + (digs s 4 a).length + 1)) (by omega)] at h3
      have := getL h3
      omega
open Classical in
theorem O1 {s : Str} (hs : s.length ≤ 1048576) {out : List Rn} (hout : out.length ≤ 101) {a : Nat} (ha : a < s.length) :
    rrB (out, s, (a : Int)) = if (pairAt s a 120).2.1 < 0 ∨ (∃ e : Nat, (pairAt s a 120).2.2 = (e : Int) ∧ ((∃ c, s[e]? = some c ∧ c ≠ 44) ∨ e + 1 = s.length)) ∨ 100 < out.length then some (.inr (.inr ([], false)))
      else some (.inl (out ++ [((pairAt s a 120).2.1, (pairAt s a 120).1)], s, (pairAt s a 120).2.2 + 1)) := by
  unfold rrB BX
  simp only
  have hp := PQ (s := s) (by omega) (a := a) (by omega) 120
  rw [decide_eq_true (by omega), cT, show ((120 : Int)) = ((120 : Nat) : Int) from rfl, hp, obs]
  by_cases h1 : (pairAt s a 120).2.1 < 0
  · rw [decide_eq_true h1, cT, if_pos (.inl h1), obs]; rfl
  · obtain ⟨e, he, hae, hea, hes⟩ := GX s a 120 (by omega)
    rw [decide_eq_false h1, cF]
    have hap : ∀ x : Rn, appL 16 2 out [x] = some (out ++ [x]) := fun x => BN (by simp [maxBytes]; omega) (by simp [maxBytes]; omega)
    generalize pairAt s a 120 = q at *
    obtain ⟨q1, q2, q3⟩ := q
    simp only at h1 he ⊢
    subst he
    have hw : IntKind.wrap .i64 ((e : Int) + 1) = ((e + 1 : Nat) : Int) := wrap1 (by omega)
    rw [hw]
    have fin : ∀ {Z : Option (RRs ⊕ ((List Rn × Str) ⊕ (List Rn × Bool)))}, e + 1 ≠ s.length → (¬ ∃ c, s[e]? = some c ∧ c ≠ 44) →
        ((bif (((e + 1 : Nat) : Int) == (s.length : Int)) then some (Sum.inl (Sum.inr (Sum.inr (([] : List Rn), false)))) else
          bif decide ((out.length : Int) > 100) then some (Sum.inl (Sum.inr (Sum.inr (([] : List Rn), false)))) else some (Sum.inr (out, (s, (q1, (q2, (e : Int)))))) : Option ((RRs ⊕ ((List Rn × Str) ⊕ (List Rn × Bool))) ⊕ (List Rn × (Str × (Int × (Int × Int))))))).bind (fun x2 => Sum.elim (fun x3 => some x3)
            (fun x4 => (appL 16 2 x4.1 (List.cons (x4.2.2.2.1, x4.2.2.1) List.nil)).bind fun x5 => some (Sum.inl (x5, (x4.2.1, IntKind.wrap .i64 (x4.2.2.2.2 + 1))))) x2) =
        if q2 < 0 ∨ (∃ e' : Nat, (e : Int) = (e' : Int) ∧ ((∃ c, s[e']? = some c ∧ c ≠ 44) ∨ e' + 1 = s.length)) ∨ 100 < out.length then some (.inr (.inr ([], false))) else some (.inl (out ++ [(q2, q1)], s, (e : Int) + 1)) := by
      intro _ h2 h3
      rw [show (((e + 1 : Nat) : Int) == (s.length : Int)) = false by simp; omega, cF]
      by_cases h4 : 100 < out.length
      · rw [decide_eq_true (by omega), cT, if_pos (.inr (.inr h4)), obs]; rfl
      · rw [decide_eq_false (by omega), cF, if_neg, obs]
        · simp only [Sum.elim_inr]
          rw [hap, obs, hw]
          rfl
        · rintro (h | ⟨e', he', h⟩ | h)
          · exact h1 h
          · have : e' = e := by omega
            subst this
            rcases h with h | h
            · exact h3 h
            · exact h2 h
          · exact h4 h
    by_cases h2 : e < s.length
    · obtain ⟨c, hc⟩ : ∃ c, s[e]? = some c := ⟨_, List.getElem?_eq_getElem h2⟩
      rw [decide_eq_true (by omega), cT, Ao, hc, obs]
      by_cases h3 : c = 44
      · subst h3
        rw [show ((((44 : UInt8).toNat : Nat) : Int) != 44) = false from rfl, cF]
        by_cases h4 : e + 1 = s.length
        · rw [show (((e + 1 : Nat) : Int) == (s.length : Int)) = true by simp; omega, cT, if_pos (.inr (.inl ⟨e, rfl, .inr h4⟩)), obs]; rfl
        · exact fin (Z := none) h4 (fun ⟨c, h5, h6⟩ => by rw [hc] at h5; cases h5; exact h6 rfl)
      · have h3' : c.toNat ≠ 44 := fun h => h3 (UInt8.toNat_inj.1 (show c.toNat = (44 : UInt8).toNat from h))
        rw [show (((c.toNat : Nat) : Int) != 44) = true by simp [bne]; omega, cT, if_pos (.inr (.inl ⟨e, rfl, .inl ⟨c, hc, h3⟩⟩)), obs]; rfl
    · rw [decide_eq_false (by omega), cF]
      exact fin (Z := none) (by omega) (fun ⟨c, h5, h6⟩ => by have := getL h5; omega)
theorem Qq {s : Str} {out : List Rn} {a : Int} (ha : (s.length : Int) ≤ a) : rrB (out, s, a) = some (.inr (.inl (out, s))) := by
  unfold rrB BX
  simp only
  rw [decide_eq_false (by omega), cF]
theorem Si {s : Str} (hs : s.length ≤ 1048576) : ∃ r, loopM rrB (([] : List Rn), s, (0 : Int)) = some r ∧ (r = .inr ([], false) ∨ ∃ out, r = .inl (out, s) ∧ out.length ≤ 101) := by
  refine JA (f := rrB) (I := fun t => ∃ (out : List Rn) (a : Nat), t = (out, s, (a : Int)) ∧ out.length ≤ 101) (fun t => (s.length - t.2.2).toNat) ?_ _ ⟨[], 0, rfl, by simp⟩
  rintro t ⟨out, a, rfl, ho⟩
  by_cases ha : a < s.length
  · rw [O1 hs ho ha]
    split
    · right; exact ⟨_, rfl, .inl rfl⟩
    · rename_i hc
      have h1 : ¬ (pairAt s a 120).2.1 < 0 := fun h => hc (.inl h)
      obtain ⟨e, he, hae, _, hes⟩ := GX s a 120 (by omega)
      have h4 : out.length ≤ 100 := by
        rcases Nat.lt_or_ge 100 out.length with h | h
        · exact absurd (.inr (.inr h)) hc
        · exact h
      left
      refine ⟨_, rfl, ⟨_, e + 1, by rw [he]; rfl, by simp; omega⟩, ?_⟩
      simp only [he]
      omega
  · right
    exact ⟨_, Qq (by omega), .inr ⟨out, rfl, ho⟩⟩
theorem R6 {l : List Rn} (h : ∀ r ∈ l, 0 ≤ r.1 ∧ r.1 ≤ 255 ∧ 1 ≤ r.2 ∧ r.2 ≤ 100) (hl : l.length ≤ 100) : loopM rrB (([] : List Rn), runsTxt l, (0 : Int)) = some (.inl (l, runsTxt l)) := by
  have hlen := De h
  generalize hs : runsTxt l = s at *
  have key : ∀ (n j a : Nat), j + n = l.length → (n ≠ 0 → s.drop a = runsTxt (l.drop j) ∧ a < s.length) → (n = 0 → s.length ≤ a) → loopM rrB (l.take j, s, (a : Int)) = some (.inl (l, s)) := by
    intro n
    induction n with
    | zero =>
      intro j a hj _ ha
      rw [Be (Qq (by have := ha rfl; omega)), show j = l.length by omega, List.take_length]
    | succ n ih =>
      intro j a hj ha _
      obtain ⟨hd, hlt⟩ := ha (by omega)
      have hjl : j < l.length := by omega
      have he : l[j]? = some l[j] := List.getElem?_eq_getElem hjl
      have hdj : l.drop j = l[j] :: l.drop (j + 1) := List.drop_eq_getElem_cons hjl
      generalize l[j] = r at he hdj
      have hr := h r (List.mem_of_getElem? he)
      obtain ⟨t, ht, ht1, ht2⟩ : ∃ t : Str, runsTxt (l.drop j) = runTxt r ++ t ∧ (n = 0 → t = []) ∧ (n ≠ 0 → t = 44 :: runsTxt (l.drop (j + 1))) := by
        rw [hdj]
        unfold runsTxt
        rw [List.map_cons, Lib.join_cons]
        refine ⟨_, rfl, fun h0 => ?_, fun h0 => ?_⟩
        · rw [List.drop_eq_nil_of_le (by omega)]; rfl
        · cases hz : l.drop (j + 1) with
          | nil =>
            have := congrArg List.length hz
            simp at this; omega
          | cons r2 l2 =>
            rw [List.map_cons, Lib.join_cons]
            simp [Lib.joinTail]
      rw [ht, FL hr] at hd
      have hd' : s.drop a = Lib.decDigits r.2.toNat ++ (120 :: (Lib.decDigits r.1.toNat ++ t)) := by rw [hd]; simp
      have hth : ∀ b, t.head? = some b → isDig b = false := by
        intro b hb
        by_cases h0 : n = 0
        · rw [ht1 h0] at hb; cases hb
        · rw [ht2 h0] at hb; cases hb; exact dg44
      have hq : pairAt s a 120 = _ := Nt (c := 120) hd' (by omega) (by omega) dg120 hth
      have hD : s.drop a = (Lib.decDigits r.2.toNat ++ 120 :: Lib.decDigits r.1.toNat) ++ t := hd
      have hL : (Lib.decDigits r.2.toNat ++ 120 :: Lib.decDigits r.1.toNat).length = (Lib.decDigits r.2.toNat).length + 1 + (Lib.decDigits r.1.toNat).length := by simp; omega
      have hlen2 := Qg hD (by simp)
      have hg := Nb hD 0
      have hdr := Ji hD
      rw [hL] at hlen2 hg hdr
      generalize hE : a + ((Lib.decDigits r.2.toNat).length + 1 + (Lib.decDigits r.1.toNat).length) = E at *
      have hE' : a + (Lib.decDigits r.2.toNat).length + 1 + (Lib.decDigits r.1.toNat).length = E := by omega
      rw [hE'] at hq
      have hstep := O1 (s := s) (by omega) (out := l.take j) (by rw [List.length_take]; omega) (a := a) hlt
      rw [hq] at hstep
      simp only at hstep
      have hne : ¬(((r.1.toNat : Nat) : Int) < 0 ∨ (∃ e : Nat, (E : Int) = (e : Int) ∧ ((∃ c, s[e]? = some c ∧ c ≠ 44) ∨ e + 1 = s.length)) ∨ 100 < (l.take j).length) := by
        rintro (h1 | ⟨e, he1, h1⟩ | h1)
        · omega
        · have : e = E := by omega
          subst this
          by_cases h0 : n = 0
          · rw [ht1 h0] at hg hlen2
            simp only [List.length_nil] at hlen2
            rcases h1 with ⟨c, hc, _⟩ | h1
            · rw [hg] at hc; cases hc
            · omega
          · rw [ht2 h0] at hg hlen2
            rcases h1 with ⟨c, hc, hc2⟩ | h1
            · rw [hg] at hc
              simp at hc
              exact hc2 hc.symm
            · have := List.length_pos_iff.2 (Ec (l := l.drop (j + 1)) (fun hz => by
                have := congrArg List.length hz
                simp at this; omega))
              rw [List.length_cons] at hlen2
              omega
        · rw [List.length_take] at h1; omega
      rw [if_neg hne] at hstep
      rw [Df hstep]
      have e1 : (l.take j ++ [(((r.1.toNat : Nat) : Int), ((r.2.toNat : Nat) : Int))]) = l.take (j + 1) := by
        rw [List.take_add_one, he]
        congr 1
        have : (((r.1.toNat : Nat) : Int), ((r.2.toNat : Nat) : Int)) = r := by
          obtain ⟨r1, r2⟩ := r
          simp only at hr ⊢
          congr 1 <;> omega
        rw [this]; rfl
      rw [e1, show (E : Int) + 1 = ((E + 1 : Nat) : Int) by omega]
      refine ih (j + 1) (E + 1) (by omega) (fun h0 => ?_) (fun h0 => ?_)
      · rw [ht2 h0] at hdr hlen2
        have hpos := List.length_pos_iff.2 (Ec (l := l.drop (j + 1)) (fun hz => by
          have := congrArg List.length hz
          simp at this; omega))
        rw [List.length_cons] at hlen2
        refine ⟨?_, by omega⟩
        rw [← List.drop_drop, hdr]; rfl
      · rw [ht1 h0] at hlen2
        simp only [List.length_nil] at hlen2
        omega
  have := key l.length 0 0 (by omega) (fun h0 => ⟨by rw [List.drop_zero, List.drop_zero, hs], by
    rw [← hs]
    exact List.length_pos_iff.2 (Ec (fun h => h0 (by rw [h]; rfl)))⟩) (fun h0 => by
    have : l = [] := List.eq_nil_of_length_eq_zero h0
    subst this
    rw [← hs]; simp [runsTxt, Lib.join_nil])
  exact this
theorem Nu {s : Str} (hs : s.length ≤ 1048576) : Bc s = some (rdRunsV s) := by
  unfold Bc
  show ((loopM rrB (([] : List Rn), s, (0 : Int))).bind _) = _
  unfold rdRunsV
  by_cases h : goodR (rdRuns s) = true ∧ runsTxt (rdRuns s) = s
  · obtain ⟨hg, ht⟩ := h
    obtain ⟨h1, h2⟩ := AL hg
    have := R6 h1 h2
    rw [ht] at this
    rw [this, obs, if_pos ⟨hg, ht⟩]
    simp only [Sum.elim_inl]
    rw [Cm (by omega), hg, obs, nT, cF, Hy h1 h2, obs, ht, beq_self_eq_true, nT, cF]
  · rw [if_neg h]
    obtain ⟨r, h1, h2⟩ := Si hs
    rw [h1, obs]
    rcases h2 with rfl | ⟨out, rfl, ho⟩
    · rfl
    · simp only [Sum.elim_inl]
      rw [Cm (by omega), obs]
      cases hg : goodR out with
      | false => rw [nF, cT]
      | true =>
        obtain ⟨g1, g2⟩ := AL hg
        rw [nT, cF, Hy g1 g2, obs]
        by_cases ht : runsTxt out = s
        · exfalso
          have := JO g1
          rw [ht] at this
          exact h ⟨by rw [this]; exact hg, by rw [this]; exact ht⟩
        · rw [beq_eq_false_iff_ne.2 ht, nF, cT]
end Go.Proofs.YtgfchmagglhohaaGreatDoor.Ev

end
section
namespace Go.Proofs.YtgfchmagglhohaaGreatDoor.Ev
open Go
set_option linter.unusedVariables false
set_option linter.unusedSimpArgs false
set_option linter.unusedSectionVars false
def rStep (out : List Rn) (n : Int) : List Rn := match out.getLast? with
  | some r => if r.1 = n then out.dropLast ++ [(r.1, r.2 + 1)] else out ++ [(n, 1)]
  | none => [(n, 1)]
def runsV (row : List Int) : List Rn := row.foldl rStep []
def fromV (l : List Rn) : List Int := (l.map fun r => List.replicate r.2.toNat r.1).flatten
theorem JN (row : List Int) (n : Int) : runsV (row ++ [n]) = rStep (runsV row) n := by unfold runsV; rw [List.foldl_append]; rfl
theorem Cf (o : List Rn) (r : Rn) (n : Int) : rStep (o ++ [r]) n = if r.1 = n then o ++ [(r.1, r.2 + 1)] else o ++ [r] ++ [(n, 1)] := by
  unfold rStep
  simp
theorem CK (a b : List Rn) : fromV (a ++ b) = fromV a ++ fromV b := by unfold fromV; simp
theorem HJ (r : Rn) : fromV [r] = List.replicate r.2.toNat r.1 := by unfold fromV; simp
theorem GL {ρ β α : Type} (step : β → α → ρ ⊕ β) : ∀ (l m : List α) (b b' : β), foldX step b l = .inr b' → foldX step b (l ++ m) = foldX step b' m
  | [], m, b, b', h => by cases h; rfl
  | a :: l, m, b, b', h => by
    unfold foldX at h
    rw [List.cons_append]
    conv => lhs; unfold foldX
    cases hs : step b a with
    | inl r => rw [hs] at h; cases h
    | inr c => rw [hs] at h; exact GL step l m c b' h
def RInv (out : List Rn) (m : Int) : Prop := (out = [] ∧ m = 0) ∨ ∃ o r prev, out = o ++ [r] ∧ foldX gStep (100, none) o = .inr (100 - (m - r.2), prev) ∧ prev ≠ some r.1 ∧ 1 ≤ r.2 ∧ 0 ≤ r.1 ∧ r.1 ≤ 255
theorem RInv.done {out : List Rn} {m : Int} (h : RInv out m) (hm : m ≤ 100) : ∃ p, foldX gStep (100, none) out = .inr (100 - m, p) ∧ p = out.getLast?.map (·.1) := by
  rcases h with ⟨rfl, rfl⟩ | ⟨o, r, prev, rfl, h1, h2, h3, h4, h5⟩
  · exact ⟨none, rfl, rfl⟩
  · refine ⟨some r.1, ?_, by simp⟩
    rw [GL gStep o [r] _ _ h1]
    unfold foldX gStep
    rw [if_pos ⟨h4, h5, h3, by simp only; omega, h2⟩]
    simp only [foldX]
    rw [show 100 - (m - r.2) - r.2 = 100 - m by omega]
theorem RInv.step {out : List Rn} {m n : Int} (h : RInv out m) (hm : m + 1 ≤ 100) (hn : 0 ≤ n ∧ n ≤ 255) : RInv (rStep out n) (m + 1) := by
  obtain ⟨p, hp1, hp2⟩ := h.done (by omega)
  rcases h with ⟨rfl, rfl⟩ | ⟨o, r, prev, rfl, h1, h2, h3, h4, h5⟩
  · exact .inr ⟨[], (n, 1), none, rfl, rfl, by simp, by simp, hn.1, hn.2⟩
  · rw [Cf]
    split
    · exact .inr ⟨o, (r.1, r.2 + 1), prev, rfl, by simp only; rw [h1]; congr 2; omega, h2, by simp only; omega, h4, h5⟩
    · rename_i hne
      refine .inr ⟨o ++ [r], (n, 1), p, rfl, by simp only; rw [hp1]; congr 2; omega, ?_, by simp, hn.1, hn.2⟩
      rw [hp2]
      simpa using hne
theorem Ok (out : List Rn) (n : Int) (h : ∀ r ∈ out, 1 ≤ r.2) : fromV (rStep out n) = fromV out ++ [n] ∧ ∀ r ∈ rStep out n, 1 ≤ r.2 := by
  rcases List.eq_nil_or_concat out with rfl | ⟨o, r, ho⟩
  · exact ⟨rfl, by simp [rStep]⟩
  · rw [List.concat_eq_append] at ho
    subst ho
    have hr := h r (by simp)
    rw [Cf]
    split
    · rename_i he
      refine ⟨?_, ?_⟩
      · rw [CK, CK, HJ, HJ, List.append_assoc]
        congr 1
        show List.replicate (r.2 + 1).toNat r.1 = _
        rw [show (r.2 + 1).toNat = r.2.toNat + 1 by omega, List.replicate_succ', he]
      · intro x hx
        rcases List.mem_append.1 hx with hx | hx
        · exact h x (List.mem_append_left _ hx)
        · cases List.mem_singleton.1 hx; simp only; omega
    · refine ⟨?_, ?_⟩
      · rw [CK, HJ]; rfl
      · intro x hx
        rcases List.mem_append.1 hx with hx | hx
        · exact h x hx
        · cases List.mem_singleton.1 hx; simp
theorem Na {α : Type} {P : List α → Prop} (h0 : P []) (h1 : ∀ l a, P l → P (l ++ [a])) : ∀ l, P l := by
  have key : ∀ (n : Nat) (l : List α), l.length = n → P l := by
    intro n
    induction n with
    | zero => intro l h; rw [List.eq_nil_of_length_eq_zero h]; exact h0
    | succ n ih =>
      intro l h
      rcases List.eq_nil_or_concat l with rfl | ⟨o, r, rfl⟩
      · simp at h
      · rw [List.concat_eq_append] at h ⊢
        exact h1 o r (ih o (by simpa using h))
  intro l
  exact key _ l rfl
def goodRow (row : List Int) : Bool := row.all (fun x => decide (0 ≤ x) && decide (x ≤ 255)) && decide (row.length ≤ 100)
theorem EI {row : List Int} : goodRow row = true ↔ (∀ x ∈ row, 0 ≤ x ∧ x ≤ 255) ∧ row.length ≤ 100 := by unfold goodRow; simp
theorem HO : ∀ (row : List Int), fromV (runsV row) = row ∧ (∀ r ∈ runsV row, 1 ≤ r.2) ∧ ((∀ x ∈ row, 0 ≤ x ∧ x ≤ 255) → row.length ≤ 100 → RInv (runsV row) row.length) := by
  refine Na ⟨rfl, by simp [runsV], fun _ _ => .inl ⟨rfl, rfl⟩⟩ ?_
  intro row n ⟨h1, h2, h3⟩
  rw [JN]
  obtain ⟨g1, g2⟩ := Ok (runsV row) n h2
  refine ⟨by rw [g1, h1], g2, fun hb hl => ?_⟩
  rw [List.length_append] at hl
  have hl' : row.length + 1 ≤ 100 := hl
  have := (h3 (fun x hx => hb x (List.mem_append_left _ hx)) (by omega)).step (n := n) (by omega) (hb n (by simp))
  simpa using this
theorem FX {row : List Int} (h : goodRow row = true) : goodR (runsV row) = true := by
  obtain ⟨h1, h2⟩ := EI.1 h
  obtain ⟨p, hp, _⟩ := ((HO row).2.2 h1 h2).done (by omega)
  unfold goodR
  rw [hp]
theorem FG (row : List Int) : fromV (runsV row) = row := (HO row).1
theorem Dx (row : List Int) : (runsV row).length ≤ row.length := by
  refine Na (P := fun row => (runsV row).length ≤ row.length) (by simp [runsV]) ?_ row
  intro row n h
  rw [JN]
  rcases List.eq_nil_or_concat (runsV row) with e | ⟨o, r, e⟩
  · rw [e]; simp [rStep]
  · rw [List.concat_eq_append] at e
    rw [e] at h ⊢
    rw [Cf]
    split
    · simp at h ⊢; omega
    · simp at h ⊢; omega
end Go.Proofs.YtgfchmagglhohaaGreatDoor.Ev

end
section
namespace Go.Proofs.YtgfchmagglhohaaGreatDoor.Ev
open Go
set_option linter.unusedVariables false
set_option linter.unusedSimpArgs false
set_option linter.unusedSectionVars false
def isByte (x : Int) : Bool := decide (0 ≤ x) && decide (x ≤ 255)
theorem Nh (x : Int) : Br x 0 255 = some (isByte x) := by
  rw [i_In]; unfold isByte; congr 1; rw [Bool.eq_iff_iff]; simp
theorem MK (x : Int) : Cv x 0 255 = some (isByte x) := by
  rw [s_In]; unfold isByte; congr 1; rw [Bool.eq_iff_iff]; simp
theorem NG {l : List Int} (hl : l.length < 4611686018427387904) : BY l = some (l.all isByte) := by
  obtain ⟨h1, h2⟩ := Mq (l := l) (st := fun k => (l, ((l.length : Int), (k : Int)))) (p := isByte) (body := fun (s : ((List Int) × (Int × Int))) => Ad s.1 s.2.1 s.2.2) (fin := .inl ()) (bad := fun k => .inr (k : Int))
    (by
      intro k a hk ha
      have := getL hk
      show Ad l (l.length : Int) (k : Int) = _
      unfold Ad Bt
      rw [decide_eq_true (by omega), cT, Ao, hk, obs, Nh, obs, ha, nT, obs, cF, wrap1 (by omega)])
    (by
      intro k a hk ha
      have := getL hk
      show Ad l (l.length : Int) (k : Int) = _
      unfold Ad Bt
      rw [decide_eq_true (by omega), cT, Ao, hk, obs, Nh, obs, ha, nF, obs, cT])
    (by
      show Ad l (l.length : Int) (l.length : Int) = _
      unfold Ad
      rw [decide_eq_false (by omega)]
      rfl)
  unfold BY An Av
  cases ha : l.all isByte with
  | true =>
    have h1' : loopM (fun (s : ((List Int) × (Int × Int))) => Ad s.1 s.2.1 s.2.2) (l, ((l.length : Int), (0 : Int))) = _ := h1 ha
    rw [h1']; rfl
  | false =>
    obtain ⟨k, hk, h3⟩ := h2 ha
    have h3' : loopM (fun (s : ((List Int) × (Int × Int))) => Ad s.1 s.2.1 s.2.2) (l, ((l.length : Int), (0 : Int))) = _ := h3
    rw [h3', obs]
    simp only [Sum.elim_inr, obs]
    rw [decide_eq_true (by omega)]
    rfl
theorem JF (l : List Int) : goodRow l = (l.all isByte && decide (l.length ≤ 100)) := rfl
theorem P6 {l : List Int} (hl : l.length < 4611686018427387904) : C9 l = some (goodRow l) := by
  obtain ⟨h1, h2⟩ := Mq (l := l) (st := fun k => (l, (l, ((l.length : Int), (k : Int))))) (p := isByte) (body := fun (s : ((List Int) × ((List Int) × (Int × Int)))) => AA s.1 s.2.1 s.2.2.1 s.2.2.2) (fin := .inl l) (bad := fun k => .inr false)
    (by
      intro k a hk ha
      have := getL hk
      show AA l l (l.length : Int) (k : Int) = _
      unfold AA
      rw [decide_eq_true (by omega), cT, Ao, hk, obs, MK, obs, ha, nT, cF, wrap1 (by omega)])
    (by
      intro k a hk ha
      have := getL hk
      show AA l l (l.length : Int) (k : Int) = _
      unfold AA
      rw [decide_eq_true (by omega), cT, Ao, hk, obs, MK, obs, ha, nF, cT])
    (by
      show AA l l (l.length : Int) (l.length : Int) = _
      unfold AA
      rw [decide_eq_false (by omega)]
      rfl)
  unfold C9
  rw [JF]
  cases ha : l.all isByte with
  | true =>
    have h1' : loopM (fun (s : ((List Int) × ((List Int) × (Int × Int)))) => AA s.1 s.2.1 s.2.2.1 s.2.2.2) (l, (l, ((l.length : Int), (0 : Int)))) = _ := h1 ha
    rw [h1', obs]
    simp only [Sum.elim_inl, Bool.true_and]
    congr 1
    exact decide_eq_decide.2 (by omega)
  | false =>
    obtain ⟨k, hk, h3⟩ := h2 ha
    have h3' : loopM (fun (s : ((List Int) × ((List Int) × (Int × Int)))) => AA s.1 s.2.1 s.2.2.1 s.2.2.2) (l, (l, ((l.length : Int), (0 : Int)))) = _ := h3
    rw [h3']; rfl
theorem MJ (o : List Rn) (r v : Rn) : List.set (o ++ [r]) o.length v = o ++ [v] := by simp
theorem OP {k : Nat} {b : List Rn} (h : b.length ≤ k ∧ ∀ r ∈ b, 0 ≤ r.2 ∧ r.2 ≤ (k : Int)) (a : Int) : (rStep b a).length ≤ k + 1 ∧ ∀ r ∈ rStep b a, 0 ≤ r.2 ∧ r.2 ≤ ((k + 1 : Nat) : Int) := by
  obtain ⟨h1, h2⟩ := h
  rcases List.eq_nil_or_concat b with rfl | ⟨o, r, hb⟩
  · refine ⟨by simp [rStep], ?_⟩
    intro r hr
    simp [rStep] at hr
    subst hr
    simp
    omega
  · rw [List.concat_eq_append] at hb
    subst hb
    rw [Cf]
    have hr := h2 r (by simp)
    split
    · refine ⟨by simp at h1 ⊢; omega, ?_⟩
      intro x hx
      rcases List.mem_append.1 hx with hx | hx
      · have := h2 x (List.mem_append_left _ hx); omega
      · cases List.mem_singleton.1 hx; simp only; omega
    · refine ⟨by simp at h1 ⊢; omega, ?_⟩
      intro x hx
      rcases List.mem_append.1 hx with hx | hx
      · have := h2 x hx; omega
      · cases List.mem_singleton.1 hx; simp only; omega
theorem PZ {row : List Int} (hl : row.length ≤ 100000) : Dc row = some (runsV row) := by
  obtain ⟨h1, h2⟩ := Fm (l := row) (body := fun (s : ((List (Int × Int)) × ((List Int) × (Int × Int)))) => A7 s.1 s.2.1 s.2.2.1 s.2.2.2)
    (st := fun k (b : List Rn) => (b, (row, ((row.length : Int), (k : Int))))) (step := rStep) (fin := fun b => b) (I := fun k b => b.length ≤ k ∧ ∀ r ∈ b, 0 ≤ r.2 ∧ r.2 ≤ (k : Int))
    (by
      rintro k b a hk hI
      have hkl := getL hk
      refine ⟨?_, OP hI a⟩
      show A7 b row (row.length : Int) (k : Int) = some (.inl (rStep b a, (row, ((row.length : Int), ((k + 1 : Nat) : Int)))))
      obtain ⟨i1, i2⟩ := hI
      unfold A7
      rw [decide_eq_true (show (k : Int) < (row.length : Int) by omega), cT, Ao, hk, obs, wrap1 (by omega)]
      rcases List.eq_nil_or_concat b with rfl | ⟨o, r, hb⟩
      · rw [show decide (IntKind.wrap .i64 ((([] : List Rn).length : Int) - 1) ≥ 0) = false from rfl, cF, BN (by simp [maxBytes]) (by simp [maxBytes]), obs]
        rfl
      · rw [List.concat_eq_append] at hb
        subst hb
        have hr := i2 r (by simp)
        have hw : IntKind.wrap .i64 (((o ++ [r]).length : Int) - 1) = (o.length : Int) := by
          have hle : (((o ++ [r]).length : Nat) : Int) = (o.length : Int) + 1 := by simp
          rw [hle, wrapI (by omega) (by omega)]; omega
        have hg : getN (o ++ [r]) o.length = some r := by unfold getN; simp
        rw [hw, decide_eq_true (show (o.length : Int) ≥ 0 by omega), cT, EL (by simp), obs, hg, obs, Cf]
        by_cases he : r.1 = a
        · rw [show (r.1 == a) = true by simp [he], cT, obs, hg, obs, obs, hg, obs, if_pos he, wrapI (by simp at i1; omega) (by simp at i1; omega), MJ]
        · rw [show (r.1 == a) = false from beq_eq_false_iff_ne.2 he, cF, if_neg he, BN (by simp [maxBytes] at i1 ⊢; omega) (by simp [maxBytes] at i1 ⊢; omega), obs])
    (by
      rintro b _
      show A7 b row (row.length : Int) (row.length : Int) = _
      unfold A7
      rw [decide_eq_false (by omega)]
      rfl) [] ⟨by simp, by simp⟩
  unfold Dc
  have h1' : loopM (fun (s : ((List (Int × Int)) × ((List Int) × (Int × Int)))) => A7 s.1 s.2.1 s.2.2.1 s.2.2.2) ([], (row, ((row.length : Int), (0 : Int)))) = _ := h1
  rw [h1', obs]
  rfl
theorem PT {row : List Int} (hl : row.length ≤ 100000) : Cy row = some (runsV row) := by
  obtain ⟨h1, h2⟩ := Fm (l := row) (body := fun (s : ((List (Int × Int)) × ((List Int) × (Int × Int)))) => AZ s.1 s.2.1 s.2.2.1 s.2.2.2)
    (st := fun k (b : List Rn) => (b, (row, ((row.length : Int), (k : Int))))) (step := rStep) (fin := fun b => b) (I := fun k b => b.length ≤ k ∧ ∀ r ∈ b, 0 ≤ r.2 ∧ r.2 ≤ (k : Int))
    (by
      rintro k b a hk hI
      have hkl := getL hk
      refine ⟨?_, OP hI a⟩
      show AZ b row (row.length : Int) (k : Int) = some (.inl (rStep b a, (row, ((row.length : Int), ((k + 1 : Nat) : Int)))))
      obtain ⟨i1, i2⟩ := hI
      unfold AZ
      rw [decide_eq_true (show (k : Int) < (row.length : Int) by omega), cT, Ao, hk, obs, wrap1 (by omega)]
      rcases List.eq_nil_or_concat b with rfl | ⟨o, r, hb⟩
      · rw [show decide ((([] : List Rn).length : Int) > 0) = false from rfl, cF, BN (by simp [maxBytes]) (by simp [maxBytes]), obs]
        rfl
      · rw [List.concat_eq_append] at hb
        subst hb
        have hr := i2 r (by simp)
        have hw : IntKind.wrap .i64 (((o ++ [r]).length : Int) - 1) = (o.length : Int) := by
          have hle : (((o ++ [r]).length : Nat) : Int) = (o.length : Int) + 1 := by simp
          rw [hle, wrapI (by omega) (by omega)]; omega
        have hg : getN (o ++ [r]) o.length = some r := by unfold getN; simp
        rw [hw, decide_eq_true (show ((o ++ [r]).length : Int) > 0 by simp), cT, EL (by simp), obs, hg, obs, Cf]
        by_cases he : r.1 = a
        · rw [show (r.1 == a) = true by simp [he], cT, obs, hg, obs, obs, hg, obs, if_pos he, wrapI (by simp at i1; omega) (by simp at i1; omega), MJ]
        · rw [show (r.1 == a) = false from beq_eq_false_iff_ne.2 he, cF, if_neg he, BN (by simp [maxBytes] at i1 ⊢; omega) (by simp [maxBytes] at i1 ⊢; omega), obs])
    (by
      rintro b _
      show AZ b row (row.length : Int) (row.length : Int) = _
      unfold AZ
      rw [decide_eq_false (by omega)]
      rfl) [] ⟨by simp, by simp⟩
  unfold Cy
  have h1' : loopM (fun (s : ((List (Int × Int)) × ((List Int) × (Int × Int)))) => AZ s.1 s.2.1 s.2.2.1 s.2.2.2) ([], (row, ((row.length : Int), (0 : Int)))) = _ := h1
  rw [h1', obs]
  rfl
def runsOfV (row : List Int) : List Rn × Bool := if goodRow row then (runsV row, true) else ([], false)
theorem GU {row : List Int} (hl : row.length ≤ 100000) : Bx row = some (runsOfV row) := by
  unfold Bx runsOfV
  rw [JF]
  by_cases h : row.length ≤ 100
  · rw [decide_eq_false (show ¬ ((row.length : Int) > 100) by omega), cF, NG (by omega), obs, decide_eq_true h, Bool.and_true]
    cases row.all isByte with
    | false => rfl
    | true => rw [nT, cF, PZ hl]; rfl
  · rw [decide_eq_true (show ((row.length : Int) > 100) by omega), decide_eq_false h, Bool.and_false]; rfl
theorem IT {row : List Int} (hl : row.length ≤ 100000) : BQ row = some (runsOfV row) := by
  unfold BQ runsOfV
  rw [P6 (by omega), obs]
  cases goodRow row with
  | false => rfl
  | true => rw [nT, cF, PT hl]; rfl
theorem IG {l : List Rn} {k : Nat} {r : Rn} (h : l[k]? = some r) : fromV (l.take (k + 1)) = fromV (l.take k) ++ List.replicate r.2.toNat r.1 := by
  rw [List.take_add_one, h, CK]
  congr 1
  simp [fromV]
theorem HB {l : List Rn} (h : ∀ r ∈ l, r.2 ≤ 100) : (fromV l).length ≤ 100 * l.length := by
  induction l with
  | nil => simp [fromV]
  | cons r l ih =>
    have h1 := ih (fun x hx => h x (List.mem_cons_of_mem _ hx))
    have h2 := h r (by simp)
    have e : fromV (r :: l) = List.replicate r.2.toNat r.1 ++ fromV l := by unfold fromV; simp
    rw [e, List.length_append, List.length_replicate, List.length_cons]
    omega
theorem MT (n : Nat) (x : Int) : List.replicate (n + 1) x = List.replicate n x ++ [x] := List.replicate_succ'
section
variable {l : List Rn} (hr : ∀ r ∈ l, 1 ≤ r.2 ∧ r.2 ≤ 100) (hl : l.length ≤ 100)
include hr hl
theorem Lq : Ci l = some (fromV l) := by
  obtain ⟨b', h1, h2⟩ := D1 (body := fun (s : ((List Int) × ((List (Int × Int)) × (Int × Int)))) => Bq s.1 s.2.1 s.2.2.1 s.2.2.2)
    (st := fun k (b : List Int) => (b, (l, ((l.length : Int), (k : Int))))) (fin := fun b => b) (I := fun k b => b = fromV (l.take k)) l.length
    (by
      rintro k b hk rfl
      have he : l[k]? = some l[k] := List.getElem?_eq_getElem hk
      generalize l[k] = r at he
      have hrr := hr r (List.mem_of_getElem? he)
      have hlen := HB (l := l.take k) (fun x hx => (hr x (List.mem_of_mem_take hx)).2)
      rw [List.length_take] at hlen
      have inner : loopM (fun (s : ((List Int) × ((Int × Int) × ((List (Int × Int)) × (Int × (Int × (Int × Int))))))) => A5 s.1 s.2.1 s.2.2.1 s.2.2.2.1 s.2.2.2.2.1 s.2.2.2.2.2.1 s.2.2.2.2.2.2) (fromV (l.take k), (r, (l, ((l.length : Int), ((k : Int), (r.2, (0 : Int))))))) = some (fromV (l.take k) ++ List.replicate r.2.toNat r.1, (l, ((l.length : Int), (k : Int)))) := by
        obtain ⟨c, g1, g2⟩ := D1 (body := fun (s : ((List Int) × ((Int × Int) × ((List (Int × Int)) × (Int × (Int × (Int × Int))))))) => A5 s.1 s.2.1 s.2.2.1 s.2.2.2.1 s.2.2.2.2.1 s.2.2.2.2.2.1 s.2.2.2.2.2.2)
          (st := fun j (c : List Int) => (c, (r, (l, ((l.length : Int), ((k : Int), (r.2, (j : Int)))))))) (fin := fun c => (c, (l, ((l.length : Int), (k : Int))))) (I := fun j c => c = fromV (l.take k) ++ List.replicate j r.1) r.2.toNat
          (by
            rintro j c hj rfl
            refine ⟨_, ?_, rfl⟩
            show A5 _ r l (l.length : Int) (k : Int) r.2 (j : Int) = _
            unfold A5
            rw [decide_eq_true (show (j : Int) < r.2 by omega), cT, BN (by simp [maxBytes]; omega) (by simp [maxBytes]; omega), obs, wrap1 (by omega), MT, List.append_assoc])
          (by
            rintro c rfl
            show A5 _ r l (l.length : Int) (k : Int) r.2 ((r.2.toNat : Nat) : Int) = _
            unfold A5
            rw [decide_eq_false (show ¬ (((r.2.toNat : Nat) : Int) < r.2) by omega)]
            rfl) 0 (fromV (l.take k)) (by omega) (by simp)
        rw [g2] at g1
        exact g1
      refine ⟨_, ?_, (IG he).symm⟩
      show Bq (fromV (l.take k)) l (l.length : Int) (k : Int) = _
      unfold Bq
      rw [decide_eq_true (show (k : Int) < (l.length : Int) by omega), cT, Ao, he, obs]
      have inner' : loopM (fun (s : ((List Int) × ((Int × Int) × ((List (Int × Int)) × (Int × (Int × (Int × Int))))))) => A5 s.1 s.2.1 s.2.2.1 s.2.2.2.1 s.2.2.2.2.1 s.2.2.2.2.2.1 s.2.2.2.2.2.2) (fromV (l.take k), ((r.1, r.2), (l, ((l.length : Int), ((k : Int), (r.2, (0 : Int))))))) = _ := inner
      rw [inner', obs, wrap1 (by omega)])
    (by
      rintro b rfl
      show Bq _ l (l.length : Int) (l.length : Int) = _
      unfold Bq
      rw [decide_eq_false (by omega)]
      rfl) 0 [] (by omega) (by simp [fromV])
  unfold Ci
  rw [h2, List.take_length] at h1
  have h1' : loopM (fun (s : ((List Int) × ((List (Int × Int)) × (Int × Int)))) => Bq s.1 s.2.1 s.2.2.1 s.2.2.2) ([], (l, ((l.length : Int), (0 : Int)))) = _ := h1
  rw [h1', obs]
theorem Hl : Bu l = some (fromV l) := by
  obtain ⟨b', h1, h2⟩ := D1 (body := fun (s : ((List Int) × ((List (Int × Int)) × (Int × Int)))) => AX s.1 s.2.1 s.2.2.1 s.2.2.2)
    (st := fun k (b : List Int) => (b, (l, ((l.length : Int), (k : Int))))) (fin := fun b => b) (I := fun k b => b = fromV (l.take k)) l.length
    (by
      rintro k b hk rfl
      have he : l[k]? = some l[k] := List.getElem?_eq_getElem hk
      generalize l[k] = r at he
      have hrr := hr r (List.mem_of_getElem? he)
      have hlen := HB (l := l.take k) (fun x hx => (hr x (List.mem_of_mem_take hx)).2)
      rw [List.length_take] at hlen
      have inner : loopM (fun (s : ((List Int) × ((Int × Int) × (Int × ((List (Int × Int)) × (Int × Int)))))) => AK s.1 s.2.1 s.2.2.1 s.2.2.2.1 s.2.2.2.2.1 s.2.2.2.2.2) (fromV (l.take k), (r, (((r.2.toNat : Nat) : Int), (l, ((l.length : Int), (k : Int)))))) = some (fromV (l.take k) ++ List.replicate r.2.toNat r.1, (l, ((l.length : Int), (k : Int)))) := by
        obtain ⟨c, g1, g2⟩ := Hf (body := fun (s : ((List Int) × ((Int × Int) × (Int × ((List (Int × Int)) × (Int × Int)))))) => AK s.1 s.2.1 s.2.2.1 s.2.2.2.1 s.2.2.2.2.1 s.2.2.2.2.2)
          (st := fun j (c : List Int) => (c, (r, ((j : Int), (l, ((l.length : Int), (k : Int))))))) (fin := fun c => (c, (l, ((l.length : Int), (k : Int))))) (I := fun j c => j ≤ r.2.toNat ∧ c = fromV (l.take k) ++ List.replicate (r.2.toNat - j) r.1)
          (by
            rintro j c ⟨hj, rfl⟩
            refine ⟨fromV (l.take k) ++ List.replicate (r.2.toNat - j) r.1, ?_, by omega, rfl⟩
            show AK _ r ((j + 1 : Nat) : Int) l (l.length : Int) (k : Int) = _
            unfold AK
            rw [decide_eq_true (show ((j + 1 : Nat) : Int) > 0 by omega), cT, BN (by simp [maxBytes]; omega) (by simp [maxBytes]; omega), obs, wrapI (by omega) (by omega), show ((j + 1 : Nat) : Int) - 1 = (j : Int) by omega, show r.2.toNat - j = (r.2.toNat - (j + 1)) + 1 by omega, MT, List.append_assoc])
          (by
            rintro c ⟨_, rfl⟩
            show AK _ r ((0 : Nat) : Int) l (l.length : Int) (k : Int) = _
            unfold AK
            rfl) r.2.toNat (fromV (l.take k)) ⟨by omega, by simp⟩
        rw [g2.2, Nat.sub_zero] at g1
        exact g1
      refine ⟨_, ?_, (IG he).symm⟩
      show AX (fromV (l.take k)) l (l.length : Int) (k : Int) = _
      unfold AX
      rw [decide_eq_true (show (k : Int) < (l.length : Int) by omega), cT, Ao, he, obs]
      have inner' : loopM (fun (s : ((List Int) × ((Int × Int) × (Int × ((List (Int × Int)) × (Int × Int)))))) => AK s.1 s.2.1 s.2.2.1 s.2.2.2.1 s.2.2.2.2.1 s.2.2.2.2.2) (fromV (l.take k), ((r.1, r.2), (r.2, (l, ((l.length : Int), (k : Int)))))) = some (fromV (l.take k) ++ List.replicate r.2.toNat r.1, (l, ((l.length : Int), (k : Int)))) := by
        have e : ((r.2.toNat : Nat) : Int) = r.2 := by omega
        rw [e] at inner
        exact inner
      rw [inner', obs, wrap1 (by omega)])
    (by
      rintro b rfl
      show AX _ l (l.length : Int) (l.length : Int) = _
      unfold AX
      rw [decide_eq_false (by omega)]
      rfl) 0 [] (by omega) (by simp [fromV])
  unfold Bu
  rw [h2, List.take_length] at h1
  have h1' : loopM (fun (s : ((List Int) × ((List (Int × Int)) × (Int × Int)))) => AX s.1 s.2.1 s.2.2.1 s.2.2.2) ([], (l, ((l.length : Int), (0 : Int)))) = _ := h1
  rw [h1', obs]
end
theorem AN {l : List Rn} (h : goodR l = true) : (∀ r ∈ l, 1 ≤ r.2 ∧ r.2 ≤ 100) ∧ l.length ≤ 100 := by
  obtain ⟨h1, h2⟩ := AL h
  exact ⟨fun r hr => by have := h1 r hr; omega, h2⟩
def fromRunsV (l : List Rn) : List Int × Bool := if goodR l then (fromV l, true) else ([], false)
theorem JL {l : List Rn} (hl : l.length ≤ 100000) : Bd l = some (fromRunsV l) := by
  unfold Bd fromRunsV
  rw [BP (by omega), obs]
  cases h : goodR l with
  | false => rfl
  | true => rw [nT, cF, Lq (AN h).1 (AN h).2]; rfl
theorem NZ {l : List Rn} (hl : l.length ≤ 100000) : BA l = some (fromRunsV l) := by
  unfold BA fromRunsV
  rw [Cm (by omega), obs]
  cases h : goodR l with
  | false => rfl
  | true => rw [nT, cF, Hl (AN h).1 (AN h).2]; rfl
theorem C3 {l : List Rn} (h : goodR l = true) : (fromV l).length ≤ 10000 := by
  obtain ⟨h1, h2⟩ := AN h
  have := HB (l := l) (fun r hr => (h1 r hr).2)
  omega
def joinV (a b : List Rn) : List Rn × Bool := if goodR a && goodR b then runsOfV (fromV a ++ fromV b) else ([], false)
theorem I7 {a b : List Rn} (ha : a.length ≤ 100000) (hb : b.length ≤ 100000) : AV a b = some (joinV a b) := by
  unfold AV joinV
  rw [BP (by omega), obs]
  cases h : goodR a with
  | false => rfl
  | true =>
    rw [nT, cF, BP (by omega), obs]
    cases h' : goodR b with
    | false => rfl
    | true =>
      have l1 := C3 h
      have l2 := C3 h'
      rw [nT, cF, Lq (AN h).1 (AN h).2, obs, Lq (AN h').1 (AN h').2, obs, BN (by simp [maxBytes]; omega) (by simp [maxBytes]; omega), obs, GU (by simp; omega), obs]
      rfl
theorem NP {a b : List Rn} (ha : a.length ≤ 100000) (hb : b.length ≤ 100000) : A6 a b = some (joinV a b) := by
  unfold A6 joinV
  rw [Cm (by omega), obs]
  cases h : goodR a with
  | false => rfl
  | true =>
    rw [nT, cF, Cm (by omega), obs]
    cases h' : goodR b with
    | false => rfl
    | true =>
      have l1 := C3 h
      have l2 := C3 h'
      rw [nT, cF, Hl (AN h).1 (AN h).2, obs, Hl (AN h').1 (AN h').2, obs, BN (by simp [maxBytes]; omega) (by simp [maxBytes]; omega), obs, IT (by simp; omega), obs]
      rfl
end Go.Proofs.YtgfchmagglhohaaGreatDoor.Ev

end
section
namespace Go.Proofs.YtgfchmagglhohaaGreatDoor.Ev
open Go
set_option linter.unusedVariables false
set_option linter.unusedSimpArgs false
theorem NY {b : List Int} (hb : ∀ x ∈ b, 0 ≤ x ∧ x ≤ 255) (hl : b.length ≤ 1048576) : ∃ n : Int, B2 b = some n ∧ 0 ≤ n ∧ n < 1000003 := by
  obtain ⟨n, h1, h2⟩ := D1 (body := fun (s : (Int × ((List Int) × (Int × Int)))) => AT s.1 s.2.1 s.2.2.1 s.2.2.2)
    (st := fun k (n : Int) => (n, (b, ((b.length : Int), (k : Int))))) (fin := fun n => n) (I := fun k n => 0 ≤ n ∧ n < 1000003) b.length
    (by
      rintro k n hk ⟨g1, g2⟩
      have he : b[k]? = some b[k] := List.getElem?_eq_getElem hk
      generalize b[k] = x at he
      have hx := hb x (List.mem_of_getElem? he)
      refine ⟨(31 * n + x).tmod 1000003, ?_, G8 (by omega) (by omega)⟩
      show AT n b (b.length : Int) (k : Int) = _
      unfold AT
      rw [decide_eq_true (show (k : Int) < (b.length : Int) by omega), cT, Ao, he, obs, wrapI (n := 31 * n) (by omega) (by omega), wrapI (n := x) (by omega) (by omega), wrapI (n := 31 * n + x) (by omega) (by omega), wrapI (n := (k : Int) + 1) (by omega) (by omega)]
      rfl)
    (by
      rintro n _
      show AT n b (b.length : Int) (b.length : Int) = _
      unfold AT
      rw [decide_eq_false (by omega)]
      rfl) 0 0 (by omega) ⟨by omega, by omega⟩
  unfold B2
  have h1' : loopM (fun (s : (Int × ((List Int) × (Int × Int)))) => AT s.1 s.2.1 s.2.2.1 s.2.2.2) ((0 : Int), (b, ((b.length : Int), (0 : Int)))) = some n := h1
  rw [h1', obs]
  exact ⟨n, rfl, h2⟩
end Go.Proofs.YtgfchmagglhohaaGreatDoor.Ev

end
section
namespace Go.Proofs.YtgfchmagglhohaaGreatDoor.Ev
open Go Go.RowKit Go.ChangeShapes Go.WideShapes Go.ChangeAt
set_option linter.unusedVariables false
theorem Gb {l : List Int} (h : WFC (.sl 1 (.int .u8)) l) : (∀ x ∈ l, 0 ≤ x ∧ x ≤ 255) ∧ l.length ≤ 1000000000000000 := by
  have h1 : ∀ x ∈ l, (Lit.int .u8 x).wf = true := h.1
  have h2 : l.length * 1 ≤ maxBytes := h.2
  refine ⟨fun x hx => ?_, by unfold maxBytes at h2; omega⟩
  have := h1 x hx
  simp [Lit.wf, IntKind.min, IntKind.max, IntKind.bits, IntKind.signed] at this
  omega
end Go.Proofs.YtgfchmagglhohaaGreatDoor.Ev

end
section
namespace Go.Proofs.YtgfchmagglhohaaGreatDoor.Ev
open Go
set_option linter.unusedVariables false
set_option linter.unusedSimpArgs false
set_option linter.unusedSectionVars false
abbrev Cu := List Int × Int × Int
theorem sEr {α β γ : Type} (f : α → γ) (g : β → γ) (x : β) : Sum.elim f g (.inr x) = g x := (rfl)
theorem peta {α β : Type} (p : α × β) : (p.1, p.2) = p := by cases p; rfl
theorem app8 {l : List Int} {x : Int} (h : l.length ≤ 100000) : appL 8 1 l [x] = some (l ++ [x]) := BN (by simp [maxBytes]; omega) (by simp [maxBytes]; omega)
theorem Qj {B' : Nat} {c : Cu} (h : Cur B' c) (hB : B' ≤ 100000000) : ∃ c' l, Bi c = some (c', l) ∧ Cur (B' + 2000) c' ∧ l.length ≤ 200 := by
  unfold Bi
  obtain ⟨c0, v0, e0, q0, a0, b0⟩ := Cr h (by omega) 6
  have b0 := b0 (by omega)
  obtain ⟨n, rfl⟩ : ∃ n : Nat, v0 = (n : Int) := ⟨v0.toNat, by omega⟩
  obtain ⟨⟨c1, l1⟩, e1, _, q1, n1⟩ := Hf (body := fun (s : (Cu × ((List Int) × Int))) => AF s.1 s.2.1 s.2.2)
    (st := fun k (b : Cu × List Int) => (b.1, (b.2, (k : Int)))) (fin := fun b => b) (I := fun k b => k ≤ 5 ∧ Cur (B' + 100 - 4 * k) b.1 ∧ b.2.length ≤ 4 * (5 - k))
    (by
      rintro k ⟨c, l⟩ ⟨i0, i1, i2⟩
      simp only at i1 i2
      obtain ⟨c2, v2, e2, q2, m2⟩ := Gs i1 (by omega) [0, 255, 7, 128] (by simp) (by simp)
      obtain ⟨c3, v3, e3, q3, a3, b3⟩ := Cr q2 (by omega) 4
      have b3 := b3 (by omega)
      obtain ⟨l', g1, g2⟩ := Hf (body := fun (s : (Cu × ((List Int) × (Int × (Int × Int))))) => AG s.1 s.2.1 s.2.2.1 s.2.2.2.1 s.2.2.2.2)
        (st := fun j (l : List Int) => (c3, (l, (((k + 1 : Nat) : Int), (v2, (j : Int)))))) (fin := fun l => (c3, (l, ((k + 1 : Nat) : Int)))) (I := fun j l' => l'.length + j = l.length + (1 + v3).toNat)
        (by
          rintro j l' hI
          refine ⟨l' ++ [v2], ?_, by simp; omega⟩
          show AG c3 l' ((k + 1 : Nat) : Int) v2 ((j + 1 : Nat) : Int) = _
          unfold AG
          rw [decide_eq_true (show ((j + 1 : Nat) : Int) > 0 by omega), cT, app8 (by omega), obs, wrapI (by omega) (by omega), show ((j + 1 : Nat) : Int) - 1 = (j : Int) by omega])
        (by
          rintro l' _
          show AG c3 l' ((k + 1 : Nat) : Int) v2 ((0 : Nat) : Int) = _
          unfold AG
          rfl) (1 + v3).toNat l rfl
      refine ⟨(c3, l'), ?_, by omega, q3.mono (by omega), by simp only; omega⟩
      show AF c l ((k + 1 : Nat) : Int) = _
      unfold AF
      have g1' : loopM (fun (s : (Cu × ((List Int) × (Int × (Int × Int))))) => AG s.1 s.2.1 s.2.2.1 s.2.2.2.1 s.2.2.2.2) (c3, (l, (((k + 1 : Nat) : Int), (v2, 1 + v3)))) = some (c3, (l', ((k + 1 : Nat) : Int))) := by
        have e : (((1 + v3).toNat : Nat) : Int) = 1 + v3 := by omega
        rw [e] at g1
        exact g1
      rw [decide_eq_true (show ((k + 1 : Nat) : Int) > 0 by omega)]
      simp only [cT, peta, e2, e3, obs]
      rw [wrapI (n := 1 + v3) (by omega) (by omega), g1']
      simp only [obs]
      rw [wrapI (by omega) (by omega), show ((k + 1 : Nat) : Int) - 1 = (k : Int) by omega])
    (by
      rintro ⟨c, l⟩ _
      show AF c l ((0 : Nat) : Int) = _
      unfold AF
      rfl) n (c0, []) ⟨by omega, q0.mono (by omega), by simp⟩
  simp only at e1 q1 n1
  have e1' : loopM (fun (s : (Cu × ((List Int) × Int))) => AF s.1 s.2.1 s.2.2) (c0, (([] : List Int), (n : Int))) = some (c1, l1) := e1
  obtain ⟨c2, v2, e2, q2⟩ := Lj q1 (by omega) 20
  simp only [e0, obs, peta, e1', e2]
  have tail : ∀ (c3 : Cu) (l3 : List Int), Cur (B' + 1000) c3 → l3.length ≤ 150 → ∃ c' l, (bif decide (((l3.length : Nat) : Int) > (0 : Int)) then
      ((AD c3 (30 : Int))).bind fun x7 =>
      bif x7.2 then
        ((Ar x7.1 (List.cons (-(1 : Int)) (List.cons (256 : Int) [])))).bind fun x8 =>
        ((idxI (0 : Int) (List.length l3))).bind fun x9 =>
        ((getN l3 x9)).bind fun x10 =>
        some (x8.1, (List.set l3 x9 x8.2))
      else
      some (x7.1, l3)
    else
    some (c3, l3)) = some (c', l) ∧ Cur (B' + 2000) c' ∧ l.length ≤ 200 := by
    intro c3 l3 q3 n3
    by_cases h0 : 0 < l3.length
    · rw [decide_eq_true (show ((l3.length : Nat) : Int) > 0 by omega), cT]
      obtain ⟨c4, v4, e4, q4⟩ := Lj q3 (by omega) 30
      rw [e4, obs]
      cases v4
      · exact ⟨_, _, rfl, q4.mono (by omega), by omega⟩
      · obtain ⟨c5, v5, e5, q5, m5⟩ := Gs q4 (by omega) [-(1 : Int), 256] (by simp) (by simp)
        rw [cT, e5, obs, show idxI (0 : Int) l3.length = some 0 from EL h0, obs, show getN l3 0 = some l3[0] from List.getElem?_eq_getElem h0, obs]
        exact ⟨_, _, rfl, q5.mono (by omega), by simp; omega⟩
    · rw [decide_eq_false (show ¬ ((l3.length : Nat) : Int) > 0 by omega), cF]
      exact ⟨_, _, rfl, q3.mono (by omega), by omega⟩
  cases v2
  · simp only [cF, obs, sEr]
    exact tail c2 l1 (q2.mono (by omega)) (by omega)
  · obtain ⟨r, e3, q3, n3⟩ := JA (f := fun (s : (Cu × (List Int))) => CE s.1 s.2) (I := fun s => Cur (B' + 200 + 2 * s.2.length) s.1 ∧ s.2.length ≤ 101)
      (R := fun s => Cur (B' + 1000) s.1 ∧ s.2.length ≤ 150) (fun s => 200 - s.2.length)
      (by
        rintro ⟨c, l⟩ ⟨i1, i2⟩
        simp only at i1 i2
        obtain ⟨c4, v4, e4, q4, a4, b4⟩ := Cr i1 (by omega) 3
        have b4 := b4 (by omega)
        unfold CE
        simp only [peta, e4, obs]
        rw [wrapI (by omega) (by omega)]
        by_cases hlt : ((l.length : Nat) : Int) < 99 + v4
        · rw [decide_eq_true hlt, cT, app8 (by omega), obs]
          exact .inl ⟨_, rfl, ⟨q4.mono (by simp; omega), by simp; omega⟩, by simp; omega⟩
        · rw [decide_eq_false hlt, cF]
          exact .inr ⟨_, rfl, q4.mono (by omega), by simp only; omega⟩) (c2, l1) ⟨q2.mono (by simp only; omega), by simp only; omega⟩
    simp only [cT, e3, obs, sEr, peta]
    exact tail r.1 r.2 q3 n3
theorem IC {B' : Nat} {c : Cu} (h : Cur B' c) (hB : B' ≤ 90000000) : ∃ c' l, AE c = some (c', l) ∧ Cur (B' + 3000) c' ∧ l.length ≤ 200 := by
  unfold AE
  obtain ⟨c0, row, e0, q0, n0⟩ := Qj h (by omega)
  simp only [e0, obs, peta, IT (show row.length ≤ 100000 by omega)]
  have hl : (runsOfV row).1.length ≤ 200 := by
    unfold runsOfV
    split
    · have := Dx row; simp only; omega
    · simp
  generalize (runsOfV row).1 = l at hl
  by_cases h0 : 0 < l.length
  · rw [decide_eq_true (show ((l.length : Nat) : Int) > 0 by omega), cT]
    obtain ⟨c1, v1, e1, q1⟩ := Lj q0 (by omega) 8
    rw [e1, obs]
    cases v1
    · exact ⟨_, _, rfl, q1.mono (by omega), hl⟩
    · obtain ⟨c2, v2, e2, q2, a2, b2⟩ := Cr q1 (by omega) (l.length : Int)
      have b2 := b2 (by omega)
      obtain ⟨c3, v3, e3, q3, m3⟩ := Gs q2 (by omega) [0, 255, 256] (by simp) (by simp)
      obtain ⟨c4, v4, e4, q4, m4⟩ := Gs q3 (by omega) [0, 1, 99, 100] (by simp) (by simp)
      obtain ⟨k, rfl⟩ : ∃ k : Nat, v2 = (k : Int) := ⟨v2.toNat, by omega⟩
      have hk : k < l.length := by omega
      simp only [cT, peta, e2, e3, e4, obs]
      rw [EL hk, obs, show getN l k = some l[k] from List.getElem?_eq_getElem hk, obs]
      exact ⟨_, _, rfl, q4.mono (by omega), by simp; omega⟩
  · rw [decide_eq_false (show ¬ ((l.length : Nat) : Int) > 0 by omega), cF]
    exact ⟨_, _, rfl, q0.mono (by omega), hl⟩
theorem PD (l : List Int) : (strOf l).length = l.length := by unfold strOf; simp
theorem Pn {B' : Nat} {c : Cu} (h : Cur B' c) (hB : B' ≤ 90000000) (t w : Str) (ht : t.length ≤ 100000) (hw : 1 ≤ w.length) (hw2 : w.length ≤ 1000) : ∃ c' r, A4 c t w = some (c', r) ∧ Cur (B' + 100) c' ∧ r.length ≤ t.length + 3 := by
  unfold A4
  obtain ⟨c0, v0, e0, q0, a0, b0⟩ := Cr h (by omega) 3
  have b0 := b0 (by omega)
  obtain ⟨r, e1, q1, n1⟩ := JA (f := fun (s : (Cu × ((List UInt8) × ((List UInt8) × Int)))) => A9 s.1 s.2.1 s.2.2.1 s.2.2.2) (I := fun s => s.2.2.1 = w ∧ 0 ≤ s.2.2.2 ∧ s.2.2.2 ≤ 3 ∧ Cur (B' + 50 - 6 * s.2.2.2.toNat) s.1 ∧ s.2.1.length + s.2.2.2.toNat ≤ t.length + 3)
    (R := fun s => Cur (B' + 100) s.1 ∧ s.2.length ≤ t.length + 3) (fun s => s.2.2.2.toNat)
    (by
      rintro ⟨c, s, w', n⟩ ⟨i1, i2, i3, i4, i5⟩
      simp only at i1 i2 i3 i4 i5
      subst i1
      simp only
      unfold A9
      by_cases hn : 0 < n
      · rw [decide_eq_true (show n > 0 from hn), cT]
        by_cases hs : 0 < s.length
        · rw [decide_eq_true (show ((s.length : Nat) : Int) > 0 by omega), cT]
          obtain ⟨c1, v1, e1, q1, a1, b1⟩ := Cr i4 (by omega) (s.length : Int)
          obtain ⟨c2, v2, e2, q2, a2, b2⟩ := Cr q1 (by omega) (w'.length : Int)
          obtain ⟨c3, v3, e3, q3, a3, b3⟩ := Cr q2 (by omega) 3
          have b1 := b1 (by omega)
          have b2 := b2 (by omega)
          have b3 := b3 (by omega)
          obtain ⟨x, hx, _⟩ := Lo a2 b2
          have s1 : subI (0 : Int) v1 s.length = some (0, v1.toNat) := by unfold subI; rw [if_pos (by omega)]; rfl
          have s2 : subI v1 (s.length : Int) s.length = some (v1.toNat, s.length) := by unfold subI; rw [if_pos (by omega)]; rfl
          have s3 : subI (v1 + 1) (s.length : Int) s.length = some ((v1 + 1).toNat, s.length) := by unfold subI; rw [if_pos (by omega)]; rfl
          simp only [peta, e1, e2, e3, hx, obs, s1, s2, wrapI (n := v1 + 1) (by omega) (by omega), s3, wrapI (n := n - 1) (by omega) (by omega)]
          have len1 : (strOf [((UInt8.toNat x : Nat) : Int)]).length = 1 := by rw [PD]; rfl
          have fin : ∀ (y : Str), y.length ≤ s.length + 1 → (∃ s', (some (Sum.inl (c3, (y, (w', n - 1)))) : Option ((Cu × (Str × (Str × Int))) ⊕ (Cu × Str))) = some (Sum.inl s') ∧ (s'.2.2.1 = w' ∧ 0 ≤ s'.2.2.2 ∧ s'.2.2.2 ≤ 3 ∧ Cur (B' + 50 - 6 * s'.2.2.2.toNat) s'.1 ∧ s'.2.1.length + s'.2.2.2.toNat ≤ t.length + 3) ∧ s'.2.2.2.toNat < n.toNat) := by
            intro y hy
            exact ⟨_, rfl, ⟨rfl, by simp only; omega, by simp only; omega, q3.mono (by simp only; omega), by simp only; omega⟩, by simp only; omega⟩
          by_cases h0 : v3 = 0
          · rw [show (v3 == 0) = true by simp [h0], cT, A8 (by simp [len1]; omega), obs, A8 (by simp [len1]; omega), obs]
            exact .inl (fin _ (by simp [len1]; omega))
          · rw [show (v3 == 0) = false from beq_eq_false_iff_ne.2 h0, cF]
            by_cases h1 : v3 = 1
            · rw [show (v3 == 1) = true by simp [h1], cT, A8 (by simp [len1]; omega), obs, A8 (by simp [len1]; omega), obs]
              exact .inl (fin _ (by simp [len1]; omega))
            · rw [show (v3 == 1) = false from beq_eq_false_iff_ne.2 h1, cF, A8 (by simp; omega), obs]
              exact .inl (fin _ (by simp; omega))
        · rw [decide_eq_false (show ¬ ((s.length : Nat) : Int) > 0 by omega), cF]
          exact .inr ⟨_, rfl, i4.mono (by omega), by simp only; omega⟩
      · rw [decide_eq_false (show ¬ n > 0 by omega), cF]
        exact .inr ⟨_, rfl, i4.mono (by omega), by simp only; omega⟩) (c0, t, w, v0) ⟨rfl, by simp only; omega, by simp only; omega, q0.mono (by simp only; omega), by simp only; omega⟩
  simp only [e0, obs, peta]
  have e1' : loopM (fun (s : (Cu × ((List UInt8) × ((List UInt8) × Int)))) => A9 s.1 s.2.1 s.2.2.1 s.2.2.2) (c0, (t, (w, v0))) = some r := e1
  rw [e1', obs]
  exact ⟨r.1, r.2, by rw [peta], q1, n1⟩
theorem Gg {l : List Int} (h : l.length ≤ 1000000) : Ba l l = some true := by
  unfold Ba
  rw [bne_self_eq_false, cF]
  obtain ⟨h1, h2⟩ := Fm (l := l) (body := fun (s : ((List Int) × ((List Int) × (Int × Int)))) => AQ s.1 s.2.1 s.2.2.1 s.2.2.2)
    (st := fun k (b : Unit) => (l, (l, ((l.length : Int), (k : Int))))) (step := fun b p => ()) (fin := fun b => .inl ()) (I := fun k b => True)
    (by
      rintro k b p hk _
      have hkl := getL hk
      refine ⟨?_, trivial⟩
      show AQ l l (l.length : Int) (k : Int) = _
      unfold AQ
      rw [decide_eq_true (by omega), cT, Ao, hk, obs, obs, bne_self_eq_false, cF, wrap1 (by omega)])
    (by
      rintro b _
      show AQ l l (l.length : Int) (l.length : Int) = _
      unfold AQ
      rw [decide_eq_false (by omega)]
      rfl) () trivial
  have h1' : loopM (fun (s : ((List Int) × ((List Int) × (Int × Int)))) => AQ s.1 s.2.1 s.2.2.1 s.2.2.2) (l, (l, ((l.length : Int), (0 : Int)))) = _ := h1
  rw [h1']
  rfl
theorem B1 {l : List Rn} (h : l.length ≤ 1000000) : Am l l = some true := by
  unfold Am
  rw [bne_self_eq_false, cF]
  obtain ⟨h1, h2⟩ := Fm (l := l) (body := fun (s : ((List (Int × Int)) × ((List (Int × Int)) × (Int × Int)))) => AO s.1 s.2.1 s.2.2.1 s.2.2.2)
    (st := fun k (b : Unit) => (l, (l, ((l.length : Int), (k : Int))))) (step := fun b p => ()) (fin := fun b => .inl ()) (I := fun k b => True)
    (by
      rintro k b p hk _
      have hkl := getL hk
      refine ⟨?_, trivial⟩
      show AO l l (l.length : Int) (k : Int) = _
      unfold AO
      rw [decide_eq_true (by omega), cT, Ao, hk, obs, obs, beq_self_eq_true, beq_self_eq_true, Bool.and_self, nT, cF, wrap1 (by omega)])
    (by
      rintro b _
      show AO l l (l.length : Int) (l.length : Int) = _
      unfold AO
      rw [decide_eq_false (by omega)]
      rfl) () trivial
  have h1' : loopM (fun (s : ((List (Int × Int)) × ((List (Int × Int)) × (Int × Int)))) => AO s.1 s.2.1 s.2.2.1 s.2.2.2) (l, (l, ((l.length : Int), (0 : Int)))) = _ := h1
  rw [h1']
  rfl
theorem Ie {row : List Int} (h : row.length ≤ 100000) : (runsOfV row).1.length ≤ 100000 := by
  unfold runsOfV
  split
  · have := Dx row; simp only; omega
  · simp
theorem Ki (l : List Rn) : (fromRunsV l).1.length ≤ 10000 := by
  unfold fromRunsV
  split
  · rename_i h; exact C3 h
  · simp
theorem O6 (a b : List Rn) : (joinV a b).1.length ≤ 100000 := by
  unfold joinV
  split
  · rename_i h
    rw [Bool.and_eq_true] at h
    have h1 := C3 h.1
    have h2 := C3 h.2
    exact Ie (by simp; omega)
  · simp
theorem LZ (s : Str) : (rdRunsV s).1.length ≤ 100 := by
  unfold rdRunsV
  split
  · rename_i h; exact (AL h.1).2
  · simp
theorem Lk {row : List Int} (h : goodRow row = true) (k : Nat) : goodRow (row.take k) = true := by
  rw [EI] at h ⊢
  exact ⟨fun x hx => h.1 x (List.mem_of_mem_take hx), by rw [List.length_take]; omega⟩
theorem LB {row : List Int} (h : goodRow row = true) (k : Nat) : goodRow (row.drop k) = true := by
  rw [EI] at h ⊢
  exact ⟨fun x hx => h.1 x (List.mem_of_mem_drop hx), by rw [List.length_drop]; omega⟩
theorem O2 {b : List Int} (hb : Cur 0 (b, 0, 0)) :
    ((Aw b).bind fun x29 =>
      ((AJ x29)).bind fun x30 =>
      ((Bc x29)).bind fun x31 =>
      ((Ax b)).bind fun x32 =>
      ((AV x32.1 x32.2)).bind fun x33 =>
      ((A6 x32.1 x32.2)).bind fun x34 =>
      bif (x30.2 == x31.2) then
        ((Am x30.1 x31.1)).bind fun x35 =>
        bif x35 then
          bif (x33.2 == x34.2) then
            ((Am x33.1 x34.1)).bind fun x36 =>
            some x36
          else
          some false
        else
        some false
      else
      some false) = some true := by
  have h1 : ∃ s : Str, Aw b = some s ∧ s.length ≤ 100000 := by
    unfold Aw
    obtain ⟨c0, l, e0, q0, n0⟩ := IC hb (by omega)
    obtain ⟨c1, v1, e1, q1⟩ := Lj q0 (by omega) 3
    have hlen : (runsTextV l).1.length ≤ 5000 := by
      unfold runsTextV
      split
      · rename_i hg
        have := De (AL hg).1
        have := (AL hg).2
        simp only
        omega
      · simp
    simp only [e0, obs, peta, Jk (show l.length < 4611686018427387904 by omega), e1]
    cases v1
    · exact ⟨_, rfl, by omega⟩
    · obtain ⟨c2, r, e2, q2, n2⟩ := Pn q1 (by omega) (runsTextV l).1 [120, 44, 48, 49, 55] (by omega) (by simp) (by simp)
      simp only [cT, e2, obs]
      exact ⟨_, rfl, by omega⟩
  obtain ⟨s, e, hs⟩ := h1
  have h2 : ∃ x y, Ax b = some (x, y) ∧ x.length ≤ 200 ∧ y.length ≤ 200 := by
    unfold Ax
    obtain ⟨c0, x, e0, q0, n0⟩ := IC hb (by omega)
    obtain ⟨c1, y, e1, q1, n1⟩ := IC q0 (by omega)
    simp only [e0, e1, obs, peta]
    exact ⟨x, y, rfl, n0, n1⟩
  obtain ⟨x, y, e', hx, hy⟩ := h2
  have l1 := LZ s
  have l2 := O6 x y
  rw [e, obs, J1 (by omega), obs, Nu (by omega), obs, e', obs]
  simp only
  rw [I7 (by omega) (by omega), obs, NP (by omega) (by omega), obs, beq_self_eq_true, cT, B1 (by omega), obs, cT, beq_self_eq_true, cT, B1 (by omega), obs]
theorem Q4 {b : List Int} (hb : Cur 0 (b, 0, 0)) {K : List Int → Option Bool} (hK : K b = some true) :
    ((AM b).bind fun x17 =>
    ((BC x17)).bind fun x18 =>
    ((Bb x17)).bind fun x19 =>
    ((Bd x17)).bind fun x20 =>
    ((BA x17)).bind fun x21 =>
    bif (!(x18.2 == x19.2)) then
      some false
    else
    bif (!(x18.1 == x19.1)) then
      some false
    else
    bif (!(x20.2 == x21.2)) then
      some false
    else
    ((Ba x20.1 x21.1)).bind fun x22 =>
    bif (!x22) then
      some false
    else
    ((As x17)).bind fun x23 =>
    bif (!(x23 == x18.2)) then
      some false
    else
    (bif x18.2 then
        ((AJ x18.1)).bind fun x24 =>
        bif (!x24.2) then
          some (Sum.inl false)
        else
        ((Am x24.1 x17)).bind fun x25 =>
        bif (!x25) then
          some (Sum.inl false)
        else
        some (Sum.inr b)
      else
      some (Sum.inr b)).bind fun x26 =>
    Sum.elim
      (fun x27 =>
      some x27)
      (fun x28 => K x28)
      x26) = some true := by
  have h1 : ∃ l, AM b = some l ∧ l.length ≤ 200 := by
    unfold AM BE
    obtain ⟨c0, l, e0, q0, n0⟩ := IC hb (by omega)
    simp only [e0, obs]
    exact ⟨l, rfl, n0⟩
  obtain ⟨l, e, hl⟩ := h1
  have lf := Ki l
  rw [e, obs, Od (by omega), obs, Jk (by omega), obs, JL (by omega), obs, NZ (by omega), obs, beq_self_eq_true, nT, cF, beq_self_eq_true, nT, cF, beq_self_eq_true, nT, cF, Gg (by omega), obs, nT, cF, BP (by omega), obs]
  cases hg : goodR l with
  | false =>
    have ht : runsTextV l = ([], false) := by unfold runsTextV; rw [hg]; rfl
    rw [ht]
    simp only [beq_self_eq_true, nT, cF, obs, sEr]
    exact hK
  | true =>
    have ht : runsTextV l = (runsTxt l, true) := by unfold runsTextV; rw [hg]; rfl
    obtain ⟨g1, g2⟩ := AL hg
    have htl := De g1
    have hr : rdRunsV (runsTxt l) = (l, true) := by
      unfold rdRunsV
      rw [JO g1, if_pos ⟨hg, rfl⟩]
    rw [ht]
    simp only [beq_self_eq_true, nT, cF, cT]
    rw [J1 (by omega), obs, hr]
    simp only [nT, cF]
    rw [B1 (by omega)]
    simp only [obs, nT, cF, sEr]
    exact hK
theorem pureFnRuns {a b : List Int} (ha : ∀ x ∈ a, 0 ≤ x ∧ x ≤ 255) (hb : ∀ x ∈ b, 0 ≤ x ∧ x ≤ 255) (la : a.length ≤ 1000000000000000) (lb : b.length ≤ 1000000000000000) : C6 a b = some true := by
  unfold C6
  rw [wrapI (by omega) (by omega)]
  by_cases hl : (a.length : Int) + (b.length : Int) > 1048576
  · rw [decide_eq_true hl]; rfl
  rw [decide_eq_false hl, cF]
  have ca : Cur 0 (a, 0, 0) := .start ha (by omega)
  have cb : Cur 0 (b, 0, 0) := .start hb (by omega)
  have last := O2 cb
  have mid := Q4 (K := fun x28 => (Aw x28).bind fun x29 =>
      ((AJ x29)).bind fun x30 =>
      ((Bc x29)).bind fun x31 =>
      ((Ax x28)).bind fun x32 =>
      ((AV x32.1 x32.2)).bind fun x33 =>
      ((A6 x32.1 x32.2)).bind fun x34 =>
      bif (x30.2 == x31.2) then
        ((Am x30.1 x31.1)).bind fun x35 =>
        bif x35 then
          bif (x33.2 == x34.2) then
            ((Am x33.1 x34.1)).bind fun x36 =>
            some x36
          else
          some false
        else
        some false
      else
      some false) cb last
  have h1 : ∃ row, Bm a = some row ∧ row.length ≤ 200 := by
    unfold Bm
    obtain ⟨c0, l, e0, q0, n0⟩ := Qj ca (by omega)
    simp only [e0, obs]
    exact ⟨l, rfl, n0⟩
  obtain ⟨row, e, hrow⟩ := h1
  have hrl := Ie (row := row) (by omega)
  rw [e, obs, GU (by omega), obs, IT (by omega), obs, beq_self_eq_true, nT, cF, B1 (by omega), obs, nT, cF]
  cases hg : goodRow row with
  | false =>
    have hv : runsOfV row = ([], false) := by unfold runsOfV; rw [hg]; rfl
    rw [hv]
    simp only [cF, obs, sEr]
    exact mid
  | true =>
    have hv : runsOfV row = (runsV row, true) := by unfold runsOfV; rw [hg]; rfl
    have hgr := FX hg
    have hf : fromRunsV (runsV row) = (row, true) := by unfold fromRunsV; rw [hgr, FG]; rfl
    have hrv := Dx row
    obtain ⟨n, en, n0, n1⟩ := NY hb (by omega)
    obtain ⟨t0, t1⟩ := G8 (a := n) (n := (row.length : Int) + 1 + 1 - 1) n0 |> fun h => (by
      by_cases h0 : row.length = 0
      · rw [h0]
        have : n.tmod (((0 : Nat) : Int) + 1) = 0 := by rw [show (((0 : Nat) : Int) + 1) = 1 from rfl]; exact Int.tmod_one n
        exact ⟨by omega, by omega⟩
      · have h' := G8 (a := n) (n := (row.length : Int) + 1) n0 (by omega)
        exact h' : 0 ≤ n.tmod ((row.length : Int) + 1) ∧ n.tmod ((row.length : Int) + 1) < (row.length : Int) + 1)
    rw [hv]
    simp only [cT]
    rw [JL (by omega), obs, BP (by omega), obs, hgr, nT, cF, hf]
    simp only [nT, cF]
    rw [Gg (by omega), obs, nT, cF, en, obs, wrapI (by omega) (by omega), show (((row.length : Nat) : Int) + 1 == 0) = false from beq_eq_false_iff_ne.2 (by omega), cF]
    obtain ⟨k, hk⟩ : ∃ k : Nat, n.tmod ((row.length : Int) + 1) = (k : Int) := ⟨(n.tmod ((row.length : Int) + 1)).toNat, by omega⟩
    rw [hk] at t1 ⊢
    have s1 : subI (0 : Int) (k : Int) row.length = some (0, k) := by unfold subI; rw [if_pos (by omega)]; rfl
    have s2 : subI (k : Int) (row.length : Int) row.length = some (k, row.length) := by unfold subI; rw [if_pos (by omega)]; rfl
    rw [s1, obs, s2]
    simp only [obs]
    rw [Nat.zero_add, Nat.sub_zero, List.drop_zero, show k + (row.length - k) = row.length by omega, List.take_length]
    have g1 := Lk hg k
    have g2 := LB hg k
    have v1 : runsOfV (row.take k) = (runsV (row.take k), true) := by unfold runsOfV; rw [g1]; rfl
    have v2 : runsOfV (row.drop k) = (runsV (row.drop k), true) := by unfold runsOfV; rw [g2]; rfl
    have l1 := Dx (row.take k)
    have l2 := Dx (row.drop k)
    have l3 : (row.take k).length ≤ 200 := by rw [List.length_take]; omega
    have l4 : (row.drop k).length ≤ 200 := by rw [List.length_drop]; omega
    have hj : joinV (runsV (row.take k)) (runsV (row.drop k)) = (runsV row, true) := by
      unfold joinV
      rw [FX g1, FX g2, FG, FG, List.take_append_drop]
      exact hv
    rw [GU (by omega), obs, GU (by omega), obs, v1, v2]
    simp only
    rw [I7 (by omega) (by omega), obs, hj]
    simp only [nT, cF]
    rw [B1 (by omega)]
    simp only [obs, nT, cF, sEr]
    exact mid
end Go.Proofs.YtgfchmagglhohaaGreatDoor.Ev

end
section
namespace Go.Proofs.YtgfchmagglhohaaGreatDoor.Ev
open Go Go.RowKit Go.ChangeShapes Go.WideShapes Go.ChangeAt
set_option linter.unusedVariables false
set_option maxRecDepth 100000
def shs : List Sh := [.sl 1 (.int .u8), .sl 1 (.int .u8)]
theorem fits : FitsL Tryz.prog [22, 22] shs := by
  exact ⟨.sl (e := 5) (by kernel_rfl) (by kernel_rfl) (by kernel_rfl) (.int (by kernel_rfl)), .sl (e := 5) (by kernel_rfl) (by kernel_rfl) (by kernel_rfl) (.int (by kernel_rfl)), trivial⟩
theorem own : ownKnob Tryz.prog.godebug = none := by kernel_rfl
theorem laid : laidOutB Tryz.prog = true := by kernel_rfl
theorem door_met (os : Os) (args : Array Value) : laidMetH Tryz.prog Rows.fnRunsRow.laid ((World.laidAll Tryz.prog os Rows.fnRunsRow.laid).forCall (fun _ _ => 0) ⟨#[], args, []⟩).memory := by
  rw [MakeChecks.laidMetH_plain _ _ _ (by kernel_rfl)]
  exact laidMet_laidAll _ (by kernel_rfl) (by kernel_rfl)
theorem starE : "*" ++ "errors.errorString" = "*errors.errorString" := by decide
def ids : List Nat := [0, 1, 2, 3]
theorem libJ {W : World} (hsh : W.ShapedOpen Tryz.prog) (hL : laidMetH Tryz.prog Rows.fnRunsRow.laid W) : LibJ (Jof W ids) := by
  rw [MakeChecks.laidMetH_plain _ _ _ (by kernel_rfl)] at hL
  have hP : laidMet Tryz.prog Rows.fnRunsRow.laid W := hL
  have htab : Lib.TabIs Tryz.prog W "internal/strconv.uint64pow10" .u64 Lib.pow10Tab := Lib.tabIs_of_head (g := 3) (t := 228) (e := 76) (n := 20) (by kernel_rfl) (by kernel_rfl) (by kernel_rfl) (by kernel_rfl) (by kernel_rfl) (by kernel_rfl) (show laidMet Tryz.prog ((_, Lib.tabData .u64 Lib.pow10Tab) :: _) W from CH 2 hP)
  have hmax : ∃ m : Int, W.cell? ⟨0, 0, none⟩ = some (.int .i64 m) := Go.Proofs.cell_of_shapedOpen_int (zero := #[.int .i64 0]) (t := 3) hsh (of_decide_eq_true (by kernel_rfl)) (by kernel_rfl) rfl (by kernel_rfl) (by kernel_rfl) Tryz.underlying3
  have hsyn : ∃ tp p, W.var? Tryz.prog "strconv.ErrSyntax" = some #[.iface tp p] := by
    obtain ⟨a, s, hv, _⟩ := laid_sentinel (g := 1) (ti := 92) (tp := 223) (te := 225) (ts := 9) (CH 5 hP) (by kernel_rfl) (by kernel_rfl) Tryz.underlying92 (fun u h => typeName_ptr_named (nm := "errors.errorString") (by rw [starE]; kernel_rfl) (by kernel_rfl) (by decide) u (by rw [starE]; exact h)) Tryz.underlying223 Tryz.underlying225 rfl rfl Tryz.underlying9 (by kernel_rfl) (by kernel_rfl)
    exact ⟨_, _, hv⟩
  have hrng : ∃ tp p, W.var? Tryz.prog "strconv.ErrRange" = some #[.iface tp p] := by
    obtain ⟨a, s, hv, _⟩ := laid_sentinel (g := 2) (ti := 92) (tp := 223) (te := 225) (ts := 9) (CH 4 hP) (by kernel_rfl) (by kernel_rfl) Tryz.underlying92 (fun u h => typeName_ptr_named (nm := "errors.errorString") (by rw [starE]; kernel_rfl) (by kernel_rfl) (by decide) u (by rw [starE]; exact h)) Tryz.underlying223 Tryz.underlying225 rfl rfl Tryz.underlying9 (by kernel_rfl) (by kernel_rfl)
    exact ⟨_, _, hv⟩
  unfold ids
  exact { tab := jtab (g := 3) (by kernel_rfl) (by simp) htab, max := jmax (g := 0) (by simp) hmax, syn := jvar (g := 1) (by kernel_rfl) (by simp) hsyn, rng := jvar (g := 2) (by kernel_rfl) (by simp) hrng }
theorem lifted (os : Os) (started : os.Started) (H : Type) (enc : TypeId × Value → H) :
    ReturnsInHanded {} Tryz.checked os 3 .any (fun w args => (Rows.fnRunsSpec.pre enc Tryz.prog Tryz.f3 [] false w args ∧ laidMetH Tryz.prog Rows.fnRunsRow.laid w) ∧ sizedMet enc Tryz.prog Tryz.f3 (OpenSpec.ofChange Rows.fnRunsSpec) false w args)
      (Rows.fnRunsSpec.post enc Tryz.prog Tryz.f3 false true false false) := by
  refine ED (C := Tryz.checked) (X := fun w _ => laidMetH Tryz.prog Rows.fnRunsRow.laid w) (fun _ _ _ hh h => h.of_heap hh) own started (by kernel_rfl) Tryz.func3
    (ChangeSpec.witness_shaped (enc := enc) (C := Tryz.checked) (os := os) (X := fun w _ => laidMetH Tryz.prog Rows.fnRunsRow.laid w) false (World.laidAll Tryz.prog os Rows.fnRunsRow.laid) #[.slice none 0 0, .slice none 0 0] 8 (World.laidAll_os _ _ _) (World.shaped_of_ZipB (by kernel_rfl) (by kernel_rfl)) (by kernel_rfl) (by kernel_rfl) (by kernel_rfl) (door_met os _)) ?_
  intro W base args ds gs before hval hW hsz hsh hL
  exact LO (P := Tryz.prog) (J := Jof W ids) (cf := cf0) (ext := ext0) (F := fun x => C6 x.1 x.2) (shs := shs) (by kernel_rfl) (P4 (libJ hsh hL)) L7 (fun d => by kernel_rfl)
    (fun d hd => pureFnRuns (Gb hd.1).1 (Gb hd.2.1).1 (Gb hd.1).2 (Gb hd.2.1).2) rfl rfl rfl (by kernel_rfl) fits laid
    (fun t ht => by
      have : t = 22 := by simpa using ht
      rcases this with rfl <;> exact ⟨by kernel_rfl, of_decide_eq_true (by kernel_rfl)⟩) rfl
    (fun ds hl => by
      match ds, hl with
      | [_, _], _ => rfl) Q0 hval hW hsz
theorem over : Rows.fnRunsRow.holds Tryz.pinned (OpenSpec.ofChange Rows.fnRunsSpec) :=
  OpenClaim.holds_of_wide 3 Tryz.f3 rfl rfl rfl rfl rfl rfl rfl ⟨rfl, rfl, rfl, rfl, rfl⟩ rfl rfl rfl rfl rfl (by kernel_rfl) Tryz.func3 (by kernel_rfl)
    (of_decide_eq_true (by kernel_rfl)) (by unfold Func.isWrapper; first | (rw [if_pos (by decide +kernel)]; kernel_rfl) | (rw [if_neg (by decide +kernel)]; exact ⟨rfl, rfl⟩))
    (fun os started H enc _ => lifted os started H enc)
theorem carded : Rows.FnRunsCardSaid :=
  Claim7.holds_tied_plain_at .later [] [.data, .data, .data, .data, .sentinel, .sentinel, .pinned] true (true, "13742ff60ebdca116fcfe556ed49df439607de04dc04ac1f6eda776bad92e3f2") true
    over (fun _ h => by cases h) (by kernel_rfl) (fun _ h => by cases h) fnRuns_row_tie rfl ⟨rfl, rfl⟩ (by kernel_rfl) rfl
    (fun f fn hf hfn => by
      obtain rfl : f = 3 := Option.some.inj ((show Tryz.prog.funcNamed "loop.example/g00409/laws.FnRuns" = some 3 by kernel_rfl).symm.trans hf) |>.symm
      obtain rfl : fn = Tryz.f3 := (Option.some.inj (Tryz.func3.symm.trans hfn)).symm
      exact ⟨by kernel_rfl, fun j t ht => by
        rw [show Tryz.f3.params = #[22, 22] from rfl] at ht
        have hm : t ∈ [22, 22] := by simpa using Array.mem_of_getElem? ht
        have hall : ([22, 22].all fun u => !Tryz.prog.wantsStandIn u) = true := by kernel_rfl
        exact (show Tryz.prog.wantsStandIn t = false by simpa using List.all_eq_true.1 hall t hm)⟩)
    (by kernel_rfl)
end Go.Proofs.YtgfchmagglhohaaGreatDoor.Ev
namespace Go.Proofs.YtgfchmagglhohaaGreatDoor
theorem fnRuns_holds : Rows.FnRunsSaid := Ev.over
theorem fnRuns_card_holds : Rows.FnRunsCardSaid := Ev.carded
#print axioms fnRuns_card_holds
end Go.Proofs.YtgfchmagglhohaaGreatDoor

end
