/- Orders of operations: what comes ahead; the trace of a region. -/
import Derived.Test.YtcmihlhmeonmfaaEv28
import Derived.Test.YtcmihlhmeonmfaaEv29
import Derived.Test.YtcmihlhmeonmfaaEv24
namespace Go.Proofs.Ytcmihlhmeonmfaa.Ev
open Go
set_option linter.unusedVariables false
set_option linter.unusedSimpArgs false

variable {P : Program} {R : Rel} {cf : Cfg}

theorem mask_bits {acc : List Nat} {j : Nat} : ∀ (l : List Edge), (l.foldr (fun e s => if Region.binds .any e then s ||| 2 ^ e.on ||| acc.getD e.on 0 else s) 0).testBit j = true →
    ∃ e ∈ l, Region.binds .any e = true ∧ (e.on = j ∨ (acc.getD e.on 0).testBit j = true)
  | [], h => by simp at h
  | e :: l, h => by
    simp only [List.foldr_cons] at h
    by_cases hb : Region.binds .any e = true
    · rw [if_pos hb] at h
      simp only [Nat.testBit_or, Bool.or_eq_true] at h
      rcases h with (h | h) | h
      · obtain ⟨e', h1, h2⟩ := mask_bits l h
        exact ⟨e', by simp [h1], h2⟩
      · rw [Nat.testBit_two_pow] at h
        exact ⟨e, by simp, hb, .inl (by simpa using h)⟩
      · exact ⟨e, by simp, hb, .inr h⟩
    · rw [if_neg hb] at h
      obtain ⟨e', h1, h2⟩ := mask_bits l h
      exact ⟨e', by simp [h1], h2⟩

/-- What a mask's bit says. -/
def AncOK (ops : List Oper) (ms : List Nat) : Prop := ∀ (i m : Nat), ms[i]? = some m → ∀ j, m.testBit j = true →
  ∃ o e, ops[i]? = some o ∧ e ∈ o.after.toList ∧ Region.binds .any e = true ∧ (e.on = j ∨ ∃ m', ms[e.on]? = some m' ∧ e.on < i ∧ m'.testBit j = true)

theorem anc_spec : ∀ (l pre : List Oper) (acc : List Nat), acc.length = pre.length → AncOK pre acc → AncOK (pre ++ l) (anc l acc)
  | [], pre, acc, _, h => by simpa [anc] using h
  | o :: l, pre, acc, hlen, h => by
    simp only [anc]
    have := anc_spec l (pre ++ [o]) (acc ++ [o.after.toList.foldr (fun e s => if Region.binds .any e then s ||| 2 ^ e.on ||| acc.getD e.on 0 else s) 0]) (by simp [hlen]) (by
      intro i m hm j hj
      by_cases hi : i < acc.length
      · rw [List.getElem?_append_left hi] at hm
        obtain ⟨o', e, h1, h2, h3, h4⟩ := h i m hm j hj
        refine ⟨o', e, by rw [List.getElem?_append_left (by omega)]; exact h1, h2, h3, h4.imp (fun h => h) ?_⟩
        rintro ⟨m', h5, h6, h7⟩
        exact ⟨m', by rw [List.getElem?_append_left (by omega)]; exact h5, h6, h7⟩
      · rw [List.getElem?_append_right (by omega)] at hm
        have hi' : i - acc.length = 0 := by
          have := (List.getElem?_eq_some_iff.1 hm).1
          simp at this
          omega
        rw [hi'] at hm
        simp only [List.getElem?_cons_zero, Option.some.injEq] at hm
        subst hm
        obtain ⟨e, h1, h2, h3⟩ := mask_bits _ hj
        refine ⟨o, e, ?_, h1, h2, h3.imp (fun h => h) ?_⟩
        · rw [List.getElem?_append_right (by omega), show i - pre.length = 0 by omega]; rfl
        · intro h3
          have hlt : e.on < acc.length := by
            rcases Nat.lt_or_ge e.on acc.length with h' | h'
            · exact h'
            · rw [List.getD_eq_getElem?_getD, List.getElem?_eq_none h'] at h3
              simp at h3
          refine ⟨acc[e.on], by rw [List.getElem?_append_left hlt, List.getElem?_eq_getElem hlt], by omega, ?_⟩
          rw [List.getD_eq_getElem?_getD, List.getElem?_eq_getElem hlt] at h3
          simpa using h3)
    rwa [List.append_assoc] at this

theorem bef_step {ops : List Oper} {i j : Nat} (h : befB ops i j = true) : ∃ o e, ops[i]? = some o ∧ e ∈ o.after.toList ∧ Region.binds .any e = true ∧ (e.on = j ∨ (e.on < i ∧ befB ops e.on j = true)) := by
  have hs := anc_spec ops [] [] rfl (fun i m hm => by simp at hm)
  unfold befB at h
  cases hm : (anc ops [])[i]? with
  | none => rw [List.getD_eq_getElem?_getD, hm] at h; simp at h
  | some m =>
    rw [List.getD_eq_getElem?_getD, hm] at h
    obtain ⟨o, e, h1, h2, h3, h4⟩ := hs i m hm j (by simpa using h)
    refine ⟨o, e, by simpa using h1, h2, h3, h4.imp (fun h => h) ?_⟩
    rintro ⟨m', h5, h6, h7⟩
    refine ⟨h6, ?_⟩
    unfold befB
    rw [List.getD_eq_getElem?_getD, h5]
    simpa using h7

/-- A set of operations that holds with each one what its edges name. -/
def Shut (ops : List Oper) (D : Nat → Prop) : Prop := ∀ i o, D i → ops[i]? = some o → ∀ e ∈ o.after.toList, Region.binds .any e = true → D e.on

theorem bef_shut {ops : List Oper} {D : Nat → Prop} (hD : Shut ops D) : ∀ (i j : Nat), befB ops i j = true → D i → D j := by
  intro i
  induction i using Nat.strongRecOn with
  | _ i ih =>
    intro j h hi
    obtain ⟨o, e, h1, h2, h3, h4⟩ := bef_step h
    have he := hD i o hi h1 e h2 h3
    rcases h4 with h4 | ⟨h4, h5⟩
    · exact h4 ▸ he
    · exact ih e.on h4 j h5 he

/-- What comes ahead of an operation whose edges are met. -/
theorem bef_ready {ops : List Oper} {D : Nat → Prop} (hD : Shut ops D) {i : Nat} {o : Oper} (ho : ops[i]? = some o) (hr : ∀ e ∈ o.after.toList, Region.binds .any e = true → D e.on) {j : Nat} (h : befB ops i j = true) : D j := by
  obtain ⟨o', e, h1, h2, h3, h4⟩ := bef_step h
  rw [ho] at h1
  cases h1
  have he := hr e h2 h3
  rcases h4 with h4 | ⟨_, h5⟩
  · exact h4 ▸ he
  · exact bef_shut hD e.on j h5 he

theorem bef_lt {ops : List Oper} (hb : backOK ops = true) : ∀ (i j : Nat), befB ops i j = true → j < i := by
  intro i
  induction i using Nat.strongRecOn with
  | _ i ih =>
    intro j h
    obtain ⟨o, e, h1, h2, h3, h4⟩ := bef_step h
    have hlt : i < ops.length := (List.getElem?_eq_some_iff.1 h1).1
    unfold backOK at hb
    have := List.all_eq_true.1 hb i (by simpa using hlt)
    simp only [h1, Bool.and_eq_true] at this
    have h5 := this.1
    rw [Array.all_eq_true_iff_forall_mem] at h5
    have h6 := h5 e (by simpa using h2)
    simp only [Bool.and_eq_true, decide_eq_true_eq] at h6
    rcases h4 with h4 | ⟨h4, h5⟩
    · omega
    · have := ih e.on h4 j h5
      omega

def Want (all : List Oper) (tm : Tm) (o : Oper) : Prop := ∀ j want, o.guard = some (j, want) → ∃ d, (all[j]?).bind (·.dst) = some d ∧ guardC (tm d) want = some true
def NotWant (all : List Oper) (tm : Tm) (o : Oper) : Prop := ∃ j want d, o.guard = some (j, want) ∧ (all[j]?).bind (·.dst) = some d ∧ guardC (tm d) want = some false

/-- The values of a region's slots and blocks, operation by operation, in the order of the list. -/
structure Trace (P : Program) (R : Rel) (cf : Cfg) (all : List Oper) (c : Nat) (tmS : Nat → Tm) (hpS : Nat → Hp) (xS : Nat → V) (clsS : Nat → Cls) (i : Nat) (o : Oper) : Prop where
  tm : tmS (i + 1) = put (tmS i) o.dst (xS i)
  step : (Want all (tmS i) o ∧ opAt P R cf true o.op (16 * (c + i)) (opnd (tmS i)) (hpS i) (fun x hp cls => x = xS i ∧ hp = hpS (i + 1) ∧ cls = clsS i) ∧ (clsS i = .E → eOK all i = true)) ∨
    (NotWant all (tmS i) o ∧ xS i = .tup [] ∧ hpS (i + 1) = hpS i)

theorem Trace.congr {all : List Oper} {c : Nat} {tmS tmS' : Nat → Tm} {hpS hpS' : Nat → Hp} {xS xS' : Nat → V} {clsS clsS' : Nat → Cls} {i : Nat} {o : Oper} (h : Trace P R cf all c tmS hpS xS clsS i o)
    (h1 : tmS' i = tmS i) (h2 : tmS' (i + 1) = tmS (i + 1)) (h3 : hpS' i = hpS i) (h4 : hpS' (i + 1) = hpS (i + 1)) (h5 : xS' i = xS i) (h6 : clsS' i = clsS i) : Trace P R cf all c tmS' hpS' xS' clsS' i o :=
  ⟨by rw [h2, h1, h5]; exact h.tm, by rw [h1, h3, h4, h5, h6]; exact h.step⟩

theorem trace_of {all : List Oper} {c : Nat} {K : St → Prop} : ∀ (l : List Oper) (i : Nat) (tm : Tm) (hp : Hp), weOps P R cf all true l i ⟨tm, hp, c⟩ K →
    ∃ tmS hpS xS clsS, tmS i = tm ∧ hpS i = hp ∧ (∀ (j : Nat) (o : Oper), l[j]? = some o → Trace P R cf all c tmS hpS xS clsS (i + j) o) ∧ K ⟨tmS (i + l.length), hpS (i + l.length), c⟩
  | [], i, tm, hp, h => ⟨fun _ => tm, fun _ => hp, fun _ => .any, fun _ => .T, rfl, rfl, fun j o hj => by simp at hj, h⟩
  | o :: l, i, tm, hp, h => by
    -- one operation ahead of the others
    have join : ∀ (x : V) (hp' : Hp) (cls : Cls), weOps P R cf all true l (i + 1) ⟨put tm o.dst x, hp', c⟩ K →
        ((Want all tm o ∧ opAt P R cf true o.op (16 * (c + i)) (opnd tm) hp (fun x1 hp1 cls1 => x1 = x ∧ hp1 = hp' ∧ cls1 = cls) ∧ (cls = .E → eOK all i = true)) ∨ (NotWant all tm o ∧ x = .tup [] ∧ hp' = hp)) →
        ∃ tmS hpS xS clsS, tmS i = tm ∧ hpS i = hp ∧ (∀ (j : Nat) (o1 : Oper), (o :: l)[j]? = some o1 → Trace P R cf all c tmS hpS xS clsS (i + j) o1) ∧ K ⟨tmS (i + (o :: l).length), hpS (i + (o :: l).length), c⟩ := by
      intro x hp' cls hrest hstep
      obtain ⟨tmS, hpS, xS, clsS, h1, h2, h3, h4⟩ := trace_of l (i + 1) _ _ hrest
      have hne : ∀ j, i + 1 + j ≠ i := fun j => by omega
      refine ⟨fun k => if k = i then tm else tmS k, fun k => if k = i then hp else hpS k, fun k => if k = i then x else xS k, fun k => if k = i then cls else clsS k, by simp, by simp, fun j o1 hj => ?_, ?_⟩
      · cases j with
        | zero =>
          simp only [List.getElem?_cons_zero, Option.some.injEq] at hj
          subst hj
          have hn : i + 1 ≠ i := by omega
          refine ⟨?_, ?_⟩
          · simp only [Nat.add_zero, if_neg hn, if_true, h1]
          · simp only [Nat.add_zero, if_neg hn, if_true, h2]
            exact hstep
        | succ j =>
          simp only [List.getElem?_cons_succ] at hj
          have := h3 j o1 hj
          rw [show i + (j + 1) = i + 1 + j by omega]
          have n1 : i + 1 + j ≠ i := by omega
          have n2 : i + 1 + j + 1 ≠ i := by omega
          exact this.congr (by simp only [if_neg n1]) (by simp only [if_neg n2]) (by simp only [if_neg n1]) (by simp only [if_neg n2]) (by simp only [if_neg n1]) (by simp only [if_neg n1])
      · simp only [List.length_cons]
        have n1 : i + (l.length + 1) ≠ i := by omega
        simp only [if_neg n1]
        rw [show i + (l.length + 1) = i + 1 + l.length by omega]
        exact h4
    have hop : Want all tm o → opAt P R cf true o.op (16 * (c + i)) (opnd tm) hp (fun x hp cls => drawn true (eOK all i) cls (weOps P R cf all true l (i + 1) ⟨put tm o.dst x, hp, c⟩ K)) →
        ∃ tmS hpS xS clsS, tmS i = tm ∧ hpS i = hp ∧ (∀ (j : Nat) (o1 : Oper), (o :: l)[j]? = some o1 → Trace P R cf all c tmS hpS xS clsS (i + j) o1) ∧ K ⟨tmS (i + (o :: l).length), hpS (i + (o :: l).length), c⟩ := by
      intro hw h
      obtain ⟨k, x, hp', cls, h1, h2, _⟩ := opAt_one (Rk := fun _ => R) (fun _ _ _ _ _ _ _ _ h => h) (fun _ _ _ _ _ h => ⟨0, h⟩) h
      refine join x hp' cls (drawn_iff h1).1 (.inl ⟨hw, h2 k (Nat.le_refl _) _ ⟨rfl, rfl, rfl⟩, fun hc => ?_⟩)
      subst hc
      exact h1.1
    unfold weOps at h
    split at h
    · rename_i hg
      exact hop (fun j want hj => by rw [hg] at hj; cases hj) h
    · rename_i j want hg
      obtain ⟨y, hy, h⟩ := caseO_some' h
      obtain ⟨t, hyt, h'⟩ := caseO_some' h
      clear h
      simp only [Option.map_eq_some_iff] at hy
      obtain ⟨d, hjd, hyd⟩ := hy
      subst hyd
      cases t with
      | true =>
        simp only [if_true] at h'
        exact hop (fun j' want' hj' => by rw [hg] at hj'; cases hj'; exact ⟨d, hjd, hyt⟩) h'
      | false =>
        simp only [Bool.false_eq_true, if_false] at h'
        exact join (.tup []) hp .T h' (.inr ⟨⟨j, want, d, hg, hjd, hyt⟩, rfl, rfl⟩)

/-- The value of a slot behind those of the first n operations that are in D. -/
def lw (all : List Oper) (xS : Nat → V) (tm0 : Tm) (D : Nat → Prop) [DecidablePred D] : Nat → Tm
  | 0 => tm0
  | n + 1 => if D n then (match all[n]? with | some o => put (lw all xS tm0 D n) o.dst (xS n) | none => lw all xS tm0 D n) else lw all xS tm0 D n

section
variable {all : List Oper} {xS : Nat → V} {tm0 : Tm}

theorem lw_congr {D D' : Nat → Prop} [DecidablePred D] [DecidablePred D'] {d : Nat} : ∀ (n : Nat), (∀ (j : Nat) (o : Oper), j < n → all[j]? = some o → o.dst = some d → (D j ↔ D' j)) → lw all xS tm0 D n d = lw all xS tm0 D' n d
  | 0, _ => rfl
  | n + 1, h => by
    have ih := lw_congr (D := D) (D' := D') (d := d) n fun j o hj => h j o (by omega)
    have hput : ∀ (D : Nat → Prop) [DecidablePred D] (o : Oper), o.dst ≠ some d → put (lw all xS tm0 D n) o.dst (xS n) d = lw all xS tm0 D n d := by
      intro D _ o ho
      rcases put_get (tm := lw all xS tm0 D n) (dst := o.dst) (x := xS n) (t := d) with h1 | ⟨h1, _⟩
      · exact h1
      · exact absurd h1 ho
    have hsame : ∀ (D : Nat → Prop) [DecidablePred D], (∀ o, all[n]? = some o → o.dst ≠ some d) → lw all xS tm0 D (n + 1) d = lw all xS tm0 D n d := by
      intro D _ hno
      simp only [lw]
      split
      · cases ho : all[n]? with
        | none => rfl
        | some o => exact hput D o (hno o ho)
      · rfl
    by_cases hex : ∃ o, all[n]? = some o ∧ o.dst = some d
    · obtain ⟨o, ho, hd⟩ := hex
      have hiff := h n o (by omega) ho hd
      simp only [lw, ho, hd]
      by_cases hD : D n
      · rw [if_pos hD, if_pos (hiff.1 hD)]
        simp [put, upd]
      · rw [if_neg hD, if_neg (fun hh => hD (hiff.2 hh))]
        exact ih
    · have hno : ∀ o, all[n]? = some o → o.dst ≠ some d := fun o ho hd => hex ⟨o, ho, hd⟩
      rw [hsame D hno, hsame D' hno]
      exact ih

theorem lw_ref {tmS : Nat → Tm} (h0 : tmS 0 = tm0) (hs : ∀ (j : Nat) (o : Oper), all[j]? = some o → tmS (j + 1) = put (tmS j) o.dst (xS j)) : ∀ n, n ≤ all.length → tmS n = lw all xS tm0 (fun _ => True) n
  | 0, _ => h0
  | n + 1, hn => by
    have ih := lw_ref h0 hs n (by omega)
    have ho : all[n]? = some (all[n]'(by omega)) := List.getElem?_eq_getElem (by omega)
    rw [hs n _ ho, ih]
    simp only [lw, if_true, ho]

theorem lw_cut {i : Nat} : ∀ n, i ≤ n → lw all xS tm0 (fun j => j < i) n = lw all xS tm0 (fun _ => True) i
  | 0, h => by
    have : i = 0 := by omega
    subst this; rfl
  | n + 1, h => by
    by_cases hi : i = n + 1
    · subst hi
      funext d
      exact lw_congr (n + 1) fun j o hj _ _ => ⟨fun _ => trivial, fun _ => hj⟩
    · rw [← lw_cut n (by omega)]
      simp only [lw]
      rw [if_neg (by omega)]

/-- One more operation. -/
theorem lw_add {D D' : Nat → Prop} [DecidablePred D] [DecidablePred D'] {i : Nat} {o : Oper} (ho : all[i]? = some o) (hD : ∀ j, D' j ↔ D j ∨ j = i) (hno : ∀ (j : Nat) (o' : Oper) (d : Nat), i < j → D j → all[j]? = some o' → o.dst = some d → o'.dst ≠ some d) :
    ∀ n, i < n → lw all xS tm0 D' n = put (lw all xS tm0 D n) o.dst (xS i) := by
  intro n hn
  funext d
  by_cases hd : o.dst = some d
  · have hval : put (lw all xS tm0 D n) o.dst (xS i) d = xS i := by rw [hd]; simp [put, upd]
    rw [hval]
    induction n with
    | zero => omega
    | succ n ih =>
      simp only [lw]
      by_cases hin : i = n
      · subst hin
        rw [if_pos ((hD i).2 (.inr rfl)), ho]
        simp only [hd]
        simp [put, upd]
      · have ih' := ih (by omega) (by rw [hd]; simp [put, upd])
        split
        · rename_i hDn
          have hDn' : D n := ((hD n).1 hDn).resolve_right fun h => hin h.symm
          cases hon : all[n]? with
          | none => exact ih'
          | some o' =>
            simp only []
            rcases put_get (tm := lw all xS tm0 D' n) (dst := o'.dst) (x := xS n) (t := d) with h1 | ⟨h1, _⟩
            · rw [h1]; exact ih'
            · exact absurd h1 (hno n o' d (by omega) hDn' hon hd)
        · exact ih'
  · rcases put_get (tm := lw all xS tm0 D n) (dst := o.dst) (x := xS i) (t := d) with h1 | ⟨h1, _⟩
    · rw [h1]
      refine lw_congr n fun j o' hj hoj hdj => ?_
      rw [hD j]
      refine ⟨fun h => h.resolve_right fun he => ?_, .inl⟩
      subst he
      rw [ho] at hoj
      cases hoj
      exact hd hdj
    · exact absurd h1 hd
end

theorem filter_lt {α : Type} {p p' : α → Bool} : ∀ (l : List α), (∀ x ∈ l, p' x = true → p x = true) → (∃ x ∈ l, p x = true ∧ p' x = false) → (l.filter p').length < (l.filter p).length
  | [], _, ⟨x, hx, _⟩ => by simp at hx
  | a :: l, h, ⟨x, hx, h1, h2⟩ => by
    have hle : ∀ (l : List α), (∀ x ∈ l, p' x = true → p x = true) → (l.filter p').length ≤ (l.filter p).length := by
      intro l
      induction l with
      | nil => intro _; simp
      | cons b l ih =>
        intro hb
        have := ih fun y hy => hb y (by simp [hy])
        simp only [List.filter_cons]
        cases hp' : p' b with
        | true => rw [hb b (by simp) hp']; simp; omega
        | false => cases p b <;> simp <;> omega
    simp only [List.filter_cons]
    simp only [List.mem_cons] at hx
    rcases hx with rfl | hx
    · have := hle l fun y hy => h y (by simp [hy])
      rw [h1, h2]
      simp
      omega
    · have := filter_lt l (fun y hy => h y (by simp [hy])) ⟨x, hx, h1, h2⟩
      cases hp' : p' a with
      | true => rw [h a (by simp) hp']; simp; omega
      | false => cases p a <;> simp <;> omega

end Go.Proofs.Ytcmihlhmeonmfaa.Ev
