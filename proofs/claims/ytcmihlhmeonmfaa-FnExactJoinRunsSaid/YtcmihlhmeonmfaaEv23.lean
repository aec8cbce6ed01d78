/- A region that draws its order. -/
import Derived.Test.YtcmihlhmeonmfaaEv32
import Derived.Orders
namespace Go.Proofs.Ytcmihlhmeonmfaa.Ev
open Go
set_option linter.unusedVariables false
set_option linter.unusedSimpArgs false

variable {P : Program} {w w' w0 : World} {E E' E0 : Env} {hp hp' hp0 : Hp} {G G' G0 U A W F S : Nat → Prop} {B B' : Nat → Prop} {ρ : Operand → V} {ρr : Operand → Value}
variable {R : Rel} {cf : Cfg}

abbrev Dn (listed : Array Bool) (i : Nat) : Prop := listed.getD i false = true

/-- Numbers known when the operations of D have come up. -/
def BD (c : Nat) (D : Nat → Prop) (id : Nat) : Prop := id < 16 * c ∨ ∃ j, D j ∧ 16 * (c + j) ≤ id ∧ id < 16 * (c + j) + 16

def isW (op : Op) : Bool := !isT op && !isR op

theorem free_apart {all : List Oper} (hf : freeOK all = true) {i j : Nat} {a b : Oper} (hij : j < i) (ha : all[i]? = some a) (hb : all[j]? = some b) (hn : aheadB all i j = false) :
    (∀ d, a.dst = some d → d ∉ names all b ∧ b.dst ≠ some d) ∧ (∀ d, b.dst = some d → d ∉ names all a ∧ a.dst ≠ some d) := by
  have hi : i < all.length := (List.getElem?_eq_some_iff.1 ha).1
  unfold freeOK at hf
  have h1 := List.all_eq_true.1 hf i (by simpa using hi)
  have h2 := List.all_eq_true.1 h1 j (by simpa using hij)
  simp only [hn, Bool.false_or, ha, hb, Bool.and_eq_true] at h2
  refine ⟨fun d hd => ?_, fun d hd => ?_⟩
  · have := h2.1
    rw [hd] at this
    simpa using this
  · have := h2.2
    rw [hd] at this
    simpa using this

theorem ahead_comm {all : List Oper} {i j : Nat} : aheadB all i j = aheadB all j i := by unfold aheadB; exact Bool.or_comm _ _

theorem ahead_or {all : List Oper} {i j : Nat} (h : aheadB all i j = true) : befB all i j = true ∨ befB all j i = true := by
  unfold aheadB at h
  simpa using h

/-- Writers of a slot that an operation names are ordered with it. -/
theorem names_ahead {all : List Oper} (hf : freeOK all = true) {i j : Nat} {a b : Oper} (hij : i ≠ j) (ha : all[i]? = some a) (hb : all[j]? = some b) {d : Nat} (hd : b.dst = some d) (hn : d ∈ names all a) : befB all i j = true ∨ befB all j i = true := by
  cases h : aheadB all i j with
  | true => exact ahead_or h
  | false =>
    exfalso
    rcases Nat.lt_or_gt_of_ne hij with hlt | hlt
    · exact ((free_apart hf hlt hb ha (by rw [ahead_comm]; exact h)).1 d hd).1 hn
    · exact ((free_apart hf hlt ha hb h).2 d hd).1 hn

theorem dst_ahead {all : List Oper} (hf : freeOK all = true) {i j : Nat} {a b : Oper} (hij : i ≠ j) (ha : all[i]? = some a) (hb : all[j]? = some b) {d : Nat} (hd : b.dst = some d) (hn : a.dst = some d) : befB all i j = true ∨ befB all j i = true := by
  cases h : aheadB all i j with
  | true => exact ahead_or h
  | false =>
    exfalso
    rcases Nat.lt_or_gt_of_ne hij with hlt | hlt
    · exact ((free_apart hf hlt hb ha (by rw [ahead_comm]; exact h)).1 d hd).2 hn
    · exact ((free_apart hf hlt ha hb h).2 d hd).2 hn

theorem chain_ahead {all : List Oper} (hc : chainOK all = true) {i j : Nat} {a b : Oper} (hij : i ≠ j) (ha : all[i]? = some a) (hb : all[j]? = some b) (h1 : isW a.op = true) (h2 : isW b.op = true) : befB all i j = true ∨ befB all j i = true := by
  have key : ∀ {i j : Nat} {a b : Oper}, j < i → all[i]? = some a → all[j]? = some b → isW a.op = true → isW b.op = true → aheadB all i j = true := by
    intro i j a b hij ha hb h1 h2
    have hi : i < all.length := (List.getElem?_eq_some_iff.1 ha).1
    unfold chainOK at hc
    have g1 := List.all_eq_true.1 hc i (by simpa using hi)
    have g2 := List.all_eq_true.1 g1 j (by simpa using hij)
    simp only [ha, hb] at g2
    unfold isW at h1 h2
    cases q1 : isT a.op <;> cases q2 : isR a.op <;> cases q3 : isT b.op <;> cases q4 : isR b.op <;> simp_all
  rcases Nat.lt_or_gt_of_ne hij with hlt | hlt
  · exact (ahead_or (key hlt hb ha h2 h1)).symm
  · exact ahead_or (key hlt ha hb h1 h2)

theorem e_ahead {all : List Oper} {i j : Nat} {a : Oper} (he : eOK all i = true) (hij : j ≠ i) (ha : all[j]? = some a) (hT : isT a.op = false) : befB all i j = true ∨ befB all j i = true := by
  have hj : j < all.length := (List.getElem?_eq_some_iff.1 ha).1
  unfold eOK at he
  have := List.all_eq_true.1 he j (by simpa using hj)
  simp only [ha, hT, Bool.or_false, Bool.or_eq_true, beq_iff_eq] at this
  exact ahead_or (this.resolve_left hij)

section
variable {all : List Oper} {c : Nat} {tmS : Nat → Tm} {hpS : Nat → Hp} {xS : Nat → V} {clsS : Nat → Cls}

/-- What one operation of the trace does to the blocks. -/
theorem trace_hp {i : Nat} {o : Oper} (h : Trace P R cf all c tmS hpS xS clsS i o) : (isW o.op = false → hpS (i + 1) = hpS i) ∧ ((clsS i = .E → eOK all i = true → False) → Leaves (16 * (c + i)) (hpS i) (hpS (i + 1))) := by
  rcases h.step with ⟨hw, hop, he⟩ | ⟨_, _, h2⟩
  · have hlv : isR o.op = false → opAt P R cf true o.op (16 * (c + i)) (opnd (tmS i)) (hpS i) (fun x hp cls => x = xS i ∧ hp = hpS (i + 1) ∧ cls = clsS i) = weOp P R cf o.op (16 * (c + i)) (opnd (tmS i)) (hpS i) (fun x hp cls => x = xS i ∧ hp = hpS (i + 1) ∧ cls = clsS i) := by
      intro hr; simp only [opAt, hr, Bool.and_false]
    have hrr : isR o.op = true → opAt P R cf true o.op (16 * (c + i)) (opnd (tmS i)) (hpS i) (fun x hp cls => x = xS i ∧ hp = hpS (i + 1) ∧ cls = clsS i) = weOp P R cf o.op (16 * (c + i)) (opnd (tmS i)) (mask (16 * (c + i)) (hpS i)) (fun x _ cls => x = xS i ∧ hpS i = hpS (i + 1) ∧ cls = clsS i) := by
      intro hr; simp only [opAt, hr, Bool.and_true]
    cases hr : isR o.op with
    | true =>
      rw [hrr hr] at hop
      obtain ⟨x, cls, ⟨_, h1, _⟩, _⟩ := weOp_isR hr hop
      exact ⟨fun _ => h1.symm, fun _ => by rw [← h1]; exact Leaves.refl _ _⟩
    | false =>
      rw [hlv hr] at hop
      cases ht : isT o.op with
      | true =>
        obtain ⟨x, ⟨_, h1, _⟩, _⟩ := weOp_isT ht hop
        exact ⟨fun _ => h1.symm, fun _ => by rw [← h1]; exact Leaves.refl _ _⟩
      | false =>
        have hW : isW o.op = true := by unfold isW; rw [ht, hr]; rfl
        refine ⟨fun h => absurd (hW.symm.trans h) (by simp), fun hE => ?_⟩
        obtain ⟨x, hp', cls, ⟨_, h1, h2⟩, h3⟩ := weOp_lv hop
        subst h1
        exact h3 fun hc => hE (by rw [← h2]; exact hc) (he (by rw [← h2]; exact hc))
  · exact ⟨fun _ => h2, fun _ => by rw [h2]; exact Leaves.refl _ _⟩

theorem hp_between (ht : ∀ (i : Nat) (o : Oper), all[i]? = some o → Trace P R cf all c tmS hpS xS clsS i o) {p : Nat} : ∀ q, p ≤ q → q ≤ all.length → (∀ (j : Nat) (o : Oper), p ≤ j → j < q → all[j]? = some o → isW o.op = false) → hpS q = hpS p := by
  intro q hpq
  induction hpq with
  | refl => intro _ _; rfl
  | @step q hpq ih =>
    intro hq hno
    have ho : all[q]? = some (all[q]'(by omega)) := List.getElem?_eq_getElem (by omega)
    rw [(trace_hp (ht q _ ho)).1 (hno q _ hpq (by omega) ho)]
    exact ih (by omega) fun j o h1 h2 => hno j o h1 (by omega)

theorem hp_keeps (ht : ∀ (i : Nat) (o : Oper), all[i]? = some o → Trace P R cf all c tmS hpS xS clsS i o) {p : Nat} {id : Nat} : ∀ q, p ≤ q → q ≤ all.length →
    (∀ (j : Nat) (o : Oper), p ≤ j → j < q → all[j]? = some o → isW o.op = true → (clsS j = .E → eOK all j = true → False) ∧ ¬ (16 * (c + j) ≤ id ∧ id < 16 * (c + j) + 16)) → hpS q id = hpS p id := by
  intro q hpq
  induction hpq with
  | refl => intro _ _; rfl
  | @step q hpq ih =>
    intro hq hno
    have ho : all[q]? = some (all[q]'(by omega)) := List.getElem?_eq_getElem (by omega)
    have h1 := trace_hp (ht q _ ho)
    have ih' := ih (by omega) fun j o h1 h2 => hno j o h1 (by omega)
    cases hw : isW (all[q]'(by omega)).op with
    | false => rw [h1.1 hw]; exact ih'
    | true =>
      obtain ⟨h2, h3⟩ := hno q _ hpq (by omega) ho hw
      rw [h1.2 h2 id h3]
      exact ih'
end

/-- The state when the operations of D have come up. -/
structure DI (w0 : World) (U A : Nat → Prop) (E0 : Env) (G0 : Nat → Prop) (hp0 : Hp) (e nt c : Nat) (all : List Oper) (tm0 : Tm) (hpS : Nat → Hp) (xS : Nat → V) (listed : Array Bool) (a : Act) (w : World) : Prop where
  size : listed.size = all.length
  shut : Shut all (Dn listed)
  ex : ∃ m, m ≤ all.length ∧ (∀ (j : Nat) (o : Oper), all[j]? = some o → isW o.op = true → (Dn listed j ↔ j < m)) ∧
    SB w0 U A E0 G0 hp0 e nt (BD c (Dn listed)) (lw all xS tm0 (Dn listed) all.length) (hpS m) a w

theorem dn_set {listed : Array Bool} {i : Nat} (hi : i < listed.size) (j : Nat) : Dn (listed.setIfInBounds i true) j ↔ Dn listed j ∨ j = i := by
  unfold Dn
  simp only [Array.getD_eq_getD_getElem?, Array.getElem?_setIfInBounds]
  by_cases h : i = j
  · subst h; simp [hi]
  · rw [if_neg h]
    exact ⟨.inl, fun hh => hh.resolve_right fun he => h he.symm⟩

theorem DI.step {all : List Oper} {c e nt : Nat} {tm0 : Tm} {tmS : Nat → Tm} {hpS : Nat → Hp} {xS : Nat → V} {clsS : Nat → Cls} {ops : Array Oper} {Q : Exit → Act → World → Prop} {listed : Array Bool} {a : Act} {i : Nat} {next : Act → World → Prop}
    (hR : ∀ g args blks r blks', R g args blks r blks' → CSpec P g args blks r blks') (hall : all = ops.toList) (hd : ∀ o ∈ all, ∀ d, o.dst = some d → d < nt) (hf : freeOK all = true) (hb : backOK all = true) (hch : chainOK all = true)
    (h0 : tmS 0 = tm0) (ht : ∀ (i : Nat) (o : Oper), all[i]? = some o → Trace P R cf all c tmS hpS xS clsS i o)
    (hI : DI w0 U A E0 G0 hp0 e nt c all tm0 hpS xS listed a w) (hr : i ∈ Region.ready .any ops listed)
    (hn : ∀ a' w', DI w0 U A E0 G0 hp0 e nt c all tm0 hpS xS (listed.setIfInBounds i true) a' w' → next a' w') : wpOp P ops Q i next a w := by
  obtain ⟨hun, o, ho, hedge⟩ := mem_ready.1 hr
  have hoL : all[i]? = some o := by rw [hall]; simpa using ho
  have hlt : i < all.length := (List.getElem?_eq_some_iff.1 hoL).1
  have hnD : ¬ Dn listed i := by
    unfold Dn
    rw [Array.getD_eq_getD_getElem?] at hun ⊢
    cases hh : listed[i]? with
    | none => rw [hh] at hun; simp at hun
    | some b => rw [hh] at hun; simp at hun; subst hun; simp
  have hready : ∀ e ∈ o.after.toList, Region.binds .any e = true → Dn listed e.on := fun e he hbd => hedge e (by simpa using he) hbd
  have hset := dn_set (listed := listed) (i := i) (by rw [hI.size]; exact hlt)
  have hT := ht i o hoL
  obtain ⟨m, hm, hW, hsb⟩ := hI.ex
  -- the slots that it names read as in the list's order
  have hslot : ∀ d ∈ names all o, lw all xS tm0 (Dn listed) all.length d = tmS i d := by
    intro d hdn
    rw [lw_ref h0 (fun j o hj => (ht j o hj).tm) i (by omega), ← lw_cut (i := i) all.length (by omega)]
    refine lw_congr all.length fun j o' hj hoj hdj => ?_
    by_cases hji : j = i
    · subst hji; exact ⟨fun h => absurd h hnD, fun h => absurd h (by omega)⟩
    rcases names_ahead hf (fun hh => hji hh.symm) hoL hoj hdj hdn with hbef | hbef
    · exact ⟨fun _ => bef_lt hb i j hbef, fun _ => bef_ready hI.shut hoL hready hbef⟩
    · exact ⟨fun hD => absurd (bef_shut hI.shut j i hbef hD) hnD, fun hh => by have := bef_lt hb j i hbef; omega⟩
  have hop : ∀ y ∈ o.op.operands, opnd (tmS i) y = opnd (lw all xS tm0 (Dn listed) all.length) y := by
    intro y hy
    cases y with
    | tmp d =>
      exact (hslot d (List.mem_append_left _ (List.mem_filterMap.2 ⟨.tmp d, by simpa using hy, rfl⟩))).symm
    | _ => rfl
  have hadd : lw all xS tm0 (Dn (listed.setIfInBounds i true)) all.length = put (lw all xS tm0 (Dn listed) all.length) o.dst (xS i) := by
    refine lw_add hoL hset (fun j o' d hij hDj hoj hdo hdj => ?_) all.length hlt
    rcases dst_ahead hf (by omega) hoL hoj hdj hdo with hbef | hbef
    · have := bef_lt hb i j hbef; omega
    · exact hnD (bef_shut hI.shut j i hbef hDj)
  have hnew : ∀ j, j < 16 → ¬ BD c (Dn listed) (16 * (c + i) + j) := by
    rintro j hj (h | ⟨j', hD, h1, h2⟩)
    · omega
    · have : j' = i := by omega
      subst this
      exact hnD hD
  have hmore : ∀ id, More (BD c (Dn listed)) (16 * (c + i)) id → BD c (Dn (listed.setIfInBounds i true)) id := by
    rintro id ((h | ⟨j, hD, h1, h2⟩) | ⟨h1, h2⟩)
    · exact .inl h
    · exact .inr ⟨j, (hset j).2 (.inl hD), h1, h2⟩
    · exact .inr ⟨i, (hset i).2 (.inr rfl), h1, h2⟩
  have hshut : Shut all (Dn (listed.setIfInBounds i true)) := by
    intro j o' hj hoj e he hbd
    rcases (hset j).1 hj with h | h
    · exact (hset _).2 (.inl (hI.shut j o' h hoj e he hbd))
    · subst h
      rw [hoL] at hoj
      cases hoj
      exact (hset _).2 (.inl (hready e he hbd))
  have hsize : (listed.setIfInBounds i true).size = all.length := by simpa using hI.size
  have hmi : m ≤ i ∨ isW o.op = false := by
    cases hw : isW o.op with
    | false => exact .inr rfl
    | true =>
      left
      rcases Nat.lt_or_ge i m with h | h
      · exact absurd ((hW i o hoL hw).2 h) hnD
      · exact h
  have hWi : isW o.op = true → hpS i = hpS m := by
    intro hw
    refine hp_between ht i (hmi.resolve_right (by rw [hw]; simp)) (by omega) fun j o' h1 h2 hoj => ?_
    cases hw' : isW o'.op with
    | false => rfl
    | true =>
      exfalso
      rcases chain_ahead hch (by omega : i ≠ j) hoL hoj hw hw' with hbef | hbef
      · have := (hW j o' hoj hw').1 (bef_ready hI.shut hoL hready hbef); omega
      · have := bef_lt hb j i hbef; omega
  -- the blocks behind the operation
  have hdone : ∀ (hpA : Hp) (a' : Act) (w' : World), (isW o.op = false → hpA = hpS m) → (isW o.op = true → hpA = hpS (i + 1)) →
      SB w0 U A E0 G0 hp0 e nt (BD c (Dn (listed.setIfInBounds i true))) (put (lw all xS tm0 (Dn listed) all.length) o.dst (xS i)) hpA a' w' →
      DI w0 U A E0 G0 hp0 e nt c all tm0 hpS xS (listed.setIfInBounds i true) a' w' := by
    intro hpA a' w' h1 h2 hs
    refine ⟨hsize, hshut, ?_⟩
    cases hw : isW o.op with
    | false =>
      refine ⟨m, hm, fun j o' hoj hw' => ?_, ?_⟩
      · rw [hset j, ← hW j o' hoj hw']
        refine ⟨fun h => h.resolve_right fun he => ?_, .inl⟩
        subst he
        rw [hoL] at hoj
        cases hoj
        rw [hw] at hw'
        cases hw'
      · rw [hadd, ← h1 hw]; exact hs
    | true =>
      have hmi' := hmi.resolve_right (by rw [hw]; simp)
      refine ⟨i + 1, by omega, fun j o' hoj hw' => ?_, ?_⟩
      · rw [hset j]
        constructor
        · rintro (h | h)
          · have := (hW j o' hoj hw').1 h; omega
          · omega
        · intro h
          by_cases hji : j = i
          · exact .inr hji
          · left
            rcases chain_ahead hch (fun hh => hji hh.symm : i ≠ j) hoL hoj hw hw' with hbef | hbef
            · exact bef_ready hI.shut hoL hready hbef
            · have := bef_lt hb j i hbef; omega
      · rw [hadd, ← h2 hw]; exact hs
  have hdst : ∀ d, o.dst = some d → d < nt := hd o (List.mem_of_getElem? hoL)
  have hguard : ∀ j want d, o.guard = some (j, want) → (all[j]?).bind (·.dst) = some d → lw all xS tm0 (Dn listed) all.length d = tmS i d := by
    intro j want d hg hjd
    refine hslot d (List.mem_append_right _ ?_)
    simp only [hg, hjd, Option.toList_some, List.mem_singleton]
  unfold wpOp
  simp only [ho]
  rcases hT.step with ⟨hwant, hopat, hE⟩ | ⟨⟨j, want, d, hg, hjd, htm⟩, hx, hhp⟩
  · have hwd : Region.wanted o (yielded ops a.tmps) = true := by
      cases hg : o.guard with
      | none => simp [Region.wanted, hg]
      | some jw =>
        obtain ⟨j, want⟩ := jw
        obtain ⟨d, hjd, htm⟩ := hwant j want hg
        exact hsb.wanted (ops := ops) hg (by rw [hall] at hjd; simpa using hjd) (by rw [hguard j want d hg hjd]; exact htm)
    rw [if_pos hwd]
    left
    have hK : ∃ hpA, (isW o.op = false → hpA = hpS m) ∧ (isW o.op = true → hpA = hpS (i + 1)) ∧ weOp P R cf o.op (16 * (c + i)) (opnd (tmS i)) (hpS m) (fun x hp _ => x = xS i ∧ hp = hpA) := by
      cases hrr : isR o.op with
      | true =>
        simp only [opAt, hrr, Bool.and_true] at hopat
        obtain ⟨x, cls, ⟨hx, _, _⟩, hk⟩ := weOp_isR hrr hopat
        refine ⟨hpS m, fun _ => rfl, fun hw => by unfold isW at hw; rw [hrr] at hw; simp at hw, hk (hpS m) (fun y hy id hid k hkk => ?_) _ _ ⟨hx, rfl⟩⟩
        simp only [mask] at hkk
        split at hkk
        · rename_i hlow
          have hBD : BD c (Dn listed) id := by
            obtain ⟨E, G, _, _, _, h4, _⟩ := hsb.env
            rw [hop y hy] at hid
            exact opnd_refs h4 y id hid
          have hnT : isT o.op = false := by
            cases hop' : o.op <;> rw [hop'] at hrr <;> first | rfl | (simp [isR] at hrr; done)
          rcases Nat.lt_or_ge m i with hmi | hmi
          · rw [← hp_keeps ht (p := m) (id := id) i (by omega) (by omega) fun j o' h1 h2 hoj hw' => ⟨fun _ he => ?_, ?_⟩]
            · exact hkk
            · have hnDj : ¬ Dn listed j := fun hD => by have := (hW j o' hoj hw').1 hD; omega
              rcases e_ahead he (by omega : i ≠ j) hoL hnT with hbef | hbef
              · have := bef_lt hb j i hbef; omega
              · exact hnDj (bef_ready hI.shut hoL hready hbef)
            · have hnDj : ¬ Dn listed j := fun hD => by have := (hW j o' hoj hw').1 hD; omega
              rintro ⟨g1, g2⟩
              rcases hBD with h | ⟨j', hD, g3, g4⟩
              · omega
              · have : j' = j := by omega
                subst this
                exact hnDj hD
          · rw [hp_keeps ht (p := i) (id := id) m hmi hm fun j o' h1 h2 hoj hw' => ⟨fun _ he => ?_, by omega⟩]
            · exact hkk
            · have hDj : Dn listed j := (hW j o' hoj hw').2 h2
              have hji : i ≠ j := fun hh => hnD (hh ▸ hDj)
              rcases e_ahead he hji hoL hnT with hbef | hbef
              · exact hnD (bef_shut hI.shut j i hbef hDj)
              · have := bef_lt hb i j hbef; omega
        · cases hkk
      | false =>
        simp only [opAt, hrr, Bool.and_false] at hopat
        cases htt : isT o.op with
        | true =>
          obtain ⟨x, ⟨hx, _, _⟩, hk⟩ := weOp_isT htt hopat
          exact ⟨hpS m, fun _ => rfl, fun hw => by unfold isW at hw; rw [htt] at hw; simp at hw, hk (hpS m) _ _ ⟨hx, rfl⟩⟩
        | false =>
          have hw : isW o.op = true := by unfold isW; rw [htt, hrr]; rfl
          refine ⟨hpS (i + 1), fun h => absurd (hw.symm.trans h) (by simp), fun _ => rfl, ?_⟩
          rw [← hWi hw]
          obtain ⟨k, x, hp', cls, ⟨h1, h2, _⟩, h3, _⟩ := weOp_one (Rk := fun _ => R) (fun _ _ _ _ _ _ _ _ h => h) (fun _ _ _ _ _ h => ⟨0, h⟩) hopat
          exact h3 k (Nat.le_refl _) _ ⟨h1, h2⟩
    obtain ⟨hpA, q1, q2, hK⟩ := hK
    rw [weOp_congr hop] at hK
    obtain ⟨x, hp', cls, ⟨hx, hhp⟩, hs⟩ := hsb.step hR hnew hdst hK
    subst hx
    subst hhp
    exact hs next Q fun a' w' hsb' => hn a' w' (hdone _ a' w' q1 q2 (hsb'.mono hmore))
  · have hwd := hsb.wanted (ops := ops) (t := false) hg (by rw [hall] at hjd; simpa using hjd) (by rw [hguard j want d hg hjd]; exact htm)
    rw [hwd]
    simp only [Bool.false_eq_true, if_false]
    refine hn _ _ (hdone (hpS m) _ _ (fun _ => rfl) (fun hw => by rw [hhp, hWi hw]) ?_)
    rw [hx]
    exact (hsb.put hdst (fun E G _ => undef_vr2) rfl).mono fun id h => hmore id (.inl h)

theorem wpAny_of_DI {all : List Oper} {c e nt : Nat} {tm0 : Tm} {tmS : Nat → Tm} {hpS : Nat → Hp} {xS : Nat → V} {clsS : Nat → Cls} {ops : Array Oper} {Q : Exit → Act → World → Prop}
    (hR : ∀ g args blks r blks', R g args blks r blks' → CSpec P g args blks r blks') (hall : all = ops.toList) (hd : ∀ o ∈ all, ∀ d, o.dst = some d → d < nt) (hf : freeOK all = true) (hb : backOK all = true) (hch : chainOK all = true)
    (h0 : tmS 0 = tm0) (ht : ∀ (i : Nat) (o : Oper), all[i]? = some o → Trace P R cf all c tmS hpS xS clsS i o)
    (hQ : ∀ a w, SB w0 U A E0 G0 hp0 e nt (fun id => id < 16 * (c + all.length)) (tmS all.length) (hpS all.length) a w → Q .normal a w) :
    ∀ (fuel : Nat) (listed : Array Bool) (a : Act) (w : World), ((List.range all.length).filter fun i => !listed.getD i false).length ≤ fuel → DI w0 U A E0 G0 hp0 e nt c all tm0 hpS xS listed a w → wpAny P .any ops Q fuel listed a w := by
  have hsz : ops.size = all.length := by rw [hall]; simp
  have hend : ∀ (listed : Array Bool) (a : Act) (w : World), DI w0 U A E0 G0 hp0 e nt c all tm0 hpS xS listed a w → Region.ready .any ops listed = [] → Q .normal a w := by
    intro listed a w hI hr
    have hD : ∀ i, i < all.length → Dn listed i := by
      intro i
      induction i using Nat.strongRecOn with
      | _ i ih =>
        intro hi
        by_cases hDi : Dn listed i
        · exact hDi
        · exfalso
          obtain ⟨o, ho⟩ : ∃ o, all[i]? = some o := ⟨_, List.getElem?_eq_getElem hi⟩
          have : i ∈ Region.ready .any ops listed := by
            refine mem_ready.2 ⟨?_, o, by rw [hall] at ho; simpa using ho, fun e he hbd => ?_⟩
            · have hil : i < listed.size := by rw [hI.size]; exact hi
              have hDi : ¬ listed.getD i false = true := hDi
              rw [Array.getD_eq_getD_getElem?, Array.getElem?_eq_getElem hil] at hDi ⊢
              simpa using hDi
            · have hlt : e.on < i := by
                unfold backOK at hb
                have h1 := List.all_eq_true.1 hb i (by simpa using hi)
                simp only [ho, Bool.and_eq_true] at h1
                have h2 := h1.1
                rw [Array.all_eq_true_iff_forall_mem] at h2
                have h3 := h2 e he
                simp only [Bool.and_eq_true, decide_eq_true_eq] at h3
                exact h3.1
              exact ih e.on hlt (by omega)
          rw [hr] at this
          simp at this
    obtain ⟨m, hm, hW, hsb⟩ := hI.ex
    have hhp : hpS all.length = hpS m := hp_between ht all.length hm (Nat.le_refl _) fun j o h1 h2 hoj => by
      cases hw : isW o.op with
      | false => rfl
      | true => have := (hW j o hoj hw).1 (hD j h2); omega
    have htm : lw all xS tm0 (Dn listed) all.length = tmS all.length := by
      rw [lw_ref h0 (fun j o hj => (ht j o hj).tm) all.length (Nat.le_refl _)]
      funext d
      exact lw_congr all.length fun j o hj _ _ => ⟨fun _ => trivial, fun _ => hD j hj⟩
    refine hQ a w ?_
    rw [← htm, hhp]
    refine hsb.mono fun id h => ?_
    rcases h with h | ⟨j, hDj, h1, h2⟩
    · show id < _; omega
    · have : j < all.length := by
        have hDj : listed.getD j false = true := hDj
        rw [Array.getD_eq_getD_getElem?] at hDj
        rcases Nat.lt_or_ge j listed.size with h | h
        · rw [hI.size] at h; exact h
        · rw [Array.getElem?_eq_none h] at hDj; simp at hDj
      show id < _
      omega
  intro fuel
  induction fuel with
  | zero =>
    intro listed a w hfuel hI
    have hnone : Region.ready .any ops listed = [] := by
      cases hrr : Region.ready .any ops listed with
      | nil => rfl
      | cons i l =>
        exfalso
        have hi : i ∈ Region.ready .any ops listed := by rw [hrr]; simp
        obtain ⟨hun, o, ho, _⟩ := mem_ready.1 hi
        have hlt : i < all.length := by rw [← hsz]; exact (Array.getElem?_eq_some_iff.1 ho).1
        have hil : i < listed.size := by rw [hI.size]; exact hlt
        have : i ∈ (List.range all.length).filter fun i => !listed.getD i false := by
          refine List.mem_filter.2 ⟨by simpa using hlt, ?_⟩
          rw [Array.getD_eq_getD_getElem?, Array.getElem?_eq_getElem hil] at hun ⊢
          simpa using hun
        rw [List.eq_nil_of_length_eq_zero (Nat.le_zero.1 hfuel)] at this
        simp at this
    exact ⟨hnone, hend listed a w hI hnone⟩
  | succ fuel ih =>
    intro listed a w hfuel hI
    refine ⟨fun hnone => hend listed a w hI hnone, fun i hi => ?_⟩
    refine DI.step hR hall hd hf hb hch h0 ht hI hi fun a' w' hI' => ih _ a' w' ?_ hI'
    obtain ⟨hun, o, ho, _⟩ := mem_ready.1 hi
    have hlt : i < all.length := by rw [← hsz]; exact (Array.getElem?_eq_some_iff.1 ho).1
    have hil : i < listed.size := by rw [hI.size]; exact hlt
    have := filter_lt (p := fun j => !listed.getD j false) (p' := fun j => !(listed.setIfInBounds i true).getD j false) (List.range all.length) (fun j _ hj => by
      have h1 := dn_set hil j
      unfold Dn at h1
      cases hh : listed.getD j false with
      | false => rfl
      | true => rw [h1.2 (.inl hh)] at hj; simp at hj) ⟨i, by simpa using hlt, by
        rw [Array.getD_eq_getD_getElem?, Array.getElem?_eq_getElem hil] at hun ⊢
        simpa using hun, by
        have h1 := (dn_set hil i).2 (.inr rfl)
        unfold Dn at h1
        rw [h1]; rfl⟩
    omega

/-- A region that draws its order. -/
theorem region_draw_sound (hm : P.follows .mixedOrders = true) (hR : ∀ g args blks r blks', R g args blks r blks' → CSpec P g args blks r blks') {e nt id : Nat} {ops : Array Oper} {Q : Exit → Act → World → Prop} {st : St} {K : St → Prop} {a : Act}
    (hd : ∀ o ∈ ops.toList, ∀ d, o.dst = some d → d < nt) (hf : freeOK ops.toList = true) (hb : backOK ops.toList = true) (hch : chainOK ops.toList = true) (h : weOps P R cf ops.toList true ops.toList 0 st fun s => K { s with c := s.c + ops.size })
    (hs : SS w0 U A E0 G0 hp0 e nt st a w)
    (hQ : ∀ st' a' w', K st' → SS w0 U A E0 G0 hp0 e nt st' a' w' → Q .normal a' w') : (Code.region id ops true).wp P Q a w := by
  obtain ⟨tm, hp, c⟩ := st
  obtain ⟨tmS, hpS, xS, clsS, h1, h2, h3, h4⟩ := trace_of ops.toList 0 tm hp h
  simp only [Nat.zero_add] at h3 h4
  refine wp_region_any hm ?_
  have hdr : SS w0 U A E0 G0 hp0 e nt ⟨tm, hp, c⟩ a { w with drawn := w.drawn + 1 } := by
    obtain ⟨E, G, g1, g2, g3, g4, g5⟩ := hs.env
    have hfr : Fr0 w { w with drawn := w.drawn + 1 } := .mk' rfl rfl rfl (Nat.le_refl _) (fun b hb _ => rfl) (fun b _ _ _ h _ => h.elim)
    obtain ⟨q1, q2⟩ := g1.grow (B := fun id => id < 16 * c) (G' := G) hfr Loose.none (fun _ h => h.elim) (fun b hb => hb) (fun b hb => .inl hb)
    exact ⟨hs.size, hs.defers, hs.low, E, G, q1, g2, fun t => q2.v2 _ _ (g4 t) (g3 t), g4, g5.trans q2 hs.low⟩
  have hnone : ∀ j, ¬ Dn (Array.replicate ops.size false) j := fun j => by
    unfold Dn
    rw [Array.getD_eq_getD_getElem?, Array.getElem?_replicate]
    split <;> simp
  refine wpAny_of_DI (all := ops.toList) (tm0 := tm) hR rfl hd hf hb hch h1 h3 (fun a w hsb => hQ _ a w h4 (by simpa using hsb)) ops.size _ a _ ?_ ⟨by simp, fun i o hi => absurd hi (hnone i), 0, by omega, fun j o _ _ => ⟨fun hj => absurd hj (hnone j), fun hj => by omega⟩, ?_⟩
  · refine Nat.le_trans (List.length_filter_le _ _) (by simp)
  · have hlw : lw ops.toList xS tm (Dn (Array.replicate ops.size false)) ops.toList.length = tm := by
      have : ∀ n, lw ops.toList xS tm (Dn (Array.replicate ops.size false)) n = tm := by
        intro n
        induction n with
        | zero => rfl
        | succ n ih => simp only [lw]; rw [if_neg (hnone n)]; exact ih
      exact this _
    rw [hlw, h2]
    exact hdr.mono fun id h => .inl h

end Go.Proofs.Ytcmihlhmeonmfaa.Ev
