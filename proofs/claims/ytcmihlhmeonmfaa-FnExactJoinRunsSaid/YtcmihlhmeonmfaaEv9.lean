/- Blocks of ours that are let go, or only read from now on; what is stored into a block. -/
import Derived.Test.YtcmihlhmeonmfaaEv8
namespace Go.Proofs.Ytcmihlhmeonmfaa.Ev
open Go
set_option linter.unusedVariables false
set_option linter.unusedSimpArgs false

variable {P : Program} {w w' w0 : World} {E E' : Env} {hp hp' : Hp} {G G' U A W : Nat → Prop} {B : Nat → Prop} {ρ : Operand → V} {ρr : Operand → Value}

/-- A block of ours is only read from now on. -/
theorem HpInv.freeze1 (h : HpInv w0 U A E G hp w) {id : Nat} {k : Blk} (hk : hp id = some k) (hkind : k.kind = .arr) :
    HpInv w0 U A E (fun x => G x ∨ OwnBy E id x) (upd hp id (some { k with kind := .frz })) w ∧ Ext B E G hp w E (fun x => G x ∨ OwnBy E id x) (upd hp id (some { k with kind := .frz })) w := by
  have hl : liveB k = true := by simp [liveB, hkind]
  have hsub : ∀ j kj, upd hp id (some { k with kind := .frz }) j = some kj → ∃ kj', hp j = some kj' ∧ (kj.kind = .box → kj'.kind = .box) ∧ (kj'.kind = .box → kj.kind = .box) ∧ kj.size = kj'.size ∧ kj.rows = kj'.rows := by
    intro j kj hj
    by_cases hji : j = id
    · subst hji
      simp only [upd, if_true, Option.some.injEq] at hj
      subst hj
      exact ⟨k, hk, by simp, by simp [hkind], rfl, rfl⟩
    · simp only [upd, if_neg hji] at hj
      exact ⟨kj, hj, fun h => h, fun h => h, rfl, rfl⟩
  have hv : ∀ x y, VR0 w E hp G x y → VR0 w E (upd hp id (some { k with kind := .frz })) (fun x => G x ∨ OwnBy E id x) x y := by
    intro x y hv
    cases x with
    | ar j lo n =>
      obtain ⟨a, cap, hy, hr⟩ := hv
      refine ⟨a, cap, hy, fun kj hj => ?_⟩
      obtain ⟨kj', h1, h2, h2', h3, h4⟩ := hsub j kj hj
      obtain ⟨r1, r2, r3⟩ := hr kj' h1
      exact ⟨fun hh => r1 (h2 hh), by rw [h4]; exact r2, by rw [h3]; exact r3⟩
    | rf j r c =>
      obtain ⟨b', o, hy, hr⟩ := hv
      refine ⟨b', o, hy, fun kj hj => ?_⟩
      obtain ⟨kj', h1, h2, h2', h3, h4⟩ := hsub j kj hj
      obtain ⟨r2, r3⟩ := hr kj' h1
      exact ⟨r2, by rw [h3]; exact r3⟩
    | ir row c =>
      obtain ⟨b', off, f, hg, hy, hc⟩ := hv
      exact ⟨b', off, f, .inl hg, hy, fun j x hx => ⟨(hc j x hx).1, (hc j x hx).2.mono fun _ h => .inl h⟩⟩
    | v a => exact Rep.mono hv fun _ h => .inl h
    | em => exact Rep.mono hv fun _ h => .inl h
    | im rows => exact Rep.mono hv fun _ h => .inl h
    | any => exact trivial
    | agg cs => exact hv.elim
    | tup vs => exact hv.elim
    | cl f caps => cases caps <;> exact hv
  have hother : ∀ j kj, upd hp id (some { k with kind := .frz }) j = some kj → liveB kj = true → j ≠ id ∧ hp j = some kj := by
    intro j kj hj hlj
    by_cases hji : j = id
    · subst hji
      simp only [upd, if_true, Option.some.injEq] at hj
      subst hj
      simp [liveB] at hlj
    · exact ⟨hji, by simpa only [upd, if_neg hji] using hj⟩
  refine ⟨⟨h.fr, ?_, ?_, ?_, ?_, ?_, ?_⟩, ⟨fun x y _ hx => hv x y hx⟩⟩
  · intro x hx
    rcases hx with hg | ho
    · exact h.g1 x hg
    · have := h.o1 x ⟨id, k, hk, hl, ho⟩; exact ⟨this.1, .inr this.2⟩
  · rintro x hx ⟨j, kj, hj, hlj, ho⟩
    obtain ⟨h1, h2⟩ := hother j kj hj hlj
    rcases hx with hg | hoi
    · exact h.g2 x hg ⟨j, kj, h2, hlj, ho⟩
    · exact h1 (h.dis j kj id k h2 hlj hk hl x ho hoi)
  · rintro x ⟨j, kj, hj, hlj, ho⟩
    exact h.o1 x ⟨j, kj, (hother j kj hj hlj).2, hlj, ho⟩
  · intro j kj j' kj' hj hlj hj' hlj' x ho ho'
    exact h.dis j kj j' kj' (hother j kj hj hlj).2 hlj (hother j' kj' hj' hlj').2 hlj' x ho ho'
  · intro j kj x hj hlj
    exact h.self j kj x (hother j kj hj hlj).2 hlj
  · intro j kj hj
    by_cases hji : j = id
    · subst hji
      simp only [upd, if_true, Option.some.injEq] at hj
      subst hj
      have hb := h.blk j k hk
      unfold BlkRel at hb ⊢
      simp only [hkind] at hb ⊢
      rcases hb with ⟨h1, h2⟩ | ⟨b, cur, cap, h1, h2, h3, h4, h5, h6, h7, h8⟩
      · exact .inl ⟨h1, h2⟩
      · refine .inr ⟨b, cur, cap, (0, 0), h1, .inr (.inl h1), h2, h3, h4, h5, h6, h7, fun i q row x hi hq => ?_⟩
        obtain ⟨u, hu, hr⟩ := h8 i q row x hi hq
        refine ⟨u, hu, ?_⟩
        cases hd : k.deep with
        | true => simp only [hd, if_true] at hr; exact hr.mono fun _ h => .inr (.inr h)
        | false => simp only [hd, Bool.false_eq_true, if_false] at hr; exact hr.mono fun _ h => .inl h
    · have hjx : hp j = some kj := by simpa only [upd, if_neg hji] using hj
      have hbj := h.blk j kj hjx
      unfold BlkRel at hbj ⊢
      cases hlk : kj.kind with
      | box =>
        simp only [hlk] at hbj ⊢
        obtain ⟨b', row, cur, h1, h2, h3, h4, h5, h6⟩ := hbj
        exact ⟨b', row, cur, h1, h2, h3, h4, h5, h6.mono fun x _ y hxy => ⟨hv x y hxy.1, hxy.2⟩⟩
      | arr =>
        simp only [hlk] at hbj ⊢
        rcases hbj with h1 | ⟨b', cur, cap, h1, h2, h3, h4, h5, h6, h7, h8⟩
        · exact .inl h1
        · refine .inr ⟨b', cur, cap, h1, h2, h3, h4, h5, h6, h7, fun i q row x hi hq => ?_⟩
          obtain ⟨u, hu, hr⟩ := h8 i q row x hi hq
          refine ⟨u, hu, ?_⟩
          cases hd : kj.deep with
          | true => simp only [hd, if_true] at hr ⊢; exact hr
          | false => simp only [hd, Bool.false_eq_true, if_false] at hr ⊢; exact hr.mono fun _ h => .inl h
      | frz =>
        simp only [hlk] at hbj ⊢
        rcases hbj with h1 | ⟨b', cur, cap, fz, h1, h1', h2, h3, h4, h5, h6, h7, h8⟩
        · exact .inl h1
        · refine .inr ⟨b', cur, cap, fz, h1, .inl h1', h2, h3, h4, h5, h6, h7, fun i q row x hi hq => ?_⟩
          obtain ⟨u, hu, hr⟩ := h8 i q row x hi hq
          exact ⟨u, hu, hr.mono fun _ h => .inl h⟩

theorem upd_self (id : Nat) (hp : Hp) : upd hp id (hp id) = hp := by
  funext j
  unfold upd
  split
  · rename_i h; rw [h]
  · rfl

/-- What is held by blocks of a list. -/
def Held (E : Env) (hp : Hp) (l : List Nat) (x : Nat) : Prop := ∃ id ∈ l, ∃ k, hp id = some k ∧ liveB k = true ∧ OwnBy E id x

theorem HpInv.freezeL : ∀ (l : List Nat) {G : Nat → Prop} {hp : Hp}, (h : HpInv w0 U A E G hp w) →
    ∃ G', HpInv w0 U A E G' (freeze hp l) w ∧ Ext B E G hp w E G' (freeze hp l) w ∧ (∀ x, G x → G' x) ∧ (∀ id ∈ l, ∀ k, hp id = some k → k.kind ≠ .box → ∀ x, OwnBy E id x → liveB k = true → G' x)
  | [], G, hp, h => ⟨G, h, Ext.refl _ _ _ _ _, fun _ h => h, fun id hid => by simp at hid⟩
  | i :: l, G, hp, h => by
    simp only [freeze]
    have step : ∃ G1, HpInv w0 U A E G1 (upd hp i ((hp i).map fun k => { k with kind := match k.kind with | .arr => .frz | x => x })) w ∧
        Ext B E G hp w E G1 (upd hp i ((hp i).map fun k => { k with kind := match k.kind with | .arr => .frz | x => x })) w ∧ (∀ x, G x → G1 x) ∧ (∀ k, hp i = some k → k.kind ≠ .box → ∀ x, OwnBy E i x → liveB k = true → G1 x) := by
      cases hk : hp i with
      | none =>
        refine ⟨G, ?_, ?_, fun _ h => h, fun k hk' => by cases hk'⟩
        · have : upd hp i (Option.map (fun k : Blk => { k with kind := match k.kind with | .arr => .frz | x => x }) none) = hp := by
            have := upd_self i hp; rw [hk] at this; exact this
          rw [this]; exact h
        · have : upd hp i (Option.map (fun k : Blk => { k with kind := match k.kind with | .arr => .frz | x => x }) none) = hp := by
            have := upd_self i hp; rw [hk] at this; exact this
          rw [this]; exact Ext.refl _ _ _ _ _
      | some k =>
        cases hkk : k.kind with
        | arr =>
          obtain ⟨h1, h2⟩ := h.freeze1 (B := B) hk hkk
          refine ⟨fun x => G x ∨ OwnBy E i x, ?_, ?_, fun _ h => .inl h, fun k' hk' _ x hx _ => .inr hx⟩
          · simpa only [Option.map_some, hkk] using h1
          · simpa only [Option.map_some, hkk] using h2
        | box =>
          have he : upd hp i ((some k).map fun k : Blk => { k with kind := match k.kind with | .arr => .frz | x => x }) = hp := by
            have := upd_self i hp; rw [hk] at this
            rw [← this]
            simp only [Option.map_some, hkk]
            congr 2
            cases k; simp_all
          rw [he]
          exact ⟨G, h, Ext.refl _ _ _ _ _, fun _ h => h, fun k' hk' hb => by cases hk'; exact absurd hkk hb⟩
        | frz =>
          have he : upd hp i ((some k).map fun k : Blk => { k with kind := match k.kind with | .arr => .frz | x => x }) = hp := by
            have := upd_self i hp; rw [hk] at this
            rw [← this]
            simp only [Option.map_some, hkk]
            congr 2
            cases k; simp_all
          rw [he]
          exact ⟨G, h, Ext.refl _ _ _ _ _, fun _ h => h, fun k' hk' _ x _ hlv => by cases hk'; simp [liveB, hkk] at hlv⟩
    obtain ⟨G1, h1, h2, h3, h4⟩ := step
    obtain ⟨G2, g1, g2, g3, g4⟩ := HpInv.freezeL l h1
    refine ⟨G2, g1, h2.trans g2 (fun _ h => h), fun x hx => g3 x (h3 x hx), fun id hid k hk hb x hx hl => ?_⟩
    by_cases hii : id = i
    · subst hii
      exact g3 x (h4 k hk hb x hx hl)
    · rcases List.mem_cons.1 hid with h | h
      · exact absurd h hii
      · exact g4 id h k (by simpa only [upd, if_neg hii] using hk) hb x hx hl

theorem kill_none : ∀ (l : List Nat) (hp : Hp) (id : Nat), hp id = none → kill hp l id = none
  | [], _, _, h => h
  | i :: l, hp, id, h => by
    simp only [kill]
    apply kill_none l
    simp only [upd]
    split
    · rfl
    · exact h

theorem kill_some : ∀ (l : List Nat) (hp : Hp) (id : Nat) (k : Blk), kill hp l id = some k → hp id = some k ∧ id ∉ l
  | [], hp, id, k, h => ⟨h, by simp⟩
  | i :: l, hp, id, k, h => by
    simp only [kill] at h
    obtain ⟨h1, h2⟩ := kill_some l _ id k h
    by_cases hii : id = i
    · subst hii; simp [upd] at h1
    · simp only [upd, if_neg hii] at h1
      exact ⟨h1, by simp [hii, h2]⟩

theorem kill_other : ∀ (l : List Nat) (hp : Hp) (id : Nat), id ∉ l → kill hp l id = hp id
  | [], hp, id, _ => rfl
  | i :: l, hp, id, h => by
    simp only [List.mem_cons, not_or] at h
    simp only [kill]
    rw [kill_other l _ id h.2]
    simp only [upd, if_neg h.1]

theorem HpInv.dropL : ∀ (l : List Nat) {hp : Hp}, (h : HpInv w0 U A E G hp w) → HpInv w0 U A E G (kill hp l) w ∧ Ext B E G hp w E G (kill hp l) w
  | [], hp, h => ⟨h, Ext.refl _ _ _ _ _⟩
  | i :: l, hp, h => by
    simp only [kill]
    obtain ⟨h1, h2⟩ := h.drop (B := B) i
    obtain ⟨g1, g2⟩ := HpInv.dropL l h1
    exact ⟨g1, h2.trans g2 fun _ h => h⟩

theorem HpInv.freedL (h : HpInv w0 U A E G hp w) {l : List Nat} {x : Nat} (hx : Held E hp l x) : Free w0 U E (kill hp l) G w x := by
  obtain ⟨id, hid, k, hk, hl, ho⟩ := hx
  have h1 : Own E hp x := ⟨id, k, hk, hl, ho⟩
  refine ⟨(h.o1 x h1).1, fun hg => h.g2 x hg h1, ?_, (h.o1 x h1).2⟩
  rintro ⟨j, kj, hj, hlj, hoj⟩
  obtain ⟨h2, h3⟩ := kill_some l hp j kj hj
  have := h.dis j kj id k h2 hlj hk hl x hoj ho
  exact h3 (this ▸ hid)

/-- The rows of a slice of ours as a value that is only read. -/
theorem ar_im (hI : HpInv w0 U A E G hp w) {id lo n : Nat} {k : Blk} {y : Value} (hy : VR0 w E hp G (.ar id lo n) y) (hk : hp id = some k) {S : Nat → Prop}
    (hS : ∀ b, E.m id = some b → S b) (hS2 : ∀ b, (if k.kind = .arr ∧ k.deep = true then E.N id b else G b) → S b) : Rep w S (.im ((k.rows.take (lo + n)).drop lo)) y := by
  obtain ⟨a, cap, rfl, hcap, hle, hor⟩ := rows_at (y := y) hI hy hk
  have hlen : ((k.rows.take (lo + n)).drop lo).length = n := by simp; omega
  rcases hor with h0 | ⟨b, cur, ty, fz, ha, hm, hh, hmax, hpos, hrows, hcells⟩
  · subst h0
    have : (k.rows.take (lo + 0)).drop lo = [] := by apply List.eq_nil_of_length_eq_zero; exact hlen
    rw [this]
    exact .im0 a cap
  · subst ha
    have hget : ∀ i row, ((k.rows.take (lo + n)).drop lo)[i]? = some row → k.rows[lo + i]? = some row := by
      intro i row hi
      rw [List.getElem?_drop, List.getElem?_take] at hi
      split at hi
      · exact hi
      · cases hi
    have hr := Rep.im (w := w) (G := S) b (lo * k.size) cap k.size ((k.rows.take (lo + n)).drop lo) (fun i j => (cur[(lo + i) * k.size + j]?).getD undef) (hS b hm) hpos (by rw [hlen]; exact hcap) hmax
      (fun i row hi => hrows _ row (hget i row hi))
      (fun i j row x hi hj => by
        obtain ⟨u, hu, _⟩ := hcells _ j row x (hget i row hi) hj
        rw [cell_at hh]
        rw [show lo * k.size + i * k.size + j = (lo + i) * k.size + j by rw [Nat.add_mul]]
        rw [hu]; rfl)
      (fun i j row x hi hj => by
        obtain ⟨u, hu, hr⟩ := hcells _ j row x (hget i row hi) hj
        simp only [hu, Option.getD_some]
        exact hr.mono fun b hb => hS2 b (by
          by_cases hc : k.kind = .arr ∧ k.deep = true
          · rw [if_pos hc] at hb ⊢; exact hb
          · rw [if_neg hc] at hb ⊢; exact hb))
    rw [hlen] at hr
    exact hr

/-- Cells that are used up: what they lead to. -/
theorem closeCell_rel (hI : HpInv w0 U A E G hp w) {x y : V} {u : Value} {kills : List Nat} {deep : Bool} (h : closeCell hp x = some (y, kills, deep)) (hv : VR0 w E hp G x u) :
    Rep w (fun b => (deep = false ∧ G b) ∨ Held E hp kills b) y u ∧ ∀ i ∈ kills, ∃ k, hp i = some k ∧ k.kind = .arr ∧ i ∈ refs0 x := by
  unfold closeCell at h
  split at h
  · cases h; exact ⟨Rep.scalar rfl hv, fun i hi => by simp at hi⟩
  · cases h; exact ⟨Rep.scalar rfl hv, fun i hi => by simp at hi⟩
  · cases h; exact ⟨Rep.mono hv fun b hb => .inl ⟨rfl, hb⟩, fun i hi => by simp at hi⟩
  · rename_i id lo n
    split at h
    · rename_i k hk
      split at h
      · rename_i hkk
        cases h
        have hl : liveB k = true := by simp [liveB, hkk]
        refine ⟨ar_im hI hv hk (fun b hb => .inr ⟨id, by simp, k, hk, hl, .inl hb⟩) (fun b hb => ?_), fun i hi => ?_⟩
        · cases hd : k.deep with
          | true => rw [if_pos ⟨hkk, hd⟩] at hb; exact .inr ⟨id, by simp, k, hk, hl, .inr hb⟩
          | false => rw [if_neg (by simp [hd])] at hb; exact .inl ⟨rfl, hb⟩
        · simp at hi; subst hi; exact ⟨k, hk, hkk, by simp [refs0]⟩
      · rename_i hkk
        cases h
        refine ⟨ar_im hI hv hk (fun b hb => ?_) (fun b hb => ?_), fun i hi => by simp at hi⟩
        · have := hI.blk id k hk
          unfold BlkRel at this
          simp only [hkk] at this
          rcases this with ⟨_, h2⟩ | ⟨b', _, _, _, h1, h1', _⟩
          · rw [hb] at h2; cases h2
          · rw [hb] at h1; cases h1; exact .inl ⟨rfl, h1'⟩
        · rw [if_neg (by simp [hkk])] at hb; exact .inl ⟨rfl, hb⟩
      · cases h
    · cases h
  · cases h

theorem closeCells_rel (hI : HpInv w0 U A E G hp w) : ∀ {cs ys : List V} {us : List Value} {kills : List Nat} {deep : Bool}, closeCells hp cs = some (ys, kills, deep) → VL (VR0 w E hp G) cs us →
    VL (Rep w (fun b => (deep = false ∧ G b) ∨ Held E hp kills b)) ys us ∧ ∀ i ∈ kills, ∃ k, hp i = some k ∧ k.kind = .arr ∧ ∃ c ∈ cs, i ∈ refs0 c
  | [], ys, us, kills, deep, h, hl => by
    simp only [closeCells, Option.some.injEq, Prod.mk.injEq] at h
    obtain ⟨rfl, rfl, rfl⟩ := h
    cases us with
    | nil => exact ⟨trivial, fun i hi => by simp at hi⟩
    | cons u us => exact hl.elim
  | c :: cs, ys, us, kills, deep, h, hl => by
    simp only [closeCells] at h
    split at h
    · rename_i y a d ys' as ds h1 h2
      cases h
      cases us with
      | nil => exact hl.elim
      | cons u us =>
        obtain ⟨r1, r2⟩ := closeCell_rel hI h1 hl.1
        obtain ⟨q1, q2⟩ := closeCells_rel hI h2 hl.2
        have hm : ∀ l, (∀ i ∈ l, i ∈ a ++ as) → ∀ b, Held E hp l b → Held E hp (a ++ as) b := fun l hl b ⟨id, h1, h2⟩ => ⟨id, hl id h1, h2⟩
        refine ⟨⟨r1.mono fun b hb => ?_, q1.mono fun _ _ _ h => h.mono fun b hb => ?_⟩, fun i hi => ?_⟩
        · rcases hb with ⟨hd, hg⟩ | hh
          · exact .inl ⟨by simp [hd], hg⟩
          · exact .inr (hm a (fun i hi => by simp [hi]) b hh)
        · rcases hb with ⟨hd, hg⟩ | hh
          · exact .inl ⟨by simp [hd], hg⟩
          · exact .inr (hm as (fun i hi => by simp [hi]) b hh)
        · rcases List.mem_append.1 hi with hi | hi
          · obtain ⟨k, k1, k2, k3⟩ := r2 i hi; exact ⟨k, k1, k2, c, by simp, k3⟩
          · obtain ⟨k, k1, k2, c', k3, k4⟩ := q2 i hi; exact ⟨k, k1, k2, c', by simp [k3], k4⟩
    · cases h

end Go.Proofs.Ytcmihlhmeonmfaa.Ev
