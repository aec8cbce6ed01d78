/- The typed evaluator and the evaluator: a call. -/
import Derived.Test.YtcmihlhmeonmfaaEvXc
namespace Go.Proofs.Ytcmihlhmeonmfaa.Ev
open Go
set_option linter.unusedVariables false
set_option linter.unusedSimpArgs false

theorem noIm_cell {c : AC} {x : c.den} {H : THp} {y : V} (h : RV0 H (encC c x) y) : noIm0 y = noImT0 (encC c x) := by
  cases c with
  | int k => have : y = _ := h; subst this; rfl
  | bool => have : y = _ := h; subst this; rfl
  | str => have : y = _ := h; subst this; rfl
  | im t => rcases h with ⟨_, rfl⟩ | ⟨_, rfl, _⟩ <;> rfl

theorem noIm_cells : ∀ {cs : List AC} {x : denC cs} {H : THp} {ys : List V}, RC (RV0 H) (encCs cs x) ys → ys.all noIm0 = (encCs cs x).all noImT0
  | [], x, H, ys, h => by
    cases ys with
    | nil => rfl
    | cons a l => exact h.elim
  | [a], x, H, ys, h => by
    cases ys with
    | nil => exact h.elim
    | cons y ys =>
      cases ys with
      | nil => simp only [encCs, List.all_cons, List.all_nil, noIm_cell h.1]
      | cons _ _ => exact h.2.elim
  | a :: b :: l, x, H, ys, h => by
    cases ys with
    | nil => exact h.elim
    | cons y ys => simp only [encCs, List.all_cons, noIm_cell h.1]; rw [noIm_cells (cs := b :: l) h.2]

def niV : V → Bool
  | .agg cs => cs.all noIm0
  | x => noIm0 x

theorem noIm_tup (vs : List V) : noIm (.tup vs) = vs.all niV := by
  show (vs.all fun | .agg cs => cs.all noIm0 | x => noIm0 x) = _
  congr 1

theorem noIm_val {f : Nat → Nat} {k : Nat} {a : AS} {x : a.den} {H : THp} {y : V} (h : RV1 H (encSV f k a x) y) : noIm y = noImT1 (encSV f k a x) ∧ niV y = noImT1 (encSV f k a x) ∧ notTup y = true := by
  cases a with
  | cell c =>
    have h0 : RV0 H (encC c x) y := by
      have h : RV1 H (encC c x) y := h
      cases c <;> exact h
    have := noIm_cell h0
    cases c with
    | int k => have : y = _ := h0; subst this; exact ⟨rfl, rfl, rfl⟩
    | bool => have : y = _ := h0; subst this; exact ⟨rfl, rfl, rfl⟩
    | str => have : y = _ := h0; subst this; exact ⟨rfl, rfl, rfl⟩
    | im t => rcases h0 with ⟨_, rfl⟩ | ⟨_, rfl, _⟩ <;> exact ⟨rfl, rfl, rfl⟩
  | agg cs =>
    obtain ⟨us, rfl, hc⟩ := h
    exact ⟨noIm_cells hc, noIm_cells hc, rfl⟩
  | new b =>
    cases b with
    | arr ty deep t => obtain ⟨n, rfl, _⟩ := h; exact ⟨rfl, rfl, rfl⟩
    | box ty cs => have : y = _ := h; subst this; exact ⟨rfl, rfl, rfl⟩
  | ref j isb =>
    cases isb with
    | false => obtain ⟨n, rfl, _⟩ := h; exact ⟨rfl, rfl, rfl⟩
    | true => have : y = _ := h; subst this; exact ⟨rfl, rfl, rfl⟩
  | clo g =>
    obtain ⟨us, rfl, hc⟩ := (show ∃ us, y = V.cl g us ∧ RC (RV0 H) [] us from h)
    cases us with
    | nil => exact ⟨rfl, rfl, rfl⟩
    | cons a l => exact hc.elim

theorem noIm_list {f : Nat → Nat} {H : THp} : ∀ (l : List Item) (k : Nat) (d : denI l) (ys : List V), RC (RV1 H) ((encI f k l d).1.map (·.2)) ys →
    ys.all niV = ((encI f k l d).1.map (·.2)).all noImT1
  | [], k, d, ys, h => by
    cases ys with
    | nil => rfl
    | cons a l => exact h.elim
  | .root b :: l, k, d, ys, h => by
    simp only [encI] at h ⊢
    exact noIm_list l (k + 1) (tlI _ l d) ys h
  | .slot s a :: l, k, d, ys, h => by
    simp only [encI] at h ⊢
    cases hn : newB a (hdI (.slot s a) l d) with
    | none =>
      simp only [hn] at h ⊢
      cases ys with
      | nil => exact h.elim
      | cons y ys =>
        show (niV y && ys.all niV) = (noImT1 _ && List.all _ noImT1)
        rw [(noIm_val h.1).2.1, noIm_list l k (tlI _ l d) ys h.2]
    | some b =>
      simp only [hn] at h ⊢
      cases ys with
      | nil => exact h.elim
      | cons y ys =>
        show (niV y && ys.all niV) = (noImT1 _ && List.all _ noImT1)
        rw [(noIm_val h.1).2.1, noIm_list l (k + 1) (tlI _ l d) ys h.2]

/-- The same values with other numbers. -/
theorem noIm_turn {f g : Nat → Nat} : ∀ (l : List Item) (k : Nat) (d : denI l), ((encI f k l d).1.map (·.2)).all noImT1 = ((encI g k l d).1.map (·.2)).all noImT1
  | [], k, d => rfl
  | .root b :: l, k, d => by simp only [encI]; exact noIm_turn l (k + 1) (tlI _ l d)
  | .slot s a :: l, k, d => by
    have hv : noImT1 (encSV f k a (hdI (.slot s a) l d)) = noImT1 (encSV g k a (hdI (.slot s a) l d)) := by
      cases a with
      | new b => cases b <;> rfl
      | ref j isb => cases isb <;> rfl
      | _ => rfl
    simp only [encI]
    cases hn : newB a (hdI (.slot s a) l d) with
    | none => simp only [List.all_cons, List.map_cons, hv]; rw [noIm_turn (f := f) (g := g) l k (tlI _ l d)]
    | some b => simp only [List.all_cons, List.map_cons, hv]; rw [noIm_turn (f := f) (g := g) l (k + 1) (tlI _ l d)]

theorem noIm_blk {b : TB} {H : THp} {k : Blk} (he : Enc b) (h : RB H b k) : noImB k = noImBT b := by
  obtain ⟨a, x, rfl⟩ := he
  cases a with
  | arr ty deep t =>
    obtain ⟨h1, h2, h3, _⟩ := h
    unfold noImB
    rw [h1]
    exact h3
  | box ty cs =>
    obtain ⟨h1, h2, row, h3, h4, h5⟩ := h
    unfold noImB
    rw [h1, h3]
    simp only [List.all_cons, List.all_nil, Bool.and_true]
    exact noIm_cells h5

theorem ren_same {H : THp} {f : Nat → Nat} {φ : Nat → Option Nat} {k : Nat} {a : AS} {xa : a.den} {y : V} (hr : ∀ j isb, a ≠ .ref j isb) (hn : newB a xa = none) (hv : RV2 H (encSV f k a xa) y) : ren1 φ y = y := by
  cases a with
  | cell c =>
    have hv0 : RV0 H (encC c xa) y := by cases c <;> exact hv
    cases c with
    | int k => have : y = _ := hv0; subst this; rfl
    | bool => have : y = _ := hv0; subst this; rfl
    | str => have : y = _ := hv0; subst this; rfl
    | im t => rcases hv0 with ⟨_, rfl⟩ | ⟨_, rfl, _⟩ <;> rfl
  | agg cs =>
    obtain ⟨us, rfl, hc⟩ := hv
    show V.agg (us.map (ren0 φ)) = _
    rw [(encCs_refs hc).2.1]
  | new b => simp [newB] at hn
  | ref j isb => exact absurd rfl (hr j isb)
  | clo fn =>
    obtain ⟨us, rfl, hc⟩ := (show ∃ us, y = V.cl fn us ∧ RC (RV0 H) [] us from hv)
    cases us with
    | nil => rfl
    | cons a l => exact hc.elim

theorem ren_list {H : THp} {f : Nat → Nat} {φ : Nat → Option Nat} : ∀ (l : List Item) (k : Nat) (d : denI l) (ys : List V), (∀ s j isb, Item.slot s (.ref j isb) ∉ l) → (encI f k l d).2 = [] → RC (RV2 H) ((encI f k l d).1.map (·.2)) ys → ys.map (ren1 φ) = ys
  | [], k, d, ys, _, _, h => by
    cases ys with
    | nil => rfl
    | cons a l => exact h.elim
  | .root b :: l, k, d, ys, _, h0, _ => by simp [encI] at h0
  | .slot s a :: l, k, d, ys, hr, h0, h => by
    simp only [encI] at h h0
    cases hn : newB a (hdI (.slot s a) l d) with
    | some b => simp [hn] at h0
    | none =>
      simp only [hn] at h h0
      cases ys with
      | nil => exact h.elim
      | cons y ys =>
        rw [List.map_cons, ren_same (fun j isb he => hr s j isb (by simp [he])) hn h.1, ren_list l k (tlI _ l d) ys (fun s j isb hm => hr s j isb (by simp [hm])) h0 h.2]

theorem lensC_some {α : Type} {hp out : THp} : ∀ {l : List Nat} {A : Option α} {z : α}, lensC hp out l A = some z → A = some z ∧ ∀ id ∈ l, ∃ b b', getB hp id = some b ∧ getB out id = some b' ∧ blen b = blen b'
  | [], A, z, h => ⟨h, fun id hid => by simp at hid⟩
  | id :: l, A, z, h => by
    simp only [lensC] at h
    split at h
    · rename_i t1 d1 e1 l1 t2 d2 e2 l2 g1 g2
      obtain ⟨hc, h⟩ := cond_none' h
      obtain ⟨q1, q2⟩ := lensC_some h
      refine ⟨q1, fun i hi => ?_⟩
      rcases List.mem_cons.1 hi with rfl | hi
      · exact ⟨_, _, g2, g1, by simp only [blen]; rw [of_decide_eq_true hc]⟩
      · exact q2 i hi
    · rename_i t1 c1 t2 c2 g1 g2
      obtain ⟨q1, q2⟩ := lensC_some h
      refine ⟨q1, fun i hi => ?_⟩
      rcases List.mem_cons.1 hi with rfl | hi
      · exact ⟨_, _, g2, g1, rfl⟩
      · exact q2 i hi
    · cases h

theorem enc_roots (f : Nat → Nat) : ∀ (l : List Item) (k : Nat) (d : denI l), nRoots l ≤ (encI f k l d).2.length
  | [], _, _ => by simp [nRoots]
  | .root b :: l, k, d => by
    have := enc_roots f l (k + 1) (tlI _ l d)
    simp only [nRoots, encI, List.length_cons]
    omega
  | .slot s a :: l, k, d => by simp [nRoots]

theorem enc_vals {f : Nat → Nat} : ∀ (l : List Item) (k : Nat) (d : denI l) (v : SV), v ∈ (encI f k l d).1.map (·.2) → ∃ k' a xa, v = encSV f k' a xa
  | [], k, d, v, h => by simp [encI] at h
  | .root b :: l, k, d, v, h => by simp only [encI] at h; exact enc_vals l (k + 1) (tlI _ l d) v h
  | .slot s a :: l, k, d, v, h => by
    simp only [encI] at h
    cases hn : newB a (hdI (.slot s a) l d) with
    | none =>
      simp only [hn, List.map_cons, List.mem_cons] at h
      rcases h with rfl | h
      · exact ⟨_, _, _, rfl⟩
      · exact enc_vals l k (tlI _ l d) v h
    | some b =>
      simp only [hn, List.map_cons, List.mem_cons] at h
      rcases h with rfl | h
      · exact ⟨_, _, _, rfl⟩
      · exact enc_vals l (k + 1) (tlI _ l d) v h

theorem enc_rv1 {H : THp} {f : Nat → Nat} {k : Nat} {a : AS} {xa : a.den} {y : V} (h : RV2 H (encSV f k a xa) y) : RV1 H (encSV f k a xa) y := by
  cases a with
  | cell c => cases c <;> exact h
  | agg cs => exact h
  | new b => cases b <;> exact h
  | ref j isb => cases isb <;> exact h
  | clo g => exact h

/-- Positions that are named again are there. -/
def RefsOK (res : List Item) (n : Nat) : Prop := ∀ s j isb, Item.slot s (.ref j isb) ∈ res → j < n

section
variable {α : Type} {P : Program} {R : Rel} {cf : Cfg} {X : TX} {b : Nat} {tm : TTm} {m : Tm} {hp : THp} {hv : Hp} {K : SV → THp → Cls → Option α} {z : α}

theorem call_done {g : FuncId} {args : List SV} {ys : List V} (hE : ∀ g E, findF X.ents g = some E → EntOK R E ∧ E.a.g = g ∧ cf.byref g = E.a.byref) (hh : RH hp hv) (hr : RT hp tm m) (hargs : RC (RV2 hp) args ys) (h : tCall X g args tm hp b K = some z) :
    ∃ x hp' cls y hv', K x hp' cls = some z ∧ RV2 hp' x y ∧ RH hp' hv' ∧ RT hp' tm m ∧ ∀ KV : Cont, KV y hv' cls → weInv R cf g ys hv b KV := by
  unfold tCall at h
  split at h
  case h_2 => cases h
  rename_i E hfe
  obtain ⟨hEnt, hEg, hbr⟩ := hE g E hfe
  split at h
  case h_2 => cases h
  rename_i x o lent hdec
  split at h
  case isFalse => cases h
  rename_i hcond
  simp only [Bool.and_eq_true] at hcond
  obtain ⟨⟨⟨⟨⟨⟨⟨c1, c2⟩, c3⟩, c4⟩, c5⟩, c6⟩, c7⟩, c8⟩ := hcond
  obtain ⟨y, hFy, h⟩ := bind_some' h
  simp only at h
  split at h
  case isFalse => cases h
  rename_i hlen16
  obtain ⟨h, hlens⟩ := lensC_some h
  rw [force_eq] at h
  obtain ⟨ys', A⟩ := decP_rel hh hdec hargs
  have c2 : slotsI E.a.params = List.range args.length := by simpa using c2
  have c6 := Nat.le_of_ble_eq_true c6
  have hnd := A.nodup List.nodup_nil
  obtain ⟨t, ht, hrefs⟩ := A.ext
  simp only [List.nil_append] at ht
  subst ht
  have hlow : ∀ id ∈ o, id < b := fun id hid => by
    have := List.all_eq_true.1 c8 id hid
    simp only [Bool.and_eq_true] at this
    exact Nat.lt_of_succ_le (Nat.le_of_ble_eq_true this.2)
  have hnl : ∀ id ∈ o, id ∉ lent := fun id hid => by
    have := List.all_eq_true.1 c8 id hid
    simp only [Bool.and_eq_true] at this
    exact notIn_not this.1
  have hfresh : ∀ i, b ≤ i → i < b + 16 → freshT tm hp i = true := fun i h1 h2 => by
    have := List.all_eq_true.1 c7 (i - b) (by simp; omega)
    rwa [show b + (i - b) = i by omega] at this
  have e1len : ∀ f : Nat → Nat, (encI f 0 E.a.params x).2.length = o.length := fun f => by
    have := congrArg List.length (A.nblk f)
    simpa using this
  -- what the callee is handed
  have hnd1 : ((encI id 0 E.a.params x).2.map (·.1)).Nodup := by
    have h9 := A.nblk id
    simp only [List.length_nil, Nat.sub_zero, Nat.zero_add, List.map_id', List.map_id] at h9
    rw [h9]
    exact List.nodup_range
  have hget : ∀ j, j < o.length → ∃ bb tb, Enc bb ∧ getB hp (ordF o j) = some tb ∧ blen tb = blen bb ∧ (∀ hp hp' kb, RB hp tb kb → RB hp' bb kb) ∧ getB (encI id 0 E.a.params x).2 j = some bb := by
    intro j hj
    obtain ⟨bb, tb, q1, q2, q3, q4, q5⟩ := A.blks j (Nat.zero_le _) hj
    exact ⟨bb, tb, q1, q2, q3, q4, getB_of_mem hnd1 (q5 id)⟩
  have hidx : ∀ j, j < o.length → idx o (ordF o j) = some (id j) := fun j hj => idx_get hnd (by simp [ordF, List.getD, hj])
  have hvals := turn_list (H' := (encI id 0 E.a.params x).2) (g := id) (φ := idx o) (n := o.length) hidx (fun j hj b' hb' => by
    obtain ⟨bb, tb, q1, q2, q3, q4, q5⟩ := hget j hj
    have : b' = bb := by
      have hb' : getB (encI id 0 E.a.params x).2 j = some b' := hb'
      rw [q5] at hb'; cases hb'; rfl
    exact ⟨tb, q2, by rw [this]; exact q3⟩) E.a.params 0 x ys' (fun s j isb hm => absurd hm (A.noref s j isb)) (by rw [e1len]; omega) A.vals
  have hnr : nRoots E.a.params = 0 := by
    cases hp0 : E.a.params with
    | nil => rfl
    | cons i l =>
      cases i with
      | slot s a => rfl
      | root bb =>
        exfalso
        have h5 := A.len
        have h6 := hargs.length
        have : decP hp E.a.byref [] E.a.params args = none := by rw [hp0]; cases args <;> rfl
        rw [hdec] at this
        cases this
  have hsl : (slotsI E.a.params).length = E.a.params.length := by
    unfold wfI at c1
    simp only [Bool.and_eq_true] at c1
    have := Nat.eq_of_beq_eq_true c1.1.1
    omega
  have hrefs2 : (ys'.map (ren1 (idx o))).flatMap refs1 = List.range o.length := by
    rw [enc_refs E.a.params 0 x _ A.noref hnr hsl hvals, e1len]
    simp
  have hblks : ∀ i ∈ o, ∃ kb, hv i = some kb ∧ refsB kb = [] := by
    intro i hi
    obtain ⟨j, hj⟩ := List.getElem?_of_mem hi
    obtain ⟨bb, tb, q1, q2, q3, q4, q5⟩ := hget j (List.getElem?_eq_some_iff.1 hj).1
    have hoj : ordF o j = i := by simp [ordF, List.getD, hj]
    rw [hoj] at q2
    obtain ⟨kb, hkb, hrb⟩ := hh i tb q2
    obtain ⟨a, xa, rfl⟩ := q1
    exact ⟨kb, hkb, (encB_refs (q4 _ [] kb hrb)).1⟩
  have hblk2 : ∀ j, j < o.length → ∃ kb, hv (ordF o j) = some kb ∧ ∃ bb, getB (encI id 0 E.a.params x).2 j = some bb ∧ RB (encI id 0 E.a.params x).2 bb (renB (idx o) kb) ∧ refsB (renB (idx o) kb) = [] := by
    intro j hj
    obtain ⟨bb, tb, q1, q2, q3, q4, q5⟩ := hget j hj
    obtain ⟨kb, hkb, hrb⟩ := hh _ tb q2
    obtain ⟨a, xa, rfl⟩ := q1
    have h7 := (encB_refs (q4 _ [] kb hrb)).2 (idx o) (encI id 0 E.a.params x).2
    exact ⟨kb, hkb, _, q5, h7, (encB_refs h7).1⟩
  have hRS : RS (encSt E.a.params x) (entry (ys'.map (ren1 (idx o))) (blksOf hv o)) := by
    refine ⟨?_, fun j bb hb => ?_, rfl⟩
    · refine enum_rel _ 0 _ ?_ hvals
      have h8 := A.keys id
      have h9 : (encI id 0 E.a.params x).1.length = args.length := by
        have := congrArg List.length h8
        simp only [List.length_map, List.length_nil] at this
        rw [this, c2]; simp
      show (encI id 0 E.a.params x).1.map (·.1) = _
      have h10 : (encSt E.a.params x).tm.length = args.length := h9
      rw [show (encI id 0 E.a.params x).1.map (·.1) = slotsI E.a.params from h8, c2, h10]
      simp
    · have hb : getB (encI id 0 E.a.params x).2 j = some bb := hb
      have hj : j < o.length := by
        have h9 := mem_of_getB hb
        have h10 := A.nblk id
        simp only [List.length_nil, Nat.sub_zero, Nat.zero_add, List.map_id', List.map_id] at h10
        rw [h10] at h9
        simpa using h9
      obtain ⟨kb, hkb, bb', q1, q2, q3⟩ := hblk2 j hj
      rw [q1] at hb
      cases hb
      refine ⟨_, ?_, q2⟩
      show (blksOf hv o)[j]? = _
      unfold blksOf
      rw [List.getElem?_map]
      have hoj : o[j]? = some (ordF o j) := by simp [ordF, List.getD, hj]
      rw [hoj]
      simp only [Option.map_some, hkb, Option.getD_some]
  have hids : idsOK (ys'.map (ren1 (idx o))) (blksOf hv o) = true := by
    unfold idsOK
    rw [hrefs2, eraseDups_nodup List.nodup_range]
    simp only [Bool.and_eq_true, beq_iff_eq, decide_eq_true_eq, List.length_range, and_true, List.all_eq_true, List.mem_range]
    refine ⟨⟨fun i hi => by omega, fun i hi => ?_⟩, by unfold blksOf; simp; omega⟩
    exfalso
    obtain ⟨kb, hkb, hi⟩ := List.mem_flatMap.1 hi
    unfold blksOf at hkb
    obtain ⟨id', hid', rfl⟩ := List.mem_map.1 hkb
    obtain ⟨j, hj⟩ := List.getElem?_of_mem hid'
    have hoj : ordF o j = id' := by simp [ordF, List.getD, hj]
    obtain ⟨kb, hkb, _, _, _, q3⟩ := hblk2 j (List.getElem?_eq_some_iff.1 hj).1
    rw [hoj] at hkb
    rw [hkb] at hi
    simp only [Option.getD_some] at hi
    rw [q3] at hi
    simp at hi
  obtain ⟨r, blks', hR, hres⟩ := hEnt x y _ _ hFy hRS hids (by simp [A.len]) (by
    rw [hrefs2, eraseDups_nodup List.nodup_range]
    have h9 := A.nb
    simp only [List.length_range]
    simpa using h9)
  rw [hEg] at hR
  -- what it hands back
  have hn0 : blks'.length = (encI id 0 E.a.res y).2.length := hres.len
  have hnout : (encI (backT o o.length b) 0 E.a.res y).2.length = blks'.length := by rw [hn0]; exact (enc_len _ 0 y).1
  have hle : o.length ≤ blks'.length := by
    have c5 := Nat.eq_of_beq_eq_true c5
    rw [← c5, hn0]
    exact enc_roots _ _ _ _
  have h16 : blks'.length ≤ o.length + 16 := by rw [← hnout]; exact Nat.le_of_ble_eq_true hlen16
  have hg1 : ∀ j, j < o.length → o[j]? = some (backT o o.length b j) := by
    intro j hj
    unfold backT
    rw [List.getElem?_eq_getElem hj]
    have : Nat.blt j o.length = true := Nat.ble_eq_true_of_le hj
    simp only [this, cond_true]
  have hg2 : ∀ j, o.length ≤ j → backT o o.length b j = b + (j - o.length) := by
    intro j hj
    unfold backT
    rw [List.getElem?_eq_none hj]
  have hφ : ∀ j, j < blks'.length → back o o.length blks'.length b (id j) = some (backT o o.length b j) := by
    intro j hj
    show (if j < o.length then o[j]? else if j < blks'.length then some (b + (j - o.length)) else none) = _
    by_cases h : j < o.length
    · rw [if_pos h]; exact hg1 j h
    · rw [if_neg h, if_pos hj, hg2 j (by omega)]
  have hinj : ∀ i j, i < (encI (backT o o.length b) 0 E.a.res y).2.length → j < (encI (backT o o.length b) 0 E.a.res y).2.length → backT o o.length b i = backT o o.length b j → i = j := by
    intro i j _ _ he
    by_cases hi : i < o.length
    · by_cases hj : j < o.length
      · have h1 := hg1 i hi
        have h2 := hg1 j hj
        rw [he] at h1
        have h3 := idx_get hnd h1
        have h4 := idx_get hnd h2
        rw [h3] at h4
        exact Option.some.inj h4
      · have h1 := hlow _ (List.mem_of_getElem? (hg1 i hi))
        rw [he, hg2 j (by omega)] at h1
        omega
    · by_cases hj : j < o.length
      · have h1 := hlow _ (List.mem_of_getElem? (hg1 j hj))
        rw [← he, hg2 i (by omega)] at h1
        omega
      · rw [hg2 i (by omega), hg2 j (by omega)] at he
        omega
  have hinj0 : ∀ i j, i < (encI id 0 E.a.res y).2.length → j < (encI id 0 E.a.res y).2.length → id i = id j → i = j := fun i j _ _ h => h
  have hout : ∀ j, j < blks'.length → ∃ bj, Enc bj ∧ getB (encI id 0 E.a.res y).2 j = some bj ∧ getB (encI (backT o o.length b) 0 E.a.res y).2 (backT o o.length b j) = some bj := by
    intro j hj
    have hj0 : j < (encI id 0 E.a.res y).2.length := by omega
    obtain ⟨bj, hbj, hp2⟩ := (enc_get (List.getElem?_eq_getElem hj0)).2
    obtain ⟨_, h1, _⟩ := enc_blk (f := id) (g := backT o o.length b) E.a.res 0 y j
    rw [List.getElem?_eq_getElem hj0] at h1
    simp only [Option.map_some, hp2] at h1
    exact ⟨bj, hbj, getB_enc (f := id) hinj0 (by rw [List.getElem?_eq_getElem hj0]; simp only [Option.map_some, hp2]), getB_enc hinj h1.symm⟩
  have hkeys : ∀ i, i ∈ (encI (backT o o.length b) 0 E.a.res y).2.map (·.1) → ∃ j, j < blks'.length ∧ i = backT o o.length b j := by
    intro i hi
    obtain ⟨p, hp1, rfl⟩ := List.mem_map.1 hi
    obtain ⟨j, hj⟩ := List.getElem?_of_mem hp1
    exact ⟨j, by rw [← hnout]; exact (List.getElem?_eq_some_iff.1 hj).1, (enc_get hj).1⟩
  have hkeys2 : ∀ j, j < blks'.length → backT o o.length b j ∈ (encI (backT o o.length b) 0 E.a.res y).2.map (·.1) := by
    intro j hj
    obtain ⟨bj, _, _, h1⟩ := hout j hj
    exact mem_of_getB h1
  -- the caller's blocks behind the call
  have main : ∀ (hp1 : THp) (hv1 : Hp), RH hp1 hv1 → (∀ i, Keeps hp hp1 i) → (∀ id ∈ o, getB hp1 id = getB hp id) → (∀ i bb, getB hp1 i = some bb → ∀ q, b ≤ q → q < b + 16 → q ∉ idsB bb) →
      RV2 ((encI (backT o o.length b) 0 E.a.res y).2 ++ hp1) (tupT ((encI (backT o o.length b) 0 E.a.res y).1.map (·.2))) (ren2 (back o o.length blks'.length b) r) ∧
      RH ((encI (backT o o.length b) 0 E.a.res y).2 ++ hp1) (callHp hv1 o o.length b blks') ∧ RT ((encI (backT o o.length b) 0 E.a.res y).2 ++ hp1) tm m := by
    intro hp1 hv1 hh1 hk1 hold hfr
    have hgn : ∀ j, j < blks'.length → ∃ bj, Enc bj ∧ getB (encI id 0 E.a.res y).2 j = some bj ∧ getB ((encI (backT o o.length b) 0 E.a.res y).2 ++ hp1) (backT o o.length b j) = some bj := by
      intro j hj
      obtain ⟨bj, q1, q2, q3⟩ := hout j hj
      exact ⟨bj, q1, q2, by rw [getB_append, if_pos (hkeys2 j hj)]; exact q3⟩
    have hkn : ∀ i, ¬ (b ≤ i ∧ i < b + 16) → Keeps hp1 ((encI (backT o o.length b) 0 E.a.res y).2 ++ hp1) i := by
      intro i hi b' hb'
      rw [getB_append] at hb'
      split at hb'
      · rename_i hm
        obtain ⟨j, hj, rfl⟩ := hkeys i hm
        by_cases hjo : j < o.length
        · have hmem := List.mem_of_getElem? (hg1 j hjo)
          obtain ⟨b0, b1, q1, q2, q3⟩ := hlens _ hmem
          rw [q2] at hb'
          cases hb'
          exact ⟨b0, by rw [hold _ hmem]; exact q1, q3⟩
        · exfalso
          rw [hg2 j (by omega)] at hi
          omega
      · exact ⟨b', hb', rfl⟩
    refine ⟨?_, fun i bb hb => ?_, fun t => ?_⟩
    · -- the result
      have hlenT : ∀ j, j < blks'.length → ∀ b', getB ((encI (backT o o.length b) 0 E.a.res y).2 ++ hp1) (backT o o.length b j) = some b' → ∃ b0, getB (encI id 0 E.a.res y).2 (id j) = some b0 ∧ blen b0 = blen b' := by
        intro j hj b' hb'
        obtain ⟨bj, q1, q2, q3⟩ := hgn j hj
        rw [q3] at hb'
        cases hb'
        exact ⟨_, q2, rfl⟩
      have hTL : ∀ us, RC (RV2 (encI id 0 E.a.res y).2) ((encI id 0 E.a.res y).1.map (·.2)) us → RC (RV1 ((encI (backT o o.length b) 0 E.a.res y).2 ++ hp1)) ((encI (backT o o.length b) 0 E.a.res y).1.map (·.2)) (us.map (ren1 (back o o.length blks'.length b))) := by
        intro us hus
        exact turn_list hφ hlenT E.a.res 0 y us (fun s j isb hm => by have := hres.refs s j isb hm; omega) (by omega) hus
      have hl := (enc_len (f := id) (g := backT o o.length b) E.a.res 0 y).2
      have hval := hres.val
      generalize hvs : (encI id 0 E.a.res y).1.map (·.2) = vs at hval hTL
      generalize hws : (encI (backT o o.length b) 0 E.a.res y).1.map (·.2) = ws at hTL ⊢
      have hlw : ws.length = vs.length := by rw [← hvs, ← hws]; simp [hl]
      match vs, ws, hlw, hval, hTL with
      | [v], [w], _, hval, hTL =>
        have := hTL [r] ⟨hval, trivial⟩
        have h2 : ren2 (back o o.length blks'.length b) r = ren1 (back o o.length blks'.length b) r := by
          cases r with
          | tup l =>
            exfalso
            have hv2 : RV2 (encI id 0 E.a.res y).2 v (.tup l) := hval
            obtain ⟨k, a, xa, hva⟩ := enc_vals (f := id) E.a.res 0 y v (by rw [hvs]; simp)
            rw [hva] at hv2
            have := (noIm_val (show RV1 _ (encSV id k a xa) (.tup l) from enc_rv1 hv2)).2.2
            cases this
          | _ => rfl
        show RV2 _ w _
        rw [h2]
        exact this.1.to2
      | [], [], _, hval, hTL =>
        obtain ⟨us, rfl, hc⟩ := (show ∃ us, r = .tup us ∧ RC (RV1 (encI id 0 E.a.res y).2) [] us from hval)
        cases us with
        | nil => exact ⟨[], rfl, trivial⟩
        | cons a l => exact hc.elim
      | v1 :: v2 :: vs, w1 :: w2 :: ws, _, hval, hTL =>
        obtain ⟨us, rfl, hc⟩ := (show ∃ us, r = .tup us ∧ RC (RV1 (encI id 0 E.a.res y).2) (v1 :: v2 :: vs) us from hval)
        exact ⟨us.map (ren1 (back o o.length blks'.length b)), rfl, hTL us (hc.mono fun _ _ _ h => h.to2)⟩
      | [_], [], h, _, _ => simp at h
      | [], _ :: _, h, _, _ => simp at h
      | _ :: _ :: _, [], h, _, _ => simp at h
      | [_], _ :: _ :: _, h, _, _ => simp at h
      | _ :: _ :: _, [_], h, _, _ => simp at h
    · rw [getB_append] at hb
      split at hb
      · rename_i hm
        obtain ⟨j, hj, rfl⟩ := hkeys i hm
        obtain ⟨bj, q1, q2, q3⟩ := hout j hj
        rw [q3] at hb
        cases hb
        obtain ⟨kj, hkj, hrb⟩ := hres.blk j _ q2
        refine ⟨_, callHp_at hnd hlow hle hkj, ?_⟩
        obtain ⟨a, xa, rfl⟩ := q1
        exact (encB_refs hrb).2 _ _
      · rename_i hm
        obtain ⟨k, hk, hrb⟩ := hh1 i bb hb
        refine ⟨k, ?_, hrb.keeps fun q hq => hkn q fun hc => hfr i bb hb q hc.1 hc.2 hq⟩
        rw [callHp_other ?_ ?_]
        · exact hk
        · intro hio
          obtain ⟨j, hj⟩ := List.getElem?_of_mem hio
          have hjl := (List.getElem?_eq_some_iff.1 hj).1
          have h1 := hg1 j hjl
          rw [hj] at h1
          cases h1
          exact hm (hkeys2 j (by omega))
        · rintro ⟨h1, h2⟩
          refine hm ?_
          have h3 := hkeys2 (o.length + (i - b)) (by omega)
          rwa [hg2 _ (by omega), show b + (o.length + (i - b) - o.length) = i by omega] at h3
    · refine ((hr t).keeps fun i _ => hk1 i).keeps fun i hi => hkn i fun hc => ?_
      exact fresh_tm (hfresh i hc.1 hc.2) t hi
  have hfr0 : ∀ i bb, getB hp i = some bb → ∀ q, b ≤ q → q < b + 16 → q ∉ idsB bb := fun i bb hb q h1 h2 => fresh_hp (hfresh q h1 h2) hb
  have hnoim : noImRes ((encI (backT o o.length b) 0 E.a.res y).1.map (·.2)) (encI (backT o o.length b) 0 E.a.res y).2 = (noIm r && blks'.all noImB) := by
    unfold noImRes
    have h1 : ((encI (backT o o.length b) 0 E.a.res y).1.map (·.2)).all noImT1 = noIm r := by
      rw [noIm_turn (f := backT o o.length b) (g := id)]
      have hval := hres.val
      have hL := fun us => noIm_list (f := id) (H := (encI id 0 E.a.res y).2) E.a.res 0 y us
      have hin := fun v hv => enc_vals (f := id) E.a.res 0 y v hv
      generalize (encI id 0 E.a.res y).1.map (·.2) = vs at hval hL hin ⊢
      match vs, hval, hL, hin with
      | [v], hval, hL, hin =>
        obtain ⟨k, a, xa, rfl⟩ := hin v (by simp)
        have := (noIm_val (enc_rv1 (show RV2 _ (encSV id k a xa) r from hval))).1
        simp only [List.all_cons, List.all_nil, Bool.and_true]
        exact this.symm
      | [], hval, hL, hin =>
        obtain ⟨us, rfl, hc⟩ := (show ∃ us, r = .tup us ∧ RC (RV1 (encI id 0 E.a.res y).2) [] us from hval)
        rw [noIm_tup]
        exact (hL us hc).symm
      | v1 :: v2 :: vs, hval, hL, hin =>
        obtain ⟨us, rfl, hc⟩ := (show ∃ us, r = .tup us ∧ RC (RV1 (encI id 0 E.a.res y).2) (v1 :: v2 :: vs) us from hval)
        rw [noIm_tup]
        exact (hL us hc).symm
    have h2 : ((encI (backT o o.length b) 0 E.a.res y).2.all fun x => match x.2 with | some k => noImBT k | none => false) = blks'.all noImB := by
      have h3 : ((encI (backT o o.length b) 0 E.a.res y).2.map fun x => match x.2 with | some k => noImBT k | none => false) = blks'.map noImB := by
        apply List.ext_getElem?
        intro j
        rw [List.getElem?_map, List.getElem?_map]
        by_cases hj : j < blks'.length
        · have hj2 : j < (encI (backT o o.length b) 0 E.a.res y).2.length := by omega
          obtain ⟨bj, q1, q2, q3⟩ := hout j hj
          obtain ⟨kj, hkj, hrb⟩ := hres.blk j bj q2
          have hkj : blks'[j]? = some kj := hkj
          obtain ⟨p1, b2, q4, p2⟩ := enc_get (List.getElem?_eq_getElem hj2)
          have hb2 := getB_enc hinj (i := j) (b := b2) (by rw [List.getElem?_eq_getElem hj2]; simp only [Option.map_some, p2])
          rw [q3] at hb2
          cases hb2
          rw [hkj, List.getElem?_eq_getElem hj2]
          simp only [Option.map_some, p2, noIm_blk q1 hrb]
        · rw [List.getElem?_eq_none (by omega), List.getElem?_eq_none (by omega)]
          rfl
      have h4 : ∀ {γ : Type} (l : List γ) (f : γ → Bool), l.all f = (l.map f).all id := by
        intro γ l f
        induction l with
        | nil => rfl
        | cons a l ih => simp only [List.all_cons, List.map_cons, ih]; rfl
      rw [h4 (encI (backT o o.length b) 0 E.a.res y).2, h4 blks', h3]
    rw [h1]
    exact congrArg (noIm r && ·) h2
  have hargsV : (if cf.byref g then (if ys.all notTup then some ys else none) else lendA hv ys) = some ys' ∧ (if cf.byref g then [] else ys.flatMap arIds1) = lent := by
    rw [hbr]
    cases hb : E.a.byref with
    | true =>
      obtain ⟨q1, q2, q3⟩ := A.same hb
      simp only [if_true, q2, q1, q3, and_self]
    | false =>
      obtain ⟨q1, q2⟩ := A.lend hb
      simp only [Bool.false_eq_true, if_false, q1, q2, and_self]
  have hclose : close hv 64 (ys'.flatMap refs1) [] = some o := by
    rw [hrefs, close_dd o [] 64 (by omega) hblks, dd_nodup o [] (by simpa using hnd)]
    rfl
  have hinv : ∀ KV : Cont, weInv R cf g ys hv b KV = (match o with | [] => wePure R g ys' lent hv b KV | o => weRef R g ys' lent (ys'.flatMap refs1).eraseDups o hv b KV) := by
    intro KV
    unfold weInv
    rw [hargsV.1]
    simp only
    rw [hclose]
    cases o with
    | nil => simp only [hargsV.2]
    | cons i l => simp only [hargsV.2]
  obtain ⟨f1, f2⟩ := freeze_T lent hh
  have hfz := main (freezeT hp lent) (freeze hv lent) f1 f2 (fun i hi => freezeT_get _ _ _ (hnl i hi)) (fun i bb hb q h1 h2 hq => by
    obtain ⟨b0, hb0, he⟩ := f2 i bb hb
    have : idsB bb = [] ∨ bb = b0 := by
      have : ∀ (l : List Nat) (hp0 : THp) (bb : TB), getB (freezeT hp0 l) i = some bb → idsB bb = [] ∨ getB hp0 i = some bb := by
        intro l
        induction l with
        | nil => intro hp0 bb h; exact .inr h
        | cons a l ih =>
          intro hp0 bb h
          rw [freezeT] at h
          rcases ih _ bb h with h | h
          · exact .inl h
          · rw [getB_cons] at h
            split at h
            · rename_i hia
              subst hia
              simp only [Option.map_eq_some_iff] at h
              obtain ⟨c0, hc0, rfl⟩ := h
              cases c0 with
              | box ty cs => exact .inr hc0
              | arr _ _ _ _ => exact .inl rfl
              | frz _ _ _ _ => exact .inl rfl
            · exact .inr h
      rcases this lent hp bb hb with h | h
      · exact .inl h
      · rw [hb0] at h; cases h; exact .inr rfl
    rcases this with h | h
    · rw [h] at hq; simp at hq
    · subst h; exact hfr0 i bb hb0 q h1 h2 hq)
  have hpl := main hp hv hh (fun i => Keeps.refl hp i) (fun _ _ => rfl) hfr0
  rw [hnoim] at h
  have hcallR : ∀ F : V → List Blk → Prop, F r blks' → callR R g (ys'.map (ren1 (idx o))) (blksOf hv o) F := fun F hF => ⟨r, blks', hR, hF⟩
  cases o with
  | nil =>
    have hsame : ys'.map (ren1 (idx [])) = ys' := ren_list (f := ordF []) E.a.params 0 x ys' A.noref (List.eq_nil_of_length_eq_zero (by simpa using e1len (ordF []))) A.vals
    rw [hsame] at hcallR hids
    cases hc : (lent.isEmpty || (noIm r && blks'.all noImB)) with
    | true =>
      rw [hc] at h
      obtain ⟨m1, m2, m3⟩ := hpl
      refine ⟨_, _, _, _, _, h, m1, m2, m3, fun KV hK => ?_⟩
      rw [hinv]
      refine hcallR _ ⟨by simpa using h16, hids, ?_⟩
      rw [if_pos hc]
      exact hK
    | false =>
      rw [hc] at h
      obtain ⟨m1, m2, m3⟩ := hfz
      refine ⟨_, _, _, _, _, h, m1, m2, m3, fun KV hK => ?_⟩
      rw [hinv]
      refine hcallR _ ⟨by simpa using h16, hids, ?_⟩
      rw [if_neg (by rw [hc]; simp)]
      exact hK
  | cons i l =>
    have hed : (ys'.flatMap refs1).eraseDups = i :: l := by rw [hrefs]; exact eraseDups_nodup hnd
    have hall : ((i :: l).all fun id => !lent.contains id) = true := List.all_eq_true.2 fun id hid => by simpa using hnl id hid
    cases hc : (lent.isEmpty || (noIm r && blks'.all noImB)) with
    | true =>
      rw [hc] at h
      obtain ⟨m1, m2, m3⟩ := hpl
      refine ⟨_, _, _, _, _, h, m1, m2, m3, fun KV hK => ?_⟩
      rw [hinv]
      show weRef R g ys' lent (ys'.flatMap refs1).eraseDups (i :: l) hv b KV
      rw [hed]
      refine ⟨hall, by simp, hids, hcallR _ ⟨hle, by omega, ?_⟩⟩
      rw [if_pos hc]
      exact hK
    | false =>
      rw [hc] at h
      obtain ⟨m1, m2, m3⟩ := hfz
      refine ⟨_, _, _, _, _, h, m1, m2, m3, fun KV hK => ?_⟩
      rw [hinv]
      show weRef R g ys' lent (ys'.flatMap refs1).eraseDups (i :: l) hv b KV
      rw [hed]
      refine ⟨hall, by simp, hids, hcallR _ ⟨hle, by omega, ?_⟩⟩
      rw [if_neg (by rw [hc]; simp)]
      exact hK
end
end Go.Proofs.Ytcmihlhmeonmfaa.Ev
