/- The typed evaluator and the evaluator: operations that lay or write blocks. -/
import Derived.Test.YtcmihlhmeonmfaaEvX5
namespace Go.Proofs.Ytcmihlhmeonmfaa.Ev
open Go
set_option linter.unusedVariables false
set_option linter.unusedSimpArgs false

section
variable {α : Type} {P : Program} {R : Rel} {cf : Cfg} {X : TX} {b : Nat} {tm : TTm} {m : Tm} {hp hpm : THp} {hv hvm : Hp} {K : SV → THp → Cls → Option α} {z : α}

/-- What an operation comes to. -/
def Done (P : Program) (R : Rel) (cf : Cfg) (op : Op) (b : Nat) (tm : TTm) (m : Tm) (hv : Hp) (K : SV → THp → Cls → Option α) (z : α) : Prop :=
  ∃ x hp' cls y hv', K x hp' cls = some z ∧ RV2 hp' x y ∧ RH hp' hv' ∧ RT hp' tm m ∧ ∀ KV : Cont, KV y hv' cls → weOp P R cf op b (opnd m) hv KV

theorem Looks.done {op : Op} (h : Looks P R cf op b m hp hp hv K z) (hh : RH hp hv) (hr : RT hp tm m) : Done P R cf op b tm m hv K z := by
  obtain ⟨x, y, cls, h1, h2, h3⟩ := h
  exact ⟨x, hp, cls, y, hv, h1, h2, hh, hr, h3⟩

/-- A new block. -/
theorem add_ok {x : TB} {k : Blk} (hh : RH hp hv) (hr : RT hp tm m) (hf : ∀ t, b ∉ ids2 (getV tm t)) (hb : ∀ id y, getB hp id = some y → b ∉ idsB y) (hx : b ∉ idsB x) (hk : RB hp x k) :
    RH ((b, some x) :: hp) (upd hv b (some k)) ∧ RT ((b, some x) :: hp) tm m :=
  ⟨hh.put (fun id hid => keeps_put fun he => hx (he ▸ hid)) (fun id y _ hy i hi => keeps_put fun he => hb id y hy (he ▸ hi)) hk, hr.keeps fun t id hid => keeps_put fun he => hf t (he ▸ hid)⟩

theorem fresh_kill {l : List Nat} (h : freshT tm hp b = true) {id : Nat} {k : TB} (hk : getB (killT hp l) id = some k) : b ∉ idsB k := fresh_hp h (kill_get l hp id k hk).1

theorem zero_ids : ∀ (l : List V), (l.map zeroT).flatMap ids0 = []
  | [] => rfl
  | x :: l => by
    rw [List.map_cons, List.flatMap_cons, zero_ids l]
    unfold zeroT
    split <;> rfl

theorem d_alloc {t : TypeId} (hX : XOK P X) (hh : RH hp hv) (hr : RT hp tm m) (h : wtOp X (.alloc t) b tm hp K = some z) : Done P R cf (.alloc t) b tm m hv K z := by
  simp only [wtOp] at h
  split at h
  · rename_i d hd
    split at h
    · rename_i hf
      obtain ⟨h1, h2⟩ := add_ok (x := .box t (d.zero.map zeroT)) (k := boxOf t d.zero) hh hr (fresh_tm hf) (fun id y hy => fresh_hp hf hy) (by simp only [idsB]; rw [zero_ids]; simp) ⟨rfl, rfl, d.zero, rfl, rfl, zero_rel d.zero⟩
      refine ⟨_, _, _, .rf b 0 0, _, h, rfl, h1, h2, fun KV hk => ?_⟩
      show caseO (nevM P (.alloc t) (opnd m) hv b) (fun z => z.2.length ≤ 16 ∧ KV z.1 (inst hv b z.2) .M)
      simp only [nevM, hX.ty t d hd, caseO_some]
      exact ⟨by simp, hk⟩
    · cases h
  · cases h

theorem flat_ids {x : SV} : ∀ id ∈ (flatT x).flatMap ids0, id ∈ ids2 x := by
  intro id hid
  cases x with
  | agg cs => exact hid
  | tup cs => simp [flatT, ids0] at hid
  | cl f cs => simp [flatT, ids0] at hid
  | ow id' => simpa [flatT, ids0, ids1, ids2] using hid
  | _ => simp [flatT, ids0] at hid

theorem const_ids (c : Value) : ids2 (constT c) = [] := by
  have h0 : ∀ c, ids0 (cellT c) = [] ∧ ids2 (cellT c) = [] := by
    intro c
    unfold cellT
    split <;> first | exact ⟨rfl, rfl⟩ | (split <;> exact ⟨rfl, rfl⟩)
  unfold constT
  split
  · rename_i cs
    show (cs.toList.map cellT).flatMap ids0 = []
    rw [List.flatMap_eq_nil_iff]
    intro x hx
    obtain ⟨c, _, rfl⟩ := List.mem_map.1 hx
    exact (h0 c).1
  · exact (h0 c).2

theorem fresh_op (h : freshT tm hp b = true) (x : Operand) : b ∉ ids2 (opT tm x) := by
  cases x with
  | tmp t => exact fresh_tm h t
  | const c => simp only [opT, const_ids]; simp
  | global g => simp [opT, ids2, ids1, ids0]
  | func f => simp [opT, ids2, ids1, ids0]

theorem d_box {t : TypeId} {x : Operand} (hX : XOK P X) (hh : RH hp hv) (hr : RT hp tm m) (h : wtOp X (.box t x) b tm hp K = some z) : Done P R cf (.box t x) b tm m hv K z := by
  simp only [wtOp] at h
  split at h
  · rename_i d hd
    split at h
    · rename_i hc
      simp only [Bool.and_eq_true] at hc
      obtain ⟨⟨c1, c2⟩, hf⟩ := hc
      obtain ⟨f1, f2⟩ := flat_rel (op_rel hr x) c2
      obtain ⟨h1, h2⟩ := add_ok (x := .box t (flatT (opT tm x))) (k := boxOf t (flat (opnd m x))) hh hr (fresh_tm hf) (fun id y hy => fresh_hp hf hy) (fun hi => fresh_op hf x (flat_ids b hi)) ⟨rfl, rfl, _, rfl, rfl, f1⟩
      refine ⟨_, _, _, .rf b 0 0, _, h, rfl, h1, h2, fun KV hk => ?_⟩
      show caseO (nevM P (.box t x) (opnd m) hv b) (fun z => z.2.length ≤ 16 ∧ KV z.1 (inst hv b z.2) .M)
      simp only [nevM, hX.ty t d hd]
      have hl : (flat (opnd m x)).length = d.size := by have := f1.length; have := Nat.eq_of_beq_eq_true c1; omega
      rw [if_pos (by simp [hl, f2])]
      exact ⟨by simp, hk⟩
    · cases h
  · cases h

theorem lenI_some {n : Int} {bytes size k : Nat} (h : lenI n bytes size = some k) : 0 ≤ n ∧ n.toNat * bytes ≤ maxBytes ∧ n.toNat * size ≤ maxBytes ∧ k = n.toNat := by
  unfold lenI at h
  split at h
  · rename_i hc; cases h; exact ⟨hc.1, hc.2.1, hc.2.2, rfl⟩
  · cases h

theorem d_make {t : TypeId} {l c : Operand} (hX : XOK P X) (hh : RH hp hv) (hr : RT hp tm m) (h : wtOp X (.makeSlice t l c) b tm hp K = some z) : Done P R cf (.makeSlice t l c) b tm m hv K z := by
  simp only [wtOp, tMake] at h
  have hl := op_rel hr l
  have hc := op_rel hr c
  split at h
  · rename_i e de ty k1 n k2 n2 he e1 e2
    rw [e1] at hl
    rw [e2] at hc
    have hl := rv_int hl
    have hc := rv_int hc
    have hE := elem_ok hX he
    split at h
    · rename_i zz hz
      split at h
      · rename_i hq
        simp only [Bool.and_eq_true] at hq
        obtain ⟨hf, hsc⟩ := hq
        have hre : RE ty zz de.zero := decR_rel (hp := hp) hz (zero_rel de.zero)
        have fin : ∀ (kk : Nat), kk = n.toNat → 0 ≤ n → n ≤ n2 → n2.toNat * de.bytes ≤ maxBytes → n2.toNat * de.size ≤ maxBytes → K (.ow b) ((b, some (.arr e true ty (List.replicate kk zz))) :: hp) .M = some z → Done P R cf (.makeSlice t l c) b tm m hv K z := by
          intro kk hkk h0 h1 h2 h3 hK
          obtain ⟨g1, g2⟩ := add_ok (x := .arr e true ty (List.replicate kk zz)) (k := arrOf e de.size true (List.replicate n.toNat de.zero)) hh hr (fresh_tm hf) (fun id y hy => fresh_hp hf hy) (by simp [idsB]) ⟨rfl, rfl, rfl, hE.size, by rw [hkk]; exact RLx.replicate hre _⟩
          refine ⟨_, _, _, .ar b 0 n.toNat, _, hK, ⟨n.toNat, rfl, fun bb hb => ?_⟩, g1, g2, fun KV hk => ?_⟩
          · rw [getB_cons, if_pos rfl] at hb
            cases hb
            simp [blen, hkk]
          · show caseO (nevM P (.makeSlice t l c) (opnd m) hv b) (fun z => z.2.length ≤ 16 ∧ KV z.1 (inst hv b z.2) .M)
            simp only [nevM, hl, hc, hE.el, hE.ty]
            rw [if_pos ⟨h0, h1, h2, h3, hsc⟩]
            exact ⟨by simp, hk⟩
        cases hs : sameOp l c with
        | true =>
          rw [hs] at h
          obtain ⟨kk, h1, h2⟩ := bind_some' (show ((lenI n2 de.bytes de.size).bind fun k => K (.ow b) ((b, some (.arr e true ty (List.replicate k zz))) :: hp) .M) = some z from h)
          obtain ⟨q1, q2, q3, q4⟩ := lenI_some h1
          have hn : n = n2 := by
            have : l = c := by
              unfold sameOp at hs
              split at hs
              · rw [Nat.eq_of_beq_eq_true hs]
              · cases hs
            subst this
            rw [e1] at e2
            cases e2
            rfl
          subst hn
          exact fin kk q4 q1 (Int.le_refl _) q2 q3 h2
        | false =>
          rw [hs] at h
          obtain ⟨kk, h1, h2⟩ := bind_some' (show ((lenI n2 de.bytes de.size).bind fun _ => cond (decide (0 ≤ n) && decide (n ≤ n2)) (K (.ow b) ((b, some (.arr e true ty (List.replicate n.toNat zz))) :: hp) .M) none) = some z from h)
          obtain ⟨q1, q2, q3, q4⟩ := lenI_some h1
          obtain ⟨c1, h2⟩ := cond_none' h2
          simp only [Bool.and_eq_true, decide_eq_true_eq] at c1
          exact fin n.toNat rfl c1.1 c1.2 q2 q3 h2
      · cases h
    · cases h
  · cases h

theorem closeCT_rel {x x' : SV} {y : V} {kills : List Nat} {deep : Bool} (hh : RH hp hv) (h : closeCT hp x = some (x', kills, deep)) (hx : RV0 hp x y) :
    ∃ y', closeCell hv y = some (y', kills, deep) ∧ RV0 hp x' y' ∧ ids0 x' = [] := by
  unfold closeCT at h
  split at h
  · cases h; have : y = _ := hx; subst this; exact ⟨_, rfl, rfl, rfl⟩
  · cases h; have : y = _ := hx; subst this; exact ⟨_, rfl, rfl, rfl⟩
  · cases h; have : y = _ := hx; subst this; exact ⟨_, rfl, rfl, rfl⟩
  · cases h; have : y = _ := hx; subst this; exact ⟨_, rfl, rfl, rfl⟩
  · cases h; have : y = _ := hx; subst this; exact ⟨_, rfl, rfl, rfl⟩
  · cases h
    rcases hx with ⟨rfl, rfl⟩ | ⟨rows, rfl, hr⟩
    · exact ⟨.em, rfl, .inl ⟨rfl, rfl⟩, rfl⟩
    · exact ⟨.im rows, rfl, .inr ⟨rows, rfl, hr⟩, rfl⟩
  · rename_i id
    obtain ⟨n, rfl, hlen⟩ := hx
    split at h
    · rename_i a dd t l hg
      cases h
      obtain ⟨k, hk, hrb⟩ := hh id _ hg
      have := hlen _ hg
      cases this
      have hrows : (k.rows.take (0 + l.length)).drop 0 = k.rows := by rw [Nat.zero_add, ← hrb.2.2.2.2.1]; simp
      refine ⟨.im k.rows, ?_, .inr ⟨_, rfl, hrb.2.2.2.2⟩, rfl⟩
      simp only [closeCell, hk, hrb.1, hrows, hrb.2.2.1]
    · rename_i a dd t l hg
      cases h
      obtain ⟨k, hk, hrb⟩ := hh id _ hg
      have := hlen _ hg
      cases this
      have hrows : (k.rows.take (0 + l.length)).drop 0 = k.rows := by rw [Nat.zero_add, ← hrb.2.2.2.2.1]; simp
      refine ⟨.im k.rows, ?_, .inr ⟨_, rfl, hrb.2.2.2.2⟩, rfl⟩
      simp only [closeCell, hk, hrb.1, hrows]
    · cases h
  · rename_i id lo n
    have : y = _ := hx
    subst this
    split at h
    · rename_i a dd t l hg
      cases h
      obtain ⟨k, hk, hrb⟩ := hh id _ hg
      refine ⟨.im ((k.rows.take (lo + n)).drop lo), ?_, .inr ⟨_, rfl, (hrb.2.2.2.2.take _).drop _⟩, rfl⟩
      simp only [closeCell, hk, hrb.1, hrb.2.2.1]
    · rename_i a dd t l hg
      cases h
      obtain ⟨k, hk, hrb⟩ := hh id _ hg
      refine ⟨.im ((k.rows.take (lo + n)).drop lo), ?_, .inr ⟨_, rfl, (hrb.2.2.2.2.take _).drop _⟩, rfl⟩
      simp only [closeCell, hk, hrb.1]
    · cases h
  · cases h

theorem closeLT_rel (hh : RH hp hv) : ∀ {xs xs' : List SV} {ys : List V} {kills : List Nat} {deep : Bool}, closeLT hp xs = some (xs', kills, deep) → RC (RV0 hp) xs ys →
    ∃ ys', closeCells hv ys = some (ys', kills, deep) ∧ RC (RV0 hp) xs' ys' ∧ xs'.flatMap ids0 = []
  | [], xs', ys, kills, deep, h, hc => by
    simp only [closeLT, Option.some.injEq, Prod.mk.injEq] at h
    obtain ⟨rfl, rfl, rfl⟩ := h
    cases ys with
    | nil => exact ⟨[], rfl, trivial, rfl⟩
    | cons a l => exact hc.elim
  | x :: xs, xs', ys, kills, deep, h, hc => by
    simp only [closeLT] at h
    split at h
    · rename_i x1 a d xs1 as ds h1 h2
      simp only [Option.some.injEq, Prod.mk.injEq] at h
      obtain ⟨rfl, rfl, rfl⟩ := h
      cases ys with
      | nil => exact hc.elim
      | cons y ys =>
        obtain ⟨y', q1, q2, q3⟩ := closeCT_rel hh h1 hc.1
        obtain ⟨ys', q4, q5, q6⟩ := closeLT_rel hh h2 hc.2
        exact ⟨y' :: ys', by simp only [closeCells, q1, q4], ⟨q2, q5⟩, by rw [List.flatMap_cons, q3, q6]; rfl⟩
    · cases h

theorem closeLT_ok : ∀ {xs xs' : List SV} {kills : List Nat} {deep : Bool}, closeLT hp xs = some (xs', kills, deep) → xs.all okT = true
  | [], _, _, _, _ => rfl
  | x :: xs, xs', kills, deep, h => by
    simp only [closeLT] at h
    split at h
    · rename_i x1 a d xs1 as ds h1 h2
      have : okT x = true := by
        cases x <;> first | rfl | (simp [closeCT] at h1; done) | skip
      simp only [List.all_cons, this, closeLT_ok h2, Bool.and_self]
    · cases h

theorem d_store {t : TypeId} {a x : Operand} (hX : XOK P X) (hh : RH hp hv) (hr : RT hp tm m) (h : wtOp X (.store t a x) b tm hp K = some z) : Done P R cf (.store t a x) b tm m hv K z := by
  simp only [wtOp, tStore] at h
  have ha := op_rel hr a
  have hx := op_rel hr x
  split at h
  · rename_i d id r c hd e1
    rw [e1] at ha
    have ha : opnd m a = .rf id r c := ha
    split at h
    · rename_i hlen
      have hlen := Nat.eq_of_beq_eq_true hlen
      split at h
      · rename_i ty cs hg
        split at h
        · split at h
          · rename_i hok
            split at h
            · rename_i cs' hput
              obtain ⟨kb, hkb, hk1, hk2, row, hk3, hk4, hk5⟩ := hh id _ hg
              obtain ⟨f1, f2⟩ := flat_rel hx hok
              obtain ⟨row', p1, p2⟩ := RC.put hput hk5 f1
              have hkeep : ∀ i, Keeps hp ((id, some (.box ty cs')) :: hp) i := fun i => keeps_same (y := .box ty cs') hg rfl i
              have hrl : row'.length = row.length := by
                have q1 := p2.length
                have q2 := hk5.length
                have q3 : cs'.length = cs.length := by
                  unfold putT at hput
                  split at hput
                  · cases hput; simp; omega
                  · cases hput
                omega
              refine ⟨_, _, _, .any, upd hv id (some { kb with rows := kb.rows.set 0 row' }), h, trivial, ?_, hr.keeps fun t i _ => hkeep i, fun KV hk => ?_⟩
              · exact hh.put (fun i _ => hkeep i) (fun _ _ _ _ i _ => hkeep i) ⟨hk1, hk2, row', by rw [hk3]; rfl, by show kb.size = _; rw [hk4, hrl], p2⟩
              · show weStore P t (opnd m a) (opnd m x) hv KV
                have hl : (flat (opnd m x)).length = d.size := by have := f1.length; omega
                simp only [weStore, hX.ty t d hd, ha, hkb, hk3, List.getElem?_cons_zero, hl, if_true, hk1, f2, p1]
                rw [hk3, hk1] at hk
                exact hk
            · cases h
          · cases h
        · cases h
      · rename_i ty deep e l hg
        obtain ⟨y, h1, h⟩ := bind_some' h
        split at h
        · rename_i cs kills deep' hcl
          split at h
          · rename_i hnd
            split at h
            · rename_i cs' hput
              split at h
              · rename_i zz hz
                obtain ⟨kb, hkb, hk1, hk2, hk3, hk4, hk5⟩ := hh id _ hg
                obtain ⟨f1, f2⟩ := flat_rel hx (closeLT_ok hcl)
                obtain ⟨ys, q1, q2, q3⟩ := closeLT_rel hh hcl f1
                obtain ⟨row, hrow, hre⟩ := hk5.get h1
                obtain ⟨row', p1, p2⟩ := RC.put hput hre.cells q2
                have hrz := decR_rel hz p2
                have hidk : id ∉ kills := by
                  simp only [nodupB, Bool.and_eq_true, Bool.not_eq_true', List.contains_eq_mem, decide_eq_false_iff_not] at hnd
                  exact hnd.1
                have hkeep : ∀ i, Keeps hp ((id, some (.arr ty (deep && deep') e (l.set r zz))) :: killT hp kills) i := by
                  intro i bb hbb
                  rw [getB_cons] at hbb
                  split at hbb
                  · rename_i hi; subst hi; cases hbb; exact ⟨_, hg, by simp [blen]⟩
                  · exact keeps_kill kills hp i bb hbb
                have hkeep' : ∀ i, Keeps (killT hp kills) ((id, some (.arr ty (deep && deep') e (l.set r zz))) :: killT hp kills) i := by
                  intro i bb hbb
                  rw [getB_cons] at hbb
                  split at hbb
                  · rename_i hi
                    subst hi
                    cases hbb
                    cases hgk : getB (killT hp kills) i with
                    | none =>
                      exfalso
                      have : ∀ (ks : List Nat) (hp : THp), i ∉ ks → getB (killT hp ks) i = getB hp i := by
                        intro ks
                        induction ks with
                        | nil => intro hp _; rfl
                        | cons q ks ih =>
                          intro hp hq
                          simp only [List.mem_cons, not_or] at hq
                          rw [killT, ih _ hq.2, getB_cons, if_neg hq.1]
                      rw [this kills hp hidk, hg] at hgk
                      cases hgk
                    | some b0 =>
                      have := (kill_get kills hp i b0 hgk).1
                      rw [hg] at this
                      cases this
                      exact ⟨_, rfl, by simp [blen]⟩
                  · exact ⟨bb, hbb, rfl⟩
                refine ⟨_, _, _, .any, upd (kill hv kills) id (some { kb with rows := kb.rows.set r row', deep := kb.deep && deep' }), h, trivial, ?_, hr.keeps fun t i _ => hkeep i, fun KV hk => ?_⟩
                · exact (hh.kill kills).put (fun i _ => hkeep' i) (fun _ _ _ _ i _ => hkeep' i) ⟨hk1, hk2, by show (kb.deep && deep') = _; rw [hk3], hk4, hk5.set r hrz⟩
                · show weStore P t (opnd m a) (opnd m x) hv KV
                  have hl : (flat (opnd m x)).length = d.size := by have := f1.length; omega
                  simp only [weStore, hX.ty t d hd, ha, hkb, hrow, hl, if_true, hk1, q1, hnd, p1]
                  rw [hk1] at hk
                  exact hk
              · cases h
            · cases h
          · cases h
        · cases h
      · cases h
    · cases h
  · cases h

theorem closePT_rel {e : Ty} {size : Nat} (hr : RT hp tm m) (hh : RH hp hv) (hs : size = e.size) : ∀ {parts : List (Nat × Operand)} {n : Nat} {l : List e.den} {kills : List Nat} {deep : Bool}, closePT hp tm e n parts = some (l, kills, deep) →
    ∃ rows, closeParts hv (opnd m) size n parts = some (rows, kills, deep) ∧ RLx (RE e) l rows
  | [], n, l, kills, deep, h => by
    simp only [closePT, Option.some.injEq, Prod.mk.injEq] at h
    obtain ⟨rfl, rfl, rfl⟩ := h
    exact ⟨[], rfl, RLx.nil⟩
  | (k, x) :: parts, n, l, kills, deep, h => by
    simp only [closePT] at h
    split at h
    · rename_i hc
      simp only [Bool.and_eq_true] at hc
      have h1 := Nat.eq_of_beq_eq_true hc.1
      have h2 := Nat.eq_of_beq_eq_true hc.2
      split at h
      · rename_i cs a d ys as ds g1 g2
        split at h
        · rename_i y hy
          simp only [Option.some.injEq, Prod.mk.injEq] at h
          obtain ⟨rfl, rfl, rfl⟩ := h
          obtain ⟨f1, f2⟩ := flat_rel (op_rel hr x) (closeLT_ok g1)
          obtain ⟨us, q1, q2, q3⟩ := closeLT_rel hh g1 f1
          obtain ⟨rows, q4, q5⟩ := closePT_rel hr hh hs g2
          refine ⟨us :: rows, ?_, RLx.cons (decR_rel hy q2) q5⟩
          simp only [closeParts, q1, q4]
          rw [if_pos ⟨h1, by have := f1.length; omega⟩]
        · cases h
      · cases h
    · cases h

theorem d_build {t : TypeId} {len : Nat} {parts : Array (Nat × Operand)} (hX : XOK P X) (hh : RH hp hv) (hr : RT hp tm m) (h : wtOp X (.buildSlice t len parts) b tm hp K = some z) :
    Done P R cf (.buildSlice t len parts) b tm m hv K z := by
  simp only [wtOp, tBuildSl] at h
  split at h
  · rename_i e de c he
    have hE := elem_ok hX he
    generalize hps : parts.toList = ps at h
    cases len with
    | zero =>
      cases ps with
      | nil =>
        refine ⟨_, _, _, .em, hv, h, rfl, hh, hr, fun KV hk => ?_⟩
        show weBuildSlice P t 0 parts.toList (opnd m) hv b KV
        rw [hps]
        simp only [weBuildSlice, hE.el, hE.ty, caseO_some, true_and]
        exact hk
      | cons a l => cases h
    | succ len =>
      simp only at h
      split at h
      · rename_i l kills deep hcl
        split at h
        · rename_i hc
          simp only [Bool.and_eq_true] at hc
          obtain ⟨⟨⟨c1, c2⟩, c3⟩, hf⟩ := hc
          have c1 := Nat.eq_of_beq_eq_true c1
          have c2 := Nat.le_of_ble_eq_true c2
          obtain ⟨rows, q1, q2⟩ := closePT_rel hr hh hE.size hcl
          obtain ⟨g1, g2⟩ := add_ok (x := .arr e deep c l) (k := arrOf e de.size deep rows) (hh.kill kills) (hr.keeps fun t i _ => keeps_kill kills hp i) (fresh_tm hf) (fun id y hy => fresh_kill hf hy) (by simp [idsB]) ⟨rfl, rfl, rfl, hE.size, q2⟩
          refine ⟨_, _, _, .ar b 0 (len + 1), _, h, ⟨len + 1, rfl, fun bb hb => ?_⟩, g1, g2, fun KV hk => ?_⟩
          · rw [getB_cons, if_pos rfl] at hb
            cases hb
            simp [blen, c1]
          · show weBuildSlice P t (len + 1) parts.toList (opnd m) hv b KV
            rw [hps]
            simp only [weBuildSlice, hE.el, hE.ty, caseO_some, q1]
            exact ⟨by rw [q2.1]; exact c1, by simpa using c2, c3, hk⟩
        · cases h
      · cases h
  · cases h

theorem src_rel {c : Ty} {d : TyD} {x : SV} {y : V} {l : List c.den} {kills : List Nat} {deep : Bool} (hh : RH hp hv) (hf : d.zero.all isVB = flatTy c) (h : srcT c x hp = some (l, kills, deep)) (hx : RV2 hp x y) :
    ∃ rows, RLx (RE c) l rows ∧ ∀ KV : List (List V) → List Nat → Bool → Prop, KV rows kills deep → srcRows d y hv KV := by
  have hsc : ∀ rows, flatTy c = true → RLx (RE c) l rows → scalarRows rows = true := by
    intro rows hfl hr
    refine List.all_eq_true.2 fun row hrow => ?_
    obtain ⟨i, hi⟩ := List.getElem?_of_mem hrow
    obtain ⟨a, _, hre⟩ := hr.get' hi
    exact flat_scalar hfl hre
  have im : ∀ rows, RLx (RE c) l rows → (d.zero.all isVB && scalarRows rows) = flatTy c := by
    intro rows hr
    rw [hf]
    cases hfl : flatTy c with
    | false => rfl
    | true => rw [hsc rows hfl hr]; rfl
  unfold srcT at h
  split at h
  · rename_i id
    obtain ⟨n, rfl, hlen⟩ := hx
    split at h
    · rename_i a dd t l0 hg
      obtain ⟨k, hk, hk1, hk2, hk3, hk4, hk5⟩ := hh id _ hg
      have := hlen _ hg
      cases this
      have hrows : (k.rows.take (0 + l0.length)).drop 0 = k.rows := by rw [Nat.zero_add, ← hk5.1]; simp
      split at h
      · rename_i he
        split at h
        · rename_i hfl
          simp only [Option.some.injEq, Prod.mk.injEq] at h
          obtain ⟨rfl, rfl, rfl⟩ := h
          have hr := castL_rel he hk5
          refine ⟨k.rows, hr, fun KV hK => ?_⟩
          simp only [srcRows, hk, hk1, hrows]
          rw [if_pos (by rw [hf]; exact hfl)]
          exact ⟨hsc _ hfl hr, hK⟩
        · rename_i hfl
          simp only [Option.some.injEq, Prod.mk.injEq] at h
          obtain ⟨rfl, rfl, rfl⟩ := h
          have hr := castL_rel he hk5
          refine ⟨k.rows, hr, fun KV hK => ?_⟩
          simp only [srcRows, hk, hk1, hrows]
          rw [if_neg (by rw [hf]; exact hfl), hk3]
          exact hK
      · cases h
    · rename_i a dd t l0 hg
      obtain ⟨k, hk, hk1, hk2, hk3, hk4, hk5⟩ := hh id _ hg
      have := hlen _ hg
      cases this
      have hrows : (k.rows.take (0 + l0.length)).drop 0 = k.rows := by rw [Nat.zero_add, ← hk5.1]; simp
      split at h
      · rename_i he
        simp only [Option.some.injEq, Prod.mk.injEq] at h
        obtain ⟨rfl, rfl, rfl⟩ := h
        have hr := castL_rel he hk5
        refine ⟨k.rows, hr, fun KV hK => ?_⟩
        simp only [srcRows, hk, hk1, hrows, im _ hr]
        exact hK
      · cases h
    · cases h
  · rename_i id lo n
    have hx : y = .ar id lo n := hx
    subst hx
    split at h
    · rename_i a dd t l0 hg
      obtain ⟨k, hk, hk1, hk2, hk3, hk4, hk5⟩ := hh id _ hg
      split at h
      · rename_i he
        split at h
        · rename_i hfl
          simp only [Option.some.injEq, Prod.mk.injEq] at h
          obtain ⟨rfl, rfl, rfl⟩ := h
          have hr := ((castL_rel he hk5).take (lo + n)).drop lo
          refine ⟨_, hr, fun KV hK => ?_⟩
          simp only [srcRows, hk, hk1]
          rw [if_pos (by rw [hf]; exact hfl)]
          exact ⟨hsc _ hfl hr, hK⟩
        · rename_i hfl
          simp only [Option.some.injEq, Prod.mk.injEq] at h
          obtain ⟨rfl, rfl, rfl⟩ := h
          have hr := ((castL_rel he hk5).take (lo + n)).drop lo
          refine ⟨_, hr, fun KV hK => ?_⟩
          simp only [srcRows, hk, hk1]
          rw [if_neg (by rw [hf]; exact hfl), hk3]
          exact hK
      · cases h
    · rename_i a dd t l0 hg
      obtain ⟨k, hk, hk1, hk2, hk3, hk4, hk5⟩ := hh id _ hg
      split at h
      · rename_i he
        simp only [Option.some.injEq, Prod.mk.injEq] at h
        obtain ⟨rfl, rfl, rfl⟩ := h
        have hr := ((castL_rel he hk5).take (lo + n)).drop lo
        refine ⟨_, hr, fun KV hK => ?_⟩
        simp only [srcRows, hk, hk1, im _ hr]
        exact hK
      · cases h
    · cases h
  · split at h
    · rename_i hl
      simp only [Option.some.injEq, Prod.mk.injEq] at h
      obtain ⟨rfl, rfl, rfl⟩ := h
      rename_i l'
      have hx0 : RV0 hp x y := asLh_cell (hpm := hp) (e := c) (l := l') (by unfold asLh; split <;> simp_all [asL]) hx
      rcases asL_rel hl hx0 with ⟨rfl, rfl⟩ | ⟨rows, rfl, hr⟩
      · exact ⟨[], RLx.nil, fun KV hK => by simp only [srcRows]; rw [hf]; exact hK⟩
      · exact ⟨rows, hr, fun KV hK => by simp only [srcRows]; rw [im _ hr]; exact hK⟩
    · cases h

theorem appL_some {β : Type} {bytes size : Nat} {l m r : List β} (h : appL bytes size l m = some r) : r = l ++ m ∧ (l.length + m.length) * bytes ≤ maxBytes ∧ (l.length + m.length) * size ≤ maxBytes := by
  unfold appL at h
  split at h
  · rename_i hc; cases h; exact ⟨rfl, hc⟩
  · cases h

theorem d_append {args : Array Operand} {ts : Array TypeId} (hX : XOK P X) (hh : RH hp hv) (hr : RT hp tm m) (h : wtOp X (.call { callee := .builtin .append, args := args, argTypes := ts }) b tm hp K = some z) :
    Done P R cf (.call { callee := .builtin .append, args := args, argTypes := ts }) b tm m hv K z := by
  simp only [wtOp] at h
  split at h
  · rename_i s x hargs
    unfold tAppend at h
    split at h
    · rename_i t t' hts
      split at h
      · rename_i htt
        have htt := Nat.eq_of_beq_eq_true htt
        split at h
        · rename_i e de c he
          have hE := elem_ok hX he
          split at h
          · rename_i mm kills deep hsrc
            obtain ⟨rows, r1, r2⟩ := src_rel (d := de) hh hE.flat hsrc (op_rel hr x)
            have hs := op_rel hr s
            have hrl : ∀ r ∈ rows, r.length = de.size := fun row hrow => by
              obtain ⟨i, hi⟩ := List.getElem?_of_mem hrow
              obtain ⟨a, _, hre⟩ := r1.get' hi
              rw [hre.len, hE.size]
            have step : ∀ KV : Cont, (∀ s', opnd m s = s' → srcRows de (opnd m x) hv fun rows kills deep =>
                match s' with
                | .em =>
                  rows.length * de.bytes ≤ maxBytes ∧ rows.length * de.size ≤ maxBytes ∧ (∀ r ∈ rows, r.length = de.size) ∧ nodupB kills = true ∧
                  KV (.ar b 0 rows.length) (upd (kill hv kills) b (some (arrOf e de.size deep rows))) (match kills with | [] => .M | _ => .E)
                | .ar id lo n =>
                  caseO (hv id) fun k =>
                    k.kind = .arr ∧ lo = 0 ∧ k.ty = e ∧ k.size = de.size ∧ nodupB (id :: kills) = true ∧
                    (n + rows.length) * de.bytes ≤ maxBytes ∧ (n + rows.length) * de.size ≤ maxBytes ∧ (∀ r ∈ rows, r.length = de.size) ∧
                    KV (.ar b 0 (n + rows.length)) (upd (kill hv (id :: kills)) b (some (arrOf e de.size (k.deep && deep) (k.rows.take n ++ rows)))) .E
                | _ => False) → weOp P R cf (.call { callee := .builtin .append, args := args, argTypes := ts }) b (opnd m) hv KV := by
              intro KV hK
              show (match args.toList with | [s, x] => weAppend P ts.toList (opnd m s) (opnd m x) hv b KV | _ => False)
              rw [hargs, hts]
              simp only [weAppend, hE.el, hE.ty, caseO_some]
              exact ⟨htt, hK _ rfl⟩
            have own : ∀ (id n ty : Nat) (d0 : Bool) (l : List c.den) (k : Blk), opnd m s = .ar id 0 n → hv id = some k → k.kind = .arr → k.ty = ty → k.deep = d0 → k.size = c.size → RLx (RE c) l (k.rows.take n) → l.length = n →
                (Nat.beq ty e && nodupB (id :: kills) && freshT tm hp b) = true → ((appL de.bytes de.size l mm).bind fun r => K (.ow b) ((b, some (.arr e (d0 && deep) c r)) :: killT hp (id :: kills)) .E) = some z →
                Done P R cf (.call { callee := .builtin .append, args := args, argTypes := ts }) b tm m hv K z := by
              intro id n ty d0 l k hs hk k1 k2 k3 k4 hl hln hc h
              simp only [Bool.and_eq_true] at hc
              obtain ⟨⟨c1, c2⟩, hf⟩ := hc
              have c1 := Nat.eq_of_beq_eq_true c1
              obtain ⟨r, a1, a2⟩ := bind_some' h
              obtain ⟨rfl, a3, a4⟩ := appL_some a1
              obtain ⟨g1, g2⟩ := add_ok (x := .arr e (d0 && deep) c (l ++ mm)) (k := arrOf e de.size (k.deep && deep) (k.rows.take n ++ rows)) (hh.kill (id :: kills)) (hr.keeps fun t i _ => keeps_kill (id :: kills) hp i) (fresh_tm hf) (fun id y hy => fresh_kill hf hy) (by simp [idsB])
                ⟨rfl, rfl, by show (k.deep && deep) = _; rw [k3], hE.size, hl.append r1⟩
              refine ⟨_, _, _, .ar b 0 (n + rows.length), _, a2, ⟨n + rows.length, rfl, fun bb hb => ?_⟩, g1, g2, fun KV hk' => step KV fun s' hs' => ?_⟩
              · rw [getB_cons, if_pos rfl] at hb
                cases hb
                simp [blen, hln, r1.1]
              · rw [hs] at hs'
                subst hs'
                refine r2 _ ?_
                simp only [hk, caseO_some]
                exact ⟨k1, trivial, by rw [k2, c1], by rw [k4, hE.size], c2, by rw [r1.1, ← hln]; exact a3, by rw [r1.1, ← hln]; exact a4, hrl, hk'⟩
            split at h
            · rename_i e1
              rw [e1] at hs
              have hs : opnd m s = .em := hs
              split at h
              · rename_i hc
                simp only [Bool.and_eq_true] at hc
                obtain ⟨c1, hf⟩ := hc
                obtain ⟨hroom, h⟩ := cond_none' h
                simp only [roomI, Bool.and_eq_true, decide_eq_true_eq] at hroom
                obtain ⟨g1, g2⟩ := add_ok (x := .arr e deep c mm) (k := arrOf e de.size deep rows) (hh.kill kills) (hr.keeps fun t i _ => keeps_kill kills hp i) (fresh_tm hf) (fun id y hy => fresh_kill hf hy) (by simp [idsB]) ⟨rfl, rfl, rfl, hE.size, r1⟩
                refine ⟨_, _, _, .ar b 0 rows.length, _, h, ⟨rows.length, rfl, fun bb hb => ?_⟩, g1, g2, fun KV hk => step KV fun s' hs' => ?_⟩
                · rw [getB_cons, if_pos rfl] at hb
                  cases hb
                  simp [blen, r1.1]
                · rw [hs] at hs'
                  subst hs'
                  refine r2 _ ?_
                  exact ⟨by rw [r1.1]; exact hroom.1, by rw [r1.1]; exact hroom.2, hrl, c1, hk⟩
              · cases h
            · rename_i id e1
              rw [e1] at hs
              obtain ⟨n, hs, hlen⟩ := hs
              split at h
              · rename_i ty d0 t0 l hg
                split at h
                · rename_i ht0
                  split at h
                  · rename_i hc
                    obtain ⟨k, hk, k1, k2, k3, k4, k5⟩ := hh id _ hg
                    have := hlen _ hg
                    cases this
                    subst ht0
                    exact own id l.length ty d0 l k hs hk k1 k2 k3 k4 (by have : k.rows.take l.length = k.rows := by rw [← k5.1]; simp
                                                                          rw [this]; exact k5) rfl hc h
                  · cases h
                · cases h
              · cases h
            · rename_i id n e1
              rw [e1] at hs
              have hs : opnd m s = .ar id 0 n := hs
              split at h
              · rename_i ty d0 t0 l hg
                split at h
                · rename_i ht0
                  split at h
                  · rename_i hc
                    obtain ⟨k, hk, k1, k2, k3, k4, k5⟩ := hh id _ hg
                    subst ht0
                    obtain ⟨hle, h⟩ := cond_none' h
                    have hle := of_decide_eq_true hle
                    exact own id n ty d0 (l.take n) k hs hk k1 k2 k3 k4 (k5.take n) (by simp; omega) hc h
                  · cases h
                · cases h
              · cases h
            · cases h
          · cases h
        · cases h
      · cases h
    · cases h
  · cases h
end
end Go.Proofs.Ytcmihlhmeonmfaa.Ev
