/- Operations that look at their operands alone come to what the evaluator says: all of them. -/
import Derived.Test.YtcmihlhmeonmfaaEv4
namespace Go.Proofs.Ytcmihlhmeonmfaa.Ev
open Go
set_option linter.unusedVariables false
set_option linter.unusedSimpArgs false

variable {P : Program} {w : World} {E : Env} {hp : Hp} {G : Nat → Prop}

theorem run_bound {ρ : Operand → V} {ρr : Operand → Value} (hρ : ∀ x, VR2 w E hp G (ρ x) (ρr x)) {x : Operand} {d l y : Nat} (h : bnd ρ (some x) d = some l) (hl : l ≤ y) (code : BoundsCode) :
    (Instr.sliceBound (ρr x) y code).run P w = .ok l w := by
  simp only [bnd] at h
  split at h
  · rename_i k n hx
    split at h
    · rename_i hn
      have hl' := Option.some.inj h
      subst hl'
      have h1 := hρ x
      rw [hx] at h1
      rw [(vr2_v h1).1]
      unfold Instr.sliceBound
      simp only [asIntOf, Sem.run_bind, Sem.run_pure, Result.andThen_ok]
      rw [if_pos ⟨hn, by omega⟩]
      rfl
    · cases h
  · cases h

/-- The bounds of 's[lo:hi]' without a third one. -/
theorem run_bounds {ρ : Operand → V} {ρr : Operand → Value} (hρ : ∀ x, VR2 w E hp G (ρ x) (ρr x)) {lo hi : Option Operand} {l h len cap : Nat} (sl : Bool) (h1 : bnd ρ lo 0 = some l) (h2 : bnd ρ hi len = some h) (hlh : l ≤ h) (hh : h ≤ cap) :
    (Instr.sliceBounds sl len cap (lo.map ρr) (hi.map ρr) none).run P w = .ok (l, h, cap) w := by
  unfold Instr.sliceBounds
  cases lo with
  | none =>
    simp only [bnd, Option.some.injEq] at h1
    subst h1
    cases hi with
    | none =>
      simp only [bnd, Option.some.injEq] at h2
      subst h2
      simp
    | some x => simp [run_bound hρ h2 hh]
  | some y =>
    cases hi with
    | none =>
      simp only [bnd, Option.some.injEq] at h2
      subst h2
      simp [run_bound hρ h1 hlh]
    | some x => simp [run_bound hρ h2 hh, run_bound hρ h1 hlh]

theorem vr2_im {rows : List (List V)} {y : Value} (h : VR2 w E hp G (.im rows) y) : ∃ a cap, y = .slice a rows.length cap ∧ rows.length ≤ cap := by
  have h : Rep w G (.im rows) y := h
  cases h with
  | im0 a cap => exact ⟨a, cap, rfl, by simp⟩
  | im b off cap size rows f hb h0 hr hc hl hcell hrep => exact ⟨_, cap, rfl, hr⟩

theorem vr2_em {y : Value} (h : VR2 w E hp G .em y) : ∃ a, y = .slice a 0 0 := by
  have h : Rep w G .em y := h
  cases h with
  | em a => exact ⟨a, rfl⟩

theorem vr2_ar {id lo n : Nat} {y : Value} (h : VR2 w E hp G (.ar id lo n) y) : ∃ a cap, y = .slice a n cap := by
  obtain ⟨a, cap, h, _⟩ := h
  exact ⟨a, cap, h⟩

theorem run_places {t : TypeId} {fs : Array Field} : ∀ {l : List Field} {r : List Fld}, fldsL P l = some r →
    (l.mapM fun f => (do pure (f.offset, ← sizeOf f.type) : Sem (Nat × Nat))).run P w = .ok (r.map fun f => (f.off, f.size)) w
  | [], r, h => by simp [fldsL] at h; subst h; rfl
  | g :: l, r, h => by
    simp only [fldsL] at h
    split at h
    · rename_i i u r' hi hu hr
      split at h
      · cases h
      · rename_i h0
        have hl := Option.some.inj h
        subst hl
        have ih := run_places (t := t) (fs := fs) hr
        simp only [List.mapM_cons, Sem.run_bind, sizeOf, run_info hi, Result.andThen_ok, Sem.run_pure, List.map_cons] at ih ⊢
        rw [ih]
        rfl
    · cases h

theorem ofCells_one : ∀ cs : List Value, (∀ c ∈ cs, c.oneCell' = true) → VL (fun x y => VR0 w E hp G x y ∧ y.oneCell' = true) (cs.map ofCell) cs
  | [], _ => trivial
  | c :: cs, h => ⟨⟨ofCell_rel c, h c (by simp)⟩, ofCells_one cs fun d hd => h d (by simp [hd])⟩

theorem zero_run {t : TypeId} {d : TyD} (h : tyOf P t = some d) : ∃ z, (zeroValue t).run P w = .ok z w ∧ VL (fun x y => VR0 w E hp G x y ∧ y.oneCell' = true) d.zero z.cells.toList ∧ z.cells.size = d.size := by
  obtain ⟨i, u, z, hi, hu, hz, h0, hs, h1, rfl⟩ := tyOf_some h
  refine ⟨z, ?_, ofCells_one _ h1, hs⟩
  unfold zeroValue
  simp only [Sem.run_bind, run_info hi, Result.andThen_ok, hz, Sem.run_pure]

theorem build_ok {t : TypeId} {parts : Array (Nat × Operand)} {ρ : Operand → V} {ρr : Operand → Value} {d : TyD} {cs : List V} (hρ : ∀ x, VR2 w E hp G (ρ x) (ρr x)) (hd : tyOf P t = some d) (hf : d.flds.isEmpty = false) (h : fillV d.flds ρ d.zero parts.toList = some cs) :
    ∃ y, (Instr.build t (parts.map fun (i, x) => (i, ρr x))).run P w = .ok y w ∧ VR2 w E hp G (.agg cs) y := by
  obtain ⟨z, hz, hzl, hzs⟩ := zero_run (w := w) (E := E) (hp := hp) (G := G) hd
  obtain ⟨i, u, z', hi, hu, hz', h0, hs, _, hdd⟩ := tyOf_some hd
  have hflds : d.flds = fldsD P u := by rw [hdd]
  cases u <;> try (simp [hflds, fldsD] at hf; done)
  rename_i fs
  cases hL : fldsL P fs.toList with
  | none => simp [hflds, fldsD, hL] at hf
  | some r =>
    have hr : d.flds = r := by simp [hflds, fldsD, hL]
    have hpl := run_places (t := t) (fs := fs) (w := w) hL
    have hm : (fs.mapM fun f => (do pure (f.offset, ← sizeOf f.type) : Sem (Nat × Nat))).run P w = .ok (r.map fun f => (f.off, f.size)).toArray w := by
      rw [← Array.toArray_toList (xs := fs), List.mapM_toArray]
      simp only [map_eq_pure_bind, Sem.run_bind, hpl, Result.andThen_ok, Sem.run_pure]
    obtain ⟨us', hfill, hvl⟩ := fill_rel hρ (fun k => (r.map fun f => (f.off, f.size)).toArray[k]?) (by
      intro k f hk
      rw [hr] at hk
      simp [hk]) parts.toList d.zero cs z.cells h (hzl.mono fun _ _ _ h => h.1)
    refine ⟨.agg us', ?_, ⟨us', rfl, hvl⟩⟩
    unfold Instr.build
    simp only [Sem.run_bind, hz, Result.andThen_ok, run_underlying hu, hm, Array.toList_map]
    have : (parts.toList.map fun x : Nat × Operand => match x with | (i, x) => (i, ρr x)) = parts.toList.map fun p => (p.1, ρr p.2) := rfl
    rw [this, hfill]
    rfl

/-- What an operation of this kind gives. -/
def Gives (P : Program) (w : World) (E : Env) (hp : Hp) (G : Nat → Prop) (op : Op) (ρr : Operand → Value) (x : V) : Prop :=
  ∀ o : Oper, o.op = op → ∃ y, (execOp ρr o).run P w = .ok (.value y) w ∧ VR2 w E hp G x y

theorem gives_of {op : Op} {ρr : Operand → Value} {x : V} (h : ∃ s : Sem Value, (∀ o : Oper, o.op = op → execOp ρr o = (do pure (Next.value (← s)))) ∧ ∃ y, s.run P w = .ok y w ∧ VR2 w E hp G x y) : Gives P w E hp G op ρr x := by
  obtain ⟨s, hs, y, hy, hv⟩ := h
  intro o ho
  exact ⟨y, by rw [hs o ho]; exact run_v hy, hv⟩

theorem execOp_eq {op : Op} {ρr : Operand → Value} {s : Sem Value} (h : ∀ o : Oper, o.op = op → execOp ρr o = (do pure (Next.value (← s)))) : ∀ o : Oper, o.op = op → execOp ρr o = (do pure (Next.value (← s))) := h

variable {ρ : Operand → V} {ρr : Operand → Value}

theorem scalar_pure {s : Sem Value} {x : V} (h : (pureRun P s).bind ofScalar = some x) : ∃ y, s.run P w = .ok y w ∧ VR2 w E hp G x y := by
  cases hs : pureRun P s with
  | none => simp [hs] at h
  | some y =>
    rw [hs, Option.bind_some] at h
    exact ⟨y, pureRun_run s y hs w, ofScalar_rel h⟩

theorem toVals_map {xs : List Operand} {l : List Value} (hρ : ∀ x, VR2 w E hp G (ρ x) (ρr x)) (h : toVals (xs.map ρ) = some l) : xs.map ρr = l := by
  induction xs generalizing l with
  | nil => simp [toVals] at h; simp [h]
  | cons x xs ih =>
    simp only [List.map_cons] at h ⊢
    have hx := hρ x
    generalize hz : ρ x = z at h hx
    cases z with
    | v a =>
      simp only [toVals] at h
      split at h
      · rename_i r hr
        rw [← Option.some.inj h, ih hr, (vr2_v hx).1]
      · cases h
    | _ => simp [toVals] at h

theorem vl_map {xs : List Operand} (hρ : ∀ x, VR2 w E hp G (ρ x) (ρr x)) (h : (xs.map ρ).all okCell = true) : VL (VR0 w E hp G) (xs.map ρ) (xs.map ρr) := by
  induction xs with
  | nil => exact trivial
  | cons x xs ih =>
    simp only [List.map_cons, List.all_cons, Bool.and_eq_true] at h ⊢
    exact ⟨VR2.to0 h.1 (hρ x), ih h.2⟩

theorem field_ok {t : TypeId} {d : TyD} {k : Nat} {f : Fld} {cs : List V} {z : V} {y : Value} (hd : tyOf P t = some d) (hk : d.flds[k]? = some f) (hy : VR2 w E hp G (.agg cs) y) (h : (seg cs f.off f.size).bind (mk f.agg) = some z) :
    ∃ u, (Instr.field t y k).run P w = .ok u w ∧ VR2 w E hp G z u := by
  obtain ⟨us, rfl, hl⟩ := hy
  obtain ⟨fs, g, i, u, hu, hg, ho, ht, hi, hs, h0, hu', ha⟩ := flds_under hd hk
  cases hseg : seg cs f.off f.size with
  | none => simp [hseg] at h
  | some l =>
    rw [hseg, Option.bind_some] at h
    rw [← hs] at hseg
    rw [ha] at h
    obtain ⟨v, hv, hr⟩ := run_part_rel (w := w) hi hu' hseg h hl
    refine ⟨v, ?_, hr⟩
    unfold Instr.field
    simp only [Sem.run_bind, run_underlying hu, Result.andThen_ok, hg, asAgg, Sem.run_pure, ho, ht]
    exact hv

theorem fieldPlace_ok {g : Field} {i : TypeInfo} (hi : P.info? g.type = some i) (h0 : i.size ≠ 0) (b o : Nat) : (fieldPlace ⟨b, o, none⟩ g).run P w = .ok ⟨b, o + g.offset, none⟩ w := by
  unfold fieldPlace
  simp only [Sem.run_bind, sizeOf, run_info hi, Result.andThen_ok, Sem.run_pure, h0, if_false]
  unfold Addr.add
  split <;> simp_all

theorem fieldAt_ok {t : TypeId} {d : TyD} {k : Nat} {f : Fld} (hd : tyOf P t = some d) (hk : d.flds[k]? = some f) (b o : Nat) :
    (Instr.fieldAt t (.pointer (some ⟨b, o, none⟩)) k).run P w = .ok (.pointer (some ⟨b, o + f.off, none⟩)) w := by
  obtain ⟨fs, g, i, u, hu, hg, ho, ht, hi, hs, h0, hu', ha⟩ := flds_under hd hk
  unfold Instr.fieldAt
  simp only [Sem.run_bind, run_underlying hu, Result.andThen_ok, hg, Instr.sureAddr, Sem.run_pure, fieldPlace_ok (w := w) (by rw [ht]; exact hi) (by rw [hs]; exact h0) b o, ho]

theorem T_ok {op : Op} {x : V} (hρ : ∀ x, VR2 w E hp G (ρ x) (ρr x)) (h : nevT P op ρ = some x) : Gives P w E hp G op ρr x := by
  cases op with
  | move a =>
    have h := Option.some.inj h
    subst h
    intro o ho
    exact ⟨ρr a, by simp [execOp, ho], hρ a⟩
  | assign a =>
    have h := Option.some.inj h
    subst h
    intro o ho
    exact ⟨ρr a, by simp [execOp, ho], hρ a⟩
  | pick c a b =>
    simp only [nevT] at h
    split at h
    · rename_i t hc
      have h := Option.some.inj h
      subst h
      intro o ho
      have h1 := hρ c
      rw [hc] at h1
      refine ⟨if t then ρr a else ρr b, ?_, ?_⟩
      · simp only [execOp, ho, (vr2_v h1).1, asBool, Sem.run_bind, Sem.run_pure, Result.andThen_ok]
      · cases t <;> simp [hρ]
    · cases h
  | build t parts =>
    simp only [nevT] at h
    split at h
    · rename_i d hd
      split at h
      · rename_i hc
        simp only [Bool.and_eq_true, Bool.not_eq_true'] at hc
        cases hf : fillV d.flds ρ d.zero parts.toList with
        | none => simp [hf] at h
        | some cs =>
          rw [hf] at h
          have h := Option.some.inj h
          subst h
          exact gives_of ⟨_, fun o ho => by simp only [execOp, ho] <;> rfl, build_ok hρ hd hc.2 hf⟩
      · cases h
    · cases h
  | nilCheck a =>
    simp only [nevT] at h
    have ha := hρ a
    split at h
    · rename_i id r c hx
      have h := Option.some.inj h
      subst h
      rw [hx] at ha
      intro o ho
      have ha' := ha
      obtain ⟨b, off, hy, _⟩ := ha'
      refine ⟨ρr a, ?_, ha⟩
      simp only [execOp, ho, hy, Sem.run_pure]
    · rename_i row c hx
      have h := Option.some.inj h
      subst h
      rw [hx] at ha
      intro o ho
      have ha' := ha
      obtain ⟨b, off, f, _, hy, _⟩ := ha'
      refine ⟨ρr a, ?_, ha⟩
      simp only [execOp, ho, hy, Sem.run_pure]
    · rename_i f caps hx
      have h := Option.some.inj h
      subst h
      rw [hx] at ha
      intro o ho
      have ha' := ha
      obtain ⟨us, hy, _⟩ := ha'
      refine ⟨ρr a, ?_, ha⟩
      simp only [execOp, ho, hy, Sem.run_pure]
    · cases h
  | binOp b t a c yt =>
    simp only [nevT] at h
    split at h
    · rename_i u v hu hv
      have h1 := toVal_rel hu (hρ a)
      have h2 := toVal_rel hv (hρ c)
      refine gives_of ⟨_, fun o ho => by simp only [execOp, ho] <;> rfl, ?_⟩
      rw [h1, h2]
      exact scalar_pure h
    · cases h
  | unOp u t a =>
    simp only [nevT] at h
    split at h
    · rename_i v hv
      have h1 := hρ a
      rw [hv] at h1
      refine gives_of ⟨_, fun o ho => by simp only [execOp, ho] <;> rfl, ?_⟩
      rw [(vr2_v h1).1]
      exact scalar_pure h
    · cases h
  | convert s d a =>
    simp only [nevT] at h
    split at h
    · rename_i v hv
      have h1 := hρ a
      rw [hv] at h1
      refine gives_of ⟨_, fun o ho => by simp only [execOp, ho] <;> rfl, ?_⟩
      rw [(vr2_v h1).1]
      exact scalar_pure h
    · cases h
  | field t a k =>
    simp only [nevT] at h
    split at h
    · rename_i cs d hx hd
      split at h
      · rename_i f hk
        have h1 := hρ a
        rw [hx] at h1
        exact gives_of ⟨_, fun o ho => by simp only [execOp, ho] <;> rfl, field_ok hd hk h1 h⟩
      · cases h
    · cases h
  | fieldAddr t a k =>
    simp only [nevT] at h
    split at h
    · rename_i d hd
      split at h
      · rename_i f id r c hk hx
        have h := Option.some.inj h
        subst h
        have h1 := hρ a
        rw [hx] at h1
        obtain ⟨b, off, hy, hrel⟩ := h1
        refine gives_of ⟨_, fun o ho => by simp only [execOp, ho] <;> rfl, ?_⟩
        rw [hy]
        exact ⟨_, fieldAt_ok hd hk b off, b, off + f.off, rfl, fun k hk => by obtain ⟨h1, h2⟩ := hrel k hk; exact ⟨h1, by omega⟩⟩
      · rename_i f row c hk hx
        have h := Option.some.inj h
        subst h
        have h1 := hρ a
        rw [hx] at h1
        obtain ⟨b, off, g, hg, hy, hrel⟩ := h1
        refine gives_of ⟨_, fun o ho => by simp only [execOp, ho] <;> rfl, ?_⟩
        rw [hy]
        exact ⟨_, fieldAt_ok hd hk b (off + c), b, off, g, hg, by rw [Nat.add_assoc], hrel⟩
      · cases h
    · cases h
  | index t a i =>
    simp only [nevT] at h
    split at h
    · rename_i s k n hs ha hi
      split at h
      · rename_i hn
        have h := Option.some.inj h
        subst h
        have h1 := hρ a
        have h2 := hρ i
        rw [ha] at h1
        rw [hi] at h2
        refine gives_of ⟨_, fun o ho => by simp only [execOp, ho] <;> rfl, ?_⟩
        rw [(vr2_v h1).1, (vr2_v h2).1]
        refine ⟨_, ?_, Rep.v _ rfl⟩
        unfold Instr.index
        simp only [asIntOf, Sem.run_bind, Sem.run_pure, Result.andThen_ok, run_underlying (str_under hs), if_pos hn.1]
        have : s[n.toNat]? = some (s[n.toNat]'hn.2) := getElem?_pos s n.toNat hn.2
        rw [this]
        rfl
      · cases h
    · cases h
  | indexAddr t a i =>
    simp only [nevT] at h
    split at h
    · rename_i rows k n ha hi
      split at h
      · rename_i e he
        split at h
        · rename_i d hd
          split at h
          · rename_i hn
            split at h
            · rename_i hlen
              have h := Option.some.inj h
              subst h
              have h1 := hρ a
              have h2 := hρ i
              rw [ha] at h1
              rw [hi] at h2
              refine gives_of ⟨_, fun o ho => by simp only [execOp, ho] <;> rfl, ?_⟩
              rw [(vr2_v h2).1]
              have h1 : Rep w G (.im rows) (ρr a) := h1
              generalize hy : ρr a = y at h1
              cases h1 with
              | im0 a cap => simp at hn
              | im b off cap size rows f hb h0 hr hc hl hcell hrep =>
                have hrow : rows[n.toNat]? = some (rows[n.toNat]'hn.2) := getElem?_pos rows n.toNat hn.2
                have hsz : size = d.size := by rw [← hl _ _ hrow]; exact hlen
                refine ⟨.pointer (some ⟨b, off + n.toNat * size, none⟩), ?_, b, off + n.toNat * size, f n.toNat, hb, rfl, fun j x hx => ⟨hcell _ _ _ _ hrow hx, hrep _ _ _ _ hrow hx⟩⟩
                unfold Instr.indexAt
                simp only [asIntOf, Sem.run_bind, Sem.run_pure, Result.andThen_ok, run_underlying (elem_under he)]
                rw [if_pos ⟨hn.1, by have := hn.2; omega⟩]
                simp only [Sem.run_bind, run_size hd, Result.andThen_ok, Sem.run_pure]
                rw [← hsz]
                unfold Addr.add
                split <;> simp_all
            · cases h
          · cases h
        · cases h
      · cases h
    · cases h
  | slice t a lo hi mx =>
    cases mx with
    | none =>
      simp only [nevT] at h
      split at h
      · rename_i s hs ha
        split at h
        · rename_i l r hl hr
          split at h
          · rename_i hb
            have h := Option.some.inj h
            subst h
            have h1 := hρ a
            rw [ha] at h1
            refine gives_of ⟨_, fun o ho => by simp only [execOp, ho] <;> rfl, ?_⟩
            rw [(vr2_v h1).1]
            refine ⟨_, ?_, Rep.v _ rfl⟩
            unfold Instr.sliceAt
            simp only [Sem.run_bind, run_underlying (str_under hs), Result.andThen_ok, Option.map_none]
            unfold Instr.slice
            simp only [Sem.run_bind, run_underlying (str_under hs), Result.andThen_ok, Option.isSome_none, Bool.false_eq_true, if_false, Sem.run_pure]
            rw [run_bounds hρ false hl hr hb.1 hb.2]
            rfl
          · cases h
        · cases h
      · cases h
    | some m =>
      cases hi with
      | none => simp [nevT] at h
      | some h' =>
      simp only [nevT] at h
      split at h
      · rename_i d rows hd ha
        split at h
        · rename_i l r q hl hr hq
          split at h
          · rename_i hb
            have h := Option.some.inj h
            subst h
            obtain ⟨hlr, hrq, hqn⟩ := hb
            have h1 := hρ a
            rw [ha] at h1
            obtain ⟨ad, cap, hy, hcap⟩ := vr2_im h1
            refine gives_of ⟨_, fun o ho => by simp only [execOp, ho] <;> rfl, ?_⟩
            rw [hy]
            cases he : (tyOf P t).bind (·.elem) with
            | none => rw [he] at hd; cases hd
            | some e =>
              rw [he, Option.bind_some] at hd
              refine ⟨.slice ad 0 0, ?_, Rep.em ad⟩
              unfold Instr.sliceAt
              simp only [Sem.run_bind, run_underlying (elem_under he), Result.andThen_ok, Option.map_some]
              unfold Instr.slice
              simp only [Sem.run_bind, run_underlying (elem_under he), Result.andThen_ok]
              have hbd : (Instr.sliceBounds true rows.length cap (lo.map ρr) (some (ρr h')) (some (ρr m))).run P w = .ok (l, r, q) w := by
                unfold Instr.sliceBounds
                simp only [Sem.run_bind, run_bound hρ hq (Nat.le_trans hqn hcap), Result.andThen_ok, Option.map_some, run_bound hρ hr (Nat.le_of_eq hrq)]
                cases lo with
                | none =>
                  simp only [bnd, Option.some.injEq] at hl
                  subst hl
                  simp
                | some y => simp [run_bound hρ hl (Nat.le_of_eq hlr)]
              rw [hbd]
              simp only [Result.andThen_ok, Sem.run_bind, run_size hd, Sem.run_pure]
              rw [if_pos (by omega)]
              simp; omega
          · cases h
        · cases h
      · rename_i d hd ha
        split at h
        · rename_i l r q hl hr hq
          split at h
          · rename_i hb
            have h := Option.some.inj h
            subst h
            obtain ⟨hlr, hrq, hqn⟩ := hb
            have h1 := hρ a
            rw [ha] at h1
            obtain ⟨ad, hy⟩ := vr2_em h1
            have hcap : (0 : Nat) ≤ 0 := Nat.le_refl 0
            refine gives_of ⟨_, fun o ho => by simp only [execOp, ho] <;> rfl, ?_⟩
            rw [hy]
            cases he : (tyOf P t).bind (·.elem) with
            | none => rw [he] at hd; cases hd
            | some e =>
              rw [he, Option.bind_some] at hd
              refine ⟨.slice ad 0 0, ?_, Rep.em ad⟩
              unfold Instr.sliceAt
              simp only [Sem.run_bind, run_underlying (elem_under he), Result.andThen_ok, Option.map_some]
              unfold Instr.slice
              simp only [Sem.run_bind, run_underlying (elem_under he), Result.andThen_ok]
              have hbd : (Instr.sliceBounds true 0 0 (lo.map ρr) (some (ρr h')) (some (ρr m))).run P w = .ok (l, r, q) w := by
                unfold Instr.sliceBounds
                simp only [Sem.run_bind, run_bound hρ hq (Nat.le_trans hqn hcap), Result.andThen_ok, Option.map_some, run_bound hρ hr (Nat.le_of_eq hrq)]
                cases lo with
                | none =>
                  simp only [bnd, Option.some.injEq] at hl
                  subst hl
                  simp
                | some y => simp [run_bound hρ hl (Nat.le_of_eq hlr)]
              rw [hbd]
              simp only [Result.andThen_ok, Sem.run_bind, run_size hd, Sem.run_pure]
              rw [if_pos (by omega)]
              simp; omega
          · cases h
        · cases h
      · cases h
  | extract a k =>
    simp only [nevT] at h
    split at h
    · rename_i vs hx
      have h1 := hρ a
      rw [hx] at h1
      obtain ⟨us, hy, hl⟩ := h1
      obtain ⟨u, hu, hr⟩ := hl.get k x h
      refine gives_of ⟨_, fun o ho => by simp only [execOp, ho] <;> rfl, ?_⟩
      rw [hy]
      refine ⟨u, ?_, hr.to2⟩
      unfold Instr.extract
      have : us[k]? = some u := by simpa using hu
      simp [this]
    · cases h
  | makeFunc fn first caps =>
    cases fn with
    | func f =>
      simp only [nevT] at h
      split at h
      · rename_i hc
        have h := Option.some.inj h
        subst h
        simp only [Bool.and_eq_true] at hc
        refine gives_of ⟨_, fun o ho => by simp only [execOp, ho] <;> rfl, ?_⟩
        have h0 : first = #[] := by simpa using hc.1
        subst h0
        refine ⟨_, rfl, caps.map ρr, ?_, ?_⟩
        · simp
        · simpa using vl_map hρ hc.2
      · cases h
    | _ => simp [nevT] at h
  | call c =>
    obtain ⟨callee, args, tys⟩ := c
    cases callee with
    | value f => simp [nevT] at h
    | invoke r m => simp [nevT] at h
    | builtin b =>
      cases b with
      | len =>
        simp only [nevT] at h
        split at h
        · rename_i a t hargs htys
          have ha : args = #[a] := by apply Array.ext'; simpa using hargs
          have ht : tys = #[t] := by apply Array.ext'; simpa using htys
          subst ha; subst ht
          have hlen : ∀ y, (Builtin.len_ #[t] 0 #[ρr a]).run P w = .ok y w → ∀ o : Oper, o.op = .call { callee := .builtin .len, args := #[a], argTypes := #[t] } → (execOp ρr o).run P w = .ok (.value y) w := by
            intro y hy o ho
            simp only [execOp, ho, resolve, invoke, builtin, Sem.run_bind, Sem.run_pure, Result.andThen_ok, List.map_toArray, List.map_cons, List.map_nil]
            have : (Builtin.len_ #[t] o.type #[ρr a]).run P w = .ok y w := hy
            rw [this]; rfl
          have h1 := hρ a
          split at h
          · rename_i rows hs hx
            have h := Option.some.inj h
            subst h
            rw [hx] at h1
            obtain ⟨ad, cap, hy, _⟩ := vr2_im h1
            obtain ⟨e, hu⟩ := sl_under hs
            intro o ho
            refine ⟨_, hlen (.int .i64 rows.length) ?_ o ho, Rep.v _ rfl⟩
            simp [Builtin.len_, run_underlying hu, hy, goInt]
          · rename_i hs hx
            have h := Option.some.inj h
            subst h
            rw [hx] at h1
            obtain ⟨ad, hy⟩ := vr2_em h1
            obtain ⟨e, hu⟩ := sl_under hs
            intro o ho
            refine ⟨_, hlen (.int .i64 0) ?_ o ho, Rep.v _ rfl⟩
            simp [Builtin.len_, run_underlying hu, hy, goInt]
          · rename_i id lo n hs hx
            have h := Option.some.inj h
            subst h
            rw [hx] at h1
            obtain ⟨ad, cap, hy⟩ := vr2_ar h1
            obtain ⟨e, hu⟩ := sl_under hs
            intro o ho
            refine ⟨_, hlen (.int .i64 n) ?_ o ho, Rep.v _ rfl⟩
            simp [Builtin.len_, run_underlying hu, hy, goInt]
          · rename_i s hs hx
            have h := Option.some.inj h
            subst h
            rw [hx] at h1
            intro o ho
            refine ⟨_, hlen (.int .i64 s.size) ?_ o ho, Rep.v _ rfl⟩
            simp [Builtin.len_, run_underlying (str_under hs), (vr2_v h1).1, goInt]
          · cases h
        · cases h
      | min =>
        simp only [nevT] at h
        split at h
        · rename_i xs hxs
          have hm := toVals_map hρ hxs
          obtain ⟨y, hy, hv⟩ := scalar_pure (w := w) (E := E) (hp := hp) (G := G) h
          intro o ho
          refine ⟨y, ?_, hv⟩
          simp only [execOp, ho, resolve, invoke, builtin, Sem.run_bind, Sem.run_pure, Result.andThen_ok]
          have : args.map ρr = xs.toArray := by apply Array.ext'; simpa using hm
          rw [this]
          have : (Builtin.min_ tys o.type xs.toArray).run P w = .ok y w := hy
          rw [this]; rfl
        · cases h
      | max =>
        simp only [nevT] at h
        split at h
        · rename_i xs hxs
          have hm := toVals_map hρ hxs
          obtain ⟨y, hy, hv⟩ := scalar_pure (w := w) (E := E) (hp := hp) (G := G) h
          intro o ho
          refine ⟨y, ?_, hv⟩
          simp only [execOp, ho, resolve, invoke, builtin, Sem.run_bind, Sem.run_pure, Result.andThen_ok]
          have : args.map ρr = xs.toArray := by apply Array.ext'; simpa using hm
          rw [this]
          have : (Builtin.max_ tys o.type xs.toArray).run P w = .ok y w := hy
          rw [this]; rfl
        · cases h
      | _ => simp [nevT] at h
  | _ => simp [nevT] at h

end Go.Proofs.Ytcmihlhmeonmfaa.Ev
