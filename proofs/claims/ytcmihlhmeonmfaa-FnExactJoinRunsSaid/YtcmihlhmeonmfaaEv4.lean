/- Operations that look at their operands alone come to what the evaluator says. -/
import Derived.Test.YtcmihlhmeonmfaaEv3
namespace Go.Proofs.Ytcmihlhmeonmfaa.Ev
open Go
set_option linter.unusedVariables false
set_option linter.unusedSimpArgs false

variable {P : Program} {w : World} {E : Env} {hp : Hp} {G : Nat → Prop}

theorem pureRun_run {α : Type} : ∀ (s : Sem α) (a : α), pureRun P s = some a → ∀ w, s.run P w = .ok a w
  | .pure b, a, h, w => by simp [pureRun] at h; subst h; rfl
  | .program k, a, h, w => by
    have ih := pureRun_run (k P) a (by simpa [pureRun] using h) w
    simpa [Sem.run] using ih
  | .load .., _, h, _ => by simp [pureRun] at h
  | .store .., _, h, _ => by simp [pureRun] at h
  | .new .., _, h, _ => by simp [pureRun] at h
  | .shape .., _, h, _ => by simp [pureRun] at h
  | .freeze .., _, h, _ => by simp [pureRun] at h
  | .frozen .., _, h, _ => by simp [pureRun] at h
  | .getObj .., _, h, _ => by simp [pureRun] at h
  | .setObj .., _, h, _ => by simp [pureRun] at h
  | .choose .., _, h, _ => by simp [pureRun] at h
  | .sys .., _, h, _ => by simp [pureRun] at h
  | .mark .., _, h, _ => by simp [pureRun] at h
  | .halt .., _, h, _ => by simp [pureRun] at h

theorem tyOf_some {t : TypeId} {d : TyD} (h : tyOf P t = some d) : ∃ i u z, P.info? t = some i ∧ P.underlying t = some u ∧ i.zero = some z ∧ i.size ≠ 0 ∧ z.cells.size = i.size ∧ (∀ c ∈ z.cells.toList, c.oneCell' = true) ∧
    d = { size := i.size, bytes := i.bytes, agg := isAggD u, zero := z.cells.toList.map ofCell, elem := elemD u, str := strD u, int := intD u, flds := fldsD P u } := by
  unfold tyOf at h
  split at h
  · rename_i i u hi hu
    split at h
    · rename_i z hz
      split at h
      · cases h
      · rename_i hn
        simp only [not_or, ne_eq, Decidable.not_not, Bool.not_eq_false, List.all_eq_true] at hn
        exact ⟨i, u, z, hi, hu, hz, hn.1, hn.2.1, hn.2.2, (Option.some.inj h).symm⟩
    · cases h
  · cases h

theorem tyOf_pos {t : TypeId} {d : TyD} (h : tyOf P t = some d) : 0 < d.size := by
  obtain ⟨i, u, z, _, _, _, h0, _, _, rfl⟩ := tyOf_some h
  exact Nat.pos_of_ne_zero h0

theorem run_prog (w : World) : (program : Sem Program).run P w = .ok P w := rfl

theorem run_info {t : TypeId} {i : TypeInfo} (h : P.info? t = some i) (w : World) : (typeInfo t).run P w = .ok i w := by
  unfold typeInfo
  simp only [Sem.run_bind, run_prog, Result.andThen_ok, h, Sem.run_pure]

theorem run_size {t : TypeId} {d : TyD} (h : tyOf P t = some d) (w : World) : (sizeOf t).run P w = .ok d.size w := by
  obtain ⟨i, u, z, hi, _, _, h0, _, _, rfl⟩ := tyOf_some h
  simp only [sizeOf, Sem.run_bind, run_info hi, Result.andThen_ok, Sem.run_pure]

theorem run_agg {t : TypeId} {d : TyD} (h : tyOf P t = some d) (w : World) : (isAgg t).run P w = .ok d.agg w := by
  obtain ⟨i, u, z, _, hu, _, h0, _, _, rfl⟩ := tyOf_some h
  unfold isAgg
  simp only [Sem.run_bind, run_underlying hu, Result.andThen_ok]
  cases u <;> rfl

theorem elem_under {t e : TypeId} (h : (tyOf P t).bind (·.elem) = some e) : P.underlying t = some (.slice e) := by
  cases ht : tyOf P t with
  | none => simp [ht] at h
  | some d =>
    obtain ⟨i, u, z, _, hu, _, h0, _, _, rfl⟩ := tyOf_some ht
    rw [ht] at h
    cases u <;> simp [elemD] at h
    rw [hu, h]

theorem str_under {t : TypeId} (h : isStr P t = true) : P.underlying t = some .string := by
  unfold isStr at h
  cases ht : tyOf P t with
  | none => simp [ht] at h
  | some d =>
    obtain ⟨i, u, z, _, hu, _, h0, _, _, rfl⟩ := tyOf_some ht
    rw [ht] at h
    cases u <;> simp [strD] at h
    exact hu

theorem sl_under {t : TypeId} (h : isSl P t = true) : ∃ e, P.underlying t = some (.slice e) := by
  unfold isSl at h
  cases ht : tyOf P t with
  | none => simp [ht] at h
  | some d =>
    rw [ht] at h
    cases he : d.elem with
    | none => simp [he] at h
    | some e => exact ⟨e, elem_under (by simp [ht, he])⟩

theorem fldsL_get : ∀ {fs : List Field} {l : List Fld}, fldsL P fs = some l → l.length = fs.length ∧ ∀ (k : Nat) (f : Fld), l[k]? = some f →
    ∃ g i u, fs[k]? = some g ∧ g.offset = f.off ∧ g.type = f.ty ∧ P.info? f.ty = some i ∧ i.size = f.size ∧ f.size ≠ 0 ∧ P.underlying f.ty = some u ∧ f.agg = isAggD u
  | [], l, h => by simp [fldsL] at h; subst h; exact ⟨rfl, fun k f hk => by simp at hk⟩
  | g :: fs, l, h => by
    simp only [fldsL] at h
    split at h
    · rename_i i u r hi hu hr
      split at h
      · cases h
      · rename_i h0
        have hl := Option.some.inj h
        subst hl
        obtain ⟨h1, h2⟩ := fldsL_get hr
        refine ⟨by simp [h1], fun k f hk => ?_⟩
        cases k with
        | zero =>
          simp at hk
          subst hk
          exact ⟨g, i, u, by simp, rfl, rfl, hi, rfl, h0, hu, rfl⟩
        | succ k => simpa using h2 k f (by simpa using hk)
    · cases h

theorem flds_under {t : TypeId} {d : TyD} {k : Nat} {f : Fld} (h : tyOf P t = some d) (hk : d.flds[k]? = some f) :
    ∃ fs g i u, P.underlying t = some (.struct fs) ∧ fs[k]? = some g ∧ g.offset = f.off ∧ g.type = f.ty ∧ P.info? f.ty = some i ∧ i.size = f.size ∧ f.size ≠ 0 ∧ P.underlying f.ty = some u ∧ f.agg = isAggD u := by
  obtain ⟨i, u, z, _, hu, _, h0, _, _, rfl⟩ := tyOf_some h
  cases u <;> simp [fldsD] at hk
  rename_i fs
  cases hl : fldsL P fs.toList with
  | none => simp [hl] at hk
  | some l =>
    rw [hl] at hk
    obtain ⟨g, i', u', h1, h2⟩ := (fldsL_get hl).2 k f (by simpa using hk)
    exact ⟨fs, g, i', u', hu, by simpa using h1, h2⟩

theorem rep_v {x : Value} {y : Value} (h : Rep w G (.v x) y) : y = x ∧ scalarB x = true := by
  cases h with
  | v x h => exact ⟨rfl, h⟩

theorem VR0.to1 : ∀ {x : V} {y : Value}, VR0 w E hp G x y → VR1 w E hp G x y
  | .cl f [], y, h => by subst h; exact ⟨#[], rfl, trivial⟩
  | .cl _ (_ :: _), _, h => h.elim
  | .agg _, _, h => h.elim
  | .tup _, _, h => h
  | .v _, _, h => h
  | .em, _, h => h
  | .im _, _, h => h
  | .ar _ _ _, _, h => h
  | .rf _ _ _, _, h => h
  | .ir _ _, _, h => h
  | .any, _, h => h

theorem VR1.to2 : ∀ {x : V} {y : Value}, VR1 w E hp G x y → VR2 w E hp G x y
  | .tup _, _, h => False.elim h
  | .cl _ _, _, h => h
  | .agg _, _, h => h
  | .v _, _, h => h
  | .em, _, h => h
  | .im _, _, h => h
  | .ar _ _ _, _, h => h
  | .rf _ _ _, _, h => h
  | .ir _ _, _, h => h
  | .any, _, h => h

theorem VR2.to0 : ∀ {x : V} {y : Value}, okCell x = true → VR2 w E hp G x y → VR0 w E hp G x y
  | .cl f [], y, _, h => by
    obtain ⟨us, rfl, hl⟩ := h
    have : us.toList = [] := by
      cases hu : us.toList with
      | nil => rfl
      | cons a l => rw [hu] at hl; exact hl.elim
    have : us = #[] := by simpa using this
    subst this; rfl
  | .cl _ (_ :: _), _, h, _ => by simp [okCell] at h
  | .tup _, _, h, _ => by simp [okCell] at h
  | .agg _, _, h, _ => by simp [okCell] at h
  | .v _, _, _, h => h
  | .em, _, _, h => h
  | .im _, _, _, h => h
  | .ar _ _ _, _, _, h => h
  | .rf _ _ _, _, _, h => h
  | .ir _ _, _, _, h => h
  | .any, _, h, _ => by simp [okCell] at h

theorem ofCell_rel (c : Value) : VR0 w E hp G (ofCell c) c := by
  unfold ofCell
  split
  · exact Rep.em none
  · split
    · exact Rep.v _ (by assumption)
    · exact trivial

theorem ofCells_rel : ∀ cs : List Value, VL (VR0 w E hp G) (cs.map ofCell) cs
  | [] => trivial
  | c :: cs => ⟨ofCell_rel c, ofCells_rel cs⟩

theorem ofConst_rel (c : Value) : VR2 w E hp G (ofConst c) c := by
  unfold ofConst
  split
  · rename_i cs
    exact ⟨cs, rfl, ofCells_rel cs.toList⟩
  · exact (ofCell_rel c).to1.to2

theorem opnd_rel {tm : Tm} {a : Act} (h : ∀ t, VR2 w E hp G (tm t) (a.tmps.getD t undef)) (x : Operand) : VR2 w E hp G (opnd tm x) (a.eval x) := by
  cases x with
  | tmp t => exact h t
  | const c => exact ofConst_rel c
  | global g => exact trivial
  | func f => exact ⟨#[], rfl, trivial⟩

theorem toVals_rel : ∀ {cs : List V} {us l : List Value}, toVals cs = some l → VL (VR0 w E hp G) cs us → us = l
  | [], [], l, h, _ => by simp [toVals] at h; exact h.symm
  | .v x :: cs, u :: us, l, h, hl => by
    simp only [toVals] at h
    split at h
    · rename_i r hr
      have h1 : u = x := (rep_v hl.1).1
      have h2 := toVals_rel hr hl.2
      rw [← Option.some.inj h, h1, h2]
    · cases h
  | [], _ :: _, _, _, h => h.elim
  | _ :: _, [], _, _, h => h.elim
  | .em :: _, _ :: _, _, h, _ => by simp [toVals] at h
  | .im _ :: _, _ :: _, _, h, _ => by simp [toVals] at h
  | .ar _ _ _ :: _, _ :: _, _, h, _ => by simp [toVals] at h
  | .rf _ _ _ :: _, _ :: _, _, h, _ => by simp [toVals] at h
  | .ir _ _ :: _, _ :: _, _, h, _ => by simp [toVals] at h
  | .agg _ :: _, _ :: _, _, h, _ => by simp [toVals] at h
  | .tup _ :: _, _ :: _, _, h, _ => by simp [toVals] at h
  | .cl _ _ :: _, _ :: _, _, h, _ => by simp [toVals] at h
  | .any :: _, _ :: _, _, h, _ => by simp [toVals] at h

theorem toVal_rel {x : V} {y v : Value} (h : toVal x = some v) (hr : VR2 w E hp G x y) : y = v := by
  cases x with
  | v x => simp [toVal] at h; subst h; exact (rep_v hr).1
  | agg cs =>
    obtain ⟨us, rfl, hl⟩ := hr
    simp only [toVal] at h
    split at h
    · rename_i r hr
      have := toVals_rel hr hl
      rw [← Option.some.inj h, ← this]
    · cases h
  | _ => simp [toVal] at h

theorem ofScalar_rel {x : Value} {z : V} (h : ofScalar x = some z) : VR2 w E hp G z x := by
  unfold ofScalar at h
  split at h
  · rename_i hs
    rw [← Option.some.inj h]
    exact Rep.v x hs
  · cases h

/-- A cell's row out of a struct's cells. -/
theorem seg_rel {cs l : List V} {us : List Value} {off n : Nat} (h : seg cs off n = some l) (hl : VL (VR0 w E hp G) cs us) :
    VL (VR0 w E hp G) l ((us.drop off).take n) ∧ l.length = n ∧ off + n ≤ us.length := by
  unfold seg at h
  split at h
  · rename_i hn
    rw [← Option.some.inj h]
    have := hl.length
    refine ⟨(hl.drop off).take n, by simp; omega, by omega⟩
  · cases h

theorem mk_rel {g : Bool} {l : List V} {x : V} {us : List Value} (h : mk g l = some x) (hl : VL (VR0 w E hp G) l us) :
    VR2 w E hp G x (if g then .agg us.toArray else us.headD undef) ∧ (g = false → l = [x]) := by
  unfold mk at h
  split at h
  · rename_i ha
    rw [← Option.some.inj h]
    simp only [ha, if_true]
    exact ⟨⟨us.toArray, rfl, by simpa using hl⟩, by simp⟩
  · rename_i ha
    split at h
    · rename_i x'
      have hx : x' = x := Option.some.inj h
      subst hx
      cases us with
      | nil => exact hl.elim
      | cons u us => simp only [ha, List.headD_cons]; exact ⟨(hl.1).to1.to2, fun _ => trivial⟩
    · cases h

theorem run_agg' {t : TypeId} {u : TypeDesc} (hu : P.underlying t = some u) (w : World) : (isAgg t).run P w = .ok (isAggD u) w := by
  unfold isAgg
  simp only [Sem.run_bind, run_underlying hu, Result.andThen_ok]
  cases u <;> rfl

theorem run_part_rel {t : TypeId} {i : TypeInfo} {u : TypeDesc} (hi : P.info? t = some i) (hu : P.underlying t = some u) {cs l : List V} {us : Array Value} {off : Nat} {x : V} (h1 : seg cs off i.size = some l) (h2 : mk (isAggD u) l = some x)
    (hl : VL (VR0 w E hp G) cs us.toList) : ∃ y, (part t us off).run P w = .ok y w ∧ VR2 w E hp G x y := by
  obtain ⟨hs, hlen, hle⟩ := seg_rel h1 hl
  obtain ⟨hm, hone⟩ := mk_rel h2 hs
  unfold part
  simp only [Sem.run_bind, run_agg' hu, Result.andThen_ok]
  cases ha : isAggD u with
  | true =>
    simp only [if_true, Sem.run_bind, sizeOf, run_info hi, Result.andThen_ok, Sem.run_pure]
    rw [ha] at hm
    refine ⟨_, rfl, ?_⟩
    have : us.extract off (off + i.size) = ((us.toList.drop off).take i.size).toArray := by
      apply Array.ext'
      simp [List.drop_take, Nat.add_sub_cancel_left]
    rw [this]; exact hm
  | false =>
    have hl1 := hone ha
    subst hl1
    simp only [List.length_cons, List.length_nil] at hlen
    have hlt : off < us.size := by have : us.toList.length = us.size := by simp
                                   omega
    rw [ha] at hm
    have hh : ((us.toList.drop off).take i.size).headD undef = us[off] := by
      rw [← hlen, List.drop_eq_getElem_cons (by simpa using hlt)]; simp
    rw [hh] at hm
    refine ⟨us[off], ?_, hm⟩
    simp [Array.getElem?_eq_getElem hlt]

theorem run_v {s : Sem Value} {y : Value} {w w' : World} (h : s.run P w = .ok y w') : (do pure (Next.value (← s)) : Sem Next).run P w = .ok (.value y) w' := by
  simp [h]

theorem vr2_v {x : Value} {y : Value} (h : VR2 w E hp G (.v x) y) : y = x ∧ scalarB x = true := rep_v h

theorem Rep.oneCell {x : V} {y : Value} (h : Rep w G x y) : ∀ cs, y ≠ .agg cs := by
  intro cs hc
  subst hc
  have := h.one
  simp [Value.oneCell'] at this

theorem VR0.one : ∀ {x : V} {y : Value}, okCell x = true → VR0 w E hp G x y → y.oneCell' = true
  | .cl f [], y, _, h => by subst h; rfl
  | .cl _ (_ :: _), _, h, _ => by simp [okCell] at h
  | .tup _, _, h, _ => by simp [okCell] at h
  | .agg _, _, h, _ => by simp [okCell] at h
  | .v _, _, _, h => Rep.one h
  | .em, _, _, h => Rep.one h
  | .im _, _, _, h => Rep.one h
  | .ar _ _ _, _, _, h => by obtain ⟨a, cap, rfl, _⟩ := h; rfl
  | .rf _ _ _, _, _, h => by obtain ⟨b, o, rfl, _⟩ := h; rfl
  | .ir _ _, _, _, h => by obtain ⟨b, off, f, _, rfl, _⟩ := h; rfl
  | .any, _, h, _ => by simp [okCell] at h

/-- The cells of a value. -/
theorem flat_cells {x : V} {y : Value} (h : VR2 w E hp G x y) (hk : (flat x).all okCell = true) : VL (VR0 w E hp G) (flat x) y.cells.toList := by
  cases x with
  | agg cs => obtain ⟨us, rfl, hl⟩ := h; exact hl
  | _ =>
    have hk' := hk
    simp only [flat, List.all_cons, List.all_nil, Bool.and_true] at hk'
    have h0 := VR2.to0 hk' h
    have h1 := VR0.one hk' h0
    have : y.cells = #[y] := by
      cases y with
      | agg cs => simp [Value.oneCell'] at h1
      | _ => rfl
    rw [this]; exact ⟨h0, trivial⟩

theorem VL.ones : ∀ {xs : List V} {ys : List Value}, xs.all okCell = true → VL (VR0 w E hp G) xs ys → ∀ u ∈ ys, u.oneCell' = true
  | [], [], _, _, u, hu => by simp at hu
  | x :: xs, y :: ys, hk, h, u, hu => by
    simp only [List.all_cons, Bool.and_eq_true] at hk
    rcases List.mem_cons.1 hu with rfl | hu
    · exact VR0.one hk.1 h.1
    · exact VL.ones hk.2 h.2 u hu
  | [], _ :: _, _, h, _, _ => h.elim
  | _ :: _, [], _, h, _, _ => h.elim

/-- Cells written one by one. -/
theorem foldl_set : ∀ (new : List Value) (k o : Nat) (u : Array Value), o + k + new.length ≤ u.size →
    ((new.zipIdx k).foldl (fun cs (p : Value × Nat) => cs.setIfInBounds (o + p.2) p.1) u).toList = u.toList.take (o + k) ++ new ++ u.toList.drop (o + k + new.length)
  | [], k, o, u, _ => by simp
  | v :: new, k, o, u, h => by
    simp only [List.zipIdx_cons, List.foldl_cons]
    have hlt : o + k < u.size := by simp at h; omega
    rw [foldl_set new (k + 1) o (u.setIfInBounds (o + k) v) (by simp at h ⊢; omega)]
    have h1 : (u.setIfInBounds (o + k) v).toList = u.toList.set (o + k) v := by simp
    rw [h1, show o + (k + 1) = o + k + 1 by omega]
    have h2 : (u.toList.set (o + k) v).take (o + k + 1) = u.toList.take (o + k) ++ [v] := by
      rw [List.take_succ_eq_append_getElem (by simpa using hlt)]
      simp [List.take_set_of_le]
    have h3 : (u.toList.set (o + k) v).drop (o + k + 1 + new.length) = u.toList.drop (o + k + 1 + new.length) := by
      rw [List.drop_set_of_lt (by omega)]
    rw [h2, h3]
    have h4 : o + k + 1 + new.length = o + k + (v :: new).length := by simp; omega
    rw [h4]
    simp only [List.append_assoc, List.cons_append, List.nil_append]

/-- 'build' fills the cells one part after the other. -/
theorem fill_rel {flds : List Fld} {ρ : Operand → V} {ρr : Operand → Value} (hρ : ∀ x, VR2 w E hp G (ρ x) (ρr x))
    (place : Nat → Option (Nat × Nat)) (hpl : ∀ (k : Nat) f, flds[k]? = some f → place k = some (f.off, f.size)) :
    ∀ (parts : List (Nat × Operand)) (cs cs' : List V) (us : Array Value), fillV flds ρ cs parts = some cs' → VL (VR0 w E hp G) cs us.toList →
      ∃ us', Instr.fill place us (parts.map fun p => (p.1, ρr p.2)) = some us' ∧ VL (VR0 w E hp G) cs' us'.toList
  | [], cs, cs', us, h, hl => by
    simp only [fillV, Option.some.injEq] at h
    subst h
    exact ⟨us, rfl, hl⟩
  | (k, x) :: rest, cs, cs', us, h, hl => by
    simp only [fillV] at h
    split at h
    · rename_i f hk
      · split at h
        · rename_i hlen
          simp only [Bool.and_eq_true, decide_eq_true_eq] at hlen
          cases hp2 : putSeg cs f.off (flat (ρ x)) with
          | none => simp [hp2] at h
          | some c2 =>
            simp only [hp2, Option.bind_some] at h
            have hcl := flat_cells (hρ x) hlen.2
            unfold putSeg at hp2
            split at hp2
            · rename_i hle
              have hc2 := Option.some.inj hp2
              have hsz : (ρr x).cells.size = f.size := by have := hcl.length; simp only [Array.length_toList] at this; omega
              have hus := hl.length
              have hus' : us.size = cs.length := by simpa using hus
              have hfl : (ρr x).cells.size = (flat (ρ x)).length := by have := hcl.length; simpa using this
              have hset : ((ρr x).cells.zipIdx.foldl (fun cs (p : Value × Nat) => cs.setIfInBounds (f.off + p.2) p.1) us).toList = us.toList.take f.off ++ (ρr x).cells.toList ++ us.toList.drop (f.off + (flat (ρ x)).length) := by
                have := foldl_set (ρr x).cells.toList 0 f.off us (by simp; omega)
                rw [← Array.foldl_toList]
                simp only [Array.toList_zipIdx, Nat.add_zero, Array.length_toList] at this ⊢
                rw [this, hfl]
              have hl2 : VL (VR0 w E hp G) c2 ((ρr x).cells.zipIdx.foldl (fun cs (p : Value × Nat) => cs.setIfInBounds (f.off + p.2) p.1) us).toList := by
                rw [hset, ← hc2]
                exact ((hl.take f.off).append hcl).append (hl.drop _)
              obtain ⟨us', hf, hv⟩ := fill_rel hρ place hpl rest c2 cs' _ h hl2
              refine ⟨us', ?_, hv⟩
              simp only [List.map_cons, Instr.fill, hpl k f hk]
              rw [if_neg (by simp only [hsz, ne_eq, not_true_eq_false, decide_false, Bool.false_or, decide_eq_true_eq]; omega)]
              exact hf
            · cases hp2
        · cases h
    · cases h

end Go.Proofs.Ytcmihlhmeonmfaa.Ev
