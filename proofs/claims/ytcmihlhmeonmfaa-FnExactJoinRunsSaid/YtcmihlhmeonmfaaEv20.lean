/- The numbers of blocks in what an operation gives are numbers that are known; one operation: the step. -/
import Derived.Test.YtcmihlhmeonmfaaEv19
namespace Go.Proofs.Ytcmihlhmeonmfaa.Ev
open Go
set_option linter.unusedVariables false
set_option linter.unusedSimpArgs false

variable {P : Program} {w w' w0 : World} {E E' : Env} {hp hp' : Hp} {G G' U A W F S : Nat → Prop} {B : Nat → Prop} {ρ : Operand → V} {ρr : Operand → Value}

theorem rep_refs {x : V} {y : Value} (h : Rep w G x y) : refs2 x = [] := by
  cases h <;> rfl

theorem rep_refs0 {x : V} {y : Value} (h : Rep w G x y) : refs0 x = [] := by
  cases h <;> rfl

theorem vr0_refs {x : V} {y : Value} (h : VR0 w E hp G x y) : refs2 x = refs0 x := by
  cases x with
  | agg cs => exact h.elim
  | tup cs => exact h.elim
  | cl f cs => cases cs with | nil => rfl | cons a l => exact h.elim
  | _ => rfl

theorem refs_flatL {x : V} {id : Nat} (h : id ∈ (flat x).flatMap refs0) : id ∈ refs2 x := by
  cases x with
  | agg cs => exact h
  | ar a b c => simpa [flat, refs2, refs1] using h
  | rf a b c => simpa [flat, refs2, refs1] using h
  | _ => simp [flat, refs0] at h

theorem refs_mk {g : Bool} {l : List V} {x : V} {us : List Value} (h : mk g l = some x) (hl : VL (VR0 w E hp G) l us) {id : Nat} (hid : id ∈ refs2 x) : ∃ z ∈ l, id ∈ refs0 z := by
  unfold mk at h
  split at h
  · cases h
    exact List.mem_flatMap.1 hid
  · split at h
    · rename_i x'
      cases h
      cases us with
      | nil => exact hl.elim
      | cons u us =>
        rw [vr0_refs hl.1] at hid
        exact ⟨x, by simp, hid⟩
    · cases h

theorem seg_mem {cs l : List V} {off n : Nat} (h : seg cs off n = some l) {z : V} (hz : z ∈ l) : z ∈ cs := by
  unfold seg at h
  split at h
  · cases h
    exact List.mem_of_mem_drop (List.mem_of_mem_take hz)
  · cases h

theorem putSeg_mem {cs l new : List V} {off : Nat} (h : putSeg cs off new = some l) {z : V} (hz : z ∈ l) : z ∈ cs ∨ z ∈ new := by
  unfold putSeg at h
  split at h
  · cases h
    simp only [List.mem_append] at hz
    rcases hz with (hz | hz) | hz
    · exact .inl (List.mem_of_mem_take hz)
    · exact .inr hz
    · exact .inl (List.mem_of_mem_drop hz)
  · cases h

theorem fill_refs {flds : List Fld} {ρ : Operand → V} : ∀ (l : List (Nat × Operand)) (cs out : List V), fillV flds ρ cs l = some out → ∀ z ∈ out, ∀ id ∈ refs0 z, (∃ z ∈ cs, id ∈ refs0 z) ∨ ∃ y, id ∈ refs2 (ρ y)
  | [], cs, out, h, z, hz, id, hid => by
    simp only [fillV, Option.some.injEq] at h
    subst h
    exact .inl ⟨z, hz, hid⟩
  | (k, x) :: rest, cs, out, h, z, hz, id, hid => by
    simp only [fillV] at h
    split at h
    · split at h
      · cases hp : putSeg cs _ (flat (ρ x)) with
        | none => rw [hp] at h; cases h
        | some cs' =>
          rw [hp, Option.bind_some] at h
          rcases fill_refs rest cs' out h z hz id hid with ⟨z', hz', hid'⟩ | h'
          · rcases putSeg_mem hp hz' with h1 | h1
            · exact .inl ⟨z', h1, hid'⟩
            · exact .inr ⟨x, refs_flatL (List.mem_flatMap.2 ⟨z', h1, hid'⟩)⟩
          · exact .inr h'
      · cases h
    · cases h

theorem zero_refs {t : TypeId} {d : TyD} (hd : tyOf P t = some d) : ∀ x ∈ d.zero, refs2 x = [] := by
  intro x hx
  obtain ⟨i, u, z', _, _, _, _, _, _, rfl⟩ := tyOf_some hd
  simp only [List.mem_map] at hx
  obtain ⟨cc, _, hcc⟩ := hx
  subst hcc
  unfold ofCell
  split
  · rfl
  · split <;> rfl

theorem refs02 {x : V} {id : Nat} (h : id ∈ refs0 x) : id ∈ refs2 x := by
  cases x with
  | ar a b c => exact h
  | rf a b c => exact h
  | _ => simp [refs0] at h

theorem ofScalar_refs {o : Option Value} {x : V} (h : o.bind ofScalar = some x) : refs2 x = [] := by
  cases o with
  | none => cases h
  | some a =>
    rw [Option.bind_some] at h
    unfold ofScalar at h
    split at h
    · cases h; rfl
    · cases h

theorem T_refs {op : Op} {x : V} (hρ : ∀ x, VR2 w E hp G (ρ x) (ρr x)) (h : nevT P op ρ = some x) : ∀ id ∈ refs2 x, ∃ y, id ∈ refs2 (ρ y) := by
  intro id hid
  cases op with
  | move a => cases Option.some.inj h; exact ⟨a, hid⟩
  | assign a => cases Option.some.inj h; exact ⟨a, hid⟩
  | pick c a b =>
    simp only [nevT] at h
    split at h
    · rename_i t hc
      cases Option.some.inj h
      cases t
      · exact ⟨b, hid⟩
      · exact ⟨a, hid⟩
    · cases h
  | build t parts =>
    simp only [nevT] at h
    split at h
    · rename_i d hd
      split at h
      · cases hf : fillV d.flds ρ d.zero parts.toList with
        | none => simp [hf] at h
        | some cs =>
          rw [hf] at h
          cases Option.some.inj h
          obtain ⟨z, hz, hid⟩ := List.mem_flatMap.1 hid
          rcases fill_refs _ _ _ hf z hz id hid with ⟨z', h1, h2⟩ | h1
          · have := zero_refs hd z' h1
            have := refs02 h2
            simp_all
          · exact h1
      · cases h
    · cases h
  | nilCheck a =>
    simp only [nevT] at h
    split at h <;> first | (rename_i hx; cases Option.some.inj h; exact ⟨a, by rw [hx]; exact hid⟩) | cases h
  | binOp b t a c yt =>
    simp only [nevT] at h
    split at h
    · rw [ofScalar_refs h] at hid; simp at hid
    · cases h
  | unOp u t a =>
    simp only [nevT] at h
    split at h
    · rw [ofScalar_refs h] at hid; simp at hid
    · cases h
  | convert s d a =>
    simp only [nevT] at h
    split at h
    · rw [ofScalar_refs h] at hid; simp at hid
    · cases h
  | field t a k =>
    simp only [nevT] at h
    split at h
    · rename_i cs d hx hd
      split at h
      · rename_i f hk
        have h1 := hρ a
        rw [hx] at h1
        obtain ⟨us, hy, hl⟩ := h1
        cases hs : seg cs f.off f.size with
        | none => rw [hs] at h; cases h
        | some l =>
          rw [hs, Option.bind_some] at h
          obtain ⟨z, hz, hid⟩ := refs_mk (us := (us.toList.drop f.off).take f.size) h (by
            unfold seg at hs
            split at hs
            · cases hs; exact (hl.drop _).take _
            · cases hs) hid
          exact ⟨a, by rw [hx]; exact List.mem_flatMap.2 ⟨z, seg_mem hs hz, hid⟩⟩
      · cases h
    · cases h
  | fieldAddr t a k =>
    simp only [nevT] at h
    split at h
    · split at h
      · rename_i f id r c hk hx
        cases Option.some.inj h
        exact ⟨a, by rw [hx]; exact hid⟩
      · cases Option.some.inj h
        simp [refs2, refs1, refs0] at hid
      · cases h
    · cases h
  | index t a i =>
    simp only [nevT] at h
    split at h
    · split at h
      · cases Option.some.inj h
        simp [refs2, refs1, refs0] at hid
      · cases h
    · cases h
  | indexAddr t a i =>
    simp only [nevT] at h
    split at h
    · split at h
      · split at h
        · split at h
          · split at h
            · cases Option.some.inj h
              simp [refs2, refs1, refs0] at hid
            · cases h
          · cases h
        · cases h
      · cases h
    · cases h
  | slice t a lo hi mx =>
    cases mx with
    | none =>
      simp only [nevT] at h
      split at h
      · split at h
        · split at h
          · cases Option.some.inj h
            simp [refs2, refs1, refs0] at hid
          · cases h
        · cases h
      · cases h
    | some m =>
      cases hi with
      | none => simp [nevT] at h
      | some h' =>
      simp only [nevT] at h
      split at h
      · split at h
        · split at h
          · cases Option.some.inj h
            simp [refs2, refs1, refs0] at hid
          · cases h
        · cases h
      · split at h
        · split at h
          · cases Option.some.inj h
            simp [refs2, refs1, refs0] at hid
          · cases h
        · cases h
      · cases h
  | extract a k =>
    simp only [nevT] at h
    split at h
    · rename_i vs hx
      have h1 := hρ a
      rw [hx] at h1
      obtain ⟨us, hy, hl⟩ := h1
      obtain ⟨u, hu, hr⟩ := hl.get k x h
      refine ⟨a, ?_⟩
      rw [hx]
      refine List.mem_flatMap.2 ⟨x, List.mem_of_getElem? h, ?_⟩
      cases x with
      | tup l => exact hr.elim
      | _ => exact hid
    · cases h
  | makeFunc fn first caps =>
    cases fn with
    | func f =>
      simp only [nevT] at h
      split at h
      · rename_i hc
        cases Option.some.inj h
        obtain ⟨z, hz, hid⟩ := List.mem_flatMap.1 hid
        simp only [List.mem_map] at hz
        obtain ⟨y, hy, rfl⟩ := hz
        exact ⟨y, refs02 hid⟩
      · cases h
    | _ => simp [nevT] at h
  | call c =>
    obtain ⟨callee, args, tys⟩ := c
    cases callee with
    | value f => simp [nevT] at h
    | invoke r m => simp [nevT] at h
    | builtin b =>
      cases b with
      | len =>
        simp only [nevT] at h
        split at h
        · split at h <;> first | (cases Option.some.inj h; simp [refs2, refs1, refs0] at hid) | cases h
        · cases h
      | min =>
        simp only [nevT] at h
        split at h
        · rw [ofScalar_refs h] at hid; simp at hid
        · cases h
      | max =>
        simp only [nevT] at h
        split at h
        · rw [ofScalar_refs h] at hid; simp at hid
        · cases h
      | _ => simp [nevT] at h
  | _ => simp [nevT] at h

theorem wf_same {x : V} {b : Nat} (hw : HpWf B hp) (hx : ∀ id ∈ refs2 x, B id) : WfOut B b x hp := ⟨fun id h => .inl (hx id h), hw.more b⟩

theorem wf_upd {x : V} {b : Nat} {k : Blk} (hw : HpWf B hp) (hx : ∀ id ∈ refs2 x, More B b id) (hk : ∀ id ∈ refsB k, B id) : WfOut B b x (inst hp b [k]) := by
  refine ⟨hx, fun id k' h => ?_⟩
  simp only [inst, upd] at h
  split at h
  · rename_i he
    cases h
    exact ⟨.inr ⟨by omega, by omega⟩, fun j hj => .inl (hk j hj)⟩
  · exact ⟨.inl (hw id k' h).1, fun j hj => .inl ((hw id k' h).2 j hj)⟩

/-- A row of a block in memory: cells of a box are cells; cells of other blocks are closed. -/
theorem row_refs {b : Nat} (c : MCtx P w0 U A B E G hp w ρ ρr b) {id r : Nat} {k : Blk} {row : List V} (hk : hp id = some k) (hr : k.rows[r]? = some row) {z : V} (hz : z ∈ row) : refs2 z = refs0 z ∧ ∀ i ∈ refs0 z, B i := by
  have hb := c.inv.blk id k hk
  obtain ⟨j, hj⟩ := List.getElem?_of_mem hz
  unfold BlkRel at hb
  cases hkk : k.kind with
  | box =>
    rw [hkk] at hb
    obtain ⟨b', row', cur, h1, h2, h3, h4, h5, h6⟩ := hb
    have hrow : row = row' := by
      rw [h3] at hr
      cases r with
      | zero => simpa using hr.symm
      | succ r => simp at hr
    subst hrow
    obtain ⟨y, hy, hv, _⟩ := h6.get j z hj
    refine ⟨vr0_refs hv, fun i hi => (c.wf id k hk).2 i ?_⟩
    unfold refsB
    rw [hkk, h3]
    simp only [List.flatMap_cons, List.flatMap_nil, List.append_nil, List.mem_flatMap]
    exact ⟨z, hz, hi⟩
  | arr =>
    rw [hkk] at hb
    rcases hb with ⟨h1, _⟩ | ⟨b', cur, cap, h1, h2, h3, h4, h5, h6, h7, h8⟩
    · rw [h1] at hr; simp at hr
    · obtain ⟨u, _, hrep⟩ := h8 r j row z hr hj
      have := rep_refs hrep
      exact ⟨by rw [this, rep_refs0 hrep], fun i hi => by rw [rep_refs0 hrep] at hi; simp at hi⟩
  | frz =>
    rw [hkk] at hb
    rcases hb with ⟨h1, _⟩ | ⟨b', cur, cap, fz, h1, h0, h2, h3, h4, h5, h6, h7, h8⟩
    · rw [h1] at hr; simp at hr
    · obtain ⟨u, _, hrep⟩ := h8 r j row z hr hj
      have := rep_refs hrep
      exact ⟨by rw [this, rep_refs0 hrep], fun i hi => by rw [rep_refs0 hrep] at hi; simp at hi⟩

theorem mk_refs' {g : Bool} {l : List V} {x : V} (h : mk g l = some x) (hl : ∀ z ∈ l, refs2 z = refs0 z ∧ ∀ i ∈ refs0 z, B i) : ∀ id ∈ refs2 x, B id := by
  intro id hid
  unfold mk at h
  split at h
  · cases h
    obtain ⟨z, hz, hid⟩ := List.mem_flatMap.1 hid
    exact (hl z hz).2 id hid
  · split at h
    · cases h
      obtain ⟨h1, h2⟩ := hl x (by simp)
      rw [h1] at hid
      exact h2 id hid
    · cases h

theorem M_wf {op : Op} {x : V} {b : Nat} {new : List Blk} (c : MCtx P w0 U A B E G hp w ρ ρr b) (h : nevM P op ρ hp b = some (x, new)) : WfOut B b x (inst hp b new) := by
  cases op with
  | alloc t =>
    simp only [nevM] at h
    split at h
    · rename_i d hd
      cases Option.some.inj h
      refine wf_upd c.wf (fun id hid => ?_) (fun id hid => ?_)
      · simp [refs2, refs1, refs0] at hid; subst hid; exact .inr ⟨Nat.le_refl _, by omega⟩
      · simp only [refsB, boxOf, List.flatMap_cons, List.flatMap_nil, List.append_nil, List.mem_flatMap] at hid
        obtain ⟨z, hz, hid⟩ := hid
        have := zero_refs hd z hz
        have := refs02 hid
        simp_all
    · cases h
  | box t a =>
    simp only [nevM] at h
    split at h
    · rename_i d hd
      split at h
      · cases Option.some.inj h
        refine wf_upd c.wf (fun id hid => ?_) (fun id hid => ?_)
        · simp [refs2, refs1, refs0] at hid; subst hid; exact .inr ⟨Nat.le_refl _, by omega⟩
        · simp only [refsB, boxOf, List.flatMap_cons, List.flatMap_nil, List.append_nil] at hid
          exact c.ids a id (refs_flatL hid)
      · cases h
    · cases h
  | load t a =>
    simp only [nevM] at h
    split at h
    · rename_i d hd
      split at h
      · rename_i row cc hx
        split at h
        · rename_i x' hb
          cases Option.some.inj h
          have ha := c.rel a
          rw [hx] at ha
          obtain ⟨bb, off, f, hg, hy, hrel⟩ := ha
          cases hseg : seg row cc d.size with
          | none => simp [hseg] at hb
          | some cs =>
            rw [hseg, Option.bind_some] at hb
            refine wf_same c.wf (mk_refs' hb fun z hz => ?_)
            obtain ⟨j, hj⟩ := List.getElem?_of_mem (seg_mem hseg hz)
            have hrep := (hrel j z hj).2
            have := rep_refs hrep
            exact ⟨by rw [this, rep_refs0 hrep], fun i hi => by rw [rep_refs0 hrep] at hi; simp at hi⟩
        · cases h
      · rename_i id r cc hx
        split at h
        · rename_i k hk
          split at h
          · rename_i row hr
            split at h
            · rename_i cs hseg
              split at h
              · split at h
                · rename_i x' hm
                  cases Option.some.inj h
                  exact wf_same c.wf (mk_refs' hm fun z hz => row_refs c hk hr (seg_mem hseg hz))
                · cases h
              · cases h
            · cases h
          · cases h
        · cases h
      · cases h
    · cases h
  | indexAddr t a i =>
    simp only [nevM] at h
    split at h
    · rename_i id lo n k j hx hi
      split at h
      · split at h
        · split at h
          · cases Option.some.inj h
            refine wf_same c.wf (fun i' hi' => c.ids a i' ?_)
            rw [hx]
            exact hi'
          · cases h
        · cases h
      · cases h
    · cases h
  | makeSlice t l m =>
    simp only [nevM] at h
    split at h
    · split at h
      · rename_i d hd
        split at h
        · rename_i hc
          cases Option.some.inj h
          refine wf_upd c.wf (fun id hid => ?_) (fun id hid => ?_)
          · simp [refs2, refs1, refs0] at hid; subst hid; exact .inr ⟨Nat.le_refl _, by omega⟩
          · simp [refsB, arrOf] at hid
        · cases h
      · cases h
    · cases h
  | convert s d a =>
    simp only [nevM] at h
    split at h
    · split at h
      · split at h
        · cases Option.some.inj h
          exact wf_same c.wf (fun i hi => by simp [refs2, refs1, refs0] at hi)
        · cases h
      · cases h
    · split at h
      · split at h
        · split at h
          · cases Option.some.inj h
            exact wf_same c.wf (fun i hi => by simp [refs2, refs1, refs0] at hi)
          · cases h
        · cases h
      · cases h
    · split at h
      · cases Option.some.inj h
        exact wf_same c.wf (fun i hi => by simp [refs2, refs1, refs0] at hi)
      · cases h
    · split at h
      · cases Option.some.inj h
        exact wf_same c.wf (fun i hi => by simp [refs2, refs1, refs0] at hi)
      · cases h
    · cases h
  | _ => simp [nevM] at h

theorem T_step {op : Op} {b : Nat} {o : Oper} {a : Act} {x : V} (c : MCtx P w0 U A B E G hp w ρ a.eval b) (ho : o.op = op) (h : nevT P op ρ = some x) :
    StepsTo P w0 U A B E G hp w o a x hp ∧ WfOut B b x hp :=
  ⟨(MGives.same c (T_ok c.rel h)).steps ho, wf_same c.wf fun id hid => by obtain ⟨y, hy⟩ := T_refs c.rel h id hid; exact c.ids y id hy⟩

theorem M_step {op : Op} {b : Nat} {o : Oper} {a : Act} {x : V} {new : List Blk} (c : MCtx P w0 U A B E G hp w ρ a.eval b) (ho : o.op = op) (h : nevM P op ρ hp b = some (x, new)) :
    StepsTo P w0 U A B E G hp w o a x (inst hp b new) ∧ WfOut B b x (inst hp b new) := ⟨(M_ok c h).steps ho, M_wf c h⟩

/-- One operation. -/
theorem weOp_sound {R : Rel} {cf : Cfg} (hR : ∀ g args blks r blks', R g args blks r blks' → CSpec P g args blks r blks') {op : Op} {o : Oper} {a : Act} {b : Nat} {K : Cont}
    (c : MCtx P w0 U A B E G hp w ρ a.eval b) (ho : o.op = op) (h : weOp P R cf op b ρ hp K) : ∃ x hp' cls, K x hp' cls ∧ StepsTo P w0 U A B E G hp w o a x hp' ∧ WfOut B b x hp' := by
  have rest : (match nevT P op ρ with | some x => K x hp .T | none => caseO (nevM P op ρ hp b) fun z => z.2.length ≤ 16 ∧ K z.1 (inst hp b z.2) .M) → ∃ x hp' cls, K x hp' cls ∧ StepsTo P w0 U A B E G hp w o a x hp' ∧ WfOut B b x hp' := by
    intro h
    split at h
    · rename_i x hx
      obtain ⟨h1, h2⟩ := T_step c ho hx
      exact ⟨_, _, _, h, h1, h2⟩
    · obtain ⟨z, hz, _, hK⟩ := caseO_some' h
      obtain ⟨h1, h2⟩ := M_step c ho (x := z.1) (new := z.2) hz
      exact ⟨_, _, _, hK, h1, h2⟩
  unfold weOp at h
  split at h
  · rename_i t ad x
    obtain ⟨hp', h1, h2, h3⟩ := store_sound c ho h
    exact ⟨_, _, _, h1, h2, h3⟩
  · exact build_sound c ho h
  · rename_i t x lo hi
    split at h
    · obtain ⟨z, hz, hK⟩ := caseO_some' h
      obtain ⟨h1, h2⟩ := T_step c ho hz
      exact ⟨_, _, _, hK, h1, h2⟩
    · exact slice_sound c ho h
  · split at h
    · rename_i hargs
      exact append_sound c ho hargs h
    · exact h.elim
  · split at h
    · rename_i hf
      exact call_sound hR c ho hf h
    · exact h.elim
  · exact rest h

end Go.Proofs.Ytcmihlhmeonmfaa.Ev
