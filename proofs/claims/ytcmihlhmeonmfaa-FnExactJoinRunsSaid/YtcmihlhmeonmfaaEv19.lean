/- A call comes to what the callee's contract says: the step. -/
import Derived.Test.YtcmihlhmeonmfaaEv18
namespace Go.Proofs.Ytcmihlhmeonmfaa.Ev
open Go
set_option linter.unusedVariables false
set_option linter.unusedSimpArgs false

variable {P : Program} {w w' w0 : World} {E E' : Env} {hp hp' : Hp} {G G' U A W F S : Nat → Prop} {B : Nat → Prop} {ρ : Operand → V} {ρr : Operand → Value}

theorem vr0_none {x : V} {y : Value} (h : VR0 w E hp G x y) : VR0 w E' (lkB []) G x y := by
  cases x with
  | ar id lo n => obtain ⟨a, cap, hy, _⟩ := h; exact ⟨a, cap, hy, fun k hk => by simp [lkB] at hk⟩
  | rf id r c => obtain ⟨b, o, hy, _⟩ := h; exact ⟨b, o, hy, fun k hk => by simp [lkB] at hk⟩
  | cl f caps => cases caps <;> exact h
  | _ => exact h

theorem vr1_none {x : V} {y : Value} (h : VR1 w E hp G x y) : VR1 w E' (lkB []) G x y := by
  cases x with
  | agg cs => obtain ⟨us, rfl, hl⟩ := h; exact ⟨us, rfl, hl.mono fun x _ y hx => vr0_none (E := E) (hp := hp) hx⟩
  | cl g caps => obtain ⟨us, rfl, hl⟩ := h; exact ⟨us, rfl, hl.mono fun x _ y hx => vr0_none (E := E) (hp := hp) hx⟩
  | v a => exact (vr0_none (E := E) (hp := hp) (x := .v a) h).to1
  | em => exact (vr0_none (E := E) (hp := hp) (x := .em) h).to1
  | im a => exact (vr0_none (E := E) (hp := hp) (x := .im a) h).to1
  | ar a b c => exact (vr0_none (E := E) (hp := hp) (x := .ar a b c) h).to1
  | rf a b c => exact (vr0_none (E := E) (hp := hp) (x := .rf a b c) h).to1
  | ir a b => exact (vr0_none (E := E) (hp := hp) (x := .ir a b) h).to1
  | tup a => exact h.elim
  | any => exact trivial

theorem call_exec {fo : Operand} {args : Array Operand} {tys : Array TypeId} {o : Oper} {a : Act} {g : FuncId} {us : Array Value} {fn : Func} (ho : o.op = .call { callee := .value fo, args := args, argTypes := tys })
    (hf : a.eval fo = .func (.func g) #[] us) (hfn : P.funcs[g]? = some fn) (h1 : okEnter fn = true) (h2 : fn.body.isSome = true) : (execOp a.eval o).run P w = .ok (.enter g (args.map a.eval ++ us)) w := by
  have hn : (fn.name == "runtime.NumGoroutine") = false := by simpa [okEnter] using h1
  have hb : fn.body.isNone = false := by cases hh : fn.body <;> simp [hh] at h2 ⊢
  simp only [execOp, ho, resolve, hf, Deferred.ofValue, Sem.run_bind, Sem.run_pure, Result.andThen_ok, invoke, callFunc, run_prog, hfn, hn, hb, Bool.false_eq_true, if_false, Array.empty_append]

/-- A call: the machine's side. -/
theorem call_common {fo : Operand} {args : Array Operand} {tys : Array TypeId} {o : Oper} {a : Act} {g : FuncId} {us : Array Value} {b : Nat} (c : MCtx P w0 U A B E G hp w ρ a.eval b) (ho : o.op = .call { callee := .value fo, args := args, argTypes := tys })
    (hf : a.eval fo = .func (.func g) #[] us) {order lent : List Nat} {e : Nat} {args2 : List V} {blks' : List Blk} {r : V} (hsp : CSpec P g args2 (blksOf hp order) r blks') (hid : idsOK args2 (blksOf hp order) = true)
    (hn : order.Nodup) (hs : ∀ id ∈ order, ∃ k, hp id = some k) (hdis : ∀ id ∈ order, id ∉ lent) (hkind : ∀ i ∈ lent, ∀ k, hp i = some k → k.kind ≠ .box) (heo : e ≤ order.length) (heb : e ≤ blks'.length) (hlen : blks'.length - e ≤ 16)
    (hdir : ∀ j, j < e → j ∈ args2.flatMap refs1)
    (hv : VL (VR1 w (envOf E order) (lkB (blksOf hp order)) (fun b => G b ∨ Held E hp lent b)) args2 (args.map a.eval ++ us).toList) :
    StepsTo P w0 U A B E G hp w o a (ren2 (back order e blks'.length b) r) (callHp (if (lent.isEmpty || (noIm r && blks'.all noImB)) = true then hp else freeze hp lent) order e b blks') := by
  obtain ⟨fn, hfn, h1, h2⟩ := hsp.enter
  intro next Q hnext
  unfold Oper.wp
  rw [call_exec ho hf hfn h1 h2]
  rw [Oper.upon_enter]
  refine (hsp.calls hid w _ (envOf E order) _ (call_in c.inv hn hs hdis) hv).mono ?_
  rintro e' w' ⟨y, E', G', rfl, hC, hy, hk⟩
  have hkept : ∀ (hp1 : Hp), (∀ id ∈ order, hp1 id = hp id) → Kept e (blksOf hp1 order) blks' (envOf E order) E' := by
    intro hp1 h1 j hj k' hk'
    obtain ⟨k, q1, q2⟩ := hk j (hdir j hj) k' hk'
    rw [← blksOf_congr h1] at q1
    exact ⟨k, q1, q2⟩
  by_cases hc : (lent.isEmpty || (noIm r && blks'.all noImB)) = true
  · rw [if_pos hc] at hnext
    by_cases hl : lent = []
    · subst hl
      obtain ⟨g1, g2, g3⟩ := call_out (noim := false) (G3 := fun x => G x ∨ G' x) (e := e) (b := b) (r := r) c.inv c.wf c.new hn hs heo heb hlen hC (hkept hp fun _ _ => rfl) hy (fun h => by cases h)
        (fun x hx => .inl hx) (fun x hx => hx.imp (fun h => h) fun h => ⟨h, fun ha => ha.elim (fun h => h) (fun ⟨i, hi, _⟩ => by simp at hi), rfl⟩) (fun _ x hx => .inr hx)
      exact hnext y w' _ _ g1 g2 g3
    · have hno : noIm r = true ∧ blks'.all noImB = true := by
        simp only [Bool.or_eq_true, Bool.and_eq_true, List.isEmpty_iff] at hc
        exact hc.resolve_left hl
      obtain ⟨g1, g2, g3⟩ := call_out (noim := true) (G3 := G) (e := e) (b := b) (r := r) c.inv c.wf c.new hn hs heo heb hlen hC (hkept hp fun _ _ => rfl) hy (fun _ => hno)
        (fun x hx => hx) (fun x hx => .inl hx) (fun h => by cases h)
      exact hnext y w' _ _ g1 g2 g3
  · rw [if_neg hc] at hnext
    obtain ⟨G1, f1, f2, f3, f4⟩ := c.inv.freezeL (B := B) lent
    have hsame : ∀ id ∈ order, freeze hp lent id = hp id := fun id hid => freeze_other lent hp id (hdis id hid)
    have hC' : HpInv w (Own (envOf E order) (lkB (blksOf (freeze hp lent) order))) (fun b => G b ∨ Held E hp lent b) E' G' (lkB blks') w' := by rw [blksOf_congr hsame]; exact hC
    obtain ⟨g1, g2, g3⟩ := call_out (noim := false) (G3 := fun x => G1 x ∨ G' x) (e := e) (b := b) (r := r) f1 (c.wf.freeze lent) c.new hn (fun id hid => by rw [hsame id hid]; exact hs id hid) heo heb hlen hC' (hkept _ hsame) hy (fun h => by cases h)
      (fun x hx => .inl hx) (fun x hx => hx.imp (fun h => h) fun h => ⟨h, fun ha => ha.elim (f3 x) (fun ⟨i, hi, k, hk', hl', ho'⟩ => f4 i hi k hk' (hkind i hi k hk') x ho' hl'), rfl⟩) (fun _ x hx => .inr hx)
    exact hnext y w' _ _ g1 g2 (f2.trans g3 fun _ h => h)

theorem eraseDups_mem {l : List Nat} {x : Nat} : x ∈ l.eraseDups ↔ x ∈ l := by simp

theorem call_sound {R : Rel} {cf : Cfg} (hR : ∀ g args blks r blks', R g args blks r blks' → CSpec P g args blks r blks') {fo : Operand} {args : Array Operand} {tys : Array TypeId} {o : Oper} {a : Act} {g : FuncId} {caps : List V} {b : Nat} {K : Cont}
    (c : MCtx P w0 U A B E G hp w ρ a.eval b) (ho : o.op = .call { callee := .value fo, args := args, argTypes := tys }) (hf : ρ fo = .cl g caps) (h : weInv R cf g (args.toList.map ρ ++ caps) hp b K) :
    ∃ x hp' cls, K x hp' cls ∧ StepsTo P w0 U A B E G hp w o a x hp' ∧ WfOut B b x hp' := by
  have hfo := c.rel fo
  rw [hf] at hfo
  obtain ⟨us, hus, hcaps⟩ := hfo
  have hall : VL (VR2 w E hp G) (args.toList.map ρ ++ caps) (args.map a.eval ++ us).toList := by
    simp only [Array.toList_append, Array.toList_map]
    refine VL.append ?_ (hcaps.mono fun _ _ _ h => h.to1.to2)
    have : ∀ l : List Operand, VL (VR2 w E hp G) (l.map ρ) (l.map a.eval) := by
      intro l
      induction l with
      | nil => exact trivial
      | cons x l ih => exact ⟨c.rel x, ih⟩
    exact this args.toList
  unfold weInv at h
  -- the arguments as they are handed over
  have hargs : ∀ args', (if cf.byref g then (if (args.toList.map ρ ++ caps).all notTup then some (args.toList.map ρ ++ caps) else none) else lendA hp (args.toList.map ρ ++ caps)) = some args' →
      VL (VR1 w E hp (fun b => G b ∨ Held E hp (if cf.byref g then [] else (args.toList.map ρ ++ caps).flatMap arIds1) b)) args' (args.map a.eval ++ us).toList ∧
      ∀ i ∈ (if cf.byref g then ([] : List Nat) else (args.toList.map ρ ++ caps).flatMap arIds1), ∀ k, hp i = some k → k.kind ≠ .box := by
    intro args' h
    cases hby : cf.byref g with
    | true =>
      simp only [hby, if_true] at h ⊢
      split at h
      · rename_i ht
        cases h
        refine ⟨(vl_2_1 ht hall).mono fun x _ y hx => ?_, fun i hi => by simp at hi⟩
        have he : Ext (fun _ => True) E G hp w E (fun b => G b ∨ Held E hp [] b) hp w := ⟨fun x y _ hv => by
          have := (Turn.vr0 (f := fun i => some i) (E := E) (hp := hp) (E' := E) (hp' := hp) (G := G) (G' := fun b => G b ∨ Held E hp [] b) ⟨fun id j hj k' hk' => by cases hj; exact ⟨k', hk', Iff.rfl, rfl, rfl, rfl⟩⟩ (fun _ h => .inl h) hv)
          have hx : VR0 w E hp G x y → ren0 (fun i => some i) x = x := by
            intro hv
            cases x with
            | cl f caps =>
              cases caps with
              | nil => rfl
              | cons a l => exact hv.elim
            | agg cs => exact hv.elim
            | tup vs => exact hv.elim
            | _ => rfl
          rw [hx hv] at this
          exact this⟩
        exact he.v1 x y (fun _ _ => trivial) hx
      · cases h
    | false =>
      simp only [hby, Bool.false_eq_true, if_false] at h ⊢
      exact ⟨(lendA_rel c.inv h (fun i hi => hi) hall).1, lendA_kind h⟩
  cases hargs' : (if cf.byref g then (if (args.toList.map ρ ++ caps).all notTup then some (args.toList.map ρ ++ caps) else none) else lendA hp (args.toList.map ρ ++ caps)) with
  | none => rw [hargs'] at h; exact h.elim
  | some args' =>
    rw [hargs'] at h
    obtain ⟨hv, hkind⟩ := hargs args' hargs'
    generalize hlent : (if cf.byref g then ([] : List Nat) else (args.toList.map ρ ++ caps).flatMap arIds1) = lent at h hv hkind
    clear hargs hall
    cases hcl : close hp 64 (args'.flatMap refs1) [] with
    | none => simp only [hcl] at h
    | some order =>
    cases order with
    | nil =>
      -- no block is handed over
      simp only [hcl] at h
      unfold wePure callR at h
      obtain ⟨r, blks', hr, hlen, hid, hK⟩ := h
      have hsp := hR _ _ _ _ _ hr
      have hv' : VL (VR1 w (envOf E []) (lkB (blksOf hp [])) (fun b => G b ∨ Held E hp lent b)) args' (args.map a.eval ++ us).toList := hv.mono fun x _ y hx => vr1_none hx
      have hst := call_common (order := []) (e := 0) (lent := lent) c ho hus (r := r) (blks' := blks') hsp hid (by simp) (fun id hid => by simp at hid) (fun id hid => by simp at hid) hkind (by simp) (by simp) (by omega) (fun j hj => by omega) hv'
      by_cases hc : (lent.isEmpty || noIm r && blks'.all noImB) = true
      · rw [if_pos hc] at hst hK
        exact ⟨_, _, _, hK, hst, wfout_call c.wf (fun id hid => by simp at hid) (by simp) (by simp) (by omega) r⟩
      · rw [if_neg hc] at hst hK
        exact ⟨_, _, _, hK, hst, wfout_call (c.wf.freeze _) (fun id hid => by simp at hid) (by simp) (by simp) (by omega) r⟩
    | cons i0 ol =>
      simp only [hcl] at h
      generalize ho2 : i0 :: ol = order at h hcl
      clear ho2 i0 ol
      unfold weRef callR at h
      obtain ⟨hdis, htake, hid, r, blks', hr, hle, hlen, hK⟩ := h
      have hsp := hR _ _ _ _ _ hr
      obtain ⟨c1, c2, c3, c4⟩ := close_spec hp 64 _ _ _ hcl (by simp) (fun id hid => by simp at hid)
      have hdis' : ∀ id ∈ order, id ∉ lent := by
        intro id hid hin
        have := List.all_eq_true.1 hdis id hid
        simp [hin] at this
      have heo : (args'.flatMap refs1).eraseDups.length ≤ order.length := by
        have := congrArg List.length htake
        simp only [List.length_take] at this
        omega
      have hv' := hv.map (f := ren1 (idx order)) (R' := VR1 w (envOf E order) (lkB (blksOf hp order)) (fun b => G b ∨ Held E hp lent b)) fun x _ y hx => (turn_in c2).vr1 (fun _ h => h) hx
      have hdir : ∀ j, j < (args'.flatMap refs1).eraseDups.length → j ∈ (args'.map (ren1 (idx order))).flatMap refs1 := by
        intro j hj
        have h1 : ((args'.flatMap refs1).eraseDups)[j]? = some ((args'.flatMap refs1).eraseDups[j]'hj) := List.getElem?_eq_getElem hj
        have h2 : order[j]? = some ((args'.flatMap refs1).eraseDups[j]'hj) := by
          rw [← h1]
          conv => rhs; rw [← htake]
          rw [List.getElem?_take, if_pos hj]
        have h3 : ((args'.flatMap refs1).eraseDups[j]'hj) ∈ args'.flatMap refs1 := eraseDups_mem.1 (List.getElem_mem hj)
        have h4 := idx_get c1 h2
        obtain ⟨x, hx, hi⟩ := List.mem_flatMap.1 h3
        refine List.mem_flatMap.2 ⟨ren1 (idx order) x, List.mem_map.2 ⟨x, hx, rfl⟩, ?_⟩
        have hren0 : ∀ z, ((args'.flatMap refs1).eraseDups[j]'hj) ∈ refs0 z → j ∈ refs0 (ren0 (idx order) z) := by
          intro z hz
          cases z with
          | ar id lo n => simp [refs0] at hz; simp only [ren0]; rw [← hz, h4]; simp [refs0]
          | rf id lo n => simp [refs0] at hz; simp only [ren0]; rw [← hz, h4]; simp [refs0]
          | _ => simp [refs0] at hz
        cases x with
        | agg cs =>
          obtain ⟨z, hz, hi⟩ := List.mem_flatMap.1 hi
          exact List.mem_flatMap.2 ⟨_, List.mem_map.2 ⟨z, hz, rfl⟩, hren0 z hi⟩
        | cl f cs =>
          obtain ⟨z, hz, hi⟩ := List.mem_flatMap.1 hi
          exact List.mem_flatMap.2 ⟨_, List.mem_map.2 ⟨z, hz, rfl⟩, hren0 z hi⟩
        | ar id lo n => have hi : _ ∈ refs0 (.ar id lo n) := hi; simp [refs0] at hi; simp only [ren1, ren0]; rw [← hi, h4]; simp [refs1, refs0]
        | rf id lo n => have hi : _ ∈ refs0 (.rf id lo n) := hi; simp [refs0] at hi; simp only [ren1, ren0]; rw [← hi, h4]; simp [refs1, refs0]
        | _ => simp [refs1, refs0] at hi
      have hst := call_common (order := order) (e := (args'.flatMap refs1).eraseDups.length) c ho hus (r := r) (blks' := blks') hsp hid c1 c2 hdis' hkind heo hle hlen hdir hv'
      by_cases hc : (lent.isEmpty || noIm r && blks'.all noImB) = true
      · rw [if_pos hc] at hst hK
        exact ⟨_, _, _, hK, hst, wfout_call c.wf c2 hle heo hlen r⟩
      · rw [if_neg hc] at hst hK
        exact ⟨_, _, _, hK, hst, wfout_call (c.wf.freeze _) (fun id hid => by rw [freeze_other _ hp id (hdis' id hid)]; exact c2 id hid) hle heo hlen r⟩

end Go.Proofs.Ytcmihlhmeonmfaa.Ev
