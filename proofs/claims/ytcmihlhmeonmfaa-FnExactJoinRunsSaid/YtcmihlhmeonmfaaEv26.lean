/- Functions: a run of the evaluator gives a contract. -/
import Derived.Test.YtcmihlhmeonmfaaEv25
namespace Go.Proofs.Ytcmihlhmeonmfaa.Ev
open Go
set_option linter.unusedVariables false
set_option linter.unusedSimpArgs false

variable {P : Program} {w w' w0 : World} {E E' E0 : Env} {hp hp' hp0 : Hp} {G G' G0 U A W F S : Nat → Prop} {B B' : Nat → Prop} {ρ : Operand → V} {ρr : Operand → Value}

def resOf (tmps : Array Value) : ResultVar → Sem Value
  | .tmp t => pure (tmps.getD t undef)
  | .cell a t => do loadVar t (← asAddr (tmps.getD a undef))

theorem results_eq (fn : Func) (tmps : Array Value) : results fn tmps = (do let vs ← fn.results.mapM (resOf tmps); pure (if h : vs.size = 1 then vs[0] else .tuple vs) : Sem Value) := by
  unfold results
  congr 1

theorem resV_sound {st : St} {a : Act} {r : ResultVar} {K : V → Prop} (hI : HpInv w0 U A E G st.hp w) (hw : HpWf (fun i => i < 16 * st.c) st.hp) (hB : ∀ t, ∀ id ∈ refs2 (st.tm t), id < 16 * st.c) (hr : ∀ t, VR2 w E st.hp G (st.tm t) (a.tmps.getD t undef)) (h : resV P st r K) :
    ∃ x y, K x ∧ (resOf a.tmps r).run P w = .ok y w ∧ VR2 w E st.hp G x y ∧ ∀ i ∈ refs2 x, i < 16 * (st.c + 1) := by
  cases r with
  | tmp t => exact ⟨_, _, h, rfl, hr t, fun i hi => by have := hB t i hi; omega⟩
  | cell ad t =>
    unfold resV at h
    simp only at h
    split at h
    · rename_i x new hx
      obtain ⟨_, y, h1, h2⟩ := M_load hI (fun x => opnd_rel hr x) hx
      have hids : ∀ x, ∀ id ∈ refs2 (opnd st.tm x), id < 16 * st.c := fun x id hid => by
        cases x with
        | tmp t => exact hB t id hid
        | const c => simp only [opnd, const_refs] at hid; simp at hid
        | global g => simp [opnd, refs2, refs1, refs0] at hid
        | func f => simp [opnd, refs2, refs1, refs0] at hid
      have hwf : WfOut (fun i => i < 16 * st.c) (16 * st.c) x (inst st.hp (16 * st.c) new) := M_wf (P := P) (op := .load t (.tmp ad)) (b := 16 * st.c) ⟨hI, hw, fun x => opnd_rel hr x, hids, fun j hj => by omega⟩ hx
      refine ⟨x, y, h, ?_, h2, fun i hi => by rcases hwf.1 i hi with h | h <;> omega⟩
      unfold Instr.loadAt at h1
      have hev : a.eval (.tmp ad) = a.tmps.getD ad undef := rfl
      rw [hev] at h1
      show Sem.run P (do loadVar t (← asAddr (a.tmps.getD ad undef))) w = _
      generalize a.tmps.getD ad undef = v at h1 ⊢
      cases v with
      | pointer p =>
        cases p with
        | some p => exact h1
        | none => simp [Instr.sureAddr, Sem.run_bind] at h1
      | _ => simp [Instr.sureAddr, Sem.run_bind] at h1
    · exact h.elim

theorem resVs_sound {st : St} {a : Act} (hI : HpInv w0 U A E G st.hp w) (hw : HpWf (fun i => i < 16 * st.c) st.hp) (hB : ∀ t, ∀ id ∈ refs2 (st.tm t), id < 16 * st.c) (hr : ∀ t, VR2 w E st.hp G (st.tm t) (a.tmps.getD t undef)) : ∀ {l : List ResultVar} {K : List V → Prop}, resVs P st l K →
    ∃ xs ys, K xs ∧ (l.mapM (resOf a.tmps)).run P w = .ok ys w ∧ xs.length = ys.length ∧ (∀ (i : Nat) (x : V) (y : Value), xs[i]? = some x → ys[i]? = some y → VR2 w E st.hp G x y) ∧ ∀ x ∈ xs, ∀ i ∈ refs2 x, i < 16 * (st.c + 1)
  | [], K, h => ⟨[], [], h, by simp, rfl, fun i x y hx => by simp at hx, fun x hx => by simp at hx⟩
  | r :: l, K, h => by
    unfold resVs at h
    obtain ⟨x, y, h1, h2, h3, h3'⟩ := resV_sound hI hw hB hr h
    obtain ⟨xs, ys, h4, h5, h6, h7, h8⟩ := resVs_sound hI hw hB hr h1
    refine ⟨x :: xs, y :: ys, h4, ?_, by simp [h6], fun i x' y' hx hy => ?_, fun x' hx' => by rcases List.mem_cons.1 hx' with rfl | h; exact h3'; exact h8 x' h⟩
    · rw [List.mapM_cons]
      simp only [Sem.run_bind, h2, Result.andThen_ok, h5, Sem.run_pure]
    · cases i with
      | zero => simp at hx hy; subst hx; subst hy; exact h3
      | succ i => exact h7 i x' y' (by simpa using hx) (by simpa using hy)

theorem notTup_vr1 {x : V} {y : Value} (h : notTup x = true) (hv : VR2 w E hp G x y) : VR1 w E hp G x y := by
  cases x with
  | tup l => cases h
  | _ => exact hv

theorem out1_sound {e nt : Nat} {x r : V} {y : Value} {blks : List Blk} (h : out1 hp e x r blks) (hI : HpInv w0 U A E G hp w) (hv : VR2 w E hp G x y) (hx : Ext (fun j => j < e) E0 G0 hp0 w0 E G hp w) :
    ∃ E', HpInv w0 U A E' G (lkB blks) w ∧ VR2 w E' (lkB blks) G r y ∧ Ext (fun j => j < e) E0 G0 hp0 w0 E' G (lkB blks) w := by
  unfold out1 at h
  split at h
  · rename_i order hcl
    obtain ⟨h1, h2, h3⟩ := h
    obtain ⟨c1, c2, _, _⟩ := close_spec hp 64 _ _ _ hcl (by simp) (fun id hid => by simp at hid)
    subst h2
    subst h3
    exact ⟨envOf E order, turn_inv hI c1 c2, (turn_in c2).vr2 (fun b hb => hb) hv, hx.trans (turn_ext c1 c2 h1) fun _ h => h⟩
  · exact h.elim

theorem enum_lk {args : List V} : ∀ (n t : Nat), lk V.any (enum n args) (n + t) = args.getD t V.any := by
  induction args with
  | nil => intro n t; rfl
  | cons x l ih =>
    intro n t
    simp only [enum, lk]
    cases t with
    | zero => simp
    | succ t =>
      rw [if_neg (by omega)]
      have := ih (n + 1) t
      rw [show n + 1 + t = n + (t + 1) by omega] at this
      rw [this]
      simp

theorem entry_sound {fn : Func} {args : List V} {blks : List Blk} {vals : Array Value} (hid : idsOK args blks = true) (hn : args.length ≤ fn.ntmps) (hI : HpInv w (Own E (lkB blks)) A E A (lkB blks) w) (hv : VL (VR1 w E (lkB blks) A) args vals.toList) :
    SS w (Own E (lkB blks)) A E A (lkB blks) (args.flatMap refs1).eraseDups.length fn.ntmps (entry args blks) { tmps := vals ++ Array.replicate (fn.ntmps - vals.size) undef, defers := [] } w := by
  have hlen : vals.size = args.length := by have := hv.length; simpa using this
  simp only [idsOK, Bool.and_eq_true, decide_eq_true_eq, beq_iff_eq] at hid
  obtain ⟨⟨⟨h1, h2⟩, h3⟩, h4⟩ := hid
  have hrefs : ∀ i ∈ args.flatMap refs1, i < 16 := fun i hi => by simpa using List.all_eq_true.1 h1 i hi
  refine ⟨by simp; omega, rfl, fun j hj => ?_, E, A, hI, ?_, fun t => ?_, fun t id hid => ?_, Ext.refl _ _ _ _ _⟩
  · have : j ∈ (args.flatMap refs1).eraseDups := by rw [h4]; simp [hj]
    have := hrefs j (eraseDups_mem.1 this)
    show j < 16 * 1
    omega
  · intro id k hk
    have hk' : blks[id]? = some k := hk
    refine ⟨?_, fun j hj => ?_⟩
    · have := (List.getElem?_eq_some_iff.1 hk').1
      show id < 16 * 1
      omega
    · have := List.all_eq_true.1 h2 j (List.mem_flatMap.2 ⟨k, List.mem_of_getElem? hk', hj⟩)
      simp at this
      show j < 16 * 1
      omega
  · have := enum_lk (args := args) 0 t
    rw [Nat.zero_add] at this
    show VR2 w E (lkB blks) A (lk V.any (enum 0 args) t) _
    rw [this]
    cases hx : args[t]? with
    | none => simp only [List.getD, hx, Option.getD_none]; exact any_vr2
    | some x =>
      obtain ⟨y, hy, hr⟩ := hv.get t x hx
      have ht : t < vals.size := by have := (List.getElem?_eq_some_iff.1 hx).1; omega
      have : (vals ++ Array.replicate (fn.ntmps - vals.size) undef).getD t undef = y := by
        rw [Array.getD_eq_getD_getElem?, Array.getElem?_append_left ht]
        have : vals[t]? = some y := by simpa using hy
        rw [this]; rfl
      simp only [List.getD, hx, Option.getD_some]
      rw [this]
      exact hr.to2
  · have := enum_lk (args := args) 0 t
    rw [Nat.zero_add] at this
    have hid : id ∈ refs2 (lk V.any (enum 0 args) t) := hid
    rw [this] at hid
    cases hx : args[t]? with
    | none => simp only [List.getD, hx, Option.getD_none] at hid; simp [refs2, refs1, refs0] at hid
    | some x =>
      simp only [List.getD, hx, Option.getD_some] at hid
      have hmem := List.mem_of_getElem? hx
      obtain ⟨y, hy, hr⟩ := hv.get t x hx
      have : id ∈ refs1 x := by
        cases x with
        | tup l => exact hr.elim
        | _ => exact hid
      have := hrefs id (List.mem_flatMap.2 ⟨x, hmem, this⟩)
      show id < 16 * 1
      omega

theorem runs_spec {cf : Cfg} {ext : Rel} (hm : P.follows .mixedOrders = true) (hext : ∀ g args blks r blks', ext g args blks r blks' → CSpec P g args blks r blks') :
    ∀ k g args blks r blks', runsN P cf ext k g args blks r blks' → CSpec P g args blks r blks'
  | 0, g, args, blks, r, blks', h => hext g args blks r blks' h
  | k + 1, g, args, blks, r, blks', h => by
    rcases h with h | ⟨_, fn, c, hfn, hbody, hok, hid, h⟩
    · exact hext g args blks r blks' h
    · simp only [bodyOK, Bool.and_eq_true, decide_eq_true_eq] at hok
      obtain ⟨⟨⟨k1, k2⟩, k3⟩, k4⟩ := hok
      refine ⟨⟨fn, hfn, k1, by simp [hbody]⟩, fun _ w A E vals hI hv => ?_⟩
      refine calls_of_wp hfn hbody (we_sound hm (runs_spec hm hext k) c _ _ _ w _ k2 k3 h (entry_sound hid k4 hI hv) fun ex st a w' hq hs => ?_)
      obtain ⟨E1, G1, g1, g2, g3, g4, g5⟩ := hs.env
      have hfin : (∀ id, ex ≠ .exit id) → a.defers = [] ∧ ∃ v, (results fn a.tmps).run P w' = .ok v w' ∧ ∃ y E' G', Ending.returned v = .returned y ∧ HpInv w (Own E (lkB blks)) A E' G' (lkB blks') w' ∧ VR2 w' E' (lkB blks') G' r y ∧ KeptA args blks blks' E E' := by
        intro hex
        refine ⟨hs.defers, ?_⟩
        have hq' : resVs P st fn.results.toList fun xs => caseO (normR (cf.res g) xs st.hp (st.c + 1)) fun z => outL z.2.1 (args.flatMap refs1).eraseDups.length r blks' z.1 := by
          cases ex with
          | exit id => exact absurd rfl (hex id)
          | normal => exact hq
          | ret => exact hq
        obtain ⟨xs0, ys, q1, q2, q3, q4, q5⟩ := resVs_sound g1 g2 g4 g3 hq'
        unfold caseO at q1
        split at q1
        case h_2 => exact q1.elim
        rename_i z hz
        obtain ⟨xs, hp1, c1⟩ := z
        simp only at q1
        obtain ⟨E3, G3, s1, s2, s3, s4⟩ := normR_sound g1 (g2.mono fun i (hi : i < 16 * st.c) => (by omega : i < 16 * (st.c + 1))) q3 q4 q5 hz
        have hrun : (results fn a.tmps).run P w' = .ok (if h : ys.toArray.size = 1 then ys.toArray[0] else .tuple ys.toArray) w' := by
          rw [results_eq]
          have : fn.results.mapM (resOf a.tmps) = (do let l ← fn.results.toList.mapM (resOf a.tmps); pure l.toArray : Sem (Array Value)) := by
            rw [Array.mapM_eq_mapM_toList, map_eq_pure_bind]
          rw [this]
          simp only [Sem.run_bind, q2, Result.andThen_ok, Sem.run_pure]
        have hval : ∃ x y, out1 hp1 (args.flatMap refs1).eraseDups.length x r blks' ∧ VR2 w' E3 hp1 G3 x y ∧ (results fn a.tmps).run P w' = .ok y w' := by
          match xs, ys, q1, s3, s4, hrun with
          | [x], [y], q1, _, s4, hrun => exact ⟨x, y, q1, s4 0 x y rfl rfl, by simpa using hrun⟩
          | [], [], q1, _, s4, hrun => exact ⟨.tup [], .tuple #[], q1.2, ⟨#[], rfl, trivial⟩, by simpa using hrun⟩
          | x1 :: x2 :: xs, y1 :: y2 :: ys, q1, s3, s4, hrun =>
            refine ⟨.tup (x1 :: x2 :: xs), .tuple (y1 :: y2 :: ys).toArray, q1.2, ⟨_, rfl, VL.of_get (by simpa using s3.symm) fun j x y hx hy => ?_⟩, by simpa using hrun⟩
            exact notTup_vr1 (List.all_eq_true.1 q1.1 x (List.mem_of_getElem? hx)) (s4 j x y hx (by simpa using hy))
          | [], _ :: _, _, s3, _, _ => simp at s3
          | _ :: _, [], _, s3, _, _ => simp at s3
          | [_], _ :: _ :: _, _, s3, _, _ => simp at s3
          | _ :: _ :: _, [_], _, s3, _, _ => simp at s3
        obtain ⟨x, y, p1, p2, p3⟩ := hval
        obtain ⟨E2, r1, r2, r3⟩ := out1_sound (nt := 0) p1 s1 p2 (g5.trans s2 fun j hj => (by have : j < 16 * st.c := hs.low j hj; omega))
        refine ⟨y, p3, y, E2, G3, rfl, r1, r2, fun j hj k' hk' => ?_⟩
        have hj' : j < (args.flatMap refs1).eraseDups.length := by
          simp only [idsOK, Bool.and_eq_true, decide_eq_true_eq, beq_iff_eq] at hid
          have h5 : j ∈ (args.flatMap refs1).eraseDups := eraseDups_mem.2 hj
          rw [hid.2] at h5
          simpa using h5
        exact ext_kept hI r3 hj' hk'
      cases ex with
      | exit id => exact hq.elim
      | normal => exact hfin (fun id h => by cases h)
      | ret => exact hfin (fun id h => by cases h)

end Go.Proofs.Ytcmihlhmeonmfaa.Ev
