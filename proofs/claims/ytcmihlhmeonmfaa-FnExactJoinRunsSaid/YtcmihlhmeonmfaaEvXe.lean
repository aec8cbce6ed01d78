/- The typed evaluator and the evaluator: regions, code, functions. -/
import Derived.Test.YtcmihlhmeonmfaaEvXd
namespace Go.Proofs.Ytcmihlhmeonmfaa.Ev
open Go
set_option linter.unusedVariables false
set_option linter.unusedSimpArgs false

section
variable {P : Program} {R : Rel} {cf : Cfg} {X : TX} {g : FuncId}

def EntsOK (R : Rel) (cf : Cfg) (X : TX) : Prop := ∀ g E, findF X.ents g = some E → EntOK R E ∧ E.a.g = g ∧ cf.byref g = E.a.byref

theorem op_looks {α : Type} {op : Op} {b : Nat} {tm : TTm} {m : Tm} {hp hpm : THp} {hvm : Hp} {K : SV → THp → Cls → Option α} {z : α} (hX : XOK P X) (hisr : isR op = true) (hr : RT hp tm m) (hh : RHm hpm hp hvm) (h : wtOp X op b tm hpm K = some z) : Looks P R cf op b m hp hpm hvm K z := by
  cases op with
  | load t a => exact l_load hX hr hh h
  | indexAddr t x i => exact l_idx hX hr hh h
  | convert s d x => exact l_conv hX hr hh h
  | slice t x lo hi mx =>
    cases mx with
    | none => exact l_slice hX hr hh h
    | some m' =>
      cases hi with
      | none => simp [wtOp] at h
      | some h' => exact l_slice3 hX hr h
  | _ => simp [isR] at hisr

theorem op_done {α : Type} {op : Op} {b : Nat} {tm : TTm} {m : Tm} {hp : THp} {hv : Hp} {K : SV → THp → Cls → Option α} {z : α} (hX : XOK P X) (hE : EntsOK R cf X) (hh : RH hp hv) (hr : RT hp tm m) (h : wtOp X op b tm hp K = some z) : Done P R cf op b tm m hv K z := by
  cases op with
  | move x => exact (l_move hr h).done hh hr
  | assign x => exact (l_assign hr h).done hh hr
  | pick c x y => exact (l_pick hr h).done hh hr
  | alloc t => exact d_alloc hX hh hr h
  | box t x => exact d_box hX hh hr h
  | build t parts => exact (l_build hX hr h).done hh hr
  | buildSlice t len parts => exact d_build hX hh hr h
  | load t a => exact (l_load hX hr hh.toM h).done hh hr
  | store t a x => exact d_store hX hh hr h
  | nilCheck x => exact (l_nil hr h).done hh hr
  | binOp op t x y yt => exact (l_bin hX hr h).done hh hr
  | unOp u t x => exact (l_un hr h).done hh hr
  | convert s d x => exact (l_conv hX hr hh.toM h).done hh hr
  | makeSlice t l c => exact d_make hX hh hr h
  | slice t x lo hi mx =>
    cases mx with
    | none => exact (l_slice hX hr hh.toM h).done hh hr
    | some m' =>
      cases hi with
      | none => simp [wtOp] at h
      | some h' => exact (l_slice3 hX hr h).done hh hr
  | fieldAddr t x k => exact (l_fieldAddr hX hr h).done hh hr
  | field t x k => exact (l_field hX hr h).done hh hr
  | indexAddr t x i => exact (l_idx hX hr hh.toM h).done hh hr
  | index t x i => exact (l_index hX hr h).done hh hr
  | extract x k => exact (l_extract hr h).done hh hr
  | makeFunc fn first caps =>
    cases fn with
    | func f => exact (l_func hr h).done hh hr
    | _ => simp [wtOp] at h
  | call c =>
    obtain ⟨callee, args, ts⟩ := c
    cases callee with
    | builtin bi =>
      cases bi with
      | append => exact d_append hX hh hr h
      | len => exact (l_len hX hr hh.toM h).done hh hr
      | min => exact (l_min hr h).done hh hr
      | max => exact (l_max hr h).done hh hr
      | _ => simp [wtOp] at h
    | value f =>
      simp only [wtOp] at h
      split at h
      · rename_i g caps hf
        have hc := op_rel hr f
        rw [hf] at hc
        obtain ⟨us, hfv, hcs⟩ := rv_cl hc
        obtain ⟨x, hp', cls, y, hv', h1, h2, h3, h4, h5⟩ := call_done hE hh hr (RC.append (map_op_rel hr args.toList) (hcs.mono fun _ _ _ h => h.to1.to2)) h
        refine ⟨x, hp', cls, y, hv', h1, h2, h3, h4, fun KV hk => ?_⟩
        show (match opnd m f with | .cl g caps => weInv R cf g (args.toList.map (opnd m) ++ caps) hv b KV | _ => False)
        rw [hfv]
        exact h5 KV hk
      · cases h
    | _ => simp [wtOp] at h
  | _ => simp [wtOp] at h

theorem mask_T {b : Nat} : ∀ (hp : THp) (id : Nat), getB (maskT b hp) id = if id < b then getB hp id else none
  | [], id => by simp [maskT, getB]
  | (k, x) :: l, id => by
    have ih := mask_T (b := b) l id
    unfold maskT at ih ⊢
    rw [List.filter_cons]
    by_cases hk : k < b
    · have : Nat.blt k b = true := Nat.ble_eq_true_of_le hk
      simp only [this, if_true]
      rw [getB_cons, getB_cons]
      by_cases hi : id = k
      · subst hi; rw [if_pos rfl, if_pos rfl, if_pos hk]
      · rw [if_neg hi, if_neg hi]; exact ih
    · have : Nat.blt k b = false := by
        cases hb : Nat.blt k b with
        | false => rfl
        | true => exact absurd (Nat.lt_of_succ_le (Nat.le_of_ble_eq_true hb)) hk
      simp only [this, Bool.false_eq_true, if_false]
      rw [getB_cons]
      by_cases hi : id = k
      · subst hi; rw [if_neg hk] at ih ⊢; exact ih
      · rw [if_neg hi]; exact ih

/-- An operation where it stands. -/
theorem at_done {α : Type} {draw : Bool} {op : Op} {b : Nat} {tm : TTm} {m : Tm} {hp : THp} {hv : Hp} {K : SV → THp → Cls → Option α} {z : α} (hX : XOK P X) (hE : EntsOK R cf X) (hh : RH hp hv) (hr : RT hp tm m) (h : wtAt X draw op b tm hp K = some z) :
    ∃ x hp' cls y hv', K x hp' cls = some z ∧ RV2 hp' x y ∧ RH hp' hv' ∧ RT hp' tm m ∧ ∀ KV : Cont, KV y hv' cls → opAt P R cf draw op b (opnd m) hv KV := by
  unfold wtAt at h
  cases hd : draw && isR op with
  | true =>
    rw [hd] at h
    have hi : isR op = true := by simp only [Bool.and_eq_true] at hd; exact hd.2
    obtain ⟨x, y, cls, h1, h2, h3⟩ := op_looks (R := R) (cf := cf) (hp := hp) (hpm := maskT b hp) (hvm := mask b hv) hX hi hr (fun id bb hb => by
      rw [mask_T] at hb
      split at hb
      · rename_i hlt
        obtain ⟨k, hk, hrb⟩ := hh id bb hb
        exact ⟨hb, k, by simp only [mask, if_pos hlt, hk], hrb⟩
      · cases hb) h
    refine ⟨x, hp, cls, y, hv, h1, h2, hh, hr, fun KV hk => ?_⟩
    unfold opAt
    rw [hd]
    exact h3 (fun x _ cls => KV x hv cls) hk
  | false =>
    rw [hd] at h
    obtain ⟨x, hp', cls, y, hv', h1, h2, h3, h4, h5⟩ := op_done hX hE hh hr h
    refine ⟨x, hp', cls, y, hv', h1, h2, h3, h4, fun KV hk => ?_⟩
    unfold opAt
    rw [hd]
    exact h5 KV hk

theorem put_rel {hp : THp} {tm : TTm} {m : Tm} {x : SV} {y : V} (h : RT hp tm m) (hx : RV2 hp x y) (dst : Option Tmp) : RT hp (putTm tm dst x) (put m dst y) := by
  cases dst with
  | none => exact h
  | some d =>
    intro t
    simp only [putTm, put]
    rw [getV_cons]
    unfold upd
    split
    · exact hx
    · exact h t

theorem drawn_some {α : Type} {draw ok : Bool} {cls : Cls} {A : Option α} {z : α} (h : drawnT draw ok cls A = some z) : A = some z ∧ ∀ B : Prop, B → drawn draw ok cls B := by
  cases draw <;> cases cls <;> first | exact ⟨h, fun B hb => hb⟩ | (obtain ⟨h1, h2⟩ := cond_none' h; exact ⟨h2, fun B hb => ⟨h1, hb⟩⟩)

theorem ops_done {α : Type} {all : List Oper} {draw : Bool} (hX : XOK P X) (hE : EntsOK R cf X) : ∀ (l : List Oper) (i : Nat) {st : TSt} {s : St} {K : TSt → Option α} {z : α}, RS st s → wtOps X all draw l i st K = some z →
    ∃ st' s', K st' = some z ∧ RS st' s' ∧ st'.c = st.c ∧ ∀ KV : St → Prop, KV s' → weOps P R cf all draw l i s KV
  | [], i, st, s, K, z, hs, h => ⟨st, s, h, hs, rfl, fun KV hk => hk⟩
  | o :: l, i, st, s, K, z, hs, h => by
    -- an operation that is done
    have go : ∀ (tm : TTm), RT st.hp tm s.tm → (wtAt X draw o.op (16 * (st.c + i)) tm st.hp fun x hp cls => drawnT draw (eOK all i) cls (wtOps X all draw l (i + 1) { tm := putTm tm o.dst x, hp := hp, c := st.c } K)) = some z →
        ∃ st' s', K st' = some z ∧ RS st' s' ∧ st'.c = st.c ∧ ∀ KV : St → Prop, KV s' → opAt P R cf draw o.op (16 * (s.c + i)) (opnd s.tm) s.hp fun x hp cls => drawn draw (eOK all i) cls (weOps P R cf all draw l (i + 1) { tm := put s.tm o.dst x, hp := hp, c := s.c } KV) := by
      intro tm hr h
      obtain ⟨x, hp', cls, y, hv', h1, h2, h3, h4, h5⟩ := at_done (R := R) (cf := cf) hX hE hs.hp hr h
      obtain ⟨h6, h7⟩ := drawn_some h1
      obtain ⟨st', s', q1, q2, q3, q4⟩ := ops_done hX hE l (i + 1) (st := { tm := putTm tm o.dst x, hp := hp', c := st.c }) (s := { tm := put s.tm o.dst y, hp := hv', c := s.c }) ⟨put_rel h4 h2 o.dst, h3, hs.c⟩ h6
      exact ⟨st', s', q1, q2, q3, fun KV hk => by rw [hs.c]; exact h5 _ (by have := h7 _ (q4 KV hk); rw [hs.c] at this; exact this)⟩
    -- one that is passed by
    have no : ∀ (tm : TTm), RT st.hp tm s.tm → wtOps X all draw l (i + 1) { tm := putTm tm o.dst (.tup []), hp := st.hp, c := st.c } K = some z →
        ∃ st' s', K st' = some z ∧ RS st' s' ∧ st'.c = st.c ∧ ∀ KV : St → Prop, KV s' → weOps P R cf all draw l (i + 1) { tm := put s.tm o.dst (.tup []), hp := s.hp, c := s.c } KV := by
      intro tm hr h
      exact ops_done hX hE l (i + 1) (st := { tm := putTm tm o.dst (.tup []), hp := st.hp, c := st.c }) (s := { tm := put s.tm o.dst (.tup []), hp := s.hp, c := s.c }) ⟨put_rel (x := .tup []) (y := .tup []) hr ⟨[], rfl, trivial⟩ o.dst, hs.hp, hs.c⟩ h
    simp only [wtOps] at h
    cases hg : o.guard with
    | none =>
      rw [hg] at h
      obtain ⟨st', s', q1, q2, q3, q4⟩ := go st.tm hs.tm h
      exact ⟨st', s', q1, q2, q3, fun KV hk => by unfold weOps; rw [hg]; exact q4 KV hk⟩
    | some jw =>
      obtain ⟨j, want⟩ := jw
      rw [hg] at h
      simp only at h
      cases hd : (all[j]?).bind (·.dst) with
      | none => rw [hd] at h; cases h
      | some d =>
        rw [hd] at h
        simp only at h
        have htd := hs.tm d
        have fin : ∀ w : Bool, guardC (s.tm d) want = some w → (∃ st' s', K st' = some z ∧ RS st' s' ∧ st'.c = st.c ∧ ∀ KV : St → Prop, KV s' → (if w = true then opAt P R cf draw o.op (16 * (s.c + i)) (opnd s.tm) s.hp fun x hp cls => drawn draw (eOK all i) cls (weOps P R cf all draw l (i + 1) { tm := put s.tm o.dst x, hp := hp, c := s.c } KV) else weOps P R cf all draw l (i + 1) { tm := put s.tm o.dst (.tup []), hp := s.hp, c := s.c } KV)) →
            ∃ st' s', K st' = some z ∧ RS st' s' ∧ st'.c = st.c ∧ ∀ KV : St → Prop, KV s' → weOps P R cf all draw (o :: l) i s KV := by
          intro w hw ⟨st', s', q1, q2, q3, q4⟩
          refine ⟨st', s', q1, q2, q3, fun KV hk => ?_⟩
          unfold weOps
          rw [hg]
          simp only [hd, Option.map_some, caseO_some, hw]
          exact q4 KV hk
        have same : ∀ t : Bool, s.tm d = .v (.bool t) → RT st.hp ((d, .bool t) :: st.tm) s.tm := by
          intro t ht t'
          rw [getV_cons]
          split
          · rename_i he; rw [he, ht]; rfl
          · exact hs.tm t'
        split at h
        · rename_i t hv
          rw [hv] at htd
          have htd := rv_bool htd
          cases want with
          | true =>
            simp only at h
            cases t with
            | true =>
              obtain ⟨st', s', q1, q2, q3, q4⟩ := go _ (same true htd) h
              exact fin true (by rw [htd]; rfl) ⟨st', s', q1, q2, q3, fun KV hk => by rw [if_pos rfl]; exact q4 KV hk⟩
            | false =>
              obtain ⟨st', s', q1, q2, q3, q4⟩ := no _ (same false htd) h
              exact fin false (by rw [htd]; rfl) ⟨st', s', q1, q2, q3, fun KV hk => by rw [if_neg (by simp)]; exact q4 KV hk⟩
          | false =>
            simp only at h
            cases t with
            | true =>
              obtain ⟨st', s', q1, q2, q3, q4⟩ := no _ (same true htd) h
              exact fin false (by rw [htd]; rfl) ⟨st', s', q1, q2, q3, fun KV hk => by rw [if_neg (by simp)]; exact q4 KV hk⟩
            | false =>
              obtain ⟨st', s', q1, q2, q3, q4⟩ := go _ (same false htd) h
              exact fin true (by rw [htd]; rfl) ⟨st', s', q1, q2, q3, fun KV hk => by rw [if_pos rfl]; exact q4 KV hk⟩
        · rename_i hv
          rw [hv] at htd
          obtain ⟨us, hus, hc⟩ := (show ∃ us, s.tm d = .tup us ∧ RC (RV1 st.hp) [] us from htd)
          cases us with
          | cons a l => exact hc.elim
          | nil =>
            obtain ⟨st', s', q1, q2, q3, q4⟩ := no _ hs.tm h
            exact fin false (by rw [hus]; rfl) ⟨st', s', q1, q2, q3, fun KV hk => by rw [if_neg (by simp)]; exact q4 KV hk⟩
        · cases h

/-- The table of the evaluator says what the walk is told. -/
structure CfOK (cf : Cfg) (g : FuncId) (X : TX) : Prop where
  live : ∀ r an, findN X.ann.heads r = some an → cf.live g r = keepI an
  out : ∀ r outs ex an, findN X.ann.outs r = some outs → findE outs ex = some an → cf.out g r ex = keepI an
  join : ∀ r an, findN X.ann.joins r = some an → cf.join g r = some (keepI an)
  nojoin : ∀ r, findN X.ann.joins r = none → cf.join g r = none
  res : cf.res g = (keepI X.ann.res).map (·.2)

theorem exEq_true {a b : Ex} (h : exEq a b = true) : a = b := by
  cases a <;> cases b <;> simp [exEq] at h
  · rfl
  · rw [h]
  · rfl

theorem inj_rel {α : Type} {e : Nat} {Q : TPost α} {ex : Ex} {st : TSt} {z : α} : ∀ {l : List (Ex × List Item)} {d : denX l}, injX e l ex st = some d → elimX Q l d = some z → ∃ an dd, findE l ex = some an ∧ decSt e an st = some dd ∧ Q ex (encSt an dd) = some z
  | [], d, h, _ => by cases h
  | [a], d, h, hz => by
    simp only [injX] at h
    obtain ⟨h1, h2⟩ := cond_none' h
    have := exEq_true h1
    subst this
    refine ⟨a.2, d, ?_, h2, hz⟩
    show cond (exEq a.1 a.1) (some a.2) _ = _
    rw [h1]; rfl
  | a :: b :: l, d, h, hz => by
    simp only [injX] at h
    cases hc : exEq a.1 ex with
    | true =>
      rw [hc] at h
      simp only [cond_true, Option.map_eq_some_iff] at h
      obtain ⟨dd, h1, rfl⟩ := h
      have := exEq_true hc
      subst this
      refine ⟨a.2, dd, ?_, h1, hz⟩
      show cond (exEq a.1 a.1) (some a.2) _ = _
      rw [hc]; rfl
    | false =>
      rw [hc] at h
      simp only [cond_false, Option.map_eq_some_iff] at h
      obtain ⟨dd, h1, rfl⟩ := h
      obtain ⟨an, d2, q1, q2, q3⟩ := inj_rel (l := b :: l) h1 hz
      refine ⟨an, d2, ?_, q2, q3⟩
      show cond (exEq a.1 ex) (some a.2) (findE (b :: l) ex) = _
      rw [hc]; exact q1

theorem code_done (hX : XOK P X) (hE : EntsOK R cf X) (hcf : CfOK cf g X) : ∀ (c : Code) {α : Type} {st : TSt} {s : St} {Q : TPost α} {z : α}, RS st s → wtC X c st Q = some z →
    ∃ ex st' s', Q ex st' = some z ∧ RS st' s' ∧ ∀ QV : Post, QV ex s' → we P R cf g X.e c s QV
  | .skip, α, st, s, Q, z, hs, h => ⟨.normal, st, s, h, hs, fun QV hq => hq⟩
  | .exit id, α, st, s, Q, z, hs, h => ⟨.exit id, st, s, h, hs, fun QV hq => hq⟩
  | .ret, α, st, s, Q, z, hs, h => ⟨.ret, st, s, h, hs, fun QV hq => hq⟩
  | .region id ops draw, α, st, s, Q, z, hs, h => by
    obtain ⟨st', s', h1, h2, h3, h4⟩ := ops_done (R := R) (cf := cf) hX hE ops.toList 0 hs h
    refine ⟨.normal, _, { s' with c := s'.c + ops.size }, h1, ⟨h2.tm, h2.hp, by show s'.c + _ = st'.c + _; rw [h2.c]⟩, fun QV hq => ?_⟩
    unfold we
    exact h4 _ hq
  | .seq a b, α, st, s, Q, z, hs, h => by
    unfold wtC at h
    cases hj : findN X.ann.joins (rid b) with
    | none =>
      rw [hj] at h
      simp only at h
      obtain ⟨ex, st1, s1, h1, h2, h3⟩ := code_done hX hE hcf a hs h
      cases ex with
      | normal =>
        obtain ⟨ex, st2, s2, q1, q2, q3⟩ := code_done hX hE hcf b h2 h1
        exact ⟨ex, st2, s2, q1, q2, fun QV hq => by unfold we; exact h3 _ (by show meet _ _ _ _; rw [hcf.nojoin _ hj]; exact q3 QV hq)⟩
      | exit id => exact ⟨.exit id, st1, s1, h1, h2, fun QV hq => by unfold we; exact h3 _ hq⟩
      | ret => exact ⟨.ret, st1, s1, h1, h2, fun QV hq => by unfold we; exact h3 _ hq⟩
    | some an =>
      rw [hj] at h
      simp only at h
      obtain ⟨w, hw, hz⟩ := bind_some' h
      obtain ⟨ex, st1, s1, h1, h2, h3⟩ := code_done hX hE hcf a hs hw
      have other : ∀ ex', ex' ≠ .normal → ex = ex' → (Q ex' st1).map Sum.inl = some w → ∃ ex st' s', Q ex st' = some z ∧ RS st' s' ∧ ∀ QV : Post, QV ex s' → we P R cf g X.e (a.seq b) s QV := by
        intro ex' hne he h1
        subst he
        simp only [Option.map_eq_some_iff] at h1
        obtain ⟨r, hr, rfl⟩ := h1
        simp only [Sum.elim_inl, Option.some.injEq] at hz
        subst hz
        refine ⟨ex, st1, s1, hr, h2, fun QV hq => ?_⟩
        unfold we
        refine h3 _ ?_
        cases ex with
        | normal => exact absurd rfl hne
        | exit id => exact hq
        | ret => exact hq
      cases ex with
      | normal =>
        simp only [Option.map_eq_some_iff] at h1
        obtain ⟨d, hd, rfl⟩ := h1
        simp only [Sum.elim_inr] at hz
        obtain ⟨s2, c1, c2⟩ := canon_rel h2 hd
        obtain ⟨ex, st3, s3, q1, q2, q3⟩ := code_done hX hE hcf b c2 hz
        exact ⟨ex, st3, s3, q1, q2, fun QV hq => by unfold we; exact h3 _ (by show meet _ _ _ _; rw [hcf.join _ _ hj]; exact c1 _ (q3 QV hq))⟩
      | exit id => exact other (.exit id) (by simp) rfl h1
      | ret => exact other .ret (by simp) rfl h1
  | .cond c x y, α, st, s, Q, z, hs, h => by
    unfold wtC at h
    have hc := op_rel hs.tm c
    split at h
    · rename_i t ht
      rw [ht] at hc
      have hc := rv_bool hc
      cases t with
      | true =>
        obtain ⟨ex, st1, s1, h1, h2, h3⟩ := code_done hX hE hcf x hs h
        exact ⟨ex, st1, s1, h1, h2, fun QV hq => by unfold we; rw [hc]; exact h3 QV hq⟩
      | false =>
        obtain ⟨ex, st1, s1, h1, h2, h3⟩ := code_done hX hE hcf y hs h
        exact ⟨ex, st1, s1, h1, h2, fun QV hq => by unfold we; rw [hc]; exact h3 QV hq⟩
    · cases h
  | .block id c, α, st, s, Q, z, hs, h => by
    unfold wtC at h
    obtain ⟨ex, st1, s1, h1, h2, h3⟩ := code_done hX hE hcf c hs h
    cases ex with
    | normal => exact ⟨.normal, st1, s1, h1, h2, fun QV hq => by unfold we; exact h3 _ hq⟩
    | ret => exact ⟨.ret, st1, s1, h1, h2, fun QV hq => by unfold we; exact h3 _ hq⟩
    | exit j =>
      simp only at h1
      cases hj : Nat.beq j id with
      | true =>
        rw [hj] at h1
        have hji := Nat.eq_of_beq_eq_true hj
        exact ⟨.normal, st1, s1, h1, h2, fun QV hq => by unfold we; exact h3 _ (by show (if j = id then _ else _); rw [if_pos hji]; exact hq)⟩
      | false =>
        rw [hj] at h1
        have hji : j ≠ id := fun he => by subst he; rw [Nat.beq_refl] at hj; cases hj
        exact ⟨.exit j, st1, s1, h1, h2, fun QV hq => by unfold we; exact h3 _ (by show (if j = id then _ else _); rw [if_neg hji]; exact hq)⟩
  | .loop c, α, st, s, Q, z, hs, h => by
    unfold wtC at h
    split at h
    · rename_i an outs ha ho
      obtain ⟨d0, hd0, h⟩ := bind_some' h
      obtain ⟨w, hw, hz⟩ := bind_some' h
      obtain ⟨n, hn⟩ := loopM_some hw
      obtain ⟨s0, c1, c2⟩ := canon_rel hs hd0
      have key : ∀ (n : Nat) (d : denI an) (s0 : St), loopF (fun d => wtC X c (encSt an d) fun ex s => match ex with | .normal => (decSt X.e an s).map .inl | ex => (injX X.e outs ex s).map .inr) n d = some w → RS (encSt an d) s0 →
          ∃ ex st' s', Q ex st' = some z ∧ RS st' s' ∧ ∀ QV : Post, QV ex s' → loopAt P R cf g X.e c s0 QV := by
        intro n
        induction n with
        | zero => intro d s0 h _; cases h
        | succ n ih =>
          intro d s0 h hs0
          simp only [loopF] at h
          obtain ⟨o, hb, h⟩ := bind_some' h
          obtain ⟨ex, st1, s1, h1, h2, h3⟩ := code_done hX hE hcf c hs0 hb
          have other : ∀ ex', ex' ≠ .normal → ex = ex' → (injX X.e outs ex' st1).map Sum.inr = some o → ∃ ex st' s', Q ex st' = some z ∧ RS st' s' ∧ ∀ QV : Post, QV ex s' → loopAt P R cf g X.e c s0 QV := by
            intro ex' hne he h1
            subst he
            simp only [Option.map_eq_some_iff] at h1
            obtain ⟨w', hw', rfl⟩ := h1
            simp only [Sum.elim_inr, Option.some.injEq] at h
            subst h
            obtain ⟨an2, dd, q1, q2, q3⟩ := inj_rel hw' hz
            obtain ⟨s2, e1, e2⟩ := canon_rel h2 q2
            refine ⟨ex, _, s2, q3, e2, fun QV hq => ?_⟩
            rw [loop_round]
            refine h3 _ ?_
            cases ex with
            | normal => exact absurd rfl hne
            | exit id => show canon _ _ _ _; rw [hcf.out _ _ _ _ ho q1]; exact e1 _ hq
            | ret => show canon _ _ _ _; rw [hcf.out _ _ _ _ ho q1]; exact e1 _ hq
          cases ex with
          | normal =>
            simp only [Option.map_eq_some_iff] at h1
            obtain ⟨d', hd', rfl⟩ := h1
            simp only [Sum.elim_inl] at h
            obtain ⟨s2, e1, e2⟩ := canon_rel h2 hd'
            obtain ⟨ex, st3, s3, q1, q2, q3⟩ := ih d' s2 h e2
            refine ⟨ex, st3, s3, q1, q2, fun QV hq => ?_⟩
            rw [loop_round]
            refine h3 _ ?_
            show canon _ _ _ _
            rw [hcf.live _ _ ha]
            exact e1 _ (q3 QV hq)
          | exit id => exact other (.exit id) (by simp) rfl h1
          | ret => exact other .ret (by simp) rfl h1
      obtain ⟨ex, st', s', q1, q2, q3⟩ := key n d0 s0 hn c2
      exact ⟨ex, st', s', q1, q2, fun QV hq => by rw [loop_in, hcf.live _ _ ha]; exact c1 _ (q3 QV hq)⟩
    · cases h
  | .scope c, α, st, s, Q, z, hs, h => by simp [wtC] at h
  | .label l, α, st, s, Q, z, hs, h => by simp [wtC] at h
  | .goto l, α, st, s, Q, z, hs, h => by simp [wtC] at h
  | .rangeFunc .., α, st, s, Q, z, hs, h => by simp [wtC] at h
  | .refuse _, α, st, s, Q, z, hs, h => by simp [wtC] at h
end
end Go.Proofs.Ytcmihlhmeonmfaa.Ev
