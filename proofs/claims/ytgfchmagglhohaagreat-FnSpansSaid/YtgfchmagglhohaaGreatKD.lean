/- What the theorem of this claim leans on, part 4. -/
import Derived.Test.YtgfchmagglhohaaGreatKC
import Derived.WalkKit
import Derived.SizedLaws
import Derived.IntWalk
import Derived.Test.YtgfchmagglhohaaGreatProg
import Derived.KernelRfl
section
namespace Go.Proofs.YtgfchmagglhohaaGreat.Ev
open Go
set_option linter.unusedVariables false
set_option linter.unusedSimpArgs false
section
variable {P : Program} {R : Rel} {cf : Cfg} {X : TX} {g : FuncId}
def EntsOK (R : Rel) (cf : Cfg) (X : TX) : Prop := ∀ g E, findF X.ents g = some E → EntOK R E ∧ E.a.g = g ∧ cf.byref g = (slotsA E.a.params).map refA
theorem Ae6 {α : Type} {op : Op} {b : Nat} {tm : TTm} {m : Tm} {hp hpm : THp} {hvm : Hp} {K : SV → THp → Cls → Option α} {z : α} (hX : XOK P X) (hisr : isR op = true) (hr : RT hp tm m) (hh : RHm hpm hp hvm) (h : wtOp X op b tm hpm K = some z) : Looks P R cf op b m hp hpm hvm K z := by
  cases op with
  | load t a => exact Ag7 hX hr hh h
  | indexAddr t x i => exact Aq6 hX hr hh h
  | convert s d x => exact Ah1 hX hr hh h
  | slice t x lo hi mx =>
    cases mx with
    | none => exact YQ hX hr hh h
    | some m' =>
      cases hi with
      | none => simp [wtOp] at h
      | some h' => exact Wz hX hr h
  | _ => simp [isR] at hisr
theorem Aq1 {α : Type} {op : Op} {b : Nat} {tm : TTm} {m : Tm} {hp : THp} {hv : Hp} {K : SV → THp → Cls → Option α} {z : α} (hX : XOK P X) (hE : EntsOK R cf X) (hh : RH hp hv) (hr : RT hp tm m) (h : wtOp X op b tm hp K = some z) : Done P R cf op b tm m hv K z := by
  cases op with
  | move x => exact (Ar5 hr h).done hh hr
  | assign x => exact (Aj5 hr h).done hh hr
  | pick c x y => exact (Au1 hr h).done hh hr
  | alloc t => exact Ao4 hX hh hr h
  | box t x => exact Au5 hX hh hr h
  | build t parts => exact (Ap4 hX hr h).done hh hr
  | buildSlice t len parts => exact An0 hX hh hr h
  | load t a => exact (Ag7 hX hr hh.toM h).done hh hr
  | store t a x => exact Ap0 hX hh hr h
  | nilCheck x => exact (Au6 hr h).done hh hr
  | binOp op t x y yt => exact (Av1 hX hr h).done hh hr
  | unOp u t x => exact (l_un hr h).done hh hr
  | convert s d x => exact (Ah1 hX hr hh.toM h).done hh hr
  | makeSlice t l c => exact At2 hX hh hr h
  | slice t x lo hi mx =>
    cases mx with
    | none => exact (YQ hX hr hh.toM h).done hh hr
    | some m' =>
      cases hi with
      | none => simp [wtOp] at h
      | some h' => exact (Wz hX hr h).done hh hr
  | fieldAddr t x k => exact (Vy hX hr h).done hh hr
  | field t x k => exact (Ap6 hX hr h).done hh hr
  | indexAddr t x i => exact (Aq6 hX hr hh.toM h).done hh hr
  | index t x i => exact (Ao7 hX hr h).done hh hr
  | extract x k => exact (ZE hr h).done hh hr
  | makeFunc fn first caps =>
    cases fn with
    | func f => exact (Ar4 hr h).done hh hr
    | _ => simp [wtOp] at h
  | call c =>
    obtain ⟨callee, args, ts⟩ := c
    cases callee with
    | builtin bi =>
      cases bi with
      | append => exact Ag3 hX hh hr h
      | len => exact (Av0 hX hr hh.toM h).done hh hr
      | min => exact (Av2 hr h).done hh hr
      | max => exact (Au8 hr h).done hh hr
      | _ => simp [wtOp] at h
    | value f =>
      simp only [wtOp] at h
      split at h
      · rename_i g caps hf
        have hc := Ay hr f
        rw [hf] at hc
        obtain ⟨us, hfv, hcs⟩ := YG hc
        obtain ⟨x, hp', cls, y, hv', h1, h2, h3, h4, h5⟩ := Aa3 hE hh hr (RC.append (F1 hr args.toList) (hcs.mono fun _ _ _ h => h.to1.to2)) h
        refine ⟨x, hp', cls, y, hv', h1, h2, h3, h4, fun KV hk => ?_⟩
        show (match opnd m f with | .cl g caps => weInv R cf g (args.toList.map (opnd m) ++ caps) hv b KV | _ => False)
        rw [hfv]
        exact h5 KV hk
      · cases h
    | _ => simp [wtOp] at h
  | _ => simp [wtOp] at h
theorem Ah3 {b : Nat} : ∀ (hp : THp) (id : Nat), getB (maskT b hp) id = if id < b then getB hp id else none
  | [], id => by simp [maskT, getB]
  | (k, x) :: l, id => by
    have ih := Ah3 (b := b) l id
    unfold maskT at ih ⊢
    rw [List.filter_cons]
    by_cases hk : k < b
    · have : Nat.blt k b = true := Nat.ble_eq_true_of_le hk
      simp only [this, if_true]
      rw [An, An]
      by_cases hi : id = k
      · subst hi; rw [if_pos rfl, if_pos rfl, if_pos hk]
      · rw [if_neg hi, if_neg hi]; exact ih
    · have : Nat.blt k b = false := by
        cases hb : Nat.blt k b with
        | false => rfl
        | true => exact absurd (Nat.lt_of_succ_le (Nat.le_of_ble_eq_true hb)) hk
      simp only [this, Bool.false_eq_true, if_false]
      rw [An]
      by_cases hi : id = k
      · subst hi; rw [if_neg hk] at ih ⊢; exact ih
      · rw [if_neg hi]; exact ih
theorem Am7 {α : Type} {draw : Bool} {op : Op} {b : Nat} {tm : TTm} {m : Tm} {hp : THp} {hv : Hp} {K : SV → THp → Cls → Option α} {z : α} (hX : XOK P X) (hE : EntsOK R cf X) (hh : RH hp hv) (hr : RT hp tm m) (h : wtAt X draw op b tm hp K = some z) :
    ∃ x hp' cls y hv', K x hp' cls = some z ∧ RV2 hp' x y ∧ RH hp' hv' ∧ RT hp' tm m ∧ ∀ KV : Cont, KV y hv' cls → opAt P R cf draw op b (opnd m) hv KV := by
  unfold wtAt at h
  cases hd : draw && isR op with
  | true =>
    rw [hd] at h
    have hi : isR op = true := by simp only [Bool.and_eq_true] at hd; exact hd.2
    obtain ⟨x, y, cls, h1, h2, h3⟩ := Ae6 (R := R) (cf := cf) (hp := hp) (hpm := maskT b hp) (hvm := mask b hv) hX hi hr (fun id bb hb => by
      rw [Ah3] at hb
      split at hb
      · rename_i hlt
        obtain ⟨k, hk, hrb⟩ := hh id bb hb
        exact ⟨hb, k, by simp only [mask, if_pos hlt, hk], hrb⟩
      · cases hb) h
    refine ⟨x, hp, cls, y, hv, h1, h2, hh, hr, fun KV hk => ?_⟩
    unfold opAt
    rw [hd]
    exact h3 (fun x _ cls => KV x hv cls) hk
  | false =>
    rw [hd] at h
    obtain ⟨x, hp', cls, y, hv', h1, h2, h3, h4, h5⟩ := Aq1 hX hE hh hr h
    refine ⟨x, hp', cls, y, hv', h1, h2, h3, h4, fun KV hk => ?_⟩
    unfold opAt
    rw [hd]
    exact h5 KV hk
theorem YE {hp : THp} {tm : TTm} {m : Tm} {x : SV} {y : V} (h : RT hp tm m) (hx : RV2 hp x y) (dst : Option Tmp) : RT hp (putTm tm dst x) (put m dst y) := by
  cases dst with
  | none => exact h
  | some d =>
    intro t
    simp only [putTm, put]
    rw [D1]
    unfold upd
    split
    · exact hx
    · exact h t
theorem Al9 {hp : THp} {tm : TTm} {m : Tm} {op : Op} (hr : RT hp tm m) (h : sureOp tm op = true) : opIds m op = idsOp tm op := by
  unfold opIds idsOp
  unfold sureOp at h
  generalize op.operands.toList = l at h ⊢
  induction l with
  | nil => rfl
  | cons y l ih =>
    simp only [List.map_cons, List.all_cons, Bool.and_eq_true] at h
    simp only [List.flatMap_cons, List.map_cons]
    rw [ih h.2, (E8 h.1 (Ay hr y)).2.2.1]
theorem MD {α β : Type} {f g : α → List β} : ∀ {l : List α}, (∀ x ∈ l, f x = g x) → l.flatMap f = l.flatMap g
  | [], _ => rfl
  | x :: l, h => by
    rw [List.flatMap_cons, List.flatMap_cons, h x (List.mem_cons_self ..), MD fun y hy => h y (List.mem_cons_of_mem _ hy)]
theorem WS {hp : THp} {hv : Hp} {tm : TTm} {m : Tm} {op : Op} {ids : List Nat} (hE : EntsOK R cf X) (hh : RH hp hv) (hr : RT hp tm m) (h : touchedT X op tm hp = some ids) : touched cf op (opnd m) hv = some ids := by
  unfold touchedT at h
  split at h
  · rename_i t a x
    split at h
    · rename_i hc
      cases h
      simp only [Bool.and_eq_true] at hc
      simp only [touched]
      rw [(E8 hc.1 (Ay hr a)).2.2.1, (E8 hc.2 (Ay hr x)).2.2.1]
    · cases h
  · rename_i f args tys
    split at h
    case h_2 => cases h
    rename_i g caps hf
    split at h
    case h_2 => cases h
    rename_i E hfe
    obtain ⟨_, _, hbr⟩ := hE g E hfe
    split at h
    case h_2 => cases h
    rename_i args' hargs'
    split at h
    case isFalse => cases h
    rename_i s1
    split at h
    case h_2 => cases h
    rename_i o ho
    cases h
    have hc := Ay hr f
    rw [hf] at hc
    obtain ⟨us, hfv, hcs⟩ := YG hc
    obtain ⟨ys', hV, hargs2, hlent⟩ := KN hh hargs' (RC.append (F1 hr args.toList) (hcs.mono fun _ _ _ h => h.to1.to2))
    obtain ⟨a1, a2, a3, a4⟩ := RC.all1 s1 hargs2
    rw [← hbr] at hV hlent
    have hclose : close hv 64 (ys'.flatMap refs1) [] = some o := by rw [a2]; exact EF hh _ _ _ ho
    have hcloseC : closeC hv (ys'.flatMap refs1) = some o := by
      unfold closeC
      rw [hclose]
      simp only
      rw [if_pos (by rw [a2]; exact LU hh ho)]
    simp only [touched, hfv, hV, hcloseC, hlent]
  · rename_i t n parts
    split at h
    · rename_i hc
      cases h
      simp only [touched]
      congr 1
      refine MD fun p hp => ?_
      exact (E8 (List.all_eq_true.1 hc p hp) (Ay hr p.2)).2.2.1
    · cases h
  · cases h
theorem Aq3 {hp : THp} {hv : Hp} {tm : TTm} {m : Tm} {all : List Oper} {i : Nat} (hE : EntsOK R cf X) (hh : RH hp hv) (hr : RT hp tm m) (h : farT X all tm hp i = true) : farOK cf all m hv i = true := by
  unfold farT at h
  unfold farOK
  cases ha : all[i]? with
  | none => rw [ha] at h; cases h
  | some a =>
    rw [ha] at h
    simp only [Bool.and_eq_true] at h ⊢
    refine ⟨h.1, ?_⟩
    replace h := h.2
    cases ht : touchedT X a.op tm hp with
    | none => rw [ht] at h; cases h
    | some ids =>
      rw [ht] at h
      rw [WS hE hh hr ht]
      simp only at h ⊢
      refine List.all_eq_true.2 fun j hj => ?_
      have h4 := List.all_eq_true.1 h j hj
      cases ho : all[j]? with
      | none => simp
      | some o =>
        rw [ho] at h4
        simp only [Bool.or_eq_true, Bool.and_eq_true] at h4 ⊢
        rcases h4 with h4 | h4 | ⟨h4, h5, h6⟩
        · exact .inl h4
        · exact .inr (.inl h4)
        · exact .inr (.inr ⟨h4, by rw [Al9 hr h5]; exact h6⟩)
theorem As4 {hp : THp} {hv : Hp} {tm : TTm} {m : Tm} {all : List Oper} {i : Nat} (hE : EntsOK R cf X) (hh : RH hp hv) (hr : RT hp tm m) (h : (eOK all i || farT X all tm hp i) = true) : (eOK all i || farOK cf all m hv i) = true := by
  simp only [Bool.or_eq_true] at h ⊢
  exact h.imp (fun h => h) (Aq3 hE hh hr)
theorem Ad7 {α : Type} {draw ok ok' : Bool} {cls : Cls} {A : Option α} {z : α} (hok : ok = true → ok' = true) (h : drawnT draw ok cls A = some z) : A = some z ∧ ∀ B : Prop, B → drawn draw ok' cls B := by
  cases draw <;> cases cls <;> first | exact ⟨h, fun B hb => hb⟩ | (obtain ⟨h1, h2⟩ := BK h; exact ⟨h2, fun B hb => ⟨hok h1, hb⟩⟩)
theorem Ro {α : Type} {all : List Oper} {draw : Bool} (hX : XOK P X) (hE : EntsOK R cf X) : ∀ (l : List Oper) (i : Nat) {st : TSt} {s : St} {K : TSt → Option α} {z : α}, RS st s → wtOps X all draw l i st K = some z →
    ∃ st' s', K st' = some z ∧ RS st' s' ∧ st'.c = st.c ∧ ∀ KV : St → Prop, KV s' → weOps P R cf all draw l i s KV
  | [], i, st, s, K, z, hs, h => ⟨st, s, h, hs, rfl, fun KV hk => hk⟩
  | o :: l, i, st, s, K, z, hs, h => by
    have go : ∀ (tm : TTm), RT st.hp tm s.tm → (wtAt X draw o.op (16 * (st.c + i)) tm st.hp fun x hp cls => drawnT draw (eOK all i || farT X all tm st.hp i) cls (wtOps X all draw l (i + 1) { tm := putTm tm o.dst x, hp := hp, c := st.c } K)) = some z →
        ∃ st' s', K st' = some z ∧ RS st' s' ∧ st'.c = st.c ∧ ∀ KV : St → Prop, KV s' → opAt P R cf draw o.op (16 * (s.c + i)) (opnd s.tm) s.hp fun x hp cls => drawn draw (eOK all i || farOK cf all s.tm s.hp i) cls (weOps P R cf all draw l (i + 1) { tm := put s.tm o.dst x, hp := hp, c := s.c } KV) := by
      intro tm hr h
      obtain ⟨x, hp', cls, y, hv', h1, h2, h3, h4, h5⟩ := Am7 (R := R) (cf := cf) hX hE hs.hp hr h
      obtain ⟨h6, h7⟩ := Ad7 (As4 hE hs.hp hr) h1
      obtain ⟨st', s', q1, q2, q3, q4⟩ := Ro hX hE l (i + 1) (st := { tm := putTm tm o.dst x, hp := hp', c := st.c }) (s := { tm := put s.tm o.dst y, hp := hv', c := s.c }) ⟨YE h4 h2 o.dst, h3, hs.c⟩ h6
      exact ⟨st', s', q1, q2, q3, fun KV hk => by rw [hs.c]; exact h5 _ (by have := h7 _ (q4 KV hk); rw [hs.c] at this; exact this)⟩
    have no : ∀ (tm : TTm), RT st.hp tm s.tm → wtOps X all draw l (i + 1) { tm := putTm tm o.dst (.tup []), hp := st.hp, c := st.c } K = some z →
        ∃ st' s', K st' = some z ∧ RS st' s' ∧ st'.c = st.c ∧ ∀ KV : St → Prop, KV s' → weOps P R cf all draw l (i + 1) { tm := put s.tm o.dst (.tup []), hp := s.hp, c := s.c } KV := by
      intro tm hr h
      exact Ro hX hE l (i + 1) (st := { tm := putTm tm o.dst (.tup []), hp := st.hp, c := st.c }) (s := { tm := put s.tm o.dst (.tup []), hp := s.hp, c := s.c }) ⟨YE (x := .tup []) (y := .tup []) hr ⟨[], rfl, trivial⟩ o.dst, hs.hp, hs.c⟩ h
    simp only [wtOps] at h
    cases hg : o.guard with
    | none =>
      rw [hg] at h
      obtain ⟨st', s', q1, q2, q3, q4⟩ := go st.tm hs.tm h
      exact ⟨st', s', q1, q2, q3, fun KV hk => by unfold weOps; rw [hg]; exact q4 KV hk⟩
    | some jw =>
      obtain ⟨j, want⟩ := jw
      rw [hg] at h
      simp only at h
      cases hd : (all[j]?).bind (·.dst) with
      | none => rw [hd] at h; cases h
      | some d =>
        rw [hd] at h
        simp only at h
        have htd := hs.tm d
        have fin : ∀ w : Bool, guardC (s.tm d) want = some w → (∃ st' s', K st' = some z ∧ RS st' s' ∧ st'.c = st.c ∧ ∀ KV : St → Prop, KV s' → (if w = true then opAt P R cf draw o.op (16 * (s.c + i)) (opnd s.tm) s.hp fun x hp cls => drawn draw (eOK all i || farOK cf all s.tm s.hp i) cls (weOps P R cf all draw l (i + 1) { tm := put s.tm o.dst x, hp := hp, c := s.c } KV) else weOps P R cf all draw l (i + 1) { tm := put s.tm o.dst (.tup []), hp := s.hp, c := s.c } KV)) →
            ∃ st' s', K st' = some z ∧ RS st' s' ∧ st'.c = st.c ∧ ∀ KV : St → Prop, KV s' → weOps P R cf all draw (o :: l) i s KV := by
          intro w hw ⟨st', s', q1, q2, q3, q4⟩
          refine ⟨st', s', q1, q2, q3, fun KV hk => ?_⟩
          unfold weOps
          rw [hg]
          simp only [hd, Option.map_some, Ag, hw]
          exact q4 KV hk
        have same : ∀ t : Bool, s.tm d = .v (.bool t) → RT st.hp ((d, .bool t) :: st.tm) s.tm := by
          intro t ht t'
          rw [D1]
          split
          · rename_i he; rw [he, ht]; rfl
          · exact hs.tm t'
        split at h
        · rename_i t hv
          rw [hv] at htd
          have htd := Ke htd
          cases want with
          | true =>
            simp only at h
            cases t with
            | true =>
              obtain ⟨st', s', q1, q2, q3, q4⟩ := go _ (same true htd) h
              exact fin true (by rw [htd]; rfl) ⟨st', s', q1, q2, q3, fun KV hk => by rw [if_pos rfl]; exact q4 KV hk⟩
            | false =>
              obtain ⟨st', s', q1, q2, q3, q4⟩ := no _ (same false htd) h
              exact fin false (by rw [htd]; rfl) ⟨st', s', q1, q2, q3, fun KV hk => by rw [if_neg (by simp)]; exact q4 KV hk⟩
          | false =>
            simp only at h
            cases t with
            | true =>
              obtain ⟨st', s', q1, q2, q3, q4⟩ := no _ (same true htd) h
              exact fin false (by rw [htd]; rfl) ⟨st', s', q1, q2, q3, fun KV hk => by rw [if_neg (by simp)]; exact q4 KV hk⟩
            | false =>
              obtain ⟨st', s', q1, q2, q3, q4⟩ := go _ (same false htd) h
              exact fin true (by rw [htd]; rfl) ⟨st', s', q1, q2, q3, fun KV hk => by rw [if_pos rfl]; exact q4 KV hk⟩
        · rename_i hv
          rw [hv] at htd
          obtain ⟨us, hus, hc⟩ := (show ∃ us, s.tm d = .tup us ∧ RC (RV1 st.hp) [] us from htd)
          cases us with
          | cons a l => exact hc.elim
          | nil =>
            obtain ⟨st', s', q1, q2, q3, q4⟩ := no _ hs.tm h
            exact fin false (by rw [hus]; rfl) ⟨st', s', q1, q2, q3, fun KV hk => by rw [if_neg (by simp)]; exact q4 KV hk⟩
        · cases h
structure CfOK (cf : Cfg) (g : FuncId) (X : TX) : Prop where
  live : ∀ r an, findN X.ann.heads r = some an → cf.live g r = keepI an
  out : ∀ r outs ex an, findN X.ann.outs r = some outs → findE outs ex = some an → cf.out g r ex = keepI an
  join : ∀ r an, findN X.ann.joins r = some an → cf.join g r = some (keepI an)
  nojoin : ∀ r, findN X.ann.joins r = none → cf.join g r = none
  res : cf.res g = (keepI X.ann.res).map (·.2)
  par : cf.par g = keepI X.ann.params
  rts : cf.rts g = mdsL (rtsT (blksI X.ann.res) X.ann.e 0 (blksI X.ann.res))
theorem TD {a b : Ex} (h : exEq a b = true) : a = b := by
  cases a <;> cases b <;> simp [exEq] at h
  · rfl
  · rw [h]
  · rfl
theorem YM {α : Type} {e : Nat} {Q : TPost α} {ex : Ex} {st : TSt} {z : α} : ∀ {l : List (Ex × List Item)} {d : denX l}, injX e l ex st = some d → elimX Q l d = some z → ∃ an dd, findE l ex = some an ∧ decSt e an st = some dd ∧ Q ex (encSt an dd) = some z
  | [], d, h, _ => by cases h
  | [a], d, h, hz => by
    simp only [injX] at h
    obtain ⟨h1, h2⟩ := BK h
    have := TD h1
    subst this
    refine ⟨a.2, d, ?_, h2, hz⟩
    show cond (exEq a.1 a.1) (some a.2) _ = _
    rw [h1]; rfl
  | a :: b :: l, d, h, hz => by
    simp only [injX] at h
    cases hc : exEq a.1 ex with
    | true =>
      rw [hc] at h
      simp only [cond_true, Option.map_eq_some_iff] at h
      obtain ⟨dd, h1, rfl⟩ := h
      have := TD hc
      subst this
      refine ⟨a.2, dd, ?_, h1, hz⟩
      show cond (exEq a.1 a.1) (some a.2) _ = _
      rw [hc]; rfl
    | false =>
      rw [hc] at h
      simp only [cond_false, Option.map_eq_some_iff] at h
      obtain ⟨dd, h1, rfl⟩ := h
      obtain ⟨an, d2, q1, q2, q3⟩ := YM (l := b :: l) h1 hz
      refine ⟨an, d2, ?_, q2, q3⟩
      show cond (exEq a.1 ex) (some a.2) (findE (b :: l) ex) = _
      rw [hc]; exact q1
theorem Dh (hX : XOK P X) (hE : EntsOK R cf X) (hcf : CfOK cf g X) : ∀ (c : Code) {α : Type} {st : TSt} {s : St} {Q : TPost α} {z : α}, RS st s → wtC X c st Q = some z →
    ∃ ex st' s', Q ex st' = some z ∧ RS st' s' ∧ ∀ QV : Post, QV ex s' → we P R cf g X.e c s QV
  | .skip, α, st, s, Q, z, hs, h => ⟨.normal, st, s, h, hs, fun QV hq => hq⟩
  | .exit id, α, st, s, Q, z, hs, h => ⟨.exit id, st, s, h, hs, fun QV hq => hq⟩
  | .ret, α, st, s, Q, z, hs, h => ⟨.ret, st, s, h, hs, fun QV hq => hq⟩
  | .region id ops draw, α, st, s, Q, z, hs, h => by
    obtain ⟨st', s', h1, h2, h3, h4⟩ := Ro (R := R) (cf := cf) hX hE _ 0 hs h
    refine ⟨.normal, _, { s' with c := s'.c + ops.size }, h1, ⟨h2.tm, h2.hp, by show s'.c + _ = st'.c + _; rw [h2.c]⟩, fun QV hq => ?_⟩
    unfold we
    exact h4 _ hq
  | .seq a b, α, st, s, Q, z, hs, h => by
    unfold wtC at h
    cases hj : findN X.ann.joins (rid b) with
    | none =>
      rw [hj] at h
      simp only at h
      obtain ⟨ex, st1, s1, h1, h2, h3⟩ := Dh hX hE hcf a hs h
      cases ex with
      | normal =>
        obtain ⟨ex, st2, s2, q1, q2, q3⟩ := Dh hX hE hcf b h2 h1
        exact ⟨ex, st2, s2, q1, q2, fun QV hq => by unfold we; exact h3 _ (by show meet _ _ _ _; rw [hcf.nojoin _ hj]; exact q3 QV hq)⟩
      | exit id => exact ⟨.exit id, st1, s1, h1, h2, fun QV hq => by unfold we; exact h3 _ hq⟩
      | ret => exact ⟨.ret, st1, s1, h1, h2, fun QV hq => by unfold we; exact h3 _ hq⟩
    | some an =>
      rw [hj] at h
      simp only at h
      obtain ⟨w, hw, hz⟩ := AO h
      obtain ⟨ex, st1, s1, h1, h2, h3⟩ := Dh hX hE hcf a hs hw
      have other : ∀ ex', ex' ≠ .normal → ex = ex' → (Q ex' st1).map Sum.inl = some w → ∃ ex st' s', Q ex st' = some z ∧ RS st' s' ∧ ∀ QV : Post, QV ex s' → we P R cf g X.e (a.seq b) s QV := by
        intro ex' hne he h1
        subst he
        simp only [Option.map_eq_some_iff] at h1
        obtain ⟨r, hr, rfl⟩ := h1
        simp only [Sum.elim_inl, Option.some.injEq] at hz
        subst hz
        refine ⟨ex, st1, s1, hr, h2, fun QV hq => ?_⟩
        unfold we
        refine h3 _ ?_
        cases ex with
        | normal => exact absurd rfl hne
        | exit id => exact hq
        | ret => exact hq
      cases ex with
      | normal =>
        simp only [Option.map_eq_some_iff] at h1
        obtain ⟨d, hd, rfl⟩ := h1
        simp only [Sum.elim_inr] at hz
        obtain ⟨s2, c1, c2⟩ := Hg h2 hd
        obtain ⟨ex, st3, s3, q1, q2, q3⟩ := Dh hX hE hcf b c2 hz
        exact ⟨ex, st3, s3, q1, q2, fun QV hq => by unfold we; exact h3 _ (by show meet _ _ _ _; rw [hcf.join _ _ hj]; exact c1 _ (q3 QV hq))⟩
      | exit id => exact other (.exit id) (by simp) rfl h1
      | ret => exact other .ret (by simp) rfl h1
  | .cond c x y, α, st, s, Q, z, hs, h => by
    unfold wtC at h
    have hc := Ay hs.tm c
    split at h
    · rename_i t ht
      rw [ht] at hc
      have hc := Ke hc
      cases t with
      | true =>
        obtain ⟨ex, st1, s1, h1, h2, h3⟩ := Dh hX hE hcf x hs h
        exact ⟨ex, st1, s1, h1, h2, fun QV hq => by unfold we; rw [hc]; exact h3 QV hq⟩
      | false =>
        obtain ⟨ex, st1, s1, h1, h2, h3⟩ := Dh hX hE hcf y hs h
        exact ⟨ex, st1, s1, h1, h2, fun QV hq => by unfold we; rw [hc]; exact h3 QV hq⟩
    · cases h
  | .block id c, α, st, s, Q, z, hs, h => by
    unfold wtC at h
    obtain ⟨ex, st1, s1, h1, h2, h3⟩ := Dh hX hE hcf c hs h
    cases ex with
    | normal => exact ⟨.normal, st1, s1, h1, h2, fun QV hq => by unfold we; exact h3 _ hq⟩
    | ret => exact ⟨.ret, st1, s1, h1, h2, fun QV hq => by unfold we; exact h3 _ hq⟩
    | exit j =>
      simp only at h1
      cases hj : Nat.beq j id with
      | true =>
        rw [hj] at h1
        have hji := Nat.eq_of_beq_eq_true hj
        exact ⟨.normal, st1, s1, h1, h2, fun QV hq => by unfold we; exact h3 _ (by show (if j = id then _ else _); rw [if_pos hji]; exact hq)⟩
      | false =>
        rw [hj] at h1
        have hji : j ≠ id := fun he => by subst he; rw [Nat.beq_refl] at hj; cases hj
        exact ⟨.exit j, st1, s1, h1, h2, fun QV hq => by unfold we; exact h3 _ (by show (if j = id then _ else _); rw [if_neg hji]; exact hq)⟩
  | .loop c, α, st, s, Q, z, hs, h => by
    unfold wtC at h
    split at h
    · rename_i an outs ha ho
      obtain ⟨d0, hd0, h⟩ := AO h
      obtain ⟨w, hw, hz⟩ := AO h
      obtain ⟨n, hn⟩ := H9 hw
      obtain ⟨s0, c1, c2⟩ := Hg hs hd0
      have key : ∀ (n : Nat) (d : denI an) (s0 : St), loopF (fun d => wtC X c (encSt an d) fun ex s => match ex with | .normal => (decSt X.e an s).map .inl | ex => (injX X.e outs ex s).map .inr) n d = some w → RS (encSt an d) s0 →
          ∃ ex st' s', Q ex st' = some z ∧ RS st' s' ∧ ∀ QV : Post, QV ex s' → loopAt P R cf g X.e c s0 QV := by
        intro n
        induction n with
        | zero => intro d s0 h _; cases h
        | succ n ih =>
          intro d s0 h hs0
          simp only [loopF] at h
          obtain ⟨o, hb, h⟩ := AO h
          obtain ⟨ex, st1, s1, h1, h2, h3⟩ := Dh hX hE hcf c hs0 hb
          have other : ∀ ex', ex' ≠ .normal → ex = ex' → (injX X.e outs ex' st1).map Sum.inr = some o → ∃ ex st' s', Q ex st' = some z ∧ RS st' s' ∧ ∀ QV : Post, QV ex s' → loopAt P R cf g X.e c s0 QV := by
            intro ex' hne he h1
            subst he
            simp only [Option.map_eq_some_iff] at h1
            obtain ⟨w', hw', rfl⟩ := h1
            simp only [Sum.elim_inr, Option.some.injEq] at h
            subst h
            obtain ⟨an2, dd, q1, q2, q3⟩ := YM hw' hz
            obtain ⟨s2, e1, e2⟩ := Hg h2 q2
            refine ⟨ex, _, s2, q3, e2, fun QV hq => ?_⟩
            rw [RY]
            refine h3 _ ?_
            cases ex with
            | normal => exact absurd rfl hne
            | exit id => show canon _ _ _ _; rw [hcf.out _ _ _ _ ho q1]; exact e1 _ hq
            | ret => show canon _ _ _ _; rw [hcf.out _ _ _ _ ho q1]; exact e1 _ hq
          cases ex with
          | normal =>
            simp only [Option.map_eq_some_iff] at h1
            obtain ⟨d', hd', rfl⟩ := h1
            simp only [Sum.elim_inl] at h
            obtain ⟨s2, e1, e2⟩ := Hg h2 hd'
            obtain ⟨ex, st3, s3, q1, q2, q3⟩ := ih d' s2 h e2
            refine ⟨ex, st3, s3, q1, q2, fun QV hq => ?_⟩
            rw [RY]
            refine h3 _ ?_
            show canon _ _ _ _
            rw [hcf.live _ _ ha]
            exact e1 _ (q3 QV hq)
          | exit id => exact other (.exit id) (by simp) rfl h1
          | ret => exact other .ret (by simp) rfl h1
      obtain ⟨ex, st', s', q1, q2, q3⟩ := key n d0 s0 hn c2
      exact ⟨ex, st', s', q1, q2, fun QV hq => by rw [Aq4, hcf.live _ _ ha]; exact c1 _ (q3 QV hq)⟩
    · cases h
  | .scope c, α, st, s, Q, z, hs, h => by simp [wtC] at h
  | .label l, α, st, s, Q, z, hs, h => by simp [wtC] at h
  | .goto l, α, st, s, Q, z, hs, h => by simp [wtC] at h
  | .rangeFunc .., α, st, s, Q, z, hs, h => by simp [wtC] at h
  | .refuse _, α, st, s, Q, z, hs, h => by simp [wtC] at h
end
end Go.Proofs.YtgfchmagglhohaaGreat.Ev

end
section
namespace Go.Proofs.YtgfchmagglhohaaGreat.Ev
open Go
set_option linter.unusedVariables false
set_option linter.unusedSimpArgs false
section
variable {P : Program} {X : TX} {g : FuncId}
structure FnOK (P : Program) (cf : Cfg) (X : TX) (fn : Func) (c : Code) : Prop where
  get : P.funcs[X.ann.g]? = some fn
  body : fn.body = some c
  ok : bodyOK fn c (slotsI X.ann.params).length = true
  ext : cf.isExt X.ann.g = false
theorem Ab {cf : Cfg} {ext : Rel} {fn : Func} {c : Code} {F : denI X.ann.params → Option (denI X.ann.res)} (hX : XOK P X) (hE : EntsOK (Runs P cf ext) cf X) (hcf : CfOK cf X.ann.g X) (hf : FnOK P cf X fn c)
    (hF : ∀ x, wtF X fn x = F x) : EntOK (Runs P cf ext) ⟨X.ann, F⟩ := by
  intro x y args blks st0 hy hs0 hd hid hl he _
  have hy : wtF X fn x = some y := by rw [hF]; exact hy
  unfold wtF at hy
  rw [hf.body] at hy
  simp only at hy
  have he : (args.flatMap refs1).eraseDups.length = X.e := he
  obtain ⟨s0, k1, hs⟩ := Hg hs0 hd
  obtain ⟨ex, st', s', h1, h2, h3⟩ := Dh hX hE hcf c hs hy
  have main : ∀ ex', ex = ex' → (∀ i, ex' ≠ .exit i) → (tRes X st'.tm st'.hp fn.results.toList fun xs => outT X.ann.res X.e st' xs) = some y →
      ∃ r blks', Runs P cf ext X.ann.g args blks r blks' ∧ ResRel X.ann.res y r blks' := by
    intro ex' hex hno h1
    obtain ⟨r, blks', q1, q2⟩ := Ak7 (e := X.e) (res := X.ann.res) (rs := fn.results.toList) (y := y) hX h2 h1
    refine ⟨r, blks', Runs.intro hf.ext hf.get hf.body (by rw [hl]; exact hf.ok) hid ?_, q2⟩
    rw [he, hcf.par]
    refine k1 _ (h3 _ ?_)
    rw [hcf.res, hcf.rts]
    subst hex
    cases ex with
    | exit i => exact absurd rfl (hno i)
    | normal => exact q1
    | ret => exact q1
  cases ex with
  | exit i => cases h1
  | normal => exact main .normal rfl (by simp) h1
  | ret => exact main .ret rfl (by simp) h1
theorem Ai3 {R : Rel} {cf : Cfg} {X : TX} (h : X.ents = []) : EntsOK R cf X := by
  intro g E hE
  rw [h] at hE
  cases hE
def AllEnt (R : Rel) (cf : Cfg) : List Ent → Prop
  | [] => True
  | E :: l => (EntOK R E ∧ cf.byref E.a.g = (slotsA E.a.params).map refA) ∧ AllEnt R cf l
theorem Ad {R : Rel} {cf : Cfg} {X : TX} (h : AllEnt R cf X.ents) : EntsOK R cf X := by
  intro g E hE
  generalize X.ents = l at h hE
  induction l with
  | nil => cases hE
  | cons a l ih =>
    simp only [findF] at hE
    cases hg : Nat.beq a.a.g g with
    | true =>
      rw [hg] at hE
      simp only [cond_true, Option.some.injEq] at hE
      subst hE
      have := Nat.eq_of_beq_eq_true hg
      subst this
      exact ⟨h.1.1, rfl, h.1.2⟩
    | false =>
      rw [hg] at hE
      exact ih h.2 hE
theorem Ae {tab : List FAnn} {ext : FuncId → Bool} {X : TX} (h : findA tab X.ann.g = some X.ann) : CfOK (cfOf tab ext) X.ann.g X where
  live r an hr := by simp only [cfOf, h, Option.bind_some, hr]
  out r outs ex an hr he := by simp only [cfOf, h, Option.bind_some, hr, he]
  join r an hr := by simp only [cfOf, h, Option.bind_some, hr]
  nojoin r hr := by simp only [cfOf, h, Option.bind_some, hr]
  res := by simp only [cfOf, h]
  par := by simp only [cfOf, h]
  rts := by simp only [cfOf, h]
end
end Go.Proofs.YtgfchmagglhohaaGreat.Ev

end
section
namespace Go.Proofs.YtgfchmagglhohaaGreat.Ev
open Go Go.RowKit
set_option linter.unusedVariables false
set_option linter.unusedSimpArgs false
def shT : Sh → Ty
  | .int k => .int k
  | .str => .str
  | .bool => .bool
  | .sl _ e => .sl (shT e)
  | .pair a b => .pair (shT a) (shT b)
def WFS : (s : Sh) → (shT s).den → Prop
  | .int k, n => (Lit.int k n).wf = true
  | .str, s => s.length ≤ maxBytes
  | .bool, _ => True
  | .sl bytes e, l => (∀ a ∈ (show List (shT e).den from l), WFS e a) ∧ (show List (shT e).den from l).length * bytes ≤ maxBytes
  | .pair a b, x => WFS a (show (shT a).den × (shT b).den from x).1 ∧ WFS b (show (shT a).den × (shT b).den from x).2
theorem Zj : ∀ {s : Sh} {xs : List V}, DV s xs → ∃ x, RE (shT s) x xs ∧ WFS s x
  | .int k, xs, h => by obtain ⟨n, rfl, hn⟩ := h; exact ⟨n, rfl, hn⟩
  | .str, xs, h => by obtain ⟨s, rfl, hs⟩ := h; exact ⟨s.data.toList, by simp [RE, shT], by show s.data.toList.length ≤ maxBytes; rw [Array.length_toList]; exact hs⟩
  | .bool, xs, h => by obtain ⟨b, rfl⟩ := h; exact ⟨b, rfl, trivial⟩
  | .sl bytes e, xs, h => by
    obtain ⟨rows, rfl, hr, hb⟩ := h
    have key : ∀ rows : List (List V), (∀ r ∈ rows, DV e r) → ∃ l : List (shT e).den, RLx (RE (shT e)) l rows ∧ ∀ a ∈ l, WFS e a := by
      intro rows
      induction rows with
      | nil => intro _; exact ⟨[], RLx.nil, by simp⟩
      | cons r rows ih =>
        intro h
        obtain ⟨a, h1, h2⟩ := Zj (h r (by simp))
        obtain ⟨l, h3, h4⟩ := ih fun r' hr' => h r' (by simp [hr'])
        refine ⟨a :: l, RLx.cons h1 h3, fun b hb => ?_⟩
        rcases List.mem_cons.1 hb with rfl | hb
        · exact h2
        · exact h4 b hb
    obtain ⟨l, h1, h2⟩ := key rows hr
    exact ⟨l, .inr ⟨rows, rfl, h1⟩, h2, by rw [← h1.1]; exact hb⟩
  | .pair a b, xs, h => by
    obtain ⟨l, r, rfl, h1, h2⟩ := h
    obtain ⟨x, q1, q2⟩ := Zj h1
    obtain ⟨y, q3, q4⟩ := Zj h2
    exact ⟨(x, y), ⟨l, r, rfl, q1, q3⟩, q2, q4⟩
def acOf : Sh → AC
  | .int k => .int k
  | .str => .str
  | .bool => .bool
  | .sl _ e => .im (shT e)
  | .pair _ _ => .bool
def oneS : Sh → Bool
  | .pair _ _ => false
  | _ => true
def WFC : (s : Sh) → (acOf s).den → Prop
  | .int k, n => WFS (.int k) n
  | .str, s => WFS .str s
  | .bool, b => True
  | .sl n e, l => WFS (.sl n e) l
  | .pair _ _, _ => True
theorem Am1 {s : Sh} {x : V} (ho : oneS s = true) (h : DV s [x]) : ∃ d : (acOf s).den, WFC s d ∧ ∀ hp, RV2 hp (encC (acOf s) d) x := by
  obtain ⟨d, h1, h2⟩ := Zj h
  cases s with
  | int k =>
    have h1 : [x] = [V.v (.int k d)] := h1
    cases h1
    exact ⟨d, h2, fun hp => rfl⟩
  | str =>
    have h1 : [x] = [V.v (.string ⟨Array.mk d⟩)] := h1
    cases h1
    exact ⟨d, h2, fun hp => rfl⟩
  | bool =>
    have h1 : [x] = [V.v (.bool d)] := h1
    cases h1
    exact ⟨d, trivial, fun hp => rfl⟩
  | sl n e =>
    refine ⟨d, h2, fun hp => ?_⟩
    rcases h1 with ⟨e1, e2⟩ | ⟨rows, e2, e3⟩
    · cases e2; exact .inl ⟨e1, rfl⟩
    · cases e2; exact .inr ⟨rows, rfl, e3⟩
  | pair a b => cases ho
def parI : Nat → List Sh → List Item
  | _, [] => []
  | i, s :: l => .slot i (.cell (acOf s)) :: parI (i + 1) l
def WFP : (i : Nat) → (l : List Sh) → denI (parI i l) → Prop
  | _, [], _ => True
  | i, s :: l, d => WFC s (hdI (.slot i (.cell (acOf s))) (parI (i + 1) l) d) ∧ WFP (i + 1) l (tlI (.slot i (.cell (acOf s))) (parI (i + 1) l) d)
def DVs : List Sh → List V → Prop
  | [], [] => True
  | s :: l, x :: xs => DV s [x] ∧ DVs l xs
  | _, _ => False
theorem DVs.length : ∀ {l : List Sh} {xs : List V}, DVs l xs → xs.length = l.length
  | [], [], _ => rfl
  | _ :: l, _ :: xs, h => by simp [DVs.length h.2]
  | [], _ :: _, h => h.elim
  | _ :: _, [], h => h.elim
theorem Zo : ∀ (l : List Sh) (i : Nat) {xs : List V}, l.all oneS = true → DVs l xs → ∃ d : denI (parI i l), WFP i l d ∧ (∀ k, (encI k (parI i l) d).2 = []) ∧ ∀ k hp, RT hp (encI k (parI i l) d).1 (lk .any (enum i xs))
  | [], i, [], _, _ => ⟨(), trivial, fun _ => rfl, fun k hp t => trivial⟩
  | s :: l, i, x :: xs, ho, h => by
    simp only [List.all_cons, Bool.and_eq_true] at ho
    obtain ⟨a, h1, h2⟩ := Am1 ho.1 h.1
    obtain ⟨d, h3, h4, h5⟩ := Zo l (i + 1) ho.2 h.2
    refine ⟨consI (.slot i (.cell (acOf s))) (parI (i + 1) l) a d, ⟨?_, ?_⟩, fun k => ?_, fun k hp => ?_⟩
    · rw [Pw (.slot i (.cell (acOf s)))]; exact h1
    · rw [L1 (.slot i (.cell (acOf s)))]; exact h3
    · simp only [parI, encI]
      rw [L1 (.slot i (.cell (acOf s)))]
      exact h4 k
    · simp only [parI, encI]
      rw [L1 (.slot i (.cell (acOf s))), Pw (.slot i (.cell (acOf s)))]
      intro t
      show RV2 hp (getV ((i, encSV (.cell (acOf s)) a) :: _) t) (if t = i then x else lk .any (enum (i + 1) xs) t)
      rw [D1]
      split
      · exact h2 hp
      · exact h5 k hp t
  | [], _, _ :: _, _, h => h.elim
  | _ :: _, _, [], _, h => h.elim
section
variable {P : Program}
def FitsL (P : Program) : List TypeId → List Sh → Prop
  | [], [] => True
  | t :: ts, s :: l => Fits P t s ∧ FitsL P ts l
  | _, _ => False
theorem Td {H : Type} {enc : TypeId × Value → H} {W : World} : ∀ {ts : List TypeId} {l : List Sh} {vs : List Value} {ds : List (DataW H)} {p : List MemPlace}, FitsL P ts l → l.all oneS = true → DataW.TrodAll enc P W 0 (fun _ => true) true ts vs ds p →
    (∀ (j : Nat) t v, ts[j]? = some t → vs[j]? = some v → ∃ base, Value.okWide P W .any base t v) → (∀ n ∈ DataW.weightsEach P ts ds, n ≤ reachBytes) → ∃ xs, DVs l xs ∧ Told W xs vs
  | [], [], vs, ds, p, _, _, h, _, _ => by
    obtain ⟨rfl, rfl, rfl⟩ := ChangeShapes.trodAll_nil h
    exact ⟨[], trivial, trivial⟩
  | t :: ts, s :: l, vs, ds, p, hf, ho, h, hv, hw => by
    obtain ⟨v, vs', d, ds', p1, q, rfl, rfl, rfl, ⟨fuel, h1⟩, h2⟩ := ChangeShapes.trodAll_cons h
    simp only [List.all_cons, Bool.and_eq_true] at ho
    obtain ⟨xs, q1, q2, q3⟩ := Kk fuel t s _ _ hf.1 h1 fun n hn => hw n (by simp [DataW.weightsEach, hn])
    obtain ⟨ys, q4, q5⟩ := Td hf.2 ho.2 h2 (fun j t v h1 h2 => hv (j + 1) t v (by simpa using h1) (by simpa using h2)) fun n hn => hw n (by simp [DataW.weightsEach, hn])
    have hs1 : s.size = 1 := by cases s <;> first | rfl | (cases ho.1)
    obtain ⟨x, rfl⟩ := List.length_eq_one_iff.1 (by rw [q2, hs1])
    refine ⟨x :: ys, ⟨q1, q4⟩, ?_, q5⟩
    obtain ⟨base, hok⟩ := hv 0 t v rfl rfl
    have hc : v.cells.toList = [v] := by
      cases hf.1 with
      | int ht => simp only [Value.okWide, ht, Cell.okWide] at hok; cases v <;> simp_all [Cell.ok, Value.cells]
      | str ht => simp only [Value.okWide, ht, Cell.okWide] at hok; cases v <;> simp_all [Cell.ok, Value.cells]
      | bool ht => simp only [Value.okWide, ht, Cell.okWide] at hok; cases v <;> simp_all [Cell.ok, Value.cells]
      | sl ht => obtain ⟨a, n, c, rfl⟩ := WideShapes.okWide_slice ht hok; rfl
      | st => cases ho.1
    rw [hc] at q3
    exact q3.1
  | [], _ :: _, _, _, _, h, _, _, _, _ => h.elim
  | _ :: _, [], _, _, _, h, _, _, _, _ => h.elim
theorem Qy {H : Type} {enc : TypeId × Value → H} {W W' : World} (hl : laidOutB P = true) (hb : Below W.heap.size W W') : ∀ {ts : List TypeId} {vs : List Value} {ds : List (DataW H)} {p : List MemPlace}, (∀ t ∈ ts, P.readableRec t = true ∧ t < P.types.size) → DataW.TrodAll enc P W 0 (fun _ => true) true ts vs ds p →
    ∃ q, DataW.TrodAll enc P W' 0 (fun b => decide (b < W.heap.size)) true ts vs ds q
  | [], vs, ds, p, _, h => by
    obtain ⟨rfl, rfl, rfl⟩ := ChangeShapes.trodAll_nil h
    exact ⟨[], ChangeShapes.trodAll_mk0⟩
  | t :: ts, vs, ds, p, hr, h => by
    obtain ⟨v, vs', d, ds', p1, q, rfl, rfl, rfl, h1, h2⟩ := ChangeShapes.trodAll_cons h
    obtain ⟨q', h3⟩ := Qy hl hb (fun t ht => hr t (by simp [ht])) h2
    have hlt : ∀ x ∈ p1, x.block < W.heap.size := by obtain ⟨m, hm⟩ := h1; exact DataW.trod_lt m _ _ _ hm
    obtain ⟨r1, r2⟩ := hr t (by simp)
    exact ⟨_, trodAll_cons_mk (Below.trod hl r1 r2 h1 hb hlt) h3⟩
end
end Go.Proofs.YtgfchmagglhohaaGreat.Ev

end
section
namespace Go.Proofs.YtgfchmagglhohaaGreat.Ev
open Go Go.RowKit
set_option linter.unusedVariables false
set_option linter.unusedSimpArgs false
theorem S4 : ∀ (l : List Sh) (i : Nat), (slotsI (parI i l)).length = l.length
  | [], _ => rfl
  | s :: l, i => by simp [parI, slotsI, S4 l (i + 1)]
section
variable {P : Program} {J : Tabs}
def TabOK (P : Program) : List (Nat × TyD) → Prop
  | [] => True
  | x :: l => tyOf P x.1 = some x.2 ∧ TabOK P l
theorem As3 {l : List (Nat × TyD)} (h : TabOK P l) : ∀ t d, getD l t = some d → tyOf P t = some d := by
  intro t d hd
  induction l with
  | nil => cases hd
  | cons x l ih =>
    obtain ⟨k, y⟩ := x
    simp only [getD] at hd
    cases hk : Nat.beq t k with
    | true =>
      rw [hk] at hd
      simp only [cond_true, Option.some.injEq] at hd
      have := Nat.eq_of_beq_eq_true hk
      subst this
      subst hd
      exact h.1
    | false =>
      rw [hk] at hd
      exact ih h.2 hd
theorem Af7 {cf : Cfg} {ext : Rel} {g : FuncId} {shs : List Sh} {heads joins : List (Nat × List Item)} {outs : List (Nat × List (Ex × List Item))} {F : denI (parI 0 shs) → Option Bool}
    (hm : P.follows .mixedOrders = true) (hext : ∀ g args blks r blks', ext g args blks r blks' → CSpec P J g args blks r blks')
    (hE : EntOK (Runs P cf ext) ⟨⟨g, 0, parI 0 shs, [.slot 0 (.cell .bool)], heads, outs, joins⟩, F⟩) (hD : ∀ d, decSt 0 (parI 0 shs) (encSt (parI 0 shs) d) = some d) (hF : ∀ d, WFP 0 shs d → F d = some true) (ho : shs.all oneS = true)
    {w : World} (hJ : ∀ x ∈ J, w.heap[x.1]? = some x.2) {xs : List V} {vals : Array Value} (hx : DVs shs xs) (hv : Told w xs vals.toList) : Calls P g vals w fun e w' => e = .returned (.bool true) ∧ Below w.heap.size w w' := by
  obtain ⟨d, h1, h2, h3⟩ := Zo shs 0 ho hx
  have hrefs := SI hv
  obtain ⟨r, blks', q1, q2⟩ := hE d true xs [] (encSt (parI 0 shs) d) (hF d h1) ⟨h3 0 _, (fun id b hb => by
    rw [show (encSt (parI 0 shs) d).hp = (encI 0 (parI 0 shs) d).2 from rfl, h2] at hb
    exact absurd hb (by simp [getB])), rfl⟩ (hD d) (We hv) (by rw [hx.length]; exact (S4 shs 0).symm) (by rw [hrefs]; rfl) (fun _ => rfl)
  have hr : r = .v (.bool true) := q2.val
  have hb : blks' = [] := List.eq_nil_of_length_eq_zero q2.len
  subst hr
  subst hb
  exact Ab2 hm hext hJ hv q1
theorem UY {H : Type} {enc : TypeId × Value → H} {cf : Cfg} {ext : Rel} {g : FuncId} {shs : List Sh} {heads joins : List (Nat × List Item)} {outs : List (Nat × List (Ex × List Item))} {F : denI (parI 0 shs) → Option Bool} {fn : Func} {s : ChangeSpec} {ts : List TypeId} {rt : TypeId}
    (hm : P.follows .mixedOrders = true) (hext : ∀ g args blks r blks', ext g args blks r blks' → CSpec P J g args blks r blks')
    (hE : EntOK (Runs P cf ext) ⟨⟨g, 0, parI 0 shs, [.slot 0 (.cell .bool)], heads, outs, joins⟩, F⟩) (hD : ∀ d, decSt 0 (parI 0 shs) (encSt (parI 0 shs) d) = some d) (hF : ∀ d, WFP 0 shs d → F d = some true) (ho : shs.all oneS = true)
    (hp : fn.params.toList = ts) (hr : fn.resultTypes.toList = [rt]) (hrt : P.underlying rt = some .bool) (hf : FitsL P ts shs) (hl : laidOutB P = true) (hread : ∀ t ∈ ts, P.readableRec t = true ∧ t < P.types.size) (hvars : s.vars = [])
    (hs : ∀ ds : List (DataW H), ds.length = ts.length → s.fn H (ds ++ []) = { results := [.lit (.bool true)], args := ds, vars := [] })
    {W : World} (hJ : ∀ x ∈ J, W.heap[x.1]? = some x.2) {base : Nat} {args : Array Value} {ds gs : List (DataW H)} {before : List MemPlace}
    (hval : ∀ (j : Nat) t v, fn.params[j]? = some t → args[j]? = some v → Value.okWide P W .any base t v) (hW : DataW.Whole enc P fn.params.toList s.vars false W args.toList ds gs before)
    (hsz : (DataW.weightsEach P (fn.params.toList ++ s.plain.varTypes P) (ds ++ gs)).all (· ≤ reachBytes) = true) :
    Calls P g args W fun e W' => ∃ v, e = .returned v ∧ s.post enc P fn false true false false W args v W' := by
  have hW' := hW
  obtain ⟨p, q, hA, hV, rfl, hfz, hnd⟩ := hW
  rw [hvars] at hV
  obtain ⟨rfl, rfl⟩ := ChangeShapes.trodVars_none hV
  rw [hp] at hA
  have hlen : ∀ {ts : List TypeId} {vs : List Value} {ds : List (DataW H)} {p : List MemPlace}, DataW.TrodAll enc P W 0 (fun _ => true) true ts vs ds p → ds.length = ts.length := by
    intro ts
    induction ts with
    | nil => intro vs ds p h; obtain ⟨_, rfl, _⟩ := ChangeShapes.trodAll_nil h; rfl
    | cons t ts ih => intro vs ds p h; obtain ⟨v, vs', d, ds', p1, q, rfl, rfl, rfl, h1, h2⟩ := ChangeShapes.trodAll_cons h; simp [ih h2]
  have hdl := hlen hA
  have hwt : ∀ n ∈ DataW.weightsEach P ts ds, n ≤ reachBytes := by
    intro n hn
    have hmem : ∀ (a b : List TypeId) (c d : List (DataW H)), ∀ n ∈ DataW.weightsEach P a c, c.length = a.length → n ∈ DataW.weightsEach P (a ++ b) (c ++ d) := by
      intro a
      induction a with
      | nil => intro b c d n hn hl; cases c <;> simp [DataW.weightsEach] at hn hl
      | cons t a ih =>
        intro b c d n hn hl
        cases c with
        | nil => simp [DataW.weightsEach] at hn
        | cons x c =>
          simp only [DataW.weightsEach, List.mem_append, List.cons_append] at hn ⊢
          rcases hn with hn | hn
          · exact .inl hn
          · exact .inr (ih b c d n hn (by simpa using hl))
    rw [hp] at hsz
    have := List.all_eq_true.1 hsz n (hmem ts _ ds _ n hn hdl)
    simpa using this
  obtain ⟨xs, h1, h2⟩ := Td hf ho hA (fun j t v h1 h2 => ⟨base, hval j t v (by rw [← hp] at h1; simpa using h1) (by simpa using h2)⟩) hwt
  refine (Af7 hm hext hE hD hF ho hJ h1 h2).mono fun e W' ⟨he, bel⟩ => ?_
  subst he
  obtain ⟨q', hq⟩ := Qy hl bel hread hA
  refine ⟨_, rfl, ds, [], _, [], q', [], hW', ?_, ?_, ?_, bel.frame _, fun h => by cases h⟩
  · rw [hs ds hdl, hr]
    have : ((Value.bool true).resultList fn.resultTypes.size) = [.bool true] := by
      have : fn.resultTypes.size = 1 := by rw [← Array.length_toList, hr]; rfl
      rw [this]; rfl
    rw [this]
    exact ChangeShapes.trodAll_mk1 (shut_bool hrt true)
  · rw [hs ds hdl, hp]
    exact hq
  · rw [hs ds hdl, hvars]
    rfl
end
end Go.Proofs.YtgfchmagglhohaaGreat.Ev

end
section
namespace Go.Proofs.YtgfchmagglhohaaGreat.Ev
open Go
set_option linter.unusedVariables false
set_option linter.unusedSimpArgs false
theorem wrapI {n : Int} (h1 : -9223372036854775808 ≤ n) (h2 : n ≤ 9223372036854775807) : IntKind.wrap .i64 n = n := by rw [IntKind.wrap_i64]; omega
section
variable {σ τ ρ ρ' : Type} {f : σ → Option (σ ⊕ ρ)} {g : τ → Option (τ ⊕ ρ')}
theorem BP {s s' : σ} (h : f s = some (.inl s')) : loopM f s = loopM f s' := by rw [Vz, h]; rfl
theorem AF {s : σ} {r : ρ} (h : f s = some (.inr r)) : loopM f s = some r := by rw [Vz, h]; rfl
theorem Fk {I : σ → Prop} {R : ρ → Prop} (m : σ → Nat) (h : ∀ s, I s → (∃ s', f s = some (.inl s') ∧ I s' ∧ m s' < m s) ∨ ∃ r, f s = some (.inr r) ∧ R r) : ∀ s, I s → ∃ r, loopM f s = some r ∧ R r := by
  have : ∀ n s, m s < n → I s → ∃ r, loopM f s = some r ∧ R r := by
    intro n
    induction n with
    | zero => intro s h; omega
    | succ n ih =>
      intro s hn hs
      rcases h s hs with ⟨s', h1, h2, h3⟩ | ⟨r, h1, h2⟩
      · obtain ⟨r, h4, h5⟩ := ih s' (by omega) h2
        exact ⟨r, by rw [BP h1, h4], h5⟩
      · exact ⟨r, AF h1, h2⟩
  exact fun s hs => this (m s + 1) s (by omega) hs
end
section
variable {α β γ : Type}
theorem Am (l : List α) (i : Nat) : getI l (i : Int) = l[i]? := by
  unfold getI
  rw [if_pos (by omega)]
  simp
theorem Zi {l : List α} {i : Int} (h0 : 0 ≤ i) (h1 : i < l.length) : ∃ a, getI l i = some a ∧ l[i.toNat]? = some a := by
  unfold getI
  rw [if_pos h0]
  have : i.toNat < l.length := by omega
  exact ⟨l[i.toNat], List.getElem?_eq_getElem this, List.getElem?_eq_getElem this⟩
theorem AL {i n : Nat} (h : i < n) : idxI (i : Int) n = some i := by
  unfold idxI
  rw [if_pos (by omega)]
  simp
theorem Ff {n b s : Nat} (h1 : n * b ≤ maxBytes) (h2 : n * s ≤ maxBytes) : lenI (n : Int) b s = some n := by
  unfold lenI
  rw [if_pos (by simp; omega)]
  simp
end
section
variable {α σ ρ : Type} {body : σ → Option (σ ⊕ ρ)}
theorem Ry {l : List α} {st : Nat → σ} {p : α → Bool} {fin : ρ} {bad : Nat → ρ} (hgo : ∀ k a, l[k]? = some a → p a = true → body (st k) = some (.inl (st (k + 1)))) (hbad : ∀ k a, l[k]? = some a → p a = false → body (st k) = some (.inr (bad k))) (hend : body (st l.length) = some (.inr fin)) :
    (l.all p = true → loopM body (st 0) = some fin) ∧ (l.all p = false → ∃ k, k < l.length ∧ loopM body (st 0) = some (bad k)) := by
  have key : ∀ (n k : Nat), k + n = l.length → ((l.drop k).all p = true → loopM body (st k) = some fin) ∧ ((l.drop k).all p = false → ∃ j, j < l.length ∧ loopM body (st k) = some (bad j)) := by
    intro n
    induction n with
    | zero =>
      intro k hk
      have : k = l.length := by omega
      subst this
      rw [List.drop_length]
      exact ⟨fun _ => AF hend, (fun h => by cases h)⟩
    | succ n ih =>
      intro k hk
      have hlt : k < l.length := by omega
      have hd : l.drop k = l[k] :: l.drop (k + 1) := List.drop_eq_getElem_cons hlt
      have he : l[k]? = some l[k] := List.getElem?_eq_getElem hlt
      rw [hd, List.all_cons]
      cases hp : p l[k] with
      | true =>
        have h1 := hgo k _ he hp
        obtain ⟨q1, q2⟩ := ih (k + 1) (by omega)
        rw [Bool.true_and, BP h1]
        exact ⟨q1, q2⟩
      | false =>
        rw [Bool.false_and]
        exact ⟨(fun h => by cases h), fun _ => ⟨k, hlt, AF (hbad k _ he hp)⟩⟩
  have := key l.length 0 (by omega)
  rwa [List.drop_zero] at this
end
section
theorem wrap1 {k : Nat} (h : k < 4611686018427387904) : IntKind.wrap .i64 ((k : Int) + 1) = ((k + 1 : Nat) : Int) := by rw [wrapI (by omega) (by omega)]; omega
end
theorem YH {β : Type} {b s : Nat} {l m : List β} (h1 : (l.length + m.length) * b ≤ maxBytes) (h2 : (l.length + m.length) * s ≤ maxBytes) : appL b s l m = some (l ++ m) := by
  unfold appL
  rw [if_pos ⟨h1, h2⟩]
end Go.Proofs.YtgfchmagglhohaaGreat.Ev

end
section
namespace Go.Proofs.YtgfchmagglhohaaGreat.Ev
open Go
set_option linter.unusedVariables false
set_option linter.unusedSimpArgs false
variable {P : Program} {J : Tabs}
def nilS : Value := .slice none 0 0
def cloneBody (t tb : TypeId) : Code :=
  .seq (.region 0 #[⟨some 2, .assign (.const nilS), t, "slices.go:355", #[], none⟩] false)
    (.seq (.seq (.region 1 #[⟨some 3, .move (.tmp 0), t, "slices.go:357", #[], none⟩, ⟨some 4, .binOp .eql t (.tmp 3) (.const nilS) t, tb, "slices.go:357", #[⟨0, .data⟩], none⟩] false)
        (.cond (.tmp 4) (.seq (.region 2 #[⟨some 2, .assign (.const nilS), t, "slices.go:358", #[], none⟩] false) .ret) .skip))
      (.seq (.region 3 #[⟨some 5, .buildSlice t 0 #[], t, "slices.go:362", #[], none⟩, ⟨some 6, .move (.tmp 0), t, "slices.go:362", #[], none⟩,
          ⟨some 7, .call ⟨.builtin .append, #[.tmp 5, .tmp 6], #[t, t]⟩, t, "slices.go:362", #[⟨0, .data⟩, ⟨1, .data⟩], none⟩,
          ⟨some 2, .assign (.tmp 7), t, "slices.go:362", #[⟨2, .data⟩, ⟨2, .chain⟩, ⟨0, .phase⟩, ⟨1, .phase⟩, ⟨2, .phase⟩], none⟩] false) .ret))
def cfN (e size : Nat) (deep : Bool) : Cfg := { live := fun _ _ => [], out := fun _ _ _ => [], join := fun _ _ => none, res := fun _ => [.one (.own e size deep)], par := fun _ => [(0, .one .keep)], rts := fun _ => [], byref := fun _ => [], isExt := fun _ => false }
theorem ZI {g : FuncId} {fn : Func} {t tb e : TypeId} {d de : TyD} (hfn : P.funcs[g]? = some fn) (hb : fn.body = some (cloneBody t tb)) (hok : bodyOK fn (cloneBody t tb) 1 = true) (hr : fn.results.toList = [.tmp 2])
    (hd : tyOf P t = some d) (he : d.elem = some e) (hde : tyOf P e = some de) (hst : isStr P t = false) (a : Option Addr) (c : Nat) :
    Runs P (cfN e de.size (de.zero.all isVB)) (fun _ _ _ _ _ => False) g [.v (.slice a 0 c)] [] (.ar 0 0 0) [arrOf e de.size (de.zero.all isVB) []] := by
  refine Runs.intro rfl hfn hb hok rfl ?_
  rw [hr]
  have hsl : isSl P t = true := by unfold isSl; rw [hd]; simp [he]
  cases a with
  | none =>
    simp [canon, normS, normV, normC, caseO, entry, enum, lk, upd, canon0, close, refs2, refs1, refs0, ren2, ren1, ren0, lkB, blksOf, cloneBody, we, reo, weOps, opAt, isR, weOp, nevT, nilEq, opnd, Ev.put, drawn, ofConst, ofCell, nilS, hsl, meet, caseB, toVal, cfN, outs, rootsOK, resVs, resV, normR, rootVs, outL, out1, idx, renB, arrOf, refsB]
  | some a =>
    simp [canon, normS, normV, normC, caseO, entry, enum, lk, upd, canon0, close, refs2, refs1, refs0, ren2, ren1, ren0, lkB, blksOf, cloneBody, we, reo, weOps, opAt, isR, weOp, nevT, nilEq, opnd, Ev.put, drawn, ofConst, ofCell, nilS, hsl, meet, caseB, toVal, cfN, outs, rootsOK, resVs, resV, normR, rootVs, outL, out1, idx, renB, arrOf, refsB, weBuildSlice, hd, he, hde, weAppend, srcRows, nodupB]
structure CloneOK (P : Program) (x : FuncId × TypeId × Nat × Bool) : Prop where
  ok : ∃ (fn : Func) (t tb : TypeId) (d de : TyD), P.funcs[x.1]? = some fn ∧ fn.body = some (cloneBody t tb) ∧ bodyOK fn (cloneBody t tb) 1 = true ∧ fn.results.toList = [.tmp 2] ∧
    tyOf P t = some d ∧ d.elem = some x.2.1 ∧ tyOf P x.2.1 = some de ∧ isStr P t = false ∧ de.size = x.2.2.1 ∧ de.zero.all isVB = x.2.2.2
theorem OF (hm : P.follows .mixedOrders = true) {x : FuncId × TypeId × Nat × Bool} (h : CloneOK P x) {v : V} (hv : v = .em ∨ v = .im []) : CSpec P J x.1 [v] [] (.ar 0 0 0) [arrOf x.2.1 x.2.2.1 x.2.2.2 []] := by
  obtain ⟨fn, t, tb, d, de, h1, h2, h3, h4, h5, h6, h7, h8, h9, h10⟩ := h.ok
  have key : ∀ (a : Option Addr) (c : Nat), CSpec P J x.1 [.v (.slice a 0 c)] [] (.ar 0 0 0) [arrOf x.2.1 x.2.2.1 x.2.2.2 []] := by
    intro a c
    obtain ⟨k, hk⟩ := ZI h1 h2 h3 h4 h5 h6 h7 h8 a c
    rw [← h9, ← h10]
    exact Kx hm (fun _ _ _ _ _ h => h.elim) k _ _ _ _ _ hk
  refine ⟨(key none 0).enter, fun _ w A E vals hT hI hvl => ?_⟩
  obtain ⟨y, hy⟩ : ∃ y, vals.toList = [y] := by
    match hl : vals.toList with
    | [] => rw [hl] at hvl; exact hvl.elim
    | [y] => exact ⟨y, rfl⟩
    | _ :: _ :: _ => rw [hl] at hvl; exact hvl.2.elim
  rw [hy] at hvl
  have hv1 := hvl.1
  obtain ⟨a, c, hyc⟩ : ∃ a c, y = .slice a 0 c := by
    rcases hv with rfl | rfl
    · have hv1 : Rep w A .em y := hv1
      cases hv1 with
      | em a => exact ⟨a, 0, rfl⟩
    · have hv1 : Rep w A (.im []) y := hv1
      cases hv1 with
      | im0 a c => exact ⟨a, c, rfl⟩
      | im b off cap => exact ⟨some ⟨b, off, none⟩, cap, rfl⟩
  subst hyc
  have hk := (key a c).calls rfl w A E vals hT hI (by rw [hy]; exact ⟨.v _ rfl, trivial⟩)
  refine hk.mono fun e w' he => ?_
  obtain ⟨y', E', G', q1, q2, q3, q4⟩ := he
  refine ⟨y', E', G', q1, q2, q3, fun j hj => ?_⟩
  rcases hv with rfl | rfl <;> simp [refs1, refs0] at hj
def cloneRel (Rc : Rel) (tab : List (FuncId × TypeId × Nat × Bool)) : Rel := fun g args blks r blks' =>
  Rc g args blks r blks' ∨ ∃ x ∈ tab, g = x.1 ∧ (args = [.em] ∨ args = [.im []]) ∧ blks = [] ∧ r = .ar 0 0 0 ∧ blks' = [arrOf x.2.1 x.2.2.1 x.2.2.2 []]
theorem Sw {cf : Cfg} {tab : List (FuncId × TypeId × Nat × Bool)} (hm : P.follows .mixedOrders = true) (ht : ∀ x ∈ tab, CloneOK P x) :
    ∀ g args blks r blks', cloneRel (Runs P cf fun _ _ _ _ _ => False) tab g args blks r blks' → CSpec P J g args blks r blks' := by
  intro g args blks r blks' h
  rcases h with ⟨k, hk⟩ | ⟨x, hx, rfl, ha, rfl, rfl, rfl⟩
  · exact Kx hm (fun _ _ _ _ _ h => h.elim) k _ _ _ _ _ hk
  · rcases ha with rfl | rfl
    · exact OF hm (ht x hx) (.inl rfl)
    · exact OF hm (ht x hx) (.inr rfl)
theorem At3 {t : Ty} {st : TSt} {x : denI [.slot 0 (.cell (.im t))]} (h : decSt 0 [.slot 0 (.cell (.im t))] st = some x) : asLh st.hp t (getV st.tm 0) = some (show List t.den from x) := by
  unfold decSt at h
  split at h
  case isFalse => cases h
  simp only [keepT, blksI, tmS, tmC, tnS, tnV, tnC] at h
  cases ha : asLh st.hp t (getV st.tm 0) with
  | none => rw [ha] at h; cases h
  | some l =>
    rw [ha] at h
    simp only [Nat.zero_le, Nat.ble_eq, if_true] at h
    have hc : ∀ c, canonT 0 (slotsI [.slot 0 (.cell (.im t))]) { tm := (0, .im t l) :: st.tm, hp := freezeT st.hp (frV (getV st.tm 0)), c := c } = some { tm := [(0, .im t l)], hp := [], c := 1 } := fun c => rfl
    rw [hc] at h
    simp only [rdI, rdS, rdC, Nat.beq_refl, if_true, dite_true] at h
    rw [← Option.some.inj h]
    rfl
def orNil {α β : Type} (F : List α → Option (List β)) (l : List α) : Option (List β) := match l with | [] => some [] | a :: l => F (a :: l)
theorem XR {ext : Rel} {cf : Cfg} {Rc : Rel} {tab : List (FuncId × TypeId × Nat × Bool)} {g : FuncId} {e : TypeId} {deep : Bool} {t : Ty} {heads joins : List (Nat × List Item)} {outs : List (Nat × List (Ex × List Item))} {F : List t.den → Option (List t.den)}
    (h : EntOK Rc ⟨⟨g, 0, [.slot 0 (.cell (.im t))], [.blk (.arr e deep t), .slot 0 (.ref 0 false)], heads, outs, joins⟩, F⟩) (hmem : (g, e, t.size, deep) ∈ tab) (hext : ∀ g args blks r blks', cloneRel Rc tab g args blks r blks' → ext g args blks r blks') :
    EntOK (Runs P cf ext) ⟨⟨g, 0, [.slot 0 (.cell (.im t))], [.blk (.arr e deep t), .slot 0 (.ref 0 false)], heads, outs, joins⟩, fun l => orNil F l⟩ := by
  intro x y args blks st hF hs hd hid hlen href hb0
  have ha := At3 hd
  cases hx : (show List t.den from x) with
  | cons a l =>
    have hx' : x = (show denI [.slot 0 (.cell (.im t))] from (a :: l : List t.den)) := hx
    subst hx'
    obtain ⟨r, blks', q1, q2⟩ := h _ y args blks st hF hs hd hid hlen href hb0
    exact ⟨r, blks', Runs.ext (hext _ _ _ _ _ (.inl q1)), q2⟩
  | nil =>
    have hx' : x = (show denI [.slot 0 (.cell (.im t))] from ([] : List t.den)) := hx
    subst hx'
    have hy : y = (show denI [.blk (.arr e deep t), .slot 0 (.ref 0 false)] from ([] : List t.den)) := (Option.some.inj hF).symm
    subst hy
    obtain ⟨v, rfl⟩ : ∃ v, args = [v] := by
      match args, hlen with
      | [v], _ => exact ⟨v, rfl⟩
    have hrefs : ([v] : List V).flatMap refs1 = [] := by
      cases hr : ([v] : List V).flatMap refs1 with
      | nil => rfl
      | cons i l => rw [hr] at href; simp [List.eraseDups_cons] at href
    have hv := hs.tm 0
    have hv : RV2 st.hp (getV st.tm 0) v := hv
    have hcase : v = .em ∨ v = .im [] := by
      generalize getV st.tm 0 = u at ha hv
      cases u with
      | em => exact .inl hv
      | im t' l =>
        simp only [asLh, asL] at ha
        rcases hv with ⟨_, hv⟩ | ⟨rows, hv, hl⟩
        · exact .inl hv
        · split at ha
          · rename_i ht
            subst ht
            have h0 : l = [] := by have := Option.some.inj ha; exact this
            subst h0
            have : rows = [] := List.eq_nil_of_length_eq_zero (by have := hl.1; simpa using this)
            subst this
            exact .inr hv
          · cases ha
      | ow id =>
        obtain ⟨n, rfl, _⟩ := hv
        simp [refs1, refs0] at hrefs
      | ar id lo n =>
        have hv : v = .ar id lo n := hv
        subst hv
        simp [refs1, refs0] at hrefs
      | _ => simp [asLh, asL] at ha
    have hblks : blks = [] := hb0 rfl
    subst hblks
    refine ⟨.ar 0 0 0, [arrOf e t.size deep []], Runs.ext (hext _ _ _ _ _ (.inr ⟨_, hmem, rfl, ?_, rfl, rfl, rfl⟩)), ?_, ?_, rfl⟩
    · rcases hcase with rfl | rfl
      · exact .inl rfl
      · exact .inr rfl
    · exact ⟨0, rfl, fun b hb => by cases hb; rfl⟩
    · intro id b hb
      have hb : getB [(0, some (TB.arr e deep t []))] id = some b := hb
      simp only [getB] at hb
      cases hi : Nat.beq id 0 with
      | false => rw [hi] at hb; cases hb
      | true =>
        rw [hi] at hb
        have hb : some (TB.arr e deep t []) = some b := hb
        cases hb
        have : id = 0 := Nat.eq_of_beq_eq_true hi
        subst this
        exact ⟨_, rfl, rfl, rfl, rfl, rfl, RLx.nil⟩
theorem Aa1 {cf : Cfg} {Rc : Rel} {tab : List (FuncId × TypeId × Nat × Bool)} {g : FuncId} {e : TypeId} {deep : Bool} {t : Ty} {heads joins : List (Nat × List Item)} {outs : List (Nat × List (Ex × List Item))} {F : List t.den → Option (List t.den)}
    (h : EntOK Rc ⟨⟨g, 0, [.slot 0 (.cell (.im t))], [.blk (.arr e deep t), .slot 0 (.ref 0 false)], heads, outs, joins⟩, F⟩) (hmem : (g, e, t.size, deep) ∈ tab) :
    EntOK (Runs P cf (cloneRel Rc tab)) ⟨⟨g, 0, [.slot 0 (.cell (.im t))], [.blk (.arr e deep t), .slot 0 (.ref 0 false)], heads, outs, joins⟩, fun l => orNil F l⟩ := XR h hmem fun _ _ _ _ _ h => h
end Go.Proofs.YtgfchmagglhohaaGreat.Ev

end
section
namespace Go.Proofs.YtgfchmagglhohaaGreat.Ev
open Go
set_option maxRecDepth 100000
set_option linter.unusedVariables false
def tyD3 : TyD := ⟨1, 8, false, [(.v (.int .i64 0))], none, false, (some .i64), [], false⟩
def tyD4 : TyD := ⟨1, 1, false, [(.v (.bool false))], none, false, none, [], false⟩
def tyD5 : TyD := ⟨1, 1, false, [(.v (.int .u8 0))], none, false, (some .u8), [], false⟩
def tyD22 : TyD := ⟨1, 24, false, [.em], (some 5), false, none, [], false⟩
def tyD23 : TyD := ⟨1, 24, false, [.em], (some 3), false, none, [], false⟩
def tyD25 : TyD := ⟨2, 32, true, [(.v (.bool false)), .em], none, false, none, [⟨0, 4, 1, false⟩, ⟨1, 23, 1, false⟩], false⟩
def tyD27 : TyD := ⟨4, 64, true, [(.v (.bool false)), .em, (.v (.bool false)), .em], none, false, none, [⟨0, 25, 2, true⟩, ⟨2, 25, 2, true⟩], false⟩
def tyD29 : TyD := ⟨1, 24, false, [.em], (some 25), false, none, [], false⟩
def tyD50 : TyD := ⟨8, 128, true, [(.v (.bool false)), .em, (.v (.bool false)), .em, (.v (.bool false)), .em, (.v (.bool false)), .em], none, false, none, [⟨0, 27, 4, true⟩, ⟨4, 27, 4, true⟩], false⟩
def tyD57 : TyD := ⟨1, 24, false, [.em], (some 27), false, none, [], false⟩
def tyD68 : TyD := ⟨1, 8, false, [(.v (.int .u64 0))], none, false, (some .u64), [], false⟩
def tyD128 : TyD := ⟨1, 8, false, [(.v (.int .u64 0))], none, false, (some .u64), [], false⟩
def tyD131 : TyD := ⟨3, 40, true, [.em, (.v (.int .i64 0)), (.v (.int .u64 0))], none, false, none, [⟨0, 22, 1, false⟩, ⟨1, 3, 1, false⟩, ⟨2, 128, 1, false⟩], false⟩
def tyD178 : TyD := ⟨1, 24, false, [.em], (some 50), false, none, [], false⟩
theorem ty3 : tyOf Tryz.prog 3 = some tyD3 := by kernel_rfl
theorem ty4 : tyOf Tryz.prog 4 = some tyD4 := by kernel_rfl
theorem ty5 : tyOf Tryz.prog 5 = some tyD5 := by kernel_rfl
theorem ty22 : tyOf Tryz.prog 22 = some tyD22 := by kernel_rfl
theorem ty23 : tyOf Tryz.prog 23 = some tyD23 := by kernel_rfl
theorem ty25 : tyOf Tryz.prog 25 = some tyD25 := by kernel_rfl
theorem ty27 : tyOf Tryz.prog 27 = some tyD27 := by kernel_rfl
theorem ty29 : tyOf Tryz.prog 29 = some tyD29 := by kernel_rfl
theorem ty50 : tyOf Tryz.prog 50 = some tyD50 := by kernel_rfl
theorem ty57 : tyOf Tryz.prog 57 = some tyD57 := by kernel_rfl
theorem ty68 : tyOf Tryz.prog 68 = some tyD68 := by kernel_rfl
theorem ty128 : tyOf Tryz.prog 128 = some tyD128 := by kernel_rfl
theorem ty131 : tyOf Tryz.prog 131 = some tyD131 := by kernel_rfl
theorem ty178 : tyOf Tryz.prog 178 = some tyD178 := by kernel_rfl
def tyTab : List (Nat × TyD) := [(3, tyD3), (4, tyD4), (5, tyD5), (22, tyD22), (23, tyD23), (25, tyD25), (27, tyD27), (29, tyD29), (50, tyD50), (57, tyD57), (68, tyD68), (128, tyD128), (131, tyD131), (178, tyD178)]
def codTab : List (Nat × Ty) := [(3, .int .i64), (5, .int .u8), (25, .pair (.bool) (.sl (.int .i64))), (27, .pair (.pair (.bool) (.sl (.int .i64))) (.pair (.bool) (.sl (.int .i64)))), (50, .pair (.pair (.pair (.bool) (.sl (.int .i64))) (.pair (.bool) (.sl (.int .i64)))) (.pair (.pair (.bool) (.sl (.int .i64))) (.pair (.bool) (.sl (.int .i64)))))]
theorem tyOK : ∀ t d, getD tyTab t = some d → tyOf Tryz.prog t = some d := As3 (by unfold tyTab; exact ⟨ty3, ⟨ty4, ⟨ty5, ⟨ty22, ⟨ty23, ⟨ty25, ⟨ty27, ⟨ty29, ⟨ty50, ⟨ty57, ⟨ty68, ⟨ty128, ⟨ty131, ⟨ty178, trivial⟩⟩⟩⟩⟩⟩⟩⟩⟩⟩⟩⟩⟩⟩)
theorem bool4 : Tryz.prog.underlying 4 = some .bool := by kernel_rfl
theorem boolOK : ∀ t, ([4] : List Nat).contains t = true → Tryz.prog.underlying t = some .bool := by
  intro t h
  simp at h
  rcases h with rfl
  all_goals first | exact bool4
theorem eqOK : ∀ t, ([] : List Nat).contains t = true → EqOK Tryz.prog t := by
  intro t h
  simp at h
  try exact h.elim
def GI : FAnn := ⟨240, 1, [.blk (.box 131 [.im (.int .u8), .int .i64, .int .u64]), .slot 0 (.ref 0 true)], [.blk (.box 131 [.im (.int .u8), .int .i64, .int .u64]), .slot 0 (.cell (.int .i64))],
  [],
  [],
  [(4, [.blk (.box 131 [.im (.int .u8), .int .i64, .int .u64]), .slot 0 (.ref 0 true), .slot 3 (.cell (.int .i64))])]⟩
def Ge : FAnn := ⟨141, 1, [.blk (.box 131 [.im (.int .u8), .int .i64, .int .u64]), .slot 0 (.ref 0 true), .slot 1 (.cell (.int .i64))], [.blk (.box 131 [.im (.int .u8), .int .i64, .int .u64]), .slot 0 (.cell (.int .i64))],
  [],
  [],
  []⟩
def G7 : FAnn := ⟨142, 1, [.blk (.box 131 [.im (.int .u8), .int .i64, .int .u64]), .slot 0 (.ref 0 true), .slot 1 (.cell (.int .i64))], [.blk (.box 131 [.im (.int .u8), .int .i64, .int .u64]), .slot 0 (.cell (.bool))],
  [],
  [],
  []⟩
def Fw : FAnn := ⟨157, 1, [.blk (.box 131 [.im (.int .u8), .int .i64, .int .u64]), .slot 0 (.ref 0 true), .slot 1 (.cell (.im (.int .i64)))], [.blk (.box 131 [.im (.int .u8), .int .i64, .int .u64]), .slot 0 (.cell (.int .i64))],
  [],
  [],
  []⟩
def Nh : FAnn := ⟨280, 0, [.slot 0 (.cell (.im (.int .i64)))], [.blk (.arr 3 true (.int .i64)), .slot 0 (.ref 0 false)],
  [(1, [.slot 0 (.cell (.im (.int .i64)))])],
  [(1, [(.exit 0, [.slot 0 (.cell (.im (.int .i64)))])])],
  []⟩
def KR : FAnn := ⟨229, 0, [.slot 0 (.cell (.bool)), .slot 1 (.cell (.im (.int .i64)))], [.blk (.arr 3 true (.int .i64)), .slot 0 (.agg [.bool, .at 0])],
  [],
  [],
  []⟩
def Ha : FAnn := ⟨246, 1, [.blk (.box 131 [.im (.int .u8), .int .i64, .int .u64]), .slot 0 (.ref 0 true)], [.blk (.box 131 [.im (.int .u8), .int .i64, .int .u64]), .slot 0 (.agg [.bool, .im (.int .i64)])],
  [(5, [.blk (.box 131 [.im (.int .u8), .int .i64, .int .u64]), .blk (.box 25 [.bool, .im (.int .i64)]), .blk (.arr 3 true (.int .i64)), .slot 0 (.ref 0 true), .slot 2 (.ref 1 true), .slot 3 (.cell (.int .i64)), .slot 4 (.ref 2 false)])],
  [(5, [(.exit 0, [.blk (.box 131 [.im (.int .u8), .int .i64, .int .u64]), .blk (.box 25 [.bool, .im (.int .i64)]), .blk (.arr 3 true (.int .i64)), .slot 0 (.ref 0 true), .slot 2 (.ref 1 true), .slot 4 (.ref 2 false)])])],
  [(4, [.blk (.box 131 [.im (.int .u8), .int .i64, .int .u64]), .blk (.box 25 [.bool, .im (.int .i64)]), .slot 0 (.ref 0 true), .slot 2 (.ref 1 true), .slot 3 (.cell (.int .i64))])]⟩
def R0 : FAnn := ⟨144, 0, [.slot 0 (.cell (.int .i64)), .slot 1 (.cell (.int .i64)), .slot 2 (.cell (.int .i64))], [.slot 0 (.cell (.bool))],
  [],
  [],
  []⟩
def Jm : FAnn := ⟨143, 0, [.slot 0 (.agg [.bool, .im (.int .i64)])], [.slot 0 (.cell (.bool))],
  [(2, [.blk (.box 25 [.bool, .im (.int .i64)]), .slot 1 (.ref 0 true), .slot 7 (.cell (.im (.int .i64))), .slot 8 (.cell (.int .i64)), .slot 9 (.cell (.int .i64))])],
  [(2, [(.exit 0, [.blk (.box 25 [.bool, .im (.int .i64)]), .slot 1 (.ref 0 true)]), (.ret, [.slot 2 (.cell (.bool))])])],
  []⟩
def NJ : FAnn := ⟨225, 0, [.slot 0 (.cell (.im (.int .i64))), .slot 1 (.cell (.im (.int .i64)))], [.slot 0 (.cell (.int .i64))],
  [(6, [.slot 0 (.cell (.im (.int .i64))), .slot 1 (.cell (.im (.int .i64))), .slot 5 (.cell (.int .i64))])],
  [(6, [(.exit 0, []), (.ret, [.slot 4 (.cell (.int .i64))])])],
  []⟩
def Jp : FAnn := ⟨297, 0, [.slot 0 (.cell (.im (.int .i64))), .slot 1 (.cell (.int .i64))], [.blk (.arr 3 true (.int .i64)), .blk (.arr 3 true (.int .i64)), .slot 0 (.ref 0 false), .slot 1 (.ref 1 false)],
  [(4, [.blk (.arr 3 true (.int .i64)), .slot 0 (.cell (.im (.int .i64))), .slot 1 (.cell (.int .i64)), .slot 6 (.ref 0 false), .slot 7 (.cell (.int .i64)), .slot 8 (.cell (.int .i64))])],
  [(4, [(.exit 0, [.blk (.arr 3 true (.int .i64)), .slot 6 (.ref 0 false), .slot 7 (.cell (.int .i64))])])],
  []⟩
def Re : FAnn := ⟨298, 0, [.slot 0 (.cell (.im (.int .i64))), .slot 1 (.cell (.int .i64))], [.blk (.arr 3 true (.int .i64)), .slot 0 (.ref 0 false)],
  [(3, [.blk (.arr 3 true (.int .i64)), .slot 1 (.cell (.int .i64)), .slot 5 (.ref 0 false), .slot 13 (.cell (.im (.int .i64))), .slot 14 (.cell (.int .i64)), .slot 15 (.cell (.int .i64))])],
  [(3, [(.exit 0, [.blk (.arr 3 true (.int .i64)), .slot 5 (.ref 0 false)])])],
  []⟩
def JC : FAnn := ⟨299, 0, [.slot 0 (.cell (.im (.int .i64))), .slot 1 (.cell (.im (.int .i64))), .slot 2 (.cell (.int .i64))], [.slot 0 (.cell (.int .i64))],
  [(5, [.slot 0 (.cell (.im (.int .i64))), .slot 1 (.cell (.im (.int .i64))), .slot 2 (.cell (.int .i64)), .slot 7 (.cell (.int .i64)), .slot 9 (.cell (.int .i64)), .slot 10 (.cell (.int .i64))])],
  [(5, [(.exit 0, [.slot 9 (.cell (.int .i64))])])],
  [(6, [.slot 0 (.cell (.im (.int .i64))), .slot 1 (.cell (.im (.int .i64))), .slot 2 (.cell (.int .i64)), .slot 7 (.cell (.int .i64)), .slot 9 (.cell (.int .i64)), .slot 10 (.cell (.int .i64))])]⟩
def KU : FAnn := ⟨282, 0, [.slot 0 (.cell (.im (.int .i64))), .slot 1 (.cell (.int .i64))], [.slot 0 (.cell (.int .i64))],
  [],
  [],
  []⟩
def La : FAnn := ⟨300, 1, [.blk (.arr 3 true (.int .i64)), .slot 0 (.ref 0 false), .slot 1 (.cell (.im (.int .i64))), .slot 2 (.cell (.int .i64)), .slot 3 (.cell (.int .i64))], [.blk (.arr 3 true (.int .i64)), .slot 0 (.cell (.int .i64))],
  [(3, [.blk (.arr 3 true (.int .i64)), .slot 0 (.ref 0 false), .slot 1 (.cell (.im (.int .i64))), .slot 2 (.cell (.int .i64)), .slot 3 (.cell (.int .i64)), .slot 9 (.cell (.int .i64)), .slot 10 (.cell (.int .i64))])],
  [(3, [(.exit 0, [.blk (.arr 3 true (.int .i64)), .slot 9 (.cell (.int .i64))])])],
  [(10, [.blk (.arr 3 true (.int .i64)), .slot 0 (.ref 0 false), .slot 1 (.cell (.im (.int .i64))), .slot 2 (.cell (.int .i64)), .slot 3 (.cell (.int .i64)), .slot 9 (.cell (.int .i64)), .slot 10 (.cell (.int .i64)), .slot 11 (.cell (.int .i64))])]⟩
def KT : FAnn := ⟨301, 1, [.blk (.arr 3 true (.int .i64)), .slot 0 (.ref 0 false), .slot 1 (.cell (.im (.int .i64))), .slot 2 (.cell (.int .i64))], [.blk (.arr 3 true (.int .i64))],
  [(2, [.blk (.arr 3 true (.int .i64)), .slot 0 (.ref 0 false), .slot 1 (.cell (.im (.int .i64))), .slot 2 (.cell (.int .i64)), .slot 6 (.cell (.int .i64)), .slot 7 (.cell (.int .i64))])],
  [(2, [(.exit 0, [.blk (.arr 3 true (.int .i64))])])],
  []⟩
def Li : FAnn := ⟨302, 0, [.slot 0 (.cell (.im (.int .i64))), .slot 1 (.cell (.int .i64))], [.blk (.arr 3 true (.int .i64)), .slot 0 (.ref 0 false)],
  [(3, [.blk (.arr 3 true (.int .i64)), .slot 0 (.cell (.im (.int .i64))), .slot 1 (.cell (.int .i64)), .slot 5 (.ref 0 false), .slot 11 (.cell (.int .i64)), .slot 12 (.cell (.int .i64))])],
  [(3, [(.exit 0, [.blk (.arr 3 true (.int .i64)), .slot 5 (.ref 0 false)])])],
  []⟩
def Gx : FAnn := ⟨279, 0, [.slot 0 (.cell (.im (.int .i64))), .slot 1 (.cell (.im (.int .i64)))], [.blk (.arr 3 true (.int .i64)), .blk (.arr 3 true (.int .i64)), .slot 0 (.ref 0 false), .slot 1 (.ref 1 false)],
  [(7, [.blk (.arr 3 true (.int .i64)), .slot 0 (.ref 0 false), .slot 1 (.cell (.im (.int .i64))), .slot 6 (.cell (.int .i64))]), (13, [.blk (.arr 3 true (.int .i64)), .blk (.arr 3 true (.int .i64)), .blk (.arr 3 true (.int .i64)), .slot 6 (.cell (.int .i64)), .slot 7 (.ref 0 false), .slot 8 (.ref 1 false), .slot 9 (.ref 2 false), .slot 10 (.cell (.int .i64))])],
  [(7, [(.exit 0, [.blk (.arr 3 true (.int .i64)), .slot 0 (.ref 0 false), .slot 1 (.cell (.im (.int .i64))), .slot 6 (.cell (.int .i64))])]), (13, [(.exit 2, [.blk (.arr 3 true (.int .i64)), .blk (.arr 3 true (.int .i64)), .slot 6 (.cell (.int .i64)), .slot 7 (.ref 0 false), .slot 9 (.ref 1 false)])])],
  []⟩
def Nq : FAnn := ⟨226, 0, [.slot 0 (.cell (.im (.int .i64))), .slot 1 (.cell (.im (.int .i64)))], [.blk (.arr 3 true (.int .i64)), .slot 0 (.ref 0 false)],
  [(1, [.slot 0 (.cell (.im (.int .i64))), .slot 1 (.cell (.im (.int .i64)))])],
  [(1, [(.exit 0, [.slot 0 (.cell (.im (.int .i64)))])])],
  []⟩
def MY : FAnn := ⟨227, 0, [.slot 0 (.agg [.bool, .im (.int .i64)]), .slot 1 (.agg [.bool, .im (.int .i64)])], [.slot 0 (.agg [.bool, .im (.int .i64)]), .slot 1 (.agg [.bool, .im (.int .i64)])],
  [],
  [],
  []⟩
def M4 : FAnn := ⟨162, 0, [.slot 0 (.agg [.bool, .im (.int .i64)])], [.slot 0 (.agg [.bool, .im (.int .i64)])],
  [],
  [],
  []⟩
def KQ : FAnn := ⟨164, 0, [.slot 0 (.agg [.bool, .im (.int .i64)]), .slot 1 (.agg [.bool, .im (.int .i64)])], [.slot 0 (.agg [.bool, .im (.int .i64), .bool, .im (.int .i64)])],
  [],
  [],
  []⟩
def MS : FAnn := ⟨116, 0, [.slot 0 (.cell (.int .i64))], [.slot 0 (.agg [.bool, .im (.int .i64)])],
  [(3, [.blk (.box 25 [.bool, .im (.int .i64)]), .blk (.arr 3 true (.int .i64)), .slot 0 (.cell (.int .i64)), .slot 2 (.ref 0 true), .slot 3 (.ref 1 false), .slot 4 (.cell (.int .i64))])],
  [(3, [(.exit 0, [.blk (.box 25 [.bool, .im (.int .i64)]), .blk (.arr 3 true (.int .i64)), .slot 0 (.cell (.int .i64)), .slot 2 (.ref 0 true), .slot 3 (.ref 1 false)])])],
  []⟩
def NG : FAnn := ⟨247, 0, [.slot 0 (.cell (.int .i64)), .slot 1 (.cell (.int .i64))], [.slot 0 (.agg [.bool, .im (.int .i64), .bool, .im (.int .i64)]), .slot 1 (.cell (.bool))],
  [],
  [],
  []⟩
def Hb : FAnn := ⟨165, 1, [.blk (.box 131 [.im (.int .u8), .int .i64, .int .u64]), .slot 0 (.ref 0 true)], [.blk (.box 131 [.im (.int .u8), .int .i64, .int .u64]), .slot 0 (.agg [.bool, .im (.int .i64), .bool, .im (.int .i64)])],
  [],
  [],
  []⟩
def JU : FAnn := ⟨113, 0, [.slot 0 (.agg [.bool, .im (.int .i64), .bool, .im (.int .i64)])], [.slot 0 (.cell (.bool))],
  [],
  [],
  []⟩
def Gg : FAnn := ⟨248, 0, [.slot 0 (.cell (.im (.int .i64))), .slot 1 (.cell (.im (.int .i64)))], [.blk (.arr 3 true (.int .i64)), .slot 0 (.ref 0 false)],
  [(3, [.blk (.arr 3 true (.int .i64)), .slot 1 (.cell (.im (.int .i64))), .slot 5 (.ref 0 false), .slot 18 (.cell (.im (.int .i64))), .slot 19 (.cell (.int .i64)), .slot 20 (.cell (.int .i64))]), (7, [.blk (.arr 3 true (.int .i64)), .slot 1 (.cell (.im (.int .i64))), .slot 5 (.ref 0 false), .slot 6 (.cell (.int .i64)), .slot 7 (.cell (.int .i64)), .slot 8 (.cell (.int .i64)), .slot 9 (.cell (.int .i64)), .slot 18 (.cell (.im (.int .i64))), .slot 19 (.cell (.int .i64)), .slot 20 (.cell (.int .i64))])],
  [(3, [(.exit 0, [.blk (.arr 3 true (.int .i64)), .slot 5 (.ref 0 false)])]), (7, [(.exit 2, [.blk (.arr 3 true (.int .i64)), .slot 1 (.cell (.im (.int .i64))), .slot 5 (.ref 0 false), .slot 18 (.cell (.im (.int .i64))), .slot 19 (.cell (.int .i64)), .slot 20 (.cell (.int .i64))])])],
  [(9, [.blk (.arr 3 true (.int .i64)), .slot 1 (.cell (.im (.int .i64))), .slot 5 (.ref 0 false), .slot 6 (.cell (.int .i64)), .slot 7 (.cell (.int .i64)), .slot 8 (.cell (.int .i64)), .slot 9 (.cell (.int .i64)), .slot 18 (.cell (.im (.int .i64))), .slot 19 (.cell (.int .i64)), .slot 20 (.cell (.int .i64))])]⟩
def MR : FAnn := ⟨168, 0, [.slot 0 (.agg [.bool, .im (.int .i64)]), .slot 1 (.agg [.bool, .im (.int .i64)])], [.slot 0 (.agg [.bool, .im (.int .i64)])],
  [],
  [],
  []⟩
def Ik : FAnn := ⟨169, 0, [.slot 0 (.agg [.bool, .im (.int .i64)]), .slot 1 (.agg [.bool, .im (.int .i64)])], [.slot 0 (.cell (.int .i64))],
  [],
  [],
  []⟩
def NR : FAnn := ⟨134, 0, [.slot 0 (.agg [.bool, .im (.int .i64), .bool, .im (.int .i64)]), .slot 1 (.agg [.bool, .im (.int .i64), .bool, .im (.int .i64)])], [.slot 0 (.cell (.int .i64))],
  [],
  [],
  []⟩
def Gm : FAnn := ⟨156, 1, [.blk (.box 131 [.im (.int .u8), .int .i64, .int .u64]), .slot 0 (.ref 0 true)], [.blk (.box 131 [.im (.int .u8), .int .i64, .int .u64]), .slot 0 (.agg [.bool, .im (.int .i64), .bool, .im (.int .i64), .bool, .im (.int .i64), .bool, .im (.int .i64)])],
  [],
  [],
  []⟩
def Fs : FAnn := ⟨145, 0, [.slot 0 (.cell (.im (.int .u8)))], [.slot 0 (.agg [.bool, .im (.int .i64), .bool, .im (.int .i64), .bool, .im (.int .i64), .bool, .im (.int .i64)]), .slot 1 (.agg [.bool, .im (.int .i64), .bool, .im (.int .i64), .bool, .im (.int .i64), .bool, .im (.int .i64)])],
  [],
  [],
  []⟩
def Fp : FAnn := ⟨29, 0, [.slot 0 (.cell (.im (.int .u8)))], [.slot 0 (.agg [.bool, .im (.int .i64), .bool, .im (.int .i64), .bool, .im (.int .i64), .bool, .im (.int .i64)]), .slot 1 (.agg [.bool, .im (.int .i64), .bool, .im (.int .i64), .bool, .im (.int .i64), .bool, .im (.int .i64)])],
  [],
  [],
  []⟩
def Lk : FAnn := ⟨123, 0, [.slot 0 (.cell (.int .i64)), .slot 1 (.cell (.int .i64)), .slot 2 (.cell (.int .i64))], [.slot 0 (.cell (.bool))],
  [],
  [],
  []⟩
def G9 : FAnn := ⟨222, 0, [.slot 0 (.cell (.int .i64))], [.slot 0 (.cell (.bool))],
  [],
  [],
  []⟩
def Bz : FAnn := ⟨254, 0, [.slot 0 (.cell (.im (.int .i64))), .slot 1 (.clo 222)], [.slot 0 (.cell (.int .i64))],
  [(2, [.slot 0 (.cell (.im (.int .i64))), .slot 1 (.clo 222), .slot 7 (.cell (.int .i64)), .slot 8 (.cell (.int .i64))])],
  [(2, [(.exit 0, []), (.ret, [.slot 4 (.cell (.int .i64))])])],
  []⟩
def Bf : FAnn := ⟨187, 0, [.slot 0 (.cell (.im (.int .i64))), .slot 1 (.clo 222)], [.slot 0 (.cell (.bool))],
  [],
  [],
  []⟩
def J6 : FAnn := ⟨107, 0, [.slot 0 (.agg [.bool, .im (.int .i64)])], [.slot 0 (.cell (.bool))],
  [],
  [],
  []⟩
def HU : FAnn := ⟨231, 0, [.slot 0 (.agg [.bool, .im (.int .i64)])], [.slot 0 (.cell (.bool))],
  [],
  [],
  []⟩
def Bd : FAnn := ⟨281, 0, [.slot 0 (.cell (.im (.pair (.bool) (.sl (.int .i64))))), .slot 1 (.clo 231)], [.slot 0 (.cell (.int .i64))],
  [(2, [.slot 0 (.cell (.im (.pair (.bool) (.sl (.int .i64))))), .slot 1 (.clo 231), .slot 7 (.cell (.int .i64)), .slot 8 (.cell (.int .i64))])],
  [(2, [(.exit 0, []), (.ret, [.slot 4 (.cell (.int .i64))])])],
  []⟩
def AZ : FAnn := ⟨230, 0, [.slot 0 (.cell (.im (.pair (.bool) (.sl (.int .i64))))), .slot 1 (.clo 231)], [.slot 0 (.cell (.bool))],
  [],
  [],
  []⟩
def Ls : FAnn := ⟨124, 0, [.slot 0 (.cell (.im (.pair (.bool) (.sl (.int .i64)))))], [.slot 0 (.cell (.bool))],
  [],
  [],
  []⟩
def It : FAnn := ⟨125, 0, [.slot 0 (.agg [.bool, .im (.int .i64)])], [.slot 0 (.cell (.int .i64))],
  [],
  [],
  []⟩
def Fx : FAnn := ⟨283, 0, [.slot 0 (.cell (.int .i64))], [.slot 0 (.cell (.bool))],
  [],
  [],
  []⟩
def Ej : FAnn := ⟨239, 0, [.slot 0 (.cell (.int .i64)), .slot 1 (.cell (.int .i64))], [.slot 0 (.cell (.int .i64))],
  [],
  [],
  []⟩
def EN : FAnn := ⟨139, 0, [.slot 0 (.cell (.im (.int .i64))), .slot 1 (.cell (.im (.int .i64)))], [.slot 0 (.cell (.int .i64))],
  [(4, [.slot 0 (.cell (.im (.int .i64))), .slot 1 (.cell (.im (.int .i64))), .slot 5 (.cell (.int .i64))])],
  [(4, [(.exit 0, []), (.ret, [.slot 4 (.cell (.int .i64))])])],
  []⟩
def Uz : FAnn := ⟨278, 0, [.slot 0 (.cell (.im (.int .i64)))], [.slot 0 (.cell (.im (.int .i64)))],
  [(2, [.slot 0 (.cell (.im (.int .i64))), .slot 3 (.cell (.int .i64))])],
  [(2, [(.exit 0, [.slot 0 (.cell (.im (.int .i64))), .slot 3 (.cell (.int .i64))])])],
  []⟩
def Ib : FAnn := ⟨296, 0, [.slot 0 (.cell (.im (.int .i64))), .slot 1 (.cell (.int .i64))], [.slot 0 (.cell (.im (.int .i64))), .slot 1 (.cell (.int .i64))],
  [(4, [.blk (.arr 3 true (.int .i64)), .slot 0 (.cell (.im (.int .i64))), .slot 1 (.cell (.int .i64)), .slot 6 (.ref 0 false), .slot 7 (.cell (.int .i64)), .slot 8 (.cell (.int .i64))])],
  [(4, [(.exit 0, [.blk (.arr 3 true (.int .i64)), .slot 6 (.ref 0 false), .slot 7 (.cell (.int .i64))])])],
  []⟩
def A1 : FAnn := ⟨277, 0, [.slot 0 (.cell (.im (.int .i64)))], [.blk (.arr 3 true (.int .i64)), .slot 0 (.ref 0 false)],
  [],
  [],
  []⟩
def NM : FAnn := ⟨223, 0, [.slot 0 (.cell (.bool)), .slot 1 (.cell (.im (.int .i64)))], [.blk (.arr 3 true (.int .i64)), .slot 0 (.agg [.bool, .at 0])],
  [],
  [],
  []⟩
def Np : FAnn := ⟨25, 0, [.slot 0 (.cell (.int .i64))], [.slot 0 (.agg [.bool, .im (.int .i64)])],
  [(6, [.blk (.box 25 [.bool, .im (.int .i64)]), .blk (.arr 3 true (.int .i64)), .slot 2 (.ref 0 true), .slot 3 (.cell (.bool)), .slot 4 (.cell (.int .u64)), .slot 5 (.ref 1 false)])],
  [(6, [(.exit 0, [.blk (.box 25 [.bool, .im (.int .i64)]), .blk (.arr 3 true (.int .i64)), .slot 2 (.ref 0 true), .slot 3 (.cell (.bool)), .slot 5 (.ref 1 false)])])],
  [(5, [.blk (.box 25 [.bool, .im (.int .i64)]), .slot 2 (.ref 0 true), .slot 3 (.cell (.bool)), .slot 4 (.cell (.int .u64))])]⟩
def JQ : FAnn := ⟨224, 0, [.slot 0 (.agg [.bool, .im (.int .i64)]), .slot 1 (.agg [.bool, .im (.int .i64)])], [.blk (.arr 3 true (.int .i64)), .slot 0 (.agg [.bool, .at 0])],
  [(3, [.blk (.box 25 [.bool, .im (.int .i64)]), .blk (.box 25 [.bool, .im (.int .i64)]), .blk (.box 25 [.bool, .im (.int .i64)]), .blk (.arr 3 true (.int .i64)), .slot 2 (.ref 0 true), .slot 3 (.ref 1 true), .slot 4 (.ref 2 true), .slot 5 (.ref 3 false), .slot 20 (.cell (.im (.int .i64))), .slot 21 (.cell (.int .i64)), .slot 22 (.cell (.int .i64))]), (7, [.blk (.box 25 [.bool, .im (.int .i64)]), .blk (.box 25 [.bool, .im (.int .i64)]), .blk (.box 25 [.bool, .im (.int .i64)]), .blk (.arr 3 true (.int .i64)), .slot 2 (.ref 0 true), .slot 3 (.ref 1 true), .slot 4 (.ref 2 true), .slot 5 (.ref 3 false), .slot 6 (.cell (.int .i64)), .slot 7 (.cell (.int .i64)), .slot 8 (.cell (.int .i64)), .slot 20 (.cell (.im (.int .i64))), .slot 21 (.cell (.int .i64)), .slot 22 (.cell (.int .i64)), .slot 28 (.cell (.im (.int .i64))), .slot 29 (.cell (.int .i64)), .slot 30 (.cell (.int .i64))])],
  [(3, [(.exit 0, [.blk (.box 25 [.bool, .im (.int .i64)]), .blk (.box 25 [.bool, .im (.int .i64)]), .blk (.box 25 [.bool, .im (.int .i64)]), .blk (.arr 3 true (.int .i64)), .slot 2 (.ref 0 true), .slot 3 (.ref 1 true), .slot 4 (.ref 2 true), .slot 5 (.ref 3 false)])]), (7, [(.exit 2, [.blk (.box 25 [.bool, .im (.int .i64)]), .blk (.box 25 [.bool, .im (.int .i64)]), .blk (.box 25 [.bool, .im (.int .i64)]), .blk (.arr 3 true (.int .i64)), .slot 2 (.ref 0 true), .slot 3 (.ref 1 true), .slot 4 (.ref 2 true), .slot 5 (.ref 3 false), .slot 6 (.cell (.int .i64)), .slot 8 (.cell (.int .i64)), .slot 20 (.cell (.im (.int .i64))), .slot 21 (.cell (.int .i64)), .slot 22 (.cell (.int .i64))])])],
  []⟩
def HQ : FAnn := ⟨275, 0, [.slot 0 (.cell (.im (.int .i64))), .slot 1 (.cell (.im (.int .i64)))], [.slot 0 (.cell (.im (.int .i64))), .slot 1 (.cell (.im (.int .i64)))],
  [(10, [.blk (.arr 3 true (.int .i64)), .blk (.arr 3 true (.int .i64)), .slot 0 (.cell (.im (.int .i64))), .slot 6 (.cell (.int .i64)), .slot 9 (.cell (.int .i64)), .slot 10 (.ref 0 false), .slot 11 (.ref 1 false)]), (14, [.blk (.arr 3 true (.int .i64)), .blk (.arr 3 true (.int .i64)), .blk (.arr 3 true (.int .i64)), .slot 6 (.cell (.int .i64)), .slot 9 (.cell (.int .i64)), .slot 10 (.ref 0 false), .slot 11 (.ref 1 false), .slot 12 (.ref 2 false), .slot 13 (.cell (.int .i64))]), (18, [.blk (.arr 3 true (.int .i64)), .blk (.arr 3 true (.int .i64)), .blk (.arr 3 true (.int .i64)), .slot 6 (.cell (.int .i64)), .slot 9 (.cell (.int .i64)), .slot 10 (.ref 0 false), .slot 11 (.ref 1 false), .slot 12 (.ref 2 false), .slot 13 (.cell (.int .i64)), .slot 15 (.cell (.int .i64)), .slot 16 (.cell (.int .i64))]), (23, [.blk (.arr 3 true (.int .i64)), .blk (.arr 3 true (.int .i64)), .blk (.arr 3 true (.int .i64)), .slot 6 (.cell (.int .i64)), .slot 9 (.cell (.int .i64)), .slot 10 (.ref 0 false), .slot 11 (.ref 1 false), .slot 12 (.ref 2 false), .slot 13 (.cell (.int .i64)), .slot 15 (.cell (.int .i64)), .slot 17 (.cell (.int .i64)), .slot 153 (.cell (.int .i64)), .slot 154 (.cell (.int .i64))]), (37, [.blk (.arr 3 true (.int .i64)), .blk (.arr 3 true (.int .i64)), .blk (.arr 3 true (.int .i64)), .slot 6 (.cell (.int .i64)), .slot 9 (.cell (.int .i64)), .slot 10 (.ref 0 false), .slot 11 (.ref 1 false), .slot 12 (.ref 2 false), .slot 13 (.cell (.int .i64)), .slot 15 (.cell (.int .i64)), .slot 20 (.cell (.int .i64)), .slot 208 (.cell (.int .i64)), .slot 209 (.cell (.int .i64))])],
  [(10, [(.exit 0, [.blk (.arr 3 true (.int .i64)), .blk (.arr 3 true (.int .i64)), .slot 6 (.cell (.int .i64)), .slot 9 (.cell (.int .i64)), .slot 10 (.ref 0 false), .slot 11 (.ref 1 false)])]), (14, [(.exit 2, [.blk (.arr 3 true (.int .i64)), .blk (.arr 3 true (.int .i64)), .slot 6 (.cell (.int .i64)), .slot 9 (.cell (.int .i64)), .slot 10 (.ref 0 false), .slot 12 (.ref 1 false)])]), (18, [(.exit 4, [.blk (.arr 3 true (.int .i64)), .blk (.arr 3 true (.int .i64)), .blk (.arr 3 true (.int .i64)), .slot 6 (.cell (.int .i64)), .slot 9 (.cell (.int .i64)), .slot 10 (.ref 0 false), .slot 11 (.ref 1 false), .slot 12 (.ref 2 false), .slot 13 (.cell (.int .i64)), .slot 15 (.cell (.int .i64))])]), (23, [(.exit 6, [.blk (.arr 3 true (.int .i64)), .blk (.arr 3 true (.int .i64)), .blk (.arr 3 true (.int .i64)), .slot 6 (.cell (.int .i64)), .slot 9 (.cell (.int .i64)), .slot 10 (.ref 0 false), .slot 11 (.ref 1 false), .slot 12 (.ref 2 false), .slot 13 (.cell (.int .i64)), .slot 15 (.cell (.int .i64)), .slot 17 (.cell (.int .i64))])]), (37, [(.exit 8, [.blk (.arr 3 true (.int .i64)), .blk (.arr 3 true (.int .i64)), .blk (.arr 3 true (.int .i64)), .slot 6 (.cell (.int .i64)), .slot 9 (.cell (.int .i64)), .slot 10 (.ref 0 false), .slot 11 (.ref 1 false), .slot 12 (.ref 2 false), .slot 13 (.cell (.int .i64)), .slot 15 (.cell (.int .i64)), .slot 20 (.cell (.int .i64))])])],
  [(19, [.blk (.arr 3 true (.int .i64)), .blk (.arr 3 true (.int .i64)), .blk (.arr 3 true (.int .i64)), .slot 6 (.cell (.int .i64)), .slot 9 (.cell (.int .i64)), .slot 10 (.ref 0 false), .slot 11 (.ref 1 false), .slot 12 (.ref 2 false), .slot 13 (.cell (.int .i64)), .slot 15 (.cell (.int .i64)), .slot 16 (.cell (.int .i64))]), (30, [.blk (.arr 3 true (.int .i64)), .blk (.arr 3 true (.int .i64)), .blk (.arr 3 true (.int .i64)), .slot 6 (.cell (.int .i64)), .slot 9 (.cell (.int .i64)), .slot 10 (.ref 0 false), .slot 11 (.ref 1 false), .slot 12 (.ref 2 false), .slot 13 (.cell (.int .i64)), .slot 15 (.cell (.int .i64)), .slot 17 (.cell (.int .i64)), .slot 18 (.cell (.int .i64)), .slot 19 (.cell (.int .i64)), .slot 153 (.cell (.int .i64)), .slot 154 (.cell (.int .i64))])]⟩
def I4 : FAnn := ⟨220, 0, [.slot 0 (.agg [.bool, .im (.int .i64)]), .slot 1 (.agg [.bool, .im (.int .i64)])], [.slot 0 (.agg [.bool, .im (.int .i64)])],
  [(2, [.blk (.box 25 [.bool, .im (.int .i64)]), .slot 4 (.ref 0 true), .slot 5 (.cell (.im (.int .i64))), .slot 6 (.cell (.im (.int .i64)))])],
  [(2, [(.exit 0, [.blk (.box 25 [.bool, .im (.int .i64)]), .slot 4 (.ref 0 true), .slot 5 (.cell (.im (.int .i64)))])])],
  []⟩
def GA : FAnn := ⟨219, 0, [.slot 0 (.agg [.bool, .im (.int .i64)]), .slot 1 (.agg [.bool, .im (.int .i64)])], [.slot 0 (.cell (.int .i64))],
  [],
  [],
  []⟩
def J8 : FAnn := ⟨105, 0, [.slot 0 (.agg [.bool, .im (.int .i64), .bool, .im (.int .i64)])], [.slot 0 (.cell (.bool))],
  [],
  [],
  []⟩
def JV : FAnn := ⟨129, 0, [.slot 0 (.cell (.im (.pair (.pair (.bool) (.sl (.int .i64))) (.pair (.bool) (.sl (.int .i64))))))], [.slot 0 (.cell (.bool))],
  [(2, [.slot 5 (.cell (.im (.pair (.pair (.bool) (.sl (.int .i64))) (.pair (.bool) (.sl (.int .i64)))))), .slot 6 (.cell (.int .i64)), .slot 7 (.cell (.int .i64))])],
  [(2, [(.exit 0, []), (.ret, [.slot 2 (.cell (.bool))])])],
  []⟩
def Gt : FAnn := ⟨138, 0, [.slot 0 (.agg [.bool, .im (.int .i64), .bool, .im (.int .i64)]), .slot 1 (.agg [.bool, .im (.int .i64), .bool, .im (.int .i64)])], [.slot 0 (.cell (.int .i64))],
  [],
  [],
  []⟩
def Ic : FAnn := ⟨130, 0, [.slot 0 (.agg [.bool, .im (.int .i64), .bool, .im (.int .i64)]), .slot 1 (.agg [.bool, .im (.int .i64), .bool, .im (.int .i64)])], [.slot 0 (.cell (.bool))],
  [],
  [],
  []⟩
def HR : FAnn := ⟨39, 0, [.slot 0 (.agg [.bool, .im (.int .i64), .bool, .im (.int .i64), .bool, .im (.int .i64), .bool, .im (.int .i64)])], [.slot 0 (.cell (.bool))],
  [],
  [],
  []⟩
def GD : FAnn := ⟨242, 0, [.slot 0 (.agg [.bool, .im (.int .i64), .bool, .im (.int .i64), .bool, .im (.int .i64), .bool, .im (.int .i64)])], [.slot 0 (.cell (.bool))],
  [],
  [],
  []⟩
def A5 : FAnn := ⟨284, 0, [.slot 0 (.cell (.im (.pair (.pair (.pair (.bool) (.sl (.int .i64))) (.pair (.bool) (.sl (.int .i64)))) (.pair (.pair (.bool) (.sl (.int .i64))) (.pair (.bool) (.sl (.int .i64))))))), .slot 1 (.clo 242)], [.slot 0 (.cell (.int .i64))],
  [(2, [.slot 0 (.cell (.im (.pair (.pair (.pair (.bool) (.sl (.int .i64))) (.pair (.bool) (.sl (.int .i64)))) (.pair (.pair (.bool) (.sl (.int .i64))) (.pair (.bool) (.sl (.int .i64))))))), .slot 1 (.clo 242), .slot 7 (.cell (.int .i64)), .slot 8 (.cell (.int .i64))])],
  [(2, [(.exit 0, []), (.ret, [.slot 4 (.cell (.int .i64))])])],
  []⟩
def AU : FAnn := ⟨241, 0, [.slot 0 (.cell (.im (.pair (.pair (.pair (.bool) (.sl (.int .i64))) (.pair (.bool) (.sl (.int .i64)))) (.pair (.pair (.bool) (.sl (.int .i64))) (.pair (.bool) (.sl (.int .i64))))))), .slot 1 (.clo 242)], [.slot 0 (.cell (.bool))],
  [],
  [],
  []⟩
def Id : FAnn := ⟨146, 0, [.slot 0 (.cell (.im (.pair (.pair (.pair (.bool) (.sl (.int .i64))) (.pair (.bool) (.sl (.int .i64)))) (.pair (.pair (.bool) (.sl (.int .i64))) (.pair (.bool) (.sl (.int .i64)))))))], [.slot 0 (.cell (.bool))],
  [],
  [],
  []⟩
def Iv : FAnn := ⟨235, 0, [.slot 0 (.cell (.im (.int .i64))), .slot 1 (.cell (.im (.int .i64)))], [.blk (.arr 3 true (.int .i64)), .slot 0 (.ref 0 false)],
  [(4, [.blk (.arr 3 true (.int .i64)), .slot 0 (.cell (.im (.int .i64))), .slot 1 (.cell (.im (.int .i64))), .slot 5 (.ref 0 false), .slot 6 (.cell (.int .i64)), .slot 7 (.cell (.int .i64))])],
  [(4, [(.exit 0, [.blk (.arr 3 true (.int .i64)), .slot 5 (.ref 0 false)])])],
  [(6, [.blk (.arr 3 true (.int .i64)), .slot 0 (.cell (.im (.int .i64))), .slot 1 (.cell (.im (.int .i64))), .slot 5 (.ref 0 false), .slot 6 (.cell (.int .i64)), .slot 7 (.cell (.int .i64))]), (8, [.blk (.arr 3 true (.int .i64)), .slot 0 (.cell (.im (.int .i64))), .slot 1 (.cell (.im (.int .i64))), .slot 5 (.ref 0 false), .slot 6 (.cell (.int .i64)), .slot 7 (.cell (.int .i64))]), (10, [.blk (.arr 3 true (.int .i64)), .slot 0 (.cell (.im (.int .i64))), .slot 1 (.cell (.im (.int .i64))), .slot 5 (.ref 0 false), .slot 6 (.cell (.int .i64)), .slot 7 (.cell (.int .i64))])]⟩
def HO : FAnn := ⟨236, 0, [.slot 0 (.cell (.im (.int .i64))), .slot 1 (.cell (.im (.int .i64)))], [.slot 0 (.cell (.im (.int .i64)))],
  [(4, [.blk (.arr 3 true (.int .i64)), .slot 1 (.cell (.im (.int .i64))), .slot 5 (.ref 0 false), .slot 6 (.cell (.int .i64)), .slot 11 (.cell (.int .i64)), .slot 12 (.cell (.int .i64))])],
  [(4, [(.exit 0, [.blk (.arr 3 true (.int .i64)), .slot 5 (.ref 0 false)])])],
  [(9, [.blk (.arr 3 true (.int .i64)), .slot 1 (.cell (.im (.int .i64))), .slot 5 (.ref 0 false), .slot 7 (.cell (.int .i64)), .slot 11 (.cell (.int .i64)), .slot 12 (.cell (.int .i64))])]⟩
def JL : FAnn := ⟨132, 0, [.slot 0 (.agg [.bool, .im (.int .i64)]), .slot 1 (.agg [.bool, .im (.int .i64)])], [.slot 0 (.agg [.bool, .im (.int .i64)])],
  [],
  [],
  []⟩
def Jz : FAnn := ⟨233, 0, [.slot 0 (.agg [.bool, .im (.int .i64)])], [.slot 0 (.agg [.bool, .im (.int .i64)])],
  [],
  [],
  []⟩
def Jw : FAnn := ⟨234, 0, [.slot 0 (.agg [.bool, .im (.int .i64)]), .slot 1 (.agg [.bool, .im (.int .i64)])], [.slot 0 (.agg [.bool, .im (.int .i64)]), .slot 1 (.agg [.bool, .im (.int .i64)])],
  [],
  [],
  []⟩
def MM : FAnn := ⟨131, 0, [.slot 0 (.agg [.bool, .im (.int .i64)]), .slot 1 (.agg [.bool, .im (.int .i64)])], [.slot 0 (.agg [.bool, .im (.int .i64), .bool, .im (.int .i64)])],
  [],
  [],
  [(4, [.blk (.box 25 [.bool, .im (.int .i64)]), .blk (.box 25 [.bool, .im (.int .i64)]), .blk (.box 27 [.bool, .im (.int .i64), .bool, .im (.int .i64)]), .blk (.box 25 [.bool, .im (.int .i64)]), .slot 2 (.ref 0 true), .slot 3 (.ref 1 true), .slot 4 (.ref 2 true), .slot 5 (.ref 3 true)])]⟩
def JP : FAnn := ⟨126, 0, [.slot 0 (.agg [.bool, .im (.int .i64), .bool, .im (.int .i64)]), .slot 1 (.agg [.bool, .im (.int .i64), .bool, .im (.int .i64)])], [.slot 0 (.agg [.bool, .im (.int .i64), .bool, .im (.int .i64)])],
  [],
  [],
  []⟩
def Fu : FAnn := ⟨232, 0, [.slot 0 (.agg [.bool, .im (.int .i64), .bool, .im (.int .i64)]), .slot 1 (.cell (.int .i64))], [.slot 0 (.cell (.bool))],
  [],
  [],
  []⟩
def KO : FAnn := ⟨243, 0, [.slot 0 (.agg [.bool, .im (.int .i64), .bool, .im (.int .i64)])], [.slot 0 (.agg [.bool, .im (.int .i64), .bool, .im (.int .i64)])],
  [],
  [],
  []⟩
def Fq : FAnn := ⟨147, 0, [.slot 0 (.agg [.bool, .im (.int .i64), .bool, .im (.int .i64)]), .slot 1 (.agg [.bool, .im (.int .i64), .bool, .im (.int .i64)])], [.slot 0 (.agg [.bool, .im (.int .i64), .bool, .im (.int .i64), .bool, .im (.int .i64), .bool, .im (.int .i64)]), .slot 1 (.cell (.bool))],
  [],
  [],
  []⟩
def Jb : FAnn := ⟨30, 0, [.slot 0 (.agg [.bool, .im (.int .i64), .bool, .im (.int .i64), .bool, .im (.int .i64), .bool, .im (.int .i64)]), .slot 1 (.agg [.bool, .im (.int .i64), .bool, .im (.int .i64), .bool, .im (.int .i64), .bool, .im (.int .i64)])], [.slot 0 (.agg [.bool, .im (.int .i64), .bool, .im (.int .i64), .bool, .im (.int .i64), .bool, .im (.int .i64)]), .slot 1 (.cell (.bool))],
  [],
  [],
  []⟩
def K7 : FAnn := ⟨133, 0, [.slot 0 (.agg [.bool, .im (.int .i64), .bool, .im (.int .i64)]), .slot 1 (.agg [.bool, .im (.int .i64), .bool, .im (.int .i64)])], [.slot 0 (.cell (.bool))],
  [],
  [],
  []⟩
def HT : FAnn := ⟨40, 0, [.slot 0 (.agg [.bool, .im (.int .i64), .bool, .im (.int .i64), .bool, .im (.int .i64), .bool, .im (.int .i64)])], [.slot 0 (.cell (.bool))],
  [],
  [],
  []⟩
def Lt : FAnn := ⟨148, 0, [.slot 0 (.agg [.bool, .im (.int .i64), .bool, .im (.int .i64), .bool, .im (.int .i64), .bool, .im (.int .i64)]), .slot 1 (.agg [.bool, .im (.int .i64), .bool, .im (.int .i64), .bool, .im (.int .i64), .bool, .im (.int .i64)])], [.slot 0 (.cell (.bool))],
  [],
  [],
  []⟩
def Gp : FAnn := ⟨237, 0, [.slot 0 (.cell (.im (.int .i64))), .slot 1 (.cell (.im (.int .i64)))], [.blk (.arr 3 true (.int .i64)), .slot 0 (.ref 0 false)],
  [(4, [.blk (.arr 3 true (.int .i64)), .slot 0 (.cell (.im (.int .i64))), .slot 1 (.cell (.im (.int .i64))), .slot 5 (.ref 0 false), .slot 6 (.cell (.int .i64)), .slot 7 (.cell (.int .i64))])],
  [(4, [(.exit 0, [.blk (.arr 3 true (.int .i64)), .slot 5 (.ref 0 false)])])],
  [(6, [.blk (.arr 3 true (.int .i64)), .slot 0 (.cell (.im (.int .i64))), .slot 1 (.cell (.im (.int .i64))), .slot 5 (.ref 0 false), .slot 6 (.cell (.int .i64)), .slot 7 (.cell (.int .i64))])]⟩
def Gi : FAnn := ⟨238, 0, [.slot 0 (.cell (.im (.int .i64))), .slot 1 (.cell (.im (.int .i64)))], [.blk (.arr 3 true (.int .i64)), .slot 0 (.ref 0 false)],
  [(4, [.blk (.arr 3 true (.int .i64)), .slot 0 (.cell (.im (.int .i64))), .slot 1 (.cell (.im (.int .i64))), .slot 5 (.ref 0 false), .slot 6 (.cell (.int .i64)), .slot 10 (.cell (.int .i64)), .slot 11 (.cell (.int .i64))])],
  [(4, [(.exit 0, [.blk (.arr 3 true (.int .i64)), .slot 5 (.ref 0 false)])])],
  []⟩
def MN : FAnn := ⟨137, 0, [.slot 0 (.agg [.bool, .im (.int .i64)]), .slot 1 (.agg [.bool, .im (.int .i64)])], [.slot 0 (.agg [.bool, .im (.int .i64)])],
  [],
  [],
  []⟩
def NO : FAnn := ⟨135, 0, [.slot 0 (.agg [.bool, .im (.int .i64), .bool, .im (.int .i64)]), .slot 1 (.agg [.bool, .im (.int .i64), .bool, .im (.int .i64)])], [.slot 0 (.agg [.bool, .im (.int .i64), .bool, .im (.int .i64)])],
  [],
  [],
  []⟩
def Lg : FAnn := ⟨136, 0, [.slot 0 (.agg [.bool, .im (.int .i64), .bool, .im (.int .i64)])], [.slot 0 (.agg [.bool, .im (.int .i64), .bool, .im (.int .i64)]), .slot 1 (.cell (.bool))],
  [],
  [],
  []⟩
def Ln : FAnn := ⟨149, 0, [.slot 0 (.agg [.bool, .im (.int .i64), .bool, .im (.int .i64), .bool, .im (.int .i64), .bool, .im (.int .i64)])], [.slot 0 (.agg [.bool, .im (.int .i64), .bool, .im (.int .i64), .bool, .im (.int .i64), .bool, .im (.int .i64)]), .slot 1 (.cell (.bool))],
  [],
  [],
  []⟩
def Jl : FAnn := ⟨31, 0, [.slot 0 (.agg [.bool, .im (.int .i64), .bool, .im (.int .i64), .bool, .im (.int .i64), .bool, .im (.int .i64)]), .slot 1 (.agg [.bool, .im (.int .i64), .bool, .im (.int .i64), .bool, .im (.int .i64), .bool, .im (.int .i64)])], [.slot 0 (.agg [.bool, .im (.int .i64), .bool, .im (.int .i64), .bool, .im (.int .i64), .bool, .im (.int .i64)]), .slot 1 (.cell (.bool))],
  [],
  [],
  []⟩
def JH : FAnn := ⟨159, 0, [.slot 0 (.agg [.bool, .im (.int .i64), .bool, .im (.int .i64)])], [.slot 0 (.agg [.bool, .im (.int .i64), .bool, .im (.int .i64)])],
  [],
  [],
  []⟩
def IP : FAnn := ⟨108, 0, [.slot 0 (.agg [.bool, .im (.int .i64), .bool, .im (.int .i64)]), .slot 1 (.agg [.bool, .im (.int .i64), .bool, .im (.int .i64)])], [.slot 0 (.agg [.bool, .im (.int .i64), .bool, .im (.int .i64)])],
  [],
  [],
  []⟩
def I3 : FAnn := ⟨32, 0, [.slot 0 (.agg [.bool, .im (.int .i64), .bool, .im (.int .i64), .bool, .im (.int .i64), .bool, .im (.int .i64)]), .slot 1 (.agg [.bool, .im (.int .i64), .bool, .im (.int .i64), .bool, .im (.int .i64), .bool, .im (.int .i64)])], [.slot 0 (.agg [.bool, .im (.int .i64), .bool, .im (.int .i64), .bool, .im (.int .i64), .bool, .im (.int .i64)]), .slot 1 (.cell (.bool))],
  [],
  [],
  []⟩
def Nu : FAnn := ⟨163, 0, [.slot 0 (.agg [.bool, .im (.int .i64), .bool, .im (.int .i64)])], [.slot 0 (.agg [.bool, .im (.int .i64), .bool, .im (.int .i64)])],
  [],
  [],
  []⟩
def MT : FAnn := ⟨115, 0, [.slot 0 (.agg [.bool, .im (.int .i64), .bool, .im (.int .i64)]), .slot 1 (.agg [.bool, .im (.int .i64), .bool, .im (.int .i64)])], [.slot 0 (.agg [.bool, .im (.int .i64), .bool, .im (.int .i64)])],
  [],
  [],
  []⟩
def JS : FAnn := ⟨33, 0, [.slot 0 (.agg [.bool, .im (.int .i64), .bool, .im (.int .i64), .bool, .im (.int .i64), .bool, .im (.int .i64)]), .slot 1 (.agg [.bool, .im (.int .i64), .bool, .im (.int .i64), .bool, .im (.int .i64), .bool, .im (.int .i64)])], [.slot 0 (.agg [.bool, .im (.int .i64), .bool, .im (.int .i64), .bool, .im (.int .i64), .bool, .im (.int .i64)]), .slot 1 (.cell (.bool))],
  [],
  [],
  []⟩
def JW : FAnn := ⟨140, 0, [.slot 0 (.agg [.bool, .im (.int .i64), .bool, .im (.int .i64)]), .slot 1 (.agg [.bool, .im (.int .i64), .bool, .im (.int .i64)])], [.slot 0 (.agg [.bool, .im (.int .i64), .bool, .im (.int .i64)])],
  [],
  [],
  []⟩
def Bq : FAnn := ⟨244, 0, [.slot 0 (.cell (.im (.pair (.pair (.bool) (.sl (.int .i64))) (.pair (.bool) (.sl (.int .i64)))))), .slot 1 (.clo 138)], [.slot 0 (.agg [.bool, .im (.int .i64), .bool, .im (.int .i64)])],
  [(5, [.blk (.box 27 [.bool, .im (.int .i64), .bool, .im (.int .i64)]), .blk (.box 27 [.bool, .im (.int .i64), .bool, .im (.int .i64)]), .slot 0 (.cell (.im (.pair (.pair (.bool) (.sl (.int .i64))) (.pair (.bool) (.sl (.int .i64)))))), .slot 1 (.clo 138), .slot 4 (.ref 0 true), .slot 5 (.ref 1 true), .slot 6 (.cell (.int .i64))])],
  [(5, [(.exit 0, [.blk (.box 27 [.bool, .im (.int .i64), .bool, .im (.int .i64)]), .blk (.box 27 [.bool, .im (.int .i64), .bool, .im (.int .i64)]), .slot 4 (.ref 0 true), .slot 5 (.ref 1 true)])])],
  []⟩
def Bs : FAnn := ⟨245, 0, [.slot 0 (.cell (.im (.pair (.pair (.bool) (.sl (.int .i64))) (.pair (.bool) (.sl (.int .i64)))))), .slot 1 (.clo 138)], [.slot 0 (.agg [.bool, .im (.int .i64), .bool, .im (.int .i64)])],
  [(5, [.blk (.box 27 [.bool, .im (.int .i64), .bool, .im (.int .i64)]), .blk (.box 27 [.bool, .im (.int .i64), .bool, .im (.int .i64)]), .slot 0 (.cell (.im (.pair (.pair (.bool) (.sl (.int .i64))) (.pair (.bool) (.sl (.int .i64)))))), .slot 1 (.clo 138), .slot 4 (.ref 0 true), .slot 5 (.ref 1 true), .slot 6 (.cell (.int .i64))])],
  [(5, [(.exit 0, [.blk (.box 27 [.bool, .im (.int .i64), .bool, .im (.int .i64)]), .blk (.box 27 [.bool, .im (.int .i64), .bool, .im (.int .i64)]), .slot 4 (.ref 0 true), .slot 5 (.ref 1 true)])])],
  []⟩
def Lp : FAnn := ⟨150, 0, [.slot 0 (.cell (.im (.pair (.pair (.bool) (.sl (.int .i64))) (.pair (.bool) (.sl (.int .i64))))))], [.slot 0 (.agg [.bool, .im (.int .i64), .bool, .im (.int .i64), .bool, .im (.int .i64), .bool, .im (.int .i64)]), .slot 1 (.cell (.bool))],
  [],
  [],
  []⟩
def Je : FAnn := ⟨34, 0, [.slot 0 (.agg [.bool, .im (.int .i64), .bool, .im (.int .i64), .bool, .im (.int .i64), .bool, .im (.int .i64)]), .slot 1 (.agg [.bool, .im (.int .i64), .bool, .im (.int .i64), .bool, .im (.int .i64), .bool, .im (.int .i64)])], [.slot 0 (.agg [.bool, .im (.int .i64), .bool, .im (.int .i64), .bool, .im (.int .i64), .bool, .im (.int .i64)]), .slot 1 (.cell (.bool))],
  [],
  [],
  []⟩
def NE : FAnn := ⟨152, 0, [.slot 0 (.agg [.bool, .im (.int .i64), .bool, .im (.int .i64)]), .slot 1 (.agg [.bool, .im (.int .i64), .bool, .im (.int .i64)])], [.slot 0 (.agg [.bool, .im (.int .i64), .bool, .im (.int .i64)])],
  [],
  [],
  []⟩
def Q0 : FAnn := ⟨151, 0, [.slot 0 (.cell (.im (.pair (.pair (.bool) (.sl (.int .i64))) (.pair (.bool) (.sl (.int .i64))))))], [.slot 0 (.agg [.bool, .im (.int .i64), .bool, .im (.int .i64), .bool, .im (.int .i64), .bool, .im (.int .i64)])],
  [(3, [.blk (.box 50 [.bool, .im (.int .i64), .bool, .im (.int .i64), .bool, .im (.int .i64), .bool, .im (.int .i64)]), .blk (.box 50 [.bool, .im (.int .i64), .bool, .im (.int .i64), .bool, .im (.int .i64), .bool, .im (.int .i64)]), .slot 2 (.ref 0 true), .slot 3 (.ref 1 true), .slot 13 (.cell (.im (.pair (.pair (.bool) (.sl (.int .i64))) (.pair (.bool) (.sl (.int .i64)))))), .slot 14 (.cell (.int .i64)), .slot 15 (.cell (.int .i64))])],
  [(3, [(.exit 0, [.blk (.box 50 [.bool, .im (.int .i64), .bool, .im (.int .i64), .bool, .im (.int .i64), .bool, .im (.int .i64)]), .blk (.box 50 [.bool, .im (.int .i64), .bool, .im (.int .i64), .bool, .im (.int .i64), .bool, .im (.int .i64)]), .slot 2 (.ref 0 true), .slot 3 (.ref 1 true)])])],
  [(7, [.blk (.box 50 [.bool, .im (.int .i64), .bool, .im (.int .i64), .bool, .im (.int .i64), .bool, .im (.int .i64)]), .blk (.box 50 [.bool, .im (.int .i64), .bool, .im (.int .i64), .bool, .im (.int .i64), .bool, .im (.int .i64)]), .blk (.box 27 [.bool, .im (.int .i64), .bool, .im (.int .i64)]), .slot 2 (.ref 0 true), .slot 3 (.ref 1 true), .slot 5 (.ref 2 true), .slot 13 (.cell (.im (.pair (.pair (.bool) (.sl (.int .i64))) (.pair (.bool) (.sl (.int .i64)))))), .slot 14 (.cell (.int .i64)), .slot 15 (.cell (.int .i64))])]⟩
def Jn : FAnn := ⟨35, 0, [.slot 0 (.agg [.bool, .im (.int .i64), .bool, .im (.int .i64), .bool, .im (.int .i64), .bool, .im (.int .i64)]), .slot 1 (.agg [.bool, .im (.int .i64), .bool, .im (.int .i64), .bool, .im (.int .i64), .bool, .im (.int .i64)])], [.slot 0 (.agg [.bool, .im (.int .i64), .bool, .im (.int .i64), .bool, .im (.int .i64), .bool, .im (.int .i64)]), .slot 1 (.cell (.bool))],
  [],
  [],
  []⟩
def HW : FAnn := ⟨36, 0, [.slot 0 (.agg [.bool, .im (.int .i64), .bool, .im (.int .i64), .bool, .im (.int .i64), .bool, .im (.int .i64)]), .slot 1 (.agg [.bool, .im (.int .i64), .bool, .im (.int .i64), .bool, .im (.int .i64), .bool, .im (.int .i64)])], [.slot 0 (.agg [.bool, .im (.int .i64), .bool, .im (.int .i64), .bool, .im (.int .i64), .bool, .im (.int .i64)]), .slot 1 (.cell (.bool))],
  [],
  [],
  []⟩
def Iy : FAnn := ⟨37, 0, [.slot 0 (.agg [.bool, .im (.int .i64), .bool, .im (.int .i64), .bool, .im (.int .i64), .bool, .im (.int .i64)]), .slot 1 (.agg [.bool, .im (.int .i64), .bool, .im (.int .i64), .bool, .im (.int .i64), .bool, .im (.int .i64)])], [.slot 0 (.agg [.bool, .im (.int .i64), .bool, .im (.int .i64), .bool, .im (.int .i64), .bool, .im (.int .i64)]), .slot 1 (.cell (.bool))],
  [],
  [],
  []⟩
def HS : FAnn := ⟨122, 0, [.slot 0 (.cell (.im (.int .i64))), .slot 1 (.cell (.im (.int .i64)))], [.slot 0 (.cell (.bool))],
  [(4, [.slot 0 (.cell (.im (.int .i64))), .slot 1 (.cell (.im (.int .i64))), .slot 12 (.cell (.int .i64)), .slot 13 (.cell (.int .i64))])],
  [(4, [(.exit 0, []), (.ret, [.slot 4 (.cell (.bool))])])],
  []⟩
def Jy : FAnn := ⟨14, 0, [.slot 0 (.agg [.bool, .im (.int .i64)]), .slot 1 (.agg [.bool, .im (.int .i64)])], [.slot 0 (.cell (.bool))],
  [],
  [],
  []⟩
def JB : FAnn := ⟨16, 0, [.slot 0 (.agg [.bool, .im (.int .i64), .bool, .im (.int .i64)]), .slot 1 (.agg [.bool, .im (.int .i64), .bool, .im (.int .i64)])], [.slot 0 (.cell (.bool))],
  [],
  [],
  []⟩
def Ix : FAnn := ⟨38, 0, [.slot 0 (.agg [.bool, .im (.int .i64), .bool, .im (.int .i64), .bool, .im (.int .i64), .bool, .im (.int .i64)]), .slot 1 (.agg [.bool, .im (.int .i64), .bool, .im (.int .i64), .bool, .im (.int .i64), .bool, .im (.int .i64)])], [.slot 0 (.cell (.bool))],
  [],
  [],
  []⟩
def MK : FAnn := ⟨22, 0, [.slot 0 (.cell (.int .i64)), .slot 1 (.cell (.int .i64))], [.slot 0 (.agg [.bool, .im (.int .i64), .bool, .im (.int .i64)]), .slot 1 (.cell (.bool))],
  [],
  [],
  []⟩
def Ip : FAnn := ⟨154, 0, [.slot 0 (.agg [.bool, .im (.int .i64), .bool, .im (.int .i64), .bool, .im (.int .i64), .bool, .im (.int .i64)]), .slot 1 (.agg [.bool, .im (.int .i64), .bool, .im (.int .i64)])], [.slot 0 (.cell (.bool))],
  [],
  [],
  []⟩
def Lf : FAnn := ⟨62, 0, [.slot 0 (.agg [.bool, .im (.int .i64), .bool, .im (.int .i64), .bool, .im (.int .i64), .bool, .im (.int .i64)]), .slot 1 (.agg [.bool, .im (.int .i64), .bool, .im (.int .i64)])], [.slot 0 (.cell (.bool)), .slot 1 (.cell (.bool))],
  [],
  [],
  []⟩
def Ll : FAnn := ⟨41, 0, [.slot 0 (.agg [.bool, .im (.int .i64), .bool, .im (.int .i64), .bool, .im (.int .i64), .bool, .im (.int .i64)]), .slot 1 (.agg [.bool, .im (.int .i64), .bool, .im (.int .i64)])], [.slot 0 (.cell (.bool))],
  [],
  [],
  []⟩
def F8 : FAnn := ⟨127, 0, [.slot 0 (.agg [.bool, .im (.int .i64), .bool, .im (.int .i64)])], [.slot 0 (.agg [.bool, .im (.int .i64), .bool, .im (.int .i64)]), .slot 1 (.cell (.bool))],
  [],
  [],
  []⟩
def KM : FAnn := ⟨42, 0, [.slot 0 (.agg [.bool, .im (.int .i64), .bool, .im (.int .i64)]), .slot 1 (.agg [.bool, .im (.int .i64), .bool, .im (.int .i64)])], [.slot 0 (.agg [.bool, .im (.int .i64), .bool, .im (.int .i64)]), .slot 1 (.cell (.bool))],
  [],
  [],
  []⟩
def K2 : FAnn := ⟨43, 0, [.slot 0 (.agg [.bool, .im (.int .i64), .bool, .im (.int .i64)]), .slot 1 (.agg [.bool, .im (.int .i64), .bool, .im (.int .i64)])], [.slot 0 (.agg [.bool, .im (.int .i64), .bool, .im (.int .i64)]), .slot 1 (.cell (.bool))],
  [],
  [],
  []⟩
def Le : FAnn := ⟨23, 0, [.slot 0 (.agg [.bool, .im (.int .i64), .bool, .im (.int .i64)]), .slot 1 (.agg [.bool, .im (.int .i64), .bool, .im (.int .i64)])], [.slot 0 (.agg [.bool, .im (.int .i64), .bool, .im (.int .i64)]), .slot 1 (.cell (.bool))],
  [],
  [],
  []⟩
def ES : FAnn := ⟨153, 0, [.slot 0 (.cell (.im (.int .u8)))], [.slot 0 (.agg [.bool, .im (.int .i64), .bool, .im (.int .i64), .bool, .im (.int .i64), .bool, .im (.int .i64)])],
  [],
  [],
  []⟩
def DH : FAnn := ⟨44, 0, [.slot 0 (.cell (.im (.int .u8)))], [.slot 0 (.agg [.bool, .im (.int .i64), .bool, .im (.int .i64), .bool, .im (.int .i64), .bool, .im (.int .i64)])],
  [],
  [],
  []⟩
def Ni : FAnn := ⟨111, 0, [.slot 0 (.cell (.int .i64))], [.slot 0 (.agg [.bool, .im (.int .i64), .bool, .im (.int .i64)])],
  [],
  [],
  []⟩
def F7 : FAnn := ⟨45, 0, [.slot 0 (.agg [.bool, .im (.int .i64), .bool, .im (.int .i64), .bool, .im (.int .i64), .bool, .im (.int .i64)])], [.slot 0 (.agg [.bool, .im (.int .i64), .bool, .im (.int .i64), .bool, .im (.int .i64), .bool, .im (.int .i64)]), .slot 1 (.cell (.bool))],
  [],
  [],
  []⟩
def Nj : FAnn := ⟨119, 0, [.slot 0 (.cell (.int .i64))], [.slot 0 (.agg [.bool, .im (.int .i64), .bool, .im (.int .i64)])],
  [],
  [],
  []⟩
def PW : FAnn := ⟨155, 0, [.slot 0 (.agg [.bool, .im (.int .i64), .bool, .im (.int .i64), .bool, .im (.int .i64), .bool, .im (.int .i64)]), .slot 1 (.agg [.bool, .im (.int .i64), .bool, .im (.int .i64)])], [.slot 0 (.cell (.bool))],
  [],
  [],
  []⟩
def Gz : FAnn := ⟨46, 0, [.slot 0 (.agg [.bool, .im (.int .i64), .bool, .im (.int .i64), .bool, .im (.int .i64), .bool, .im (.int .i64)])], [.slot 0 (.agg [.bool, .im (.int .i64), .bool, .im (.int .i64), .bool, .im (.int .i64), .bool, .im (.int .i64)]), .slot 1 (.cell (.bool))],
  [],
  [],
  [(6, [.blk (.box 50 [.bool, .im (.int .i64), .bool, .im (.int .i64), .bool, .im (.int .i64), .bool, .im (.int .i64)]), .blk (.arr 27 false (.pair (.pair (.bool) (.sl (.int .i64))) (.pair (.bool) (.sl (.int .i64))))), .slot 2 (.ref 0 true), .slot 4 (.ref 1 false)])]⟩
def JK : FAnn := ⟨112, 0, [.slot 0 (.agg [.bool, .im (.int .i64), .bool, .im (.int .i64)]), .slot 1 (.agg [.bool, .im (.int .i64), .bool, .im (.int .i64)])], [.slot 0 (.agg [.bool, .im (.int .i64), .bool, .im (.int .i64)])],
  [],
  [],
  []⟩
def Gy : FAnn := ⟨47, 0, [.slot 0 (.agg [.bool, .im (.int .i64), .bool, .im (.int .i64), .bool, .im (.int .i64), .bool, .im (.int .i64)])], [.slot 0 (.agg [.bool, .im (.int .i64), .bool, .im (.int .i64), .bool, .im (.int .i64), .bool, .im (.int .i64)]), .slot 1 (.cell (.bool))],
  [],
  [],
  []⟩
def MJ : FAnn := ⟨118, 0, [.slot 0 (.agg [.bool, .im (.int .i64), .bool, .im (.int .i64)]), .slot 1 (.agg [.bool, .im (.int .i64), .bool, .im (.int .i64)])], [.slot 0 (.agg [.bool, .im (.int .i64), .bool, .im (.int .i64)])],
  [],
  [],
  []⟩
def GL : FAnn := ⟨48, 0, [.slot 0 (.agg [.bool, .im (.int .i64), .bool, .im (.int .i64), .bool, .im (.int .i64), .bool, .im (.int .i64)])], [.slot 0 (.agg [.bool, .im (.int .i64), .bool, .im (.int .i64), .bool, .im (.int .i64), .bool, .im (.int .i64)]), .slot 1 (.cell (.bool))],
  [],
  [],
  []⟩
def I6 : FAnn := ⟨49, 0, [.slot 0 (.agg [.bool, .im (.int .i64), .bool, .im (.int .i64), .bool, .im (.int .i64), .bool, .im (.int .i64)])], [.slot 0 (.agg [.bool, .im (.int .i64), .bool, .im (.int .i64)]), .slot 1 (.cell (.bool))],
  [],
  [],
  []⟩
def JY : FAnn := ⟨50, 0, [.slot 0 (.agg [.bool, .im (.int .i64), .bool, .im (.int .i64), .bool, .im (.int .i64), .bool, .im (.int .i64)])], [.slot 0 (.agg [.bool, .im (.int .i64), .bool, .im (.int .i64)]), .slot 1 (.cell (.bool))],
  [],
  [],
  []⟩
def Jh : FAnn := ⟨4, 0, [.slot 0 (.cell (.im (.int .u8))), .slot 1 (.cell (.im (.int .u8)))], [.slot 0 (.cell (.bool))],
  [(17, [.blk (.box 50 [.bool, .im (.int .i64), .bool, .im (.int .i64), .bool, .im (.int .i64), .bool, .im (.int .i64)]), .blk (.box 50 [.bool, .im (.int .i64), .bool, .im (.int .i64), .bool, .im (.int .i64), .bool, .im (.int .i64)]), .blk (.box 50 [.bool, .im (.int .i64), .bool, .im (.int .i64), .bool, .im (.int .i64), .bool, .im (.int .i64)]), .blk (.box 50 [.bool, .im (.int .i64), .bool, .im (.int .i64), .bool, .im (.int .i64), .bool, .im (.int .i64)]), .blk (.box 50 [.bool, .im (.int .i64), .bool, .im (.int .i64), .bool, .im (.int .i64), .bool, .im (.int .i64)]), .blk (.box 50 [.bool, .im (.int .i64), .bool, .im (.int .i64), .bool, .im (.int .i64), .bool, .im (.int .i64)]), .blk (.box 27 [.bool, .im (.int .i64), .bool, .im (.int .i64)]), .blk (.arr 27 false (.pair (.pair (.bool) (.sl (.int .i64))) (.pair (.bool) (.sl (.int .i64))))), .slot 1 (.cell (.im (.int .u8))), .slot 5 (.ref 0 true), .slot 6 (.ref 1 true), .slot 7 (.ref 2 true), .slot 11 (.ref 3 true), .slot 15 (.ref 4 true), .slot 19 (.ref 5 true), .slot 23 (.ref 6 true), .slot 177 (.ref 7 false), .slot 178 (.cell (.int .i64)), .slot 179 (.cell (.int .i64))]), (20, [.blk (.box 50 [.bool, .im (.int .i64), .bool, .im (.int .i64), .bool, .im (.int .i64), .bool, .im (.int .i64)]), .blk (.box 50 [.bool, .im (.int .i64), .bool, .im (.int .i64), .bool, .im (.int .i64), .bool, .im (.int .i64)]), .blk (.box 50 [.bool, .im (.int .i64), .bool, .im (.int .i64), .bool, .im (.int .i64), .bool, .im (.int .i64)]), .blk (.box 50 [.bool, .im (.int .i64), .bool, .im (.int .i64), .bool, .im (.int .i64), .bool, .im (.int .i64)]), .blk (.box 50 [.bool, .im (.int .i64), .bool, .im (.int .i64), .bool, .im (.int .i64), .bool, .im (.int .i64)]), .blk (.box 50 [.bool, .im (.int .i64), .bool, .im (.int .i64), .bool, .im (.int .i64), .bool, .im (.int .i64)]), .blk (.box 27 [.bool, .im (.int .i64), .bool, .im (.int .i64)]), .blk (.box 27 [.bool, .im (.int .i64), .bool, .im (.int .i64)]), .blk (.arr 27 false (.pair (.pair (.bool) (.sl (.int .i64))) (.pair (.bool) (.sl (.int .i64))))), .blk (.arr 27 false (.pair (.pair (.bool) (.sl (.int .i64))) (.pair (.bool) (.sl (.int .i64))))), .slot 1 (.cell (.im (.int .u8))), .slot 5 (.ref 0 true), .slot 6 (.ref 1 true), .slot 7 (.ref 2 true), .slot 11 (.ref 3 true), .slot 15 (.ref 4 true), .slot 19 (.ref 5 true), .slot 23 (.ref 6 true), .slot 26 (.ref 7 true), .slot 177 (.ref 8 false), .slot 178 (.cell (.int .i64)), .slot 179 (.cell (.int .i64)), .slot 188 (.ref 9 false), .slot 189 (.cell (.int .i64)), .slot 190 (.cell (.int .i64))])],
  [(17, [(.exit 0, [.slot 1 (.cell (.im (.int .u8)))]), (.ret, [.slot 4 (.cell (.bool))])]), (20, [(.exit 2, [.blk (.box 50 [.bool, .im (.int .i64), .bool, .im (.int .i64), .bool, .im (.int .i64), .bool, .im (.int .i64)]), .blk (.box 50 [.bool, .im (.int .i64), .bool, .im (.int .i64), .bool, .im (.int .i64), .bool, .im (.int .i64)]), .blk (.box 50 [.bool, .im (.int .i64), .bool, .im (.int .i64), .bool, .im (.int .i64), .bool, .im (.int .i64)]), .blk (.box 50 [.bool, .im (.int .i64), .bool, .im (.int .i64), .bool, .im (.int .i64), .bool, .im (.int .i64)]), .blk (.box 50 [.bool, .im (.int .i64), .bool, .im (.int .i64), .bool, .im (.int .i64), .bool, .im (.int .i64)]), .blk (.box 50 [.bool, .im (.int .i64), .bool, .im (.int .i64), .bool, .im (.int .i64), .bool, .im (.int .i64)]), .blk (.box 27 [.bool, .im (.int .i64), .bool, .im (.int .i64)]), .blk (.arr 27 false (.pair (.pair (.bool) (.sl (.int .i64))) (.pair (.bool) (.sl (.int .i64))))), .slot 1 (.cell (.im (.int .u8))), .slot 5 (.ref 0 true), .slot 6 (.ref 1 true), .slot 7 (.ref 2 true), .slot 11 (.ref 3 true), .slot 15 (.ref 4 true), .slot 19 (.ref 5 true), .slot 23 (.ref 6 true), .slot 177 (.ref 7 false), .slot 178 (.cell (.int .i64)), .slot 179 (.cell (.int .i64))]), (.ret, [.slot 4 (.cell (.bool))])])],
  [(30, [.slot 1 (.cell (.im (.int .u8)))]), (43, [.blk (.box 50 [.bool, .im (.int .i64), .bool, .im (.int .i64), .bool, .im (.int .i64), .bool, .im (.int .i64)]), .slot 36 (.ref 0 true), .slot 37 (.cell (.bool))])]⟩
def annTab : List FAnn := [GI, Ge, G7, Fw, Nh, KR, Ha, R0, Jm, NJ, Jp, Re, JC, KU, La, KT, Li, Gx, Nq, MY, M4, KQ, MS, NG, Hb, JU, Gg, MR, Ik, NR, Gm, Fs, Fp, Lk, G9, Bz, Bf, J6, HU, Bd, AZ, Ls, It, Fx, Ej, EN, Uz, Ib, A1, NM, Np, JQ, HQ, I4, GA, J8, JV, Gt, Ic, HR, GD, A5, AU, Id, Iv, HO, JL, Jz, Jw, MM, JP, Fu, KO, Fq, Jb, K7, HT, Lt, Gp, Gi, MN, NO, Lg, Ln, Jl, JH, IP, I3, Nu, MT, JS, JW, Bq, Bs, Lp, Je, NE, Q0, Jn, HW, Iy, HS, Jy, JB, Ix, MK, Ip, Lf, Ll, F8, KM, K2, Le, ES, DH, Ni, F7, Nj, PW, Gz, JK, Gy, MJ, GL, I6, JY, Jh]
def noExt : Rel := fun _ _ _ _ _ => False
def cfC : Cfg := cfOf [A1] fun _ => false
def cloneTab : List (FuncId × TypeId × Nat × Bool) := [(277, 3, Ty.size (.int .i64), true)]
theorem He : CloneOK Tryz.prog (277, 3, Ty.size (.int .i64), true) := ⟨Tryz.f277, 23, 4, tyD23, tyD3, Tryz.func277, by kernel_rfl, by kernel_rfl, rfl, ty23, rfl, ty3, by kernel_rfl, rfl, rfl⟩
theorem Ab8 : ∀ x ∈ cloneTab, CloneOK Tryz.prog x := by
  intro x hx
  simp only [cloneTab, List.mem_cons, List.not_mem_nil, or_false] at hx
  rcases hx with rfl
  exact He
def ext0 : Rel := cloneRel (Runs Tryz.prog cfC noExt) cloneTab
theorem Al1 {J : Tabs} : ∀ g args blks r blks', ext0 g args blks r blks' → CSpec Tryz.prog J g args blks r blks' := Sw (by kernel_rfl) Ab8
def cf0 : Cfg := cfOf annTab fun g => ([277] : List Nat).contains g
abbrev RR : Rel := Runs Tryz.prog cf0 ext0
noncomputable def B6 (a0 : ((List Int) × (Int × Int))) : Option ((List (Int) × Int × Int) × Int) :=
  (bif decide (a0.2.1 < (((List.length a0.1) : Nat) : Int)) then
      ((getI a0.1 a0.2.1)).bind fun x0 =>
      some (Sum.inr ((a0.1, (a0.2.1, a0.2.2)), (Go.IntKind.wrap Go.IntKind.i64 x0)))
    else
    some (Sum.inr ((a0.1, (a0.2.1, a0.2.2)), (0 : Int)))).bind fun x1 =>
  Sum.elim
    (fun x2 =>
    some x2)
    (fun x3 =>
    bif decide ((Go.IntKind.wrap Go.IntKind.i64 (x3.1.2.1 + (1 : Int))) ≤ (((List.length x3.1.1) : Nat) : Int)) then
      some ((x3.1.1, ((Go.IntKind.wrap Go.IntKind.i64 (x3.1.2.1 + (1 : Int))), (Go.IntKind.wrap Go.IntKind.u64 ((Go.IntKind.wrap Go.IntKind.u64 ((Go.IntKind.wrap Go.IntKind.u64 (x3.1.2.2 * (6364136223846793005 : Int))) + (Go.IntKind.wrap Go.IntKind.u64 x3.2))) + (1442695040888963407 : Int))))), x3.2)
    else
    some ((x3.1.1, ((Go.IntKind.wrap Go.IntKind.i64 (x3.1.2.1 + (1 : Int))), (Go.IntKind.wrap Go.IntKind.u64 ((Go.IntKind.wrap Go.IntKind.u64 ((Go.IntKind.wrap Go.IntKind.u64 (x3.1.2.2 * (6364136223846793005 : Int))) + (Go.IntKind.wrap Go.IntKind.u64 x3.2))) + (1442695040888963407 : Int))))), (Go.IntKind.wrap Go.IntKind.i64 (andI Go.IntKind.u64 (shrI Go.IntKind.u64 (Go.IntKind.wrap Go.IntKind.u64 ((Go.IntKind.wrap Go.IntKind.u64 ((Go.IntKind.wrap Go.IntKind.u64 (x3.1.2.2 * (6364136223846793005 : Int))) + (Go.IntKind.wrap Go.IntKind.u64 x3.2))) + (1442695040888963407 : Int))) (40 : Int)) (255 : Int)))))
    x1
noncomputable def J3 : Ent := ⟨GI, fun x => B6 x⟩
noncomputable def JN : TX := ⟨tyTab, codTab, [], [4], [], GI⟩
set_option maxHeartbeats 2000000 in
theorem RX (a0 : (List (Int) × Int × Int)) : wtF JN Tryz.f240 (a0) = B6 a0 := by kernel_rfl
theorem Ps : EntOK RR J3 := Ab (X := JN) ⟨tyOK, boolOK, eqOK⟩ (Ad (by exact trivial)) (Ae (by kernel_rfl)) ⟨Tryz.func240, rfl, by kernel_rfl, rfl⟩ (fun x => by exact RX x)
noncomputable def AT (a0 : ((List Int) × (Int × Int))) (a1 : Int) : Option ((List (Int) × Int × Int) × Int) :=
  bif decide (a1 ≤ (1 : Int)) then
    some ((a0.1, (a0.2.1, a0.2.2)), (0 : Int))
  else
  ((B6 (a0.1, (a0.2.1, a0.2.2)))).bind fun x0 =>
  bif decide (a1 > (200 : Int)) then
    ((B6 (x0.1.1, (x0.1.2.1, x0.1.2.2)))).bind fun x1 =>
    bif (a1 == (0 : Int)) then
      none
    else
    some ((x1.1.1, (x1.1.2.1, x1.1.2.2)), (Int.tmod (Go.IntKind.wrap Go.IntKind.i64 ((Go.IntKind.wrap Go.IntKind.i64 (x0.2 * (256 : Int))) + x1.2)) a1))
  else
  bif (a1 == (0 : Int)) then
    none
  else
  some ((x0.1.1, (x0.1.2.1, x0.1.2.2)), (Int.tmod x0.2 a1))
noncomputable def C1 : Ent := ⟨Ge, fun x => AT x.1 x.2⟩
noncomputable def JF : TX := ⟨tyTab, codTab, [], [4], [J3], Ge⟩
set_option maxHeartbeats 2000000 in
theorem Rl (a0 : (List (Int) × Int × Int)) (a1 : Int) : wtF JF Tryz.f141 (a0, a1) = AT a0 a1 := by kernel_rfl
theorem DD : EntOK RR C1 := Ab (X := JF) ⟨tyOK, boolOK, eqOK⟩ (Ad (by exact ⟨⟨Ps, rfl⟩, trivial⟩)) (Ae (by kernel_rfl)) ⟨Tryz.func141, rfl, by kernel_rfl, rfl⟩ (fun x => by exact Rl x.1 x.2)
noncomputable def AW (a0 : ((List Int) × (Int × Int))) (a1 : Int) : Option ((List (Int) × Int × Int) × Bool) :=
  ((AT (a0.1, (a0.2.1, a0.2.2)) a1)).bind fun x0 =>
  some ((x0.1.1, (x0.1.2.1, x0.1.2.2)), (x0.2 == (0 : Int)))
noncomputable def EZ : Ent := ⟨G7, fun x => AW x.1 x.2⟩
noncomputable def KL : TX := ⟨tyTab, codTab, [], [4], [C1], G7⟩
set_option maxHeartbeats 2000000 in
theorem Sc (a0 : (List (Int) × Int × Int)) (a1 : Int) : wtF KL Tryz.f142 (a0, a1) = AW a0 a1 := by kernel_rfl
theorem GK : EntOK RR EZ := Ab (X := KL) ⟨tyOK, boolOK, eqOK⟩ (Ad (by exact ⟨⟨DD, rfl⟩, trivial⟩)) (Ae (by kernel_rfl)) ⟨Tryz.func142, rfl, by kernel_rfl, rfl⟩ (fun x => by exact Sc x.1 x.2)
noncomputable def Ba (a0 : ((List Int) × (Int × Int))) (a1 : (List Int)) : Option ((List (Int) × Int × Int) × Int) :=
  ((AT (a0.1, (a0.2.1, a0.2.2)) (((List.length a1) : Nat) : Int))).bind fun x0 =>
  ((getI a1 x0.2)).bind fun x1 =>
  some ((x0.1.1, (x0.1.2.1, x0.1.2.2)), x1)
noncomputable def II : Ent := ⟨Fw, fun x => Ba x.1 x.2⟩
noncomputable def ID : TX := ⟨tyTab, codTab, [], [4], [C1], Fw⟩
set_option maxHeartbeats 2000000 in
theorem Pp (a0 : (List (Int) × Int × Int)) (a1 : List (Int)) : wtF ID Tryz.f157 (a0, a1) = Ba a0 a1 := by kernel_rfl
theorem Nm : EntOK RR II := Ab (X := ID) ⟨tyOK, boolOK, eqOK⟩ (Ad (by exact ⟨⟨DD, rfl⟩, trivial⟩)) (Ae (by kernel_rfl)) ⟨Tryz.func157, rfl, by kernel_rfl, rfl⟩ (fun x => by exact Pp x.1 x.2)
noncomputable def GU (s0 : (List Int)) : Option ((List Int) ⊕ (List Int)) :=
  bif decide ((((List.length s0) : Nat) : Int) > (0 : Int)) then
    ((getI s0 (Go.IntKind.wrap Go.IntKind.i64 ((((List.length s0) : Nat) : Int) - (1 : Int))))).bind fun x0 =>
    bif (x0 == (0 : Int)) then
      ((subI (0 : Int) (Go.IntKind.wrap Go.IntKind.i64 ((((List.length s0) : Nat) : Int) - (1 : Int))) (List.length s0))).bind fun x1 =>
      some (Sum.inl (List.drop x1.1 (List.take x1.2 s0)))
    else
    some (Sum.inr s0)
  else
  some (Sum.inr s0)
noncomputable def Bl (a0 : (List Int)) : Option (List (Int)) :=
  (loopM (fun (s : (List Int)) => GU s) a0).bind fun x0 =>
  bif (roomI (List.length x0) 8 1) then
    some x0
  else
  none
noncomputable def D4 : Ent := ⟨Nh, fun x => Bl x⟩
noncomputable def Tg : TX := ⟨tyTab, codTab, [], [4], [], Nh⟩
set_option maxHeartbeats 2000000 in
theorem Aa7 (a0 : List (Int)) : wtF Tg Tryz.f280 (a0) = Bl a0 := by kernel_rfl
theorem DN : EntOK RR D4 := Ab (X := Tg) ⟨tyOK, boolOK, eqOK⟩ (Ad (by exact trivial)) (Ae (by kernel_rfl)) ⟨Tryz.func280, rfl, by kernel_rfl, rfl⟩ (fun x => by exact Aa7 x)
noncomputable def AH (a0 : Bool) (a1 : (List Int)) : Option (List (Int) × (Bool)) :=
  ((Bl a1)).bind fun x0 =>
  bif a0 then
    some (x0, decide ((((List.length x0) : Nat) : Int) > (0 : Int)))
  else
  some (x0, false)
noncomputable def Cu : Ent := ⟨KR, fun x => AH x.1 x.2⟩
noncomputable def QL : TX := ⟨tyTab, codTab, [], [4], [D4], KR⟩
set_option maxHeartbeats 2000000 in
theorem Yd (a0 : Bool) (a1 : List (Int)) : wtF QL Tryz.f229 (a0, a1) = AH a0 a1 := by kernel_rfl
theorem Co : EntOK RR Cu := Ab (X := QL) ⟨tyOK, boolOK, eqOK⟩ (Ad (by exact ⟨⟨DN, rfl⟩, trivial⟩)) (Ae (by kernel_rfl)) ⟨Tryz.func229, rfl, by kernel_rfl, rfl⟩ (fun x => by exact Yd x.1 x.2)
noncomputable def CD (s0 : ((List Int) × (Int × Int))) (s1 : (Bool × (List Int))) (s2 : (List Int)) (s3 : Int) : Option ((((List Int) × (Int × Int)) × ((Bool × (List Int)) × ((List Int) × Int))) ⊕ (((List Int) × (Int × Int)) × ((Bool × (List Int)) × (List Int)))) :=
  bif decide (s3 > (0 : Int)) then
    ((AT (s0.1, (s0.2.1, s0.2.2)) (256 : Int))).bind fun x0 =>
    ((AT (x0.1.1, (x0.1.2.1, x0.1.2.2)) (256 : Int))).bind fun x1 =>
    ((Ba (x1.1.1, (x1.1.2.1, x1.1.2.2)) (List.cons (0 : Int) (List.cons (1 : Int) (List.cons (65535 : Int) (List.cons (32768 : Int) (List.cons (Go.IntKind.wrap Go.IntKind.i64 ((Go.IntKind.wrap Go.IntKind.i64 ((256 : Int) * x0.2)) + x1.2)) (List.cons (7 : Int) (List.nil : List Int))))))))).bind fun x2 =>
    ((appL 8 1 s2 (List.cons x2.2 (List.nil : List Int)))).bind fun x3 =>
    some (Sum.inl ((x2.1.1, (x2.1.2.1, x2.1.2.2)), ((s1.1, s1.2), (x3, (Go.IntKind.wrap Go.IntKind.i64 (s3 - (1 : Int)))))))
  else
  some (Sum.inr ((s0.1, (s0.2.1, s0.2.2)), ((s1.1, s1.2), s2)))
noncomputable def CE (a0 : ((List Int) × (Int × Int))) : Option ((List (Int) × Int × Int) × (Bool × List (Int))) :=
  ((AT (a0.1, (a0.2.1, a0.2.2)) (6 : Int))).bind fun x0 =>
  (((AW (x0.1.1, (x0.1.2.1, x0.1.2.2)) (12 : Int))).bind fun x1 =>
    bif x1.2 then
      ((Ba (x1.1.1, (x1.1.2.1, x1.1.2.2)) (List.cons (20 : Int) (List.cons (39 : Int) (List.cons (40 : Int) (List.cons (41 : Int) (List.nil : List Int))))))).bind fun x2 =>
      some (Sum.inr ((x2.1.1, (x2.1.2.1, x2.1.2.2)), ((false, (List.nil : List Int)), x2.2)))
    else
    some (Sum.inr ((x1.1.1, (x1.1.2.1, x1.1.2.2)), ((false, (List.nil : List Int)), x0.2)))).bind fun x3 =>
  Sum.elim
    (fun x4 =>
    some x4)
    (fun x5 =>
    (loopM (fun (s : (((List Int) × (Int × Int)) × ((Bool × (List Int)) × ((List Int) × Int)))) => CD s.1 s.2.1 s.2.2.1 s.2.2.2) ((x5.1.1, (x5.1.2.1, x5.1.2.2)), ((x5.2.1.1, x5.2.1.2), ((List.nil : List Int), x5.2.2)))).bind fun x6 =>
    ((AW (x6.1.1, (x6.1.2.1, x6.1.2.2)) (3 : Int))).bind fun x7 =>
    ((AH x7.2 x6.2.2)).bind fun x8 =>
    ((AW (x7.1.1, (x7.1.2.1, x7.1.2.2)) (40 : Int))).bind fun x9 =>
    bif x9.2 then
      ((Ba (x9.1.1, (x9.1.2.1, x9.1.2.2)) (List.cons (0 : Int) (List.cons (-(1 : Int)) (List.cons (65536 : Int) (List.nil : List Int)))))).bind fun x10 =>
      ((appL 8 1 x8.1 (List.cons x10.2 (List.nil : List Int)))).bind fun x11 =>
      some ((x10.1.1, (x10.1.2.1, x10.1.2.2)), (x8.2, x11))
    else
    some ((x9.1.1, (x9.1.2.1, x9.1.2.2)), (x8.2, x8.1)))
    x3
noncomputable def KB : Ent := ⟨Ha, fun x => CE x⟩
noncomputable def KH : TX := ⟨tyTab, codTab, [], [4], [C1, EZ, II, Cu], Ha⟩
set_option maxHeartbeats 2000000 in
theorem Sn (a0 : (List (Int) × Int × Int)) : wtF KH Tryz.f246 (a0) = CE a0 := by kernel_rfl
theorem PX : EntOK RR KB := Ab (X := KH) ⟨tyOK, boolOK, eqOK⟩ (Ad (by exact ⟨⟨DD, rfl⟩, ⟨⟨GK, rfl⟩, ⟨⟨Nm, rfl⟩, ⟨⟨Co, rfl⟩, trivial⟩⟩⟩⟩)) (Ae (by kernel_rfl)) ⟨Tryz.func246, rfl, by kernel_rfl, rfl⟩ (fun x => by exact Sn x)
noncomputable def F6 (a0 : Int) (a1 : Int) (a2 : Int) : Option (Bool) :=
  bif decide (a0 ≥ a1) then
    some (decide (a0 ≤ a2))
  else
  some false
noncomputable def Q3 : Ent := ⟨R0, fun x => F6 x.1 x.2.1 x.2.2⟩
noncomputable def VG : TX := ⟨tyTab, codTab, [], [4], [], R0⟩
set_option maxHeartbeats 2000000 in
theorem Ak0 (a0 : Int) (a1 : Int) (a2 : Int) : wtF VG Tryz.f144 (a0, a1, a2) = F6 a0 a1 a2 := by kernel_rfl
theorem TF : EntOK RR Q3 := Ab (X := VG) ⟨tyOK, boolOK, eqOK⟩ (Ad (by exact trivial)) (Ae (by kernel_rfl)) ⟨Tryz.func144, rfl, by kernel_rfl, rfl⟩ (fun x => by exact Ak0 x.1 x.2.1 x.2.2)
noncomputable def Dx (s0 : (Bool × (List Int))) (s1 : (List Int)) (s2 : Int) (s3 : Int) : Option (((Bool × (List Int)) × ((List Int) × (Int × Int))) ⊕ ((Bool × (List Int)) ⊕ Bool)) :=
  bif decide (s3 < s2) then
    ((getI s1 s3)).bind fun x0 =>
    ((F6 x0 (0 : Int) (65535 : Int))).bind fun x1 =>
    bif (!x1) then
      some (Sum.inr (Sum.inr false))
    else
    some (Sum.inl ((s0.1, s0.2), (s1, (s2, (Go.IntKind.wrap Go.IntKind.i64 (s3 + (1 : Int)))))))
  else
  some (Sum.inr (Sum.inl (s0.1, s0.2)))
noncomputable def Cm (a0 : (Bool × (List Int))) : Option (Bool) :=
  (loopM (fun (s : ((Bool × (List Int)) × ((List Int) × (Int × Int)))) => Dx s.1 s.2.1 s.2.2.1 s.2.2.2) ((a0.1, a0.2), (a0.2, ((((List.length a0.2) : Nat) : Int), (0 : Int))))).bind fun x0 =>
  Sum.elim
    (fun x1 =>
    bif ((((List.length x1.2) : Nat) : Int) == (0 : Int)) then
      some (!x1.1)
    else
    bif decide ((((List.length x1.2) : Nat) : Int) ≤ (40 : Int)) then
      ((getI x1.2 (Go.IntKind.wrap Go.IntKind.i64 ((((List.length x1.2) : Nat) : Int) - (1 : Int))))).bind fun x2 =>
      some (x2 != (0 : Int))
    else
    some false)
    (fun x3 =>
    some x3)
    x0
noncomputable def I9 : Ent := ⟨Jm, fun x => Cm x⟩
noncomputable def OY : TX := ⟨tyTab, codTab, [], [4], [Q3], Jm⟩
set_option maxHeartbeats 2000000 in
theorem Wq (a0 : (Bool × List (Int))) : wtF OY Tryz.f143 (a0) = Cm a0 := by kernel_rfl
theorem Mw : EntOK RR I9 := Ab (X := OY) ⟨tyOK, boolOK, eqOK⟩ (Ad (by exact ⟨⟨TF, rfl⟩, trivial⟩)) (Ae (by kernel_rfl)) ⟨Tryz.func143, rfl, by kernel_rfl, rfl⟩ (fun x => by exact Wq x)
noncomputable def BT (s0 : (List Int)) (s1 : (List Int)) (s2 : Int) : Option (((List Int) × ((List Int) × Int)) ⊕ (Unit ⊕ Int)) :=
  bif decide (s2 ≥ (0 : Int)) then
    ((getI s0 s2)).bind fun x0 =>
    ((getI s1 s2)).bind fun x1 =>
    bif decide (x0 < x1) then
      some (Sum.inr (Sum.inr (-(1 : Int))))
    else
    ((getI s0 s2)).bind fun x2 =>
    ((getI s1 s2)).bind fun x3 =>
    bif decide (x2 > x3) then
      some (Sum.inr (Sum.inr (1 : Int)))
    else
    some (Sum.inl (s0, (s1, (Go.IntKind.wrap Go.IntKind.i64 (s2 - (1 : Int))))))
  else
  some (Sum.inr (Sum.inl ()))
noncomputable def Bj (a0 : (List Int)) (a1 : (List Int)) : Option (Int) :=
  bif ((((List.length a0) : Nat) : Int) != (((List.length a1) : Nat) : Int)) then
    bif decide ((((List.length a0) : Nat) : Int) < (((List.length a1) : Nat) : Int)) then
      some (-(1 : Int))
    else
    some (1 : Int)
  else
  (loopM (fun (s : ((List Int) × ((List Int) × Int))) => BT s.1 s.2.1 s.2.2) (a0, (a1, (Go.IntKind.wrap Go.IntKind.i64 ((((List.length a0) : Nat) : Int) - (1 : Int)))))).bind fun x0 =>
  Sum.elim
    (fun x1 =>
    some (0 : Int))
    (fun x2 =>
    some x2)
    x0
noncomputable def Hm : Ent := ⟨NJ, fun x => Bj x.1 x.2⟩
noncomputable def TG : TX := ⟨tyTab, codTab, [], [4], [], NJ⟩
set_option maxHeartbeats 2000000 in
theorem Ad2 (a0 : List (Int)) (a1 : List (Int)) : wtF TG Tryz.f225 (a0, a1) = Bj a0 a1 := by kernel_rfl
theorem H4 : EntOK RR Hm := Ab (X := TG) ⟨tyOK, boolOK, eqOK⟩ (Ad (by exact trivial)) (Ae (by kernel_rfl)) ⟨Tryz.func225, rfl, by kernel_rfl, rfl⟩ (fun x => by exact Ad2 x.1 x.2)
noncomputable def Dt (s0 : (List Int)) (s1 : (List Int)) (s2 : Int) (s3 : Int) (s4 : Int) : Option (((List Int) × ((List Int) × (Int × (Int × Int)))) ⊕ ((List Int) × Int)) :=
  bif decide (s4 ≥ (0 : Int)) then
    ((getI s1 s4)).bind fun x0 =>
    bif (s2 == (0 : Int)) then
      none
    else
    ((idxI s4 (List.length s0))).bind fun x1 =>
    ((getN s0 x1)).bind fun x2 =>
    bif (s2 == (0 : Int)) then
      none
    else
    some (Sum.inl ((List.set s0 x1 (Go.IntKind.wrap Go.IntKind.i64 (Int.tdiv (Go.IntKind.wrap Go.IntKind.i64 ((Go.IntKind.wrap Go.IntKind.i64 (s3 * (65536 : Int))) + x0)) s2))), (s1, (s2, ((Int.tmod (Go.IntKind.wrap Go.IntKind.i64 ((Go.IntKind.wrap Go.IntKind.i64 (s3 * (65536 : Int))) + x0)) s2), (Go.IntKind.wrap Go.IntKind.i64 (s4 - (1 : Int))))))))
  else
  some (Sum.inr (s0, s3))
noncomputable def Fm (a0 : (List Int)) (a1 : Int) : Option (List (Int) × List (Int)) :=
  ((lenI (((List.length a0) : Nat) : Int) 8 1)).bind fun x0 =>
  (loopM (fun (s : ((List Int) × ((List Int) × (Int × (Int × Int))))) => Dt s.1 s.2.1 s.2.2.1 s.2.2.2.1 s.2.2.2.2) ((List.replicate x0 (0 : Int)), (a0, (a1, ((0 : Int), (Go.IntKind.wrap Go.IntKind.i64 ((((List.length a0) : Nat) : Int) - (1 : Int)))))))).bind fun x1 =>
  ((Bl x1.1)).bind fun x2 =>
  ((Bl (List.cons x1.2 (List.nil : List Int)))).bind fun x3 =>
  some (x2, x3)
noncomputable def O9 : Ent := ⟨Jp, fun x => Fm x.1 x.2⟩
noncomputable def Oo : TX := ⟨tyTab, codTab, [], [4], [D4], Jp⟩
set_option maxHeartbeats 2000000 in
theorem W0 (a0 : List (Int)) (a1 : Int) : wtF Oo Tryz.f297 (a0, a1) = Fm a0 a1 := by kernel_rfl
theorem UM : EntOK RR O9 := Ab (X := Oo) ⟨tyOK, boolOK, eqOK⟩ (Ad (by exact ⟨⟨DN, rfl⟩, trivial⟩)) (Ae (by kernel_rfl)) ⟨Tryz.func297, rfl, by kernel_rfl, rfl⟩ (fun x => by exact W0 x.1 x.2)
noncomputable def HY (s0 : (List Int)) (s1 : Int) (s2 : (List Int)) (s3 : Int) (s4 : Int) : Option (((List Int) × (Int × ((List Int) × (Int × Int)))) ⊕ (List Int)) :=
  bif decide (s4 < s3) then
    ((getI s2 s4)).bind fun x0 =>
    bif decide ((Go.IntKind.wrap Go.IntKind.u64 s1) < (0 : Int)) then
      none
    else
    ((idxI s4 (List.length s0))).bind fun x1 =>
    ((getN s0 x1)).bind fun x2 =>
    ((idxI s4 (List.length s0))).bind fun x3 =>
    ((getN s0 x3)).bind fun x4 =>
    ((idxI (Go.IntKind.wrap Go.IntKind.i64 (s4 + (1 : Int))) (List.length (List.set s0 x3 (orI Go.IntKind.i64 x2 (Int.tmod (shlI Go.IntKind.i64 x0 (Go.IntKind.wrap Go.IntKind.u64 s1)) (65536 : Int))))))).bind fun x5 =>
    ((getN (List.set s0 x3 (orI Go.IntKind.i64 x2 (Int.tmod (shlI Go.IntKind.i64 x0 (Go.IntKind.wrap Go.IntKind.u64 s1)) (65536 : Int)))) x5)).bind fun x6 =>
    some (Sum.inl ((List.set (List.set s0 x3 (orI Go.IntKind.i64 x2 (Int.tmod (shlI Go.IntKind.i64 x0 (Go.IntKind.wrap Go.IntKind.u64 s1)) (65536 : Int)))) x5 (Go.IntKind.wrap Go.IntKind.i64 (Int.tdiv (shlI Go.IntKind.i64 x0 (Go.IntKind.wrap Go.IntKind.u64 s1)) (65536 : Int)))), (s1, (s2, (s3, (Go.IntKind.wrap Go.IntKind.i64 (s4 + (1 : Int))))))))
  else
  some (Sum.inr s0)
noncomputable def Hn (a0 : (List Int)) (a1 : Int) : Option (List (Int)) :=
  ((lenI (Go.IntKind.wrap Go.IntKind.i64 ((((List.length a0) : Nat) : Int) + (1 : Int))) 8 1)).bind fun x0 =>
  (loopM (fun (s : ((List Int) × (Int × ((List Int) × (Int × Int))))) => HY s.1 s.2.1 s.2.2.1 s.2.2.2.1 s.2.2.2.2) ((List.replicate x0 (0 : Int)), (a1, (a0, ((((List.length a0) : Nat) : Int), (0 : Int)))))).bind fun x1 =>
  some x1
noncomputable def Wx : Ent := ⟨Re, fun x => Hn x.1 x.2⟩
noncomputable def Vw : TX := ⟨tyTab, codTab, [], [4], [], Re⟩
set_option maxHeartbeats 2000000 in
theorem Ai5 (a0 : List (Int)) (a1 : Int) : wtF Vw Tryz.f298 (a0, a1) = Hn a0 a1 := by kernel_rfl
theorem ZA : EntOK RR Wx := Ab (X := Vw) ⟨tyOK, boolOK, eqOK⟩ (Ad (by exact trivial)) (Ae (by kernel_rfl)) ⟨Tryz.func298, rfl, by kernel_rfl, rfl⟩ (fun x => by exact Ai5 x.1 x.2)
noncomputable def CF (s0 : (List Int)) (s1 : (List Int)) (s2 : Int) (s3 : Int) (s4 : Int) (s5 : Int) : Option (((List Int) × ((List Int) × (Int × (Int × (Int × Int))))) ⊕ Int) :=
  (bif decide (s5 < (65536 : Int)) then
      bif decide (s4 ≥ (65536 : Int)) then
        some (Sum.inr (s0, (s1, (s2, (s3, (s4, s5))))))
      else
      ((getI s1 (Go.IntKind.wrap Go.IntKind.i64 (s3 - (2 : Int))))).bind fun x0 =>
      ((getI s0 (Go.IntKind.wrap Go.IntKind.i64 ((Go.IntKind.wrap Go.IntKind.i64 (s2 + s3)) - (2 : Int))))).bind fun x1 =>
      bif decide ((Go.IntKind.wrap Go.IntKind.i64 (s4 * x0)) > (Go.IntKind.wrap Go.IntKind.i64 ((Go.IntKind.wrap Go.IntKind.i64 (s5 * (65536 : Int))) + x1))) then
        some (Sum.inr (s0, (s1, (s2, (s3, (s4, s5))))))
      else
      some (Sum.inl (Sum.inr s4))
    else
    some (Sum.inl (Sum.inr s4))).bind fun x2 =>
  Sum.elim
    (fun x3 =>
    some x3)
    (fun x4 =>
    ((getI x4.2.1 (Go.IntKind.wrap Go.IntKind.i64 (x4.2.2.2.1 - (1 : Int))))).bind fun x5 =>
    some (Sum.inl (x4.1, (x4.2.1, (x4.2.2.1, (x4.2.2.2.1, ((Go.IntKind.wrap Go.IntKind.i64 (x4.2.2.2.2.1 - (1 : Int))), (Go.IntKind.wrap Go.IntKind.i64 (x4.2.2.2.2.2 + x5)))))))))
    x2
noncomputable def Fl (a0 : (List Int)) (a1 : (List Int)) (a2 : Int) : Option (Int) :=
  ((getI a0 (Go.IntKind.wrap Go.IntKind.i64 (a2 + (((List.length a1) : Nat) : Int))))).bind fun x0 =>
  ((getI a0 (Go.IntKind.wrap Go.IntKind.i64 ((Go.IntKind.wrap Go.IntKind.i64 (a2 + (((List.length a1) : Nat) : Int))) - (1 : Int))))).bind fun x1 =>
  ((getI a1 (Go.IntKind.wrap Go.IntKind.i64 ((((List.length a1) : Nat) : Int) - (1 : Int))))).bind fun x2 =>
  bif (x2 == (0 : Int)) then
    none
  else
  ((getI a1 (Go.IntKind.wrap Go.IntKind.i64 ((((List.length a1) : Nat) : Int) - (1 : Int))))).bind fun x3 =>
  bif (x3 == (0 : Int)) then
    none
  else
  (loopM (fun (s : ((List Int) × ((List Int) × (Int × (Int × (Int × Int)))))) => CF s.1 s.2.1 s.2.2.1 s.2.2.2.1 s.2.2.2.2.1 s.2.2.2.2.2) (a0, (a1, (a2, ((((List.length a1) : Nat) : Int), ((Go.IntKind.wrap Go.IntKind.i64 (Int.tdiv (Go.IntKind.wrap Go.IntKind.i64 ((Go.IntKind.wrap Go.IntKind.i64 (x0 * (65536 : Int))) + x1)) x2)), (Int.tmod (Go.IntKind.wrap Go.IntKind.i64 ((Go.IntKind.wrap Go.IntKind.i64 (x0 * (65536 : Int))) + x1)) x3))))))).bind fun x4 =>
  some x4
noncomputable def OK : Ent := ⟨JC, fun x => Fl x.1 x.2.1 x.2.2⟩
noncomputable def N7 : TX := ⟨tyTab, codTab, [], [4], [], JC⟩
set_option maxHeartbeats 2000000 in
theorem Vi (a0 : List (Int)) (a1 : List (Int)) (a2 : Int) : wtF N7 Tryz.f299 (a0, a1, a2) = Fl a0 a1 a2 := by kernel_rfl
theorem UP : EntOK RR OK := Ab (X := N7) ⟨tyOK, boolOK, eqOK⟩ (Ad (by exact trivial)) (Ae (by kernel_rfl)) ⟨Tryz.func299, rfl, by kernel_rfl, rfl⟩ (fun x => by exact Vi x.1 x.2.1 x.2.2)
noncomputable def BF (a0 : (List Int)) (a1 : Int) : Option (Int) :=
  bif decide (a1 < (((List.length a0) : Nat) : Int)) then
    ((getI a0 a1)).bind fun x0 =>
    some x0
  else
  some (0 : Int)
noncomputable def DK : Ent := ⟨KU, fun x => BF x.1 x.2⟩
noncomputable def QK : TX := ⟨tyTab, codTab, [], [4], [], KU⟩
set_option maxHeartbeats 2000000 in
theorem Xf (a0 : List (Int)) (a1 : Int) : wtF QK Tryz.f282 (a0, a1) = BF a0 a1 := by kernel_rfl
theorem DX : EntOK RR DK := Ab (X := QK) ⟨tyOK, boolOK, eqOK⟩ (Ad (by exact trivial)) (Ae (by kernel_rfl)) ⟨Tryz.func282, rfl, by kernel_rfl, rfl⟩ (fun x => by exact Xf x.1 x.2)
noncomputable def FL (s0 : (List Int)) (s1 : (List Int)) (s2 : Int) (s3 : Int) (s4 : Int) (s5 : Int) : Option (((List Int) × ((List Int) × (Int × (Int × (Int × Int))))) ⊕ ((List Int) × Int)) :=
  bif decide (s5 ≤ (((List.length s1) : Nat) : Int)) then
    ((idxI (Go.IntKind.wrap Go.IntKind.i64 (s2 + s5)) (List.length s0))).bind fun x0 =>
    ((getN s0 x0)).bind fun x1 =>
    ((BF s1 s5)).bind fun x2 =>
    (bif decide ((Go.IntKind.wrap Go.IntKind.i64 ((Go.IntKind.wrap Go.IntKind.i64 (x1 - (Go.IntKind.wrap Go.IntKind.i64 (s3 * x2)))) - s4)) < (0 : Int)) then
        some (Sum.inr (s0, (s1, (s2, (s3, ((Go.IntKind.wrap Go.IntKind.i64 (Int.tdiv (Go.IntKind.wrap Go.IntKind.i64 ((Go.IntKind.wrap Go.IntKind.i64 ((Go.IntKind.wrap Go.IntKind.i64 ((0 : Int) - (Go.IntKind.wrap Go.IntKind.i64 ((Go.IntKind.wrap Go.IntKind.i64 (x1 - (Go.IntKind.wrap Go.IntKind.i64 (s3 * x2)))) - s4)))) + (65536 : Int))) - (1 : Int))) (65536 : Int))), (s5, (Go.IntKind.wrap Go.IntKind.i64 ((Go.IntKind.wrap Go.IntKind.i64 ((Go.IntKind.wrap Go.IntKind.i64 (x1 - (Go.IntKind.wrap Go.IntKind.i64 (s3 * x2)))) - s4)) + (Go.IntKind.wrap Go.IntKind.i64 ((Go.IntKind.wrap Go.IntKind.i64 (Int.tdiv (Go.IntKind.wrap Go.IntKind.i64 ((Go.IntKind.wrap Go.IntKind.i64 ((Go.IntKind.wrap Go.IntKind.i64 ((0 : Int) - (Go.IntKind.wrap Go.IntKind.i64 ((Go.IntKind.wrap Go.IntKind.i64 (x1 - (Go.IntKind.wrap Go.IntKind.i64 (s3 * x2)))) - s4)))) + (65536 : Int))) - (1 : Int))) (65536 : Int))) * (65536 : Int))))))))))))
      else
      some (Sum.inr (s0, (s1, (s2, (s3, ((0 : Int), (s5, (Go.IntKind.wrap Go.IntKind.i64 ((Go.IntKind.wrap Go.IntKind.i64 (x1 - (Go.IntKind.wrap Go.IntKind.i64 (s3 * x2)))) - s4)))))))))).bind fun x3 =>
    Sum.elim
      (fun x4 =>
      some x4)
      (fun x5 =>
      ((idxI (Go.IntKind.wrap Go.IntKind.i64 (x5.2.2.1 + x5.2.2.2.2.2.1)) (List.length x5.1))).bind fun x6 =>
      ((getN x5.1 x6)).bind fun x7 =>
      some (Sum.inl ((List.set x5.1 x6 x5.2.2.2.2.2.2), (x5.2.1, (x5.2.2.1, (x5.2.2.2.1, (x5.2.2.2.2.1, (Go.IntKind.wrap Go.IntKind.i64 (x5.2.2.2.2.2.1 + (1 : Int))))))))))
      x3
  else
  some (Sum.inr (s0, s4))
noncomputable def Gc (a0 : (List Int)) (a1 : (List Int)) (a2 : Int) (a3 : Int) : Option (List (Int) × Int) :=
  (loopM (fun (s : ((List Int) × ((List Int) × (Int × (Int × (Int × Int)))))) => FL s.1 s.2.1 s.2.2.1 s.2.2.2.1 s.2.2.2.2.1 s.2.2.2.2.2) (a0, (a1, (a2, (a3, ((0 : Int), (0 : Int))))))).bind fun x0 =>
  some (x0.1, x0.2)
noncomputable def Qa : Ent := ⟨La, fun x => Gc x.1 x.2.1 x.2.2.1 x.2.2.2⟩
noncomputable def PY : TX := ⟨tyTab, codTab, [], [4], [DK], La⟩
set_option maxHeartbeats 2000000 in
theorem Yh (a0 : List (Int)) (a1 : List (Int)) (a2 : Int) (a3 : Int) : wtF PY Tryz.f300 (a0, a1, a2, a3) = Gc a0 a1 a2 a3 := by kernel_rfl
theorem V3 : EntOK RR Qa := Ab (X := PY) ⟨tyOK, boolOK, eqOK⟩ (Ad (by exact ⟨⟨DX, rfl⟩, trivial⟩)) (Ae (by kernel_rfl)) ⟨Tryz.func300, rfl, by kernel_rfl, rfl⟩ (fun x => by exact Yh x.1 x.2.1 x.2.2.1 x.2.2.2)
noncomputable def FC (s0 : (List Int)) (s1 : (List Int)) (s2 : Int) (s3 : Int) (s4 : Int) : Option (((List Int) × ((List Int) × (Int × (Int × Int)))) ⊕ (List Int)) :=
  bif decide (s4 ≤ (((List.length s1) : Nat) : Int)) then
    ((idxI (Go.IntKind.wrap Go.IntKind.i64 (s2 + s4)) (List.length s0))).bind fun x0 =>
    ((getN s0 x0)).bind fun x1 =>
    ((BF s1 s4)).bind fun x2 =>
    ((idxI (Go.IntKind.wrap Go.IntKind.i64 (s2 + s4)) (List.length s0))).bind fun x3 =>
    ((getN s0 x3)).bind fun x4 =>
    some (Sum.inl ((List.set s0 x3 (Int.tmod (Go.IntKind.wrap Go.IntKind.i64 ((Go.IntKind.wrap Go.IntKind.i64 (x1 + x2)) + s3)) (65536 : Int))), (s1, (s2, ((Go.IntKind.wrap Go.IntKind.i64 (Int.tdiv (Go.IntKind.wrap Go.IntKind.i64 ((Go.IntKind.wrap Go.IntKind.i64 (x1 + x2)) + s3)) (65536 : Int))), (Go.IntKind.wrap Go.IntKind.i64 (s4 + (1 : Int))))))))
  else
  some (Sum.inr s0)
noncomputable def Gr (a0 : (List Int)) (a1 : (List Int)) (a2 : Int) : Option (List (Int)) :=
  (loopM (fun (s : ((List Int) × ((List Int) × (Int × (Int × Int))))) => FC s.1 s.2.1 s.2.2.1 s.2.2.2.1 s.2.2.2.2) (a0, (a1, (a2, ((0 : Int), (0 : Int)))))).bind fun x0 =>
  some x0
noncomputable def Qq : Ent := ⟨KT, fun x => Gr x.1 x.2.1 x.2.2⟩
noncomputable def Rp : TX := ⟨tyTab, codTab, [], [4], [DK], KT⟩
set_option maxHeartbeats 2000000 in
theorem XI (a0 : List (Int)) (a1 : List (Int)) (a2 : Int) : wtF Rp Tryz.f301 (a0, a1, a2) = Gr a0 a1 a2 := by kernel_rfl
theorem Wd : EntOK RR Qq := Ab (X := Rp) ⟨tyOK, boolOK, eqOK⟩ (Ad (by exact ⟨⟨DX, rfl⟩, trivial⟩)) (Ae (by kernel_rfl)) ⟨Tryz.func301, rfl, by kernel_rfl, rfl⟩ (fun x => by exact XI x.1 x.2.1 x.2.2)
noncomputable def FD (s0 : (List Int)) (s1 : (List Int)) (s2 : Int) (s3 : Int) (s4 : Int) : Option (((List Int) × ((List Int) × (Int × (Int × Int)))) ⊕ (List Int)) :=
  bif decide (s4 < s3) then
    ((getI s1 s4)).bind fun x0 =>
    ((BF s1 (Go.IntKind.wrap Go.IntKind.i64 (s4 + (1 : Int))))).bind fun x1 =>
    bif decide ((Go.IntKind.wrap Go.IntKind.u64 s2) < (0 : Int)) then
      none
    else
    ((idxI s4 (List.length s0))).bind fun x2 =>
    ((getN s0 x2)).bind fun x3 =>
    some (Sum.inl ((List.set s0 x2 (Int.tmod (shrI Go.IntKind.i64 (orI Go.IntKind.i64 x0 (shlI Go.IntKind.i64 x1 (16 : Int))) (Go.IntKind.wrap Go.IntKind.u64 s2)) (65536 : Int))), (s1, (s2, (s3, (Go.IntKind.wrap Go.IntKind.i64 (s4 + (1 : Int))))))))
  else
  some (Sum.inr s0)
noncomputable def GN (a0 : (List Int)) (a1 : Int) : Option (List (Int)) :=
  ((lenI (((List.length a0) : Nat) : Int) 8 1)).bind fun x0 =>
  (loopM (fun (s : ((List Int) × ((List Int) × (Int × (Int × Int))))) => FD s.1 s.2.1 s.2.2.1 s.2.2.2.1 s.2.2.2.2) ((List.replicate x0 (0 : Int)), (a0, (a1, ((((List.length a0) : Nat) : Int), (0 : Int)))))).bind fun x1 =>
  ((Bl x1)).bind fun x2 =>
  some x2
noncomputable def P1 : Ent := ⟨Li, fun x => GN x.1 x.2⟩
noncomputable def QN : TX := ⟨tyTab, codTab, [], [4], [DK, D4], Li⟩
set_option maxHeartbeats 2000000 in
theorem XK (a0 : List (Int)) (a1 : Int) : wtF QN Tryz.f302 (a0, a1) = GN a0 a1 := by kernel_rfl
theorem VP : EntOK RR P1 := Ab (X := QN) ⟨tyOK, boolOK, eqOK⟩ (Ad (by exact ⟨⟨DX, rfl⟩, ⟨⟨DN, rfl⟩, trivial⟩⟩)) (Ae (by kernel_rfl)) ⟨Tryz.func302, rfl, by kernel_rfl, rfl⟩ (fun x => by exact XK x.1 x.2)
noncomputable def B0 (s0 : (List Int)) (s1 : (List Int)) (s2 : Int) : Option (((List Int) × ((List Int) × Int)) ⊕ ((List Int) × ((List Int) × Int))) :=
  ((getI s1 (Go.IntKind.wrap Go.IntKind.i64 ((((List.length s1) : Nat) : Int) - (1 : Int))))).bind fun x0 =>
  bif decide ((Go.IntKind.wrap Go.IntKind.u64 s2) < (0 : Int)) then
    none
  else
  bif decide ((shlI Go.IntKind.i64 x0 (Go.IntKind.wrap Go.IntKind.u64 s2)) < (32768 : Int)) then
    some (Sum.inl (s0, (s1, (Go.IntKind.wrap Go.IntKind.i64 (s2 + (1 : Int))))))
  else
  some (Sum.inr (s0, (s1, s2)))
noncomputable def Bg (s0 : (List Int)) (s1 : (List Int)) (s2 : (List Int)) (s3 : Int) (s4 : Int) : Option (((List Int) × ((List Int) × ((List Int) × (Int × Int)))) ⊕ ((List Int) × ((List Int) × Int))) :=
  bif decide (s4 ≥ (0 : Int)) then
    ((Fl s0 s1 s4)).bind fun x0 =>
    ((Gc s0 s1 s4 x0)).bind fun x1 =>
    bif decide ((List.length x1.1) = (List.length s0)) then
      bif decide (x1.2 > (0 : Int)) then
        ((Gr x1.1 s1 s4)).bind fun x2 =>
        bif decide ((List.length x2) = (List.length x1.1)) then
          ((idxI s4 (List.length s2))).bind fun x3 =>
          ((getN s2 x3)).bind fun x4 =>
          some (Sum.inl (x2, (s1, ((List.set s2 x3 (Go.IntKind.wrap Go.IntKind.i64 (x0 - (1 : Int)))), (s3, (Go.IntKind.wrap Go.IntKind.i64 (s4 - (1 : Int))))))))
        else
        none
      else
      ((idxI s4 (List.length s2))).bind fun x5 =>
      ((getN s2 x5)).bind fun x6 =>
      some (Sum.inl (x1.1, (s1, ((List.set s2 x5 x0), (s3, (Go.IntKind.wrap Go.IntKind.i64 (s4 - (1 : Int))))))))
    else
    none
  else
  some (Sum.inr (s0, (s2, s3)))
noncomputable def B8 (a0 : (List Int)) (a1 : (List Int)) : Option (List (Int) × List (Int)) :=
  ((Bl a0)).bind fun x0 =>
  ((Bj x0 a1)).bind fun x1 =>
  bif decide (x1 < (0 : Int)) then
    some ((List.nil : List Int), x0)
  else
  bif ((((List.length a1) : Nat) : Int) == (1 : Int)) then
    ((getI a1 (0 : Int))).bind fun x2 =>
    ((Fm x0 x2)).bind fun x3 =>
    some (x3.1, x3.2)
  else
  (loopM (fun (s : ((List Int) × ((List Int) × Int))) => B0 s.1 s.2.1 s.2.2) (x0, (a1, (0 : Int)))).bind fun x4 =>
  ((Hn x4.1 x4.2.2)).bind fun x5 =>
  ((Hn x4.2.1 x4.2.2)).bind fun x6 =>
  ((Bl x6)).bind fun x7 =>
  ((lenI (Go.IntKind.wrap Go.IntKind.i64 ((Go.IntKind.wrap Go.IntKind.i64 ((((List.length x4.1) : Nat) : Int) - (((List.length x4.2.1) : Nat) : Int))) + (1 : Int))) 8 1)).bind fun x8 =>
  (loopM (fun (s : ((List Int) × ((List Int) × ((List Int) × (Int × Int))))) => Bg s.1 s.2.1 s.2.2.1 s.2.2.2.1 s.2.2.2.2) (x5, (x7, ((List.replicate x8 (0 : Int)), (x4.2.2, (Go.IntKind.wrap Go.IntKind.i64 ((((List.length x4.1) : Nat) : Int) - (((List.length x4.2.1) : Nat) : Int)))))))).bind fun x9 =>
  ((Bl x9.2.1)).bind fun x10 =>
  ((Bl x9.1)).bind fun x11 =>
  ((GN x11 x9.2.2)).bind fun x12 =>
  some (x10, x12)
noncomputable def Gw : Ent := ⟨Gx, fun x => B8 x.1 x.2⟩
noncomputable def IN : TX := ⟨tyTab, codTab, [], [4], [D4, Hm, O9, Wx, OK, Qa, Qq, P1], Gx⟩
set_option maxHeartbeats 2000000 in
theorem Qs (a0 : List (Int)) (a1 : List (Int)) : wtF IN Tryz.f279 (a0, a1) = B8 a0 a1 := by kernel_rfl
theorem IL : EntOK RR Gw := Ab (X := IN) ⟨tyOK, boolOK, eqOK⟩ (Ad (by exact ⟨⟨DN, rfl⟩, ⟨⟨H4, rfl⟩, ⟨⟨UM, rfl⟩, ⟨⟨ZA, rfl⟩, ⟨⟨UP, rfl⟩, ⟨⟨V3, rfl⟩, ⟨⟨Wd, rfl⟩, ⟨⟨VP, rfl⟩, trivial⟩⟩⟩⟩⟩⟩⟩⟩)) (Ae (by kernel_rfl)) ⟨Tryz.func279, rfl, by kernel_rfl, rfl⟩ (fun x => by exact Qs x.1 x.2)
noncomputable def G6 (s0 : (List Int)) (s1 : (List Int)) : Option (((List Int) × (List Int)) ⊕ (List Int)) :=
  bif decide ((((List.length s1) : Nat) : Int) > (0 : Int)) then
    ((B8 s0 s1)).bind fun x0 =>
    some (Sum.inl (s1, x0.2))
  else
  some (Sum.inr s0)
noncomputable def FW (a0 : (List Int)) (a1 : (List Int)) : Option (List (Int)) :=
  (loopM (fun (s : ((List Int) × (List Int))) => G6 s.1 s.2) (a0, a1)).bind fun x0 =>
  ((Bl x0)).bind fun x1 =>
  some x1
noncomputable def MZ : Ent := ⟨Nq, fun x => FW x.1 x.2⟩
noncomputable def SX : TX := ⟨tyTab, codTab, [], [4], [Gw, D4], Nq⟩
set_option maxHeartbeats 2000000 in
theorem ZQ (a0 : List (Int)) (a1 : List (Int)) : wtF SX Tryz.f226 (a0, a1) = FW a0 a1 := by kernel_rfl
theorem RG : EntOK RR MZ := Ab (X := SX) ⟨tyOK, boolOK, eqOK⟩ (Ad (by exact ⟨⟨IL, rfl⟩, ⟨⟨DN, rfl⟩, trivial⟩⟩)) (Ae (by kernel_rfl)) ⟨Tryz.func226, rfl, by kernel_rfl, rfl⟩ (fun x => by exact ZQ x.1 x.2)
noncomputable def FS (a0 : (Bool × (List Int))) (a1 : (Bool × (List Int))) : Option ((Bool × List (Int)) × (Bool × List (Int))) :=
  ((B8 a0.2 a1.2)).bind fun x0 =>
  ((AH (!(a0.1 == a1.1)) x0.1)).bind fun x1 =>
  ((AH a0.1 x0.2)).bind fun x2 =>
  some ((x1.2, x1.1), (x2.2, x2.1))
noncomputable def Tk : Ent := ⟨MY, fun x => FS x.1 x.2⟩
noncomputable def Tb : TX := ⟨tyTab, codTab, [], [4], [Gw, Cu], MY⟩
set_option maxHeartbeats 2000000 in
theorem Ac9 (a0 : (Bool × List (Int))) (a1 : (Bool × List (Int))) : wtF Tb Tryz.f227 (a0, a1) = FS a0 a1 := by kernel_rfl
theorem X0 : EntOK RR Tk := Ab (X := Tb) ⟨tyOK, boolOK, eqOK⟩ (Ad (by exact ⟨⟨IL, rfl⟩, ⟨⟨Co, rfl⟩, trivial⟩⟩)) (Ae (by kernel_rfl)) ⟨Tryz.func227, rfl, by kernel_rfl, rfl⟩ (fun x => by exact Ac9 x.1 x.2)
noncomputable def EL (a0 : (Bool × (List Int))) : Option ((Bool × List (Int))) :=
  ((AH (!a0.1) a0.2)).bind fun x0 =>
  some (x0.2, x0.1)
noncomputable def M9 : Ent := ⟨M4, fun x => EL x⟩
noncomputable def Tz : TX := ⟨tyTab, codTab, [], [4], [Cu], M4⟩
set_option maxHeartbeats 2000000 in
theorem Aa0 (a0 : (Bool × List (Int))) : wtF Tz Tryz.f162 (a0) = EL a0 := by kernel_rfl
theorem R3 : EntOK RR M9 := Ab (X := Tz) ⟨tyOK, boolOK, eqOK⟩ (Ad (by exact ⟨⟨Co, rfl⟩, trivial⟩)) (Ae (by kernel_rfl)) ⟨Tryz.func162, rfl, by kernel_rfl, rfl⟩ (fun x => by exact Aa0 x)
noncomputable def Cw (a0 : (Bool × (List Int))) (a1 : (Bool × (List Int))) : Option ((Bool × List (Int) × Bool × List (Int))) :=
  ((FW a0.2 a1.2)).bind fun x0 =>
  ((AH false x0)).bind fun x1 =>
  ((FS (a0.1, a0.2) (x1.2, x1.1))).bind fun x2 =>
  ((FS (a1.1, a1.2) (x1.2, x1.1))).bind fun x3 =>
  bif x3.1.1 then
    ((EL (x2.1.1, x2.1.2))).bind fun x4 =>
    ((EL (x3.1.1, x3.1.2))).bind fun x5 =>
    some (x4.1, (x4.2, (x5.1, x5.2)))
  else
  some (x2.1.1, (x2.1.2, (x3.1.1, x3.1.2)))
noncomputable def EG : Ent := ⟨KQ, fun x => Cw x.1 x.2⟩
noncomputable def Qv : TX := ⟨tyTab, codTab, [], [4], [MZ, Cu, Tk, M9], KQ⟩
set_option maxHeartbeats 2000000 in
theorem XQ (a0 : (Bool × List (Int))) (a1 : (Bool × List (Int))) : wtF Qv Tryz.f164 (a0, a1) = Cw a0 a1 := by kernel_rfl
theorem Fh : EntOK RR EG := Ab (X := Qv) ⟨tyOK, boolOK, eqOK⟩ (Ad (by exact ⟨⟨RG, rfl⟩, ⟨⟨Co, rfl⟩, ⟨⟨X0, rfl⟩, ⟨⟨R3, rfl⟩, trivial⟩⟩⟩⟩)) (Ae (by kernel_rfl)) ⟨Tryz.func164, rfl, by kernel_rfl, rfl⟩ (fun x => by exact XQ x.1 x.2)
noncomputable def GT (s0 : (Bool × (List Int))) (s1 : (List Int)) (s2 : Int) (s3 : Int) : Option (((Bool × (List Int)) × ((List Int) × (Int × Int))) ⊕ ((Bool × (List Int)) × ((List Int) × Int))) :=
  bif (s3 != (0 : Int)) then
    bif decide ((Int.tmod s3 (65536 : Int)) < (0 : Int)) then
      ((appL 8 1 s1 (List.cons (Go.IntKind.wrap Go.IntKind.i64 ((0 : Int) - (Int.tmod s3 (65536 : Int)))) (List.nil : List Int)))).bind fun x0 =>
      some (Sum.inl ((s0.1, s0.2), (x0, (s2, (Go.IntKind.wrap Go.IntKind.i64 (Int.tdiv s3 (65536 : Int)))))))
    else
    ((appL 8 1 s1 (List.cons (Int.tmod s3 (65536 : Int)) (List.nil : List Int)))).bind fun x1 =>
    some (Sum.inl ((s0.1, s0.2), (x1, (s2, (Go.IntKind.wrap Go.IntKind.i64 (Int.tdiv s3 (65536 : Int)))))))
  else
  some (Sum.inr ((s0.1, s0.2), (s1, s2)))
noncomputable def Dl (a0 : Int) : Option ((Bool × List (Int))) :=
  (loopM (fun (s : ((Bool × (List Int)) × ((List Int) × (Int × Int)))) => GT s.1 s.2.1 s.2.2.1 s.2.2.2) ((false, (List.nil : List Int)), ((List.nil : List Int), (a0, a0)))).bind fun x0 =>
  ((AH (decide (x0.2.2 < (0 : Int))) x0.2.1)).bind fun x1 =>
  some (x1.2, x1.1)
noncomputable def M7 : Ent := ⟨MS, fun x => Dl x⟩
noncomputable def T3 : TX := ⟨tyTab, codTab, [], [4], [Cu], MS⟩
set_option maxHeartbeats 2000000 in
theorem Ad6 (a0 : Int) : wtF T3 Tryz.f116 (a0) = Dl a0 := by kernel_rfl
theorem Rh : EntOK RR M7 := Ab (X := T3) ⟨tyOK, boolOK, eqOK⟩ (Ad (by exact ⟨⟨Co, rfl⟩, trivial⟩)) (Ae (by kernel_rfl)) ⟨Tryz.func116, rfl, by kernel_rfl, rfl⟩ (fun x => by exact Ad6 x)
noncomputable def HK (a0 : Int) (a1 : Int) : Option ((Bool × List (Int) × Bool × List (Int)) × Bool) :=
  ((F6 a0 (-(4611686018427387904 : Int)) (4611686018427387904 : Int))).bind fun x0 =>
  bif (!x0) then
    some ((false, ((List.nil : List Int), (false, (List.nil : List Int)))), false)
  else
  ((F6 a1 (-(4611686018427387904 : Int)) (4611686018427387904 : Int))).bind fun x1 =>
  bif (!x1) then
    some ((false, ((List.nil : List Int), (false, (List.nil : List Int)))), false)
  else
  bif (a1 == (0 : Int)) then
    some ((false, ((List.nil : List Int), (false, (List.nil : List Int)))), false)
  else
  ((Dl a0)).bind fun x2 =>
  ((Dl a1)).bind fun x3 =>
  ((Cw (x2.1, x2.2) (x3.1, x3.2))).bind fun x4 =>
  some ((x4.1, (x4.2.1, (x4.2.2.1, x4.2.2.2))), true)
noncomputable def TY : Ent := ⟨NG, fun x => HK x.1 x.2⟩
noncomputable def Tr : TX := ⟨tyTab, codTab, [], [4], [Q3, M7, EG], NG⟩
set_option maxHeartbeats 2000000 in
theorem ZN (a0 : Int) (a1 : Int) : wtF Tr Tryz.f247 (a0, a1) = HK a0 a1 := by kernel_rfl
theorem Xg : EntOK RR TY := Ab (X := Tr) ⟨tyOK, boolOK, eqOK⟩ (Ad (by exact ⟨⟨TF, rfl⟩, ⟨⟨Rh, rfl⟩, ⟨⟨Fh, rfl⟩, trivial⟩⟩⟩)) (Ae (by kernel_rfl)) ⟨Tryz.func247, rfl, by kernel_rfl, rfl⟩ (fun x => by exact ZN x.1 x.2)
noncomputable def CM (a0 : ((List Int) × (Int × Int))) : Option ((List (Int) × Int × Int) × (Bool × List (Int) × Bool × List (Int))) :=
  ((AW (a0.1, (a0.2.1, a0.2.2)) (12 : Int))).bind fun x0 =>
  bif x0.2 then
    ((CE (x0.1.1, (x0.1.2.1, x0.1.2.2)))).bind fun x1 =>
    ((CE (x1.1.1, (x1.1.2.1, x1.1.2.2)))).bind fun x2 =>
    ((Cm (x1.2.1, x1.2.2))).bind fun x3 =>
    bif x3 then
      ((Cm (x2.2.1, x2.2.2))).bind fun x4 =>
      bif x4 then
        bif decide ((((List.length x2.2.2) : Nat) : Int) > (0 : Int)) then
          ((Cw (x1.2.1, x1.2.2) (x2.2.1, x2.2.2))).bind fun x5 =>
          some ((x2.1.1, (x2.1.2.1, x2.1.2.2)), (x5.1, (x5.2.1, (x5.2.2.1, x5.2.2.2))))
        else
        some ((x2.1.1, (x2.1.2.1, x2.1.2.2)), (x1.2.1, (x1.2.2, (x2.2.1, x2.2.2))))
      else
      some ((x2.1.1, (x2.1.2.1, x2.1.2.2)), (x1.2.1, (x1.2.2, (x2.2.1, x2.2.2))))
    else
    some ((x2.1.1, (x2.1.2.1, x2.1.2.2)), (x1.2.1, (x1.2.2, (x2.2.1, x2.2.2))))
  else
  ((AT (x0.1.1, (x0.1.2.1, x0.1.2.2)) (41 : Int))).bind fun x6 =>
  ((AT (x6.1.1, (x6.1.2.1, x6.1.2.2)) (12 : Int))).bind fun x7 =>
  ((HK (Go.IntKind.wrap Go.IntKind.i64 (x6.2 - (20 : Int))) (Go.IntKind.wrap Go.IntKind.i64 ((1 : Int) + x7.2)))).bind fun x8 =>
  some ((x7.1.1, (x7.1.2.1, x7.1.2.2)), (x8.1.1, (x8.1.2.1, (x8.1.2.2.1, x8.1.2.2.2))))
noncomputable def KC : Ent := ⟨Hb, fun x => CM x⟩
noncomputable def KI : TX := ⟨tyTab, codTab, [], [4], [EZ, KB, I9, EG, C1, TY], Hb⟩
set_option maxHeartbeats 2000000 in
theorem Se (a0 : (List (Int) × Int × Int)) : wtF KI Tryz.f165 (a0) = CM a0 := by kernel_rfl
theorem Qe : EntOK RR KC := Ab (X := KI) ⟨tyOK, boolOK, eqOK⟩ (Ad (by exact ⟨⟨GK, rfl⟩, ⟨⟨PX, rfl⟩, ⟨⟨Mw, rfl⟩, ⟨⟨Fh, rfl⟩, ⟨⟨DD, rfl⟩, ⟨⟨Xg, rfl⟩, trivial⟩⟩⟩⟩⟩⟩)) (Ae (by kernel_rfl)) ⟨Tryz.func165, rfl, by kernel_rfl, rfl⟩ (fun x => by exact Se x)
noncomputable def Cr (a0 : (Bool × ((List Int) × (Bool × (List Int))))) : Option (Bool) :=
  ((Cm (a0.1, a0.2.1))).bind fun x0 =>
  bif (!x0) then
    some false
  else
  ((Cm (a0.2.2.1, a0.2.2.2))).bind fun x1 =>
  bif (!x1) then
    some false
  else
  bif a0.2.2.1 then
    some false
  else
  bif ((((List.length a0.2.2.2) : Nat) : Int) == (0 : Int)) then
    some false
  else
  ((FW a0.2.1 a0.2.2.2)).bind fun x2 =>
  ((Bj x2 (List.cons (1 : Int) (List.nil : List Int)))).bind fun x3 =>
  some (x3 == (0 : Int))
noncomputable def JE : Ent := ⟨JU, fun x => Cr x⟩
noncomputable def O5 : TX := ⟨tyTab, codTab, [], [4], [I9, MZ, Hm], JU⟩
set_option maxHeartbeats 2000000 in
theorem Wj (a0 : (Bool × List (Int) × Bool × List (Int))) : wtF O5 Tryz.f113 (a0) = Cr a0 := by kernel_rfl
theorem Lz : EntOK RR JE := Ab (X := O5) ⟨tyOK, boolOK, eqOK⟩ (Ad (by exact ⟨⟨Mw, rfl⟩, ⟨⟨RG, rfl⟩, ⟨⟨H4, rfl⟩, trivial⟩⟩⟩)) (Ae (by kernel_rfl)) ⟨Tryz.func113, rfl, by kernel_rfl, rfl⟩ (fun x => by exact Wj x)
noncomputable def Ca (s0 : (List Int)) (s1 : (List Int)) (s2 : Int) (s3 : Int) (s4 : Int) (s5 : Int) (s6 : (List Int)) (s7 : Int) (s8 : Int) : Option (((List Int) × ((List Int) × (Int × (Int × (Int × (Int × ((List Int) × (Int × Int)))))))) ⊕ ((List Int) × ((List Int) × ((List Int) × (Int × Int))))) :=
  (bif decide (s5 < (((List.length s1) : Nat) : Int)) then
      some (Sum.inr (s0, (s1, (s2, (s3, (s4, (s5, (s6, (s7, s8)))))))))
    else
    bif decide (s4 > (0 : Int)) then
      some (Sum.inr (s0, (s1, (s2, (s3, (s4, (s5, (s6, (s7, s8)))))))))
    else
    some (Sum.inl (Sum.inr (s0, (s1, (s6, (s7, s8))))))).bind fun x0 =>
  Sum.elim
    (fun x1 =>
    some x1)
    (fun x2 =>
    ((idxI (Go.IntKind.wrap Go.IntKind.i64 (x2.2.2.1 + x2.2.2.2.2.2.1)) (List.length x2.1))).bind fun x3 =>
    ((getN x2.1 x3)).bind fun x4 =>
    ((BF x2.2.1 x2.2.2.2.2.2.1)).bind fun x5 =>
    ((idxI (Go.IntKind.wrap Go.IntKind.i64 (x2.2.2.1 + x2.2.2.2.2.2.1)) (List.length x2.1))).bind fun x6 =>
    ((getN x2.1 x6)).bind fun x7 =>
    some (Sum.inl ((List.set x2.1 x6 (Int.tmod (Go.IntKind.wrap Go.IntKind.i64 ((Go.IntKind.wrap Go.IntKind.i64 (x4 + (Go.IntKind.wrap Go.IntKind.i64 (x2.2.2.2.1 * x5)))) + x2.2.2.2.2.1)) (65536 : Int))), (x2.2.1, (x2.2.2.1, (x2.2.2.2.1, ((Go.IntKind.wrap Go.IntKind.i64 (Int.tdiv (Go.IntKind.wrap Go.IntKind.i64 ((Go.IntKind.wrap Go.IntKind.i64 (x4 + (Go.IntKind.wrap Go.IntKind.i64 (x2.2.2.2.1 * x5)))) + x2.2.2.2.2.1)) (65536 : Int))), ((Go.IntKind.wrap Go.IntKind.i64 (x2.2.2.2.2.2.1 + (1 : Int))), (x2.2.2.2.2.2.2.1, (x2.2.2.2.2.2.2.2.1, x2.2.2.2.2.2.2.2.2))))))))))
    x0
noncomputable def De (s0 : (List Int)) (s1 : (List Int)) (s2 : (List Int)) (s3 : Int) (s4 : Int) : Option (((List Int) × ((List Int) × ((List Int) × (Int × Int)))) ⊕ (List Int)) :=
  bif decide (s4 < s3) then
    ((getI s2 s4)).bind fun x0 =>
    (loopM (fun (s : ((List Int) × ((List Int) × (Int × (Int × (Int × (Int × ((List Int) × (Int × Int))))))))) => Ca s.1 s.2.1 s.2.2.1 s.2.2.2.1 s.2.2.2.2.1 s.2.2.2.2.2.1 s.2.2.2.2.2.2.1 s.2.2.2.2.2.2.2.1 s.2.2.2.2.2.2.2.2) (s0, (s1, (s4, (x0, ((0 : Int), ((0 : Int), (s2, (s3, s4))))))))).bind fun x1 =>
    some (Sum.inl (x1.1, (x1.2.1, (x1.2.2.1, (x1.2.2.2.1, (Go.IntKind.wrap Go.IntKind.i64 (x1.2.2.2.2 + (1 : Int))))))))
  else
  some (Sum.inr s0)
noncomputable def C7 (a0 : (List Int)) (a1 : (List Int)) : Option (List (Int)) :=
  ((lenI (Go.IntKind.wrap Go.IntKind.i64 ((Go.IntKind.wrap Go.IntKind.i64 ((((List.length a0) : Nat) : Int) + (((List.length a1) : Nat) : Int))) + (1 : Int))) 8 1)).bind fun x0 =>
  (loopM (fun (s : ((List Int) × ((List Int) × ((List Int) × (Int × Int))))) => De s.1 s.2.1 s.2.2.1 s.2.2.2.1 s.2.2.2.2) ((List.replicate x0 (0 : Int)), (a1, (a0, ((((List.length a0) : Nat) : Int), (0 : Int)))))).bind fun x1 =>
  ((Bl x1)).bind fun x2 =>
  some x2
noncomputable def JA : Ent := ⟨Gg, fun x => C7 x.1 x.2⟩
noncomputable def Jq : TX := ⟨tyTab, codTab, [], [4], [DK, D4], Gg⟩
set_option maxHeartbeats 2000000 in
theorem Qk (a0 : List (Int)) (a1 : List (Int)) : wtF Jq Tryz.f248 (a0, a1) = C7 a0 a1 := by kernel_rfl
theorem Pe : EntOK RR JA := Ab (X := Jq) ⟨tyOK, boolOK, eqOK⟩ (Ad (by exact ⟨⟨DX, rfl⟩, ⟨⟨DN, rfl⟩, trivial⟩⟩)) (Ae (by kernel_rfl)) ⟨Tryz.func248, rfl, by kernel_rfl, rfl⟩ (fun x => by exact Qk x.1 x.2)
noncomputable def BE (a0 : (Bool × (List Int))) (a1 : (Bool × (List Int))) : Option ((Bool × List (Int))) :=
  ((C7 a0.2 a1.2)).bind fun x0 =>
  ((AH (!(a0.1 == a1.1)) x0)).bind fun x1 =>
  some (x1.2, x1.1)
noncomputable def Hw : Ent := ⟨MR, fun x => BE x.1 x.2⟩
noncomputable def Th : TX := ⟨tyTab, codTab, [], [4], [JA, Cu], MR⟩
set_option maxHeartbeats 2000000 in
theorem Ab3 (a0 : (Bool × List (Int))) (a1 : (Bool × List (Int))) : wtF Th Tryz.f168 (a0, a1) = BE a0 a1 := by kernel_rfl
theorem Io : EntOK RR Hw := Ab (X := Th) ⟨tyOK, boolOK, eqOK⟩ (Ad (by exact ⟨⟨Pe, rfl⟩, ⟨⟨Co, rfl⟩, trivial⟩⟩)) (Ae (by kernel_rfl)) ⟨Tryz.func168, rfl, by kernel_rfl, rfl⟩ (fun x => by exact Ab3 x.1 x.2)
noncomputable def Ez (a0 : (Bool × (List Int))) (a1 : (Bool × (List Int))) : Option (Int) :=
  bif a0.1 then
    bif (!a1.1) then
      some (-(1 : Int))
    else
    bif (!a0.1) then
      bif a1.1 then
        some (1 : Int)
      else
      bif a0.1 then
        ((Bj a1.2 a0.2)).bind fun x0 =>
        some x0
      else
      ((Bj a0.2 a1.2)).bind fun x1 =>
      some x1
    else
    bif a0.1 then
      ((Bj a1.2 a0.2)).bind fun x2 =>
      some x2
    else
    ((Bj a0.2 a1.2)).bind fun x3 =>
    some x3
  else
  bif (!a0.1) then
    bif a1.1 then
      some (1 : Int)
    else
    bif a0.1 then
      ((Bj a1.2 a0.2)).bind fun x4 =>
      some x4
    else
    ((Bj a0.2 a1.2)).bind fun x5 =>
    some x5
  else
  bif a0.1 then
    ((Bj a1.2 a0.2)).bind fun x6 =>
    some x6
  else
  ((Bj a0.2 a1.2)).bind fun x7 =>
  some x7
noncomputable def Ml : Ent := ⟨Ik, fun x => Ez x.1 x.2⟩
noncomputable def LZ : TX := ⟨tyTab, codTab, [], [4], [Hm], Ik⟩
set_option maxHeartbeats 2000000 in
theorem UQ (a0 : (Bool × List (Int))) (a1 : (Bool × List (Int))) : wtF LZ Tryz.f169 (a0, a1) = Ez a0 a1 := by kernel_rfl
theorem R6 : EntOK RR Ml := Ab (X := LZ) ⟨tyOK, boolOK, eqOK⟩ (Ad (by exact ⟨⟨H4, rfl⟩, trivial⟩)) (Ae (by kernel_rfl)) ⟨Tryz.func169, rfl, by kernel_rfl, rfl⟩ (fun x => by exact UQ x.1 x.2)
noncomputable def CI (a0 : (Bool × ((List Int) × (Bool × (List Int))))) (a1 : (Bool × ((List Int) × (Bool × (List Int))))) : Option (Int) :=
  ((BE (a0.1, a0.2.1) (a1.2.2.1, a1.2.2.2))).bind fun x0 =>
  ((BE (a1.1, a1.2.1) (a0.2.2.1, a0.2.2.2))).bind fun x1 =>
  ((Ez (x0.1, x0.2) (x1.1, x1.2))).bind fun x2 =>
  some x2
noncomputable def HC : Ent := ⟨NR, fun x => CI x.1 x.2⟩
noncomputable def T0 : TX := ⟨tyTab, codTab, [], [4], [Hw, Ml], NR⟩
set_option maxHeartbeats 2000000 in
theorem Ab0 (a0 : (Bool × List (Int) × Bool × List (Int))) (a1 : (Bool × List (Int) × Bool × List (Int))) : wtF T0 Tryz.f134 (a0, a1) = CI a0 a1 := by kernel_rfl
theorem Ir : EntOK RR HC := Ab (X := T0) ⟨tyOK, boolOK, eqOK⟩ (Ad (by exact ⟨⟨Io, rfl⟩, ⟨⟨R6, rfl⟩, trivial⟩⟩)) (Ae (by kernel_rfl)) ⟨Tryz.func134, rfl, by kernel_rfl, rfl⟩ (fun x => by exact Ab0 x.1 x.2)
noncomputable def BN (a0 : ((List Int) × (Int × Int))) : Option ((List (Int) × Int × Int) × (Bool × List (Int) × Bool × List (Int) × Bool × List (Int) × Bool × List (Int))) :=
  ((CM (a0.1, (a0.2.1, a0.2.2)))).bind fun x0 =>
  ((CM (x0.1.1, (x0.1.2.1, x0.1.2.2)))).bind fun x1 =>
  ((Cr (x0.2.1, (x0.2.2.1, (x0.2.2.2.1, x0.2.2.2.2))))).bind fun x2 =>
  bif x2 then
    ((Cr (x1.2.1, (x1.2.2.1, (x1.2.2.2.1, x1.2.2.2.2))))).bind fun x3 =>
    bif x3 then
      ((CI (x0.2.1, (x0.2.2.1, (x0.2.2.2.1, x0.2.2.2.2))) (x1.2.1, (x1.2.2.1, (x1.2.2.2.1, x1.2.2.2.2))))).bind fun x4 =>
      bif decide (x4 > (0 : Int)) then
        ((AW (x1.1.1, (x1.1.2.1, x1.1.2.2)) (12 : Int))).bind fun x5 =>
        bif (!x5.2) then
          some ((x5.1.1, (x5.1.2.1, x5.1.2.2)), (x1.2.1, (x1.2.2.1, (x1.2.2.2.1, (x1.2.2.2.2, (x0.2.1, (x0.2.2.1, (x0.2.2.2.1, x0.2.2.2.2))))))))
        else
        some ((x5.1.1, (x5.1.2.1, x5.1.2.2)), (x0.2.1, (x0.2.2.1, (x0.2.2.2.1, (x0.2.2.2.2, (x1.2.1, (x1.2.2.1, (x1.2.2.2.1, x1.2.2.2.2))))))))
      else
      some ((x1.1.1, (x1.1.2.1, x1.1.2.2)), (x0.2.1, (x0.2.2.1, (x0.2.2.2.1, (x0.2.2.2.2, (x1.2.1, (x1.2.2.1, (x1.2.2.2.1, x1.2.2.2.2))))))))
    else
    some ((x1.1.1, (x1.1.2.1, x1.1.2.2)), (x0.2.1, (x0.2.2.1, (x0.2.2.2.1, (x0.2.2.2.2, (x1.2.1, (x1.2.2.1, (x1.2.2.2.1, x1.2.2.2.2))))))))
  else
  some ((x1.1.1, (x1.1.2.1, x1.1.2.2)), (x0.2.1, (x0.2.2.1, (x0.2.2.2.1, (x0.2.2.2.2, (x1.2.1, (x1.2.2.1, (x1.2.2.2.1, x1.2.2.2.2))))))))
noncomputable def FZ : Ent := ⟨Gm, fun x => BN x⟩
noncomputable def JG : TX := ⟨tyTab, codTab, [], [4], [KC, JE, HC, EZ], Gm⟩
set_option maxHeartbeats 2000000 in
theorem P8 (a0 : (List (Int) × Int × Int)) : wtF JG Tryz.f156 (a0) = BN a0 := by kernel_rfl
theorem IH : EntOK RR FZ := Ab (X := JG) ⟨tyOK, boolOK, eqOK⟩ (Ad (by exact ⟨⟨Qe, rfl⟩, ⟨⟨Lz, rfl⟩, ⟨⟨Ir, rfl⟩, ⟨⟨GK, rfl⟩, trivial⟩⟩⟩⟩)) (Ae (by kernel_rfl)) ⟨Tryz.func156, rfl, by kernel_rfl, rfl⟩ (fun x => by exact P8 x)
noncomputable def DC (a0 : (List Int)) : Option ((Bool × List (Int) × Bool × List (Int) × Bool × List (Int) × Bool × List (Int)) × (Bool × List (Int) × Bool × List (Int) × Bool × List (Int) × Bool × List (Int))) :=
  ((BN (a0, ((0 : Int), (0 : Int))))).bind fun x0 =>
  ((BN (x0.1.1, (x0.1.2.1, x0.1.2.2)))).bind fun x1 =>
  some ((x0.2.1, (x0.2.2.1, (x0.2.2.2.1, (x0.2.2.2.2.1, (x0.2.2.2.2.2.1, (x0.2.2.2.2.2.2.1, (x0.2.2.2.2.2.2.2.1, x0.2.2.2.2.2.2.2.2))))))), (x1.2.1, (x1.2.2.1, (x1.2.2.2.1, (x1.2.2.2.2.1, (x1.2.2.2.2.2.1, (x1.2.2.2.2.2.2.1, (x1.2.2.2.2.2.2.2.1, x1.2.2.2.2.2.2.2.2))))))))
noncomputable def IB : Ent := ⟨Fs, fun x => DC x⟩
noncomputable def IA : TX := ⟨tyTab, codTab, [], [4], [FZ], Fs⟩
set_option maxHeartbeats 2000000 in
theorem Pn (a0 : List (Int)) : wtF IA Tryz.f145 (a0) = DC a0 := by kernel_rfl
theorem MQ : EntOK RR IB := Ab (X := IA) ⟨tyOK, boolOK, eqOK⟩ (Ad (by exact ⟨⟨IH, rfl⟩, trivial⟩)) (Ae (by kernel_rfl)) ⟨Tryz.func145, rfl, by kernel_rfl, rfl⟩ (fun x => by exact Pn x)
noncomputable def CC (a0 : (List Int)) : Option ((Bool × List (Int) × Bool × List (Int) × Bool × List (Int) × Bool × List (Int)) × (Bool × List (Int) × Bool × List (Int) × Bool × List (Int) × Bool × List (Int))) :=
  ((DC a0)).bind fun x0 =>
  some ((x0.1.1, (x0.1.2.1, (x0.1.2.2.1, (x0.1.2.2.2.1, (x0.1.2.2.2.2.1, (x0.1.2.2.2.2.2.1, (x0.1.2.2.2.2.2.2.1, x0.1.2.2.2.2.2.2.2))))))), (x0.2.1, (x0.2.2.1, (x0.2.2.2.1, (x0.2.2.2.2.1, (x0.2.2.2.2.2.1, (x0.2.2.2.2.2.2.1, (x0.2.2.2.2.2.2.2.1, x0.2.2.2.2.2.2.2.2))))))))
noncomputable def IE : Ent := ⟨Fp, fun x => CC x⟩
noncomputable def Iz : TX := ⟨tyTab, codTab, [], [4], [IB], Fp⟩
set_option maxHeartbeats 2000000 in
theorem Pl (a0 : List (Int)) : wtF Iz Tryz.f29 (a0) = CC a0 := by kernel_rfl
theorem MO : EntOK RR IE := Ab (X := Iz) ⟨tyOK, boolOK, eqOK⟩ (Ad (by exact ⟨⟨MQ, rfl⟩, trivial⟩)) (Ae (by kernel_rfl)) ⟨Tryz.func29, rfl, by kernel_rfl, rfl⟩ (fun x => by exact Pl x)
noncomputable def DO (a0 : Int) (a1 : Int) (a2 : Int) : Option (Bool) :=
  bif decide (a0 ≥ a1) then
    some (decide (a0 ≤ a2))
  else
  some false
noncomputable def KZ : Ent := ⟨Lk, fun x => DO x.1 x.2.1 x.2.2⟩
noncomputable def PO : TX := ⟨tyTab, codTab, [], [4], [], Lk⟩
set_option maxHeartbeats 2000000 in
theorem XW (a0 : Int) (a1 : Int) (a2 : Int) : wtF PO Tryz.f123 (a0, a1, a2) = DO a0 a1 a2 := by kernel_rfl
theorem OX : EntOK RR KZ := Ab (X := PO) ⟨tyOK, boolOK, eqOK⟩ (Ad (by exact trivial)) (Ae (by kernel_rfl)) ⟨Tryz.func123, rfl, by kernel_rfl, rfl⟩ (fun x => by exact XW x.1 x.2.1 x.2.2)
noncomputable def DA (a0 : Int) : Option (Bool) :=
  ((DO a0 (0 : Int) (65535 : Int))).bind fun x0 =>
  some (!x0)
noncomputable def KG : Ent := ⟨G9, fun x => DA x⟩
noncomputable def KJ : TX := ⟨tyTab, codTab, [], [4], [KZ], G9⟩
set_option maxHeartbeats 2000000 in
theorem Sm (a0 : Int) : wtF KJ Tryz.f222 (a0) = DA a0 := by kernel_rfl
theorem RP : EntOK RR KG := Ab (X := KJ) ⟨tyOK, boolOK, eqOK⟩ (Ad (by exact ⟨⟨OX, rfl⟩, trivial⟩)) (Ae (by kernel_rfl)) ⟨Tryz.func222, rfl, by kernel_rfl, rfl⟩ (fun x => by exact Sm x)
noncomputable def AE (s0 : (List Int)) (s1 : Int) (s2 : Int) : Option (((List Int) × (Int × Int)) ⊕ (Unit ⊕ Int)) :=
  bif decide (s2 < s1) then
    ((getI s0 s2)).bind fun x0 =>
    ((DA x0)).bind fun x1 =>
    bif x1 then
      some (Sum.inr (Sum.inr s2))
    else
    some (Sum.inl (s0, (s1, (Go.IntKind.wrap Go.IntKind.i64 (s2 + (1 : Int))))))
  else
  some (Sum.inr (Sum.inl ()))
noncomputable def A4 (a0 : (List Int)) : Option (Int) :=
  (loopM (fun (s : ((List Int) × (Int × Int))) => AE s.1 s.2.1 s.2.2) (a0, ((((List.length a0) : Nat) : Int), (0 : Int)))).bind fun x0 =>
  Sum.elim
    (fun x1 =>
    some (-(1 : Int)))
    (fun x2 =>
    some x2)
    x0
noncomputable def CP : Ent := ⟨Bz, fun x => A4 x⟩
noncomputable def CN : TX := ⟨tyTab, codTab, [], [4], [KG], Bz⟩
set_option maxHeartbeats 2000000 in
theorem FE (a0 : List (Int)) : wtF CN Tryz.f254 (a0) = A4 a0 := by kernel_rfl
theorem Fv : EntOK RR CP := Ab (X := CN) ⟨tyOK, boolOK, eqOK⟩ (Ad (by exact ⟨⟨RP, rfl⟩, trivial⟩)) (Ae (by kernel_rfl)) ⟨Tryz.func254, rfl, by kernel_rfl, rfl⟩ (fun x => by exact FE x)
noncomputable def Al (a0 : (List Int)) : Option (Bool) :=
  ((A4 a0)).bind fun x0 =>
  some (decide (x0 ≥ (0 : Int)))
noncomputable def B9 : Ent := ⟨Bf, fun x => Al x⟩
noncomputable def Ce : TX := ⟨tyTab, codTab, [], [4], [CP], Bf⟩
set_option maxHeartbeats 2000000 in
theorem EP (a0 : List (Int)) : wtF Ce Tryz.f187 (a0) = Al a0 := by kernel_rfl
theorem EA : EntOK RR B9 := Ab (X := Ce) ⟨tyOK, boolOK, eqOK⟩ (Ad (by exact ⟨⟨Fv, rfl⟩, trivial⟩)) (Ae (by kernel_rfl)) ⟨Tryz.func187, rfl, by kernel_rfl, rfl⟩ (fun x => by exact EP x)
noncomputable def Fg (a0 : (Bool × (List Int))) : Option (Bool) :=
  bif decide ((((List.length a0.2) : Nat) : Int) > (40 : Int)) then
    some false
  else
  bif ((((List.length a0.2) : Nat) : Int) == (0 : Int)) then
    bif a0.1 then
      some false
    else
    bif decide ((((List.length a0.2) : Nat) : Int) > (0 : Int)) then
      ((getI a0.2 (Go.IntKind.wrap Go.IntKind.i64 ((((List.length a0.2) : Nat) : Int) - (1 : Int))))).bind fun x0 =>
      bif (x0 == (0 : Int)) then
        some false
      else
      ((Al a0.2)).bind fun x1 =>
      some (!x1)
    else
    ((Al a0.2)).bind fun x2 =>
    some (!x2)
  else
  bif decide ((((List.length a0.2) : Nat) : Int) > (0 : Int)) then
    ((getI a0.2 (Go.IntKind.wrap Go.IntKind.i64 ((((List.length a0.2) : Nat) : Int) - (1 : Int))))).bind fun x3 =>
    bif (x3 == (0 : Int)) then
      some false
    else
    ((Al a0.2)).bind fun x4 =>
    some (!x4)
  else
  ((Al a0.2)).bind fun x5 =>
  some (!x5)
noncomputable def N3 : Ent := ⟨J6, fun x => Fg x⟩
noncomputable def Oq : TX := ⟨tyTab, codTab, [], [4], [B9], J6⟩
set_option maxHeartbeats 2000000 in
theorem Vl (a0 : (Bool × List (Int))) : wtF Oq Tryz.f107 (a0) = Fg a0 := by kernel_rfl
theorem UO : EntOK RR N3 := Ab (X := Oq) ⟨tyOK, boolOK, eqOK⟩ (Ad (by exact ⟨⟨EA, rfl⟩, trivial⟩)) (Ae (by kernel_rfl)) ⟨Tryz.func107, rfl, by kernel_rfl, rfl⟩ (fun x => by exact Vl x)
noncomputable def Er (a0 : (Bool × (List Int))) : Option (Bool) :=
  ((Fg (a0.1, a0.2))).bind fun x0 =>
  some (!x0)
noncomputable def LL : Ent := ⟨HU, fun x => Er x⟩
noncomputable def L5 : TX := ⟨tyTab, codTab, [], [4], [N3], HU⟩
set_option maxHeartbeats 2000000 in
theorem U8 (a0 : (Bool × List (Int))) : wtF L5 Tryz.f231 (a0) = Er a0 := by kernel_rfl
theorem SC : EntOK RR LL := Ab (X := L5) ⟨tyOK, boolOK, eqOK⟩ (Ad (by exact ⟨⟨UO, rfl⟩, trivial⟩)) (Ae (by kernel_rfl)) ⟨Tryz.func231, rfl, by kernel_rfl, rfl⟩ (fun x => by exact U8 x)
noncomputable def Ar (s0 : (List (Bool × (List Int)))) (s1 : Int) (s2 : Int) : Option (((List (Bool × (List Int))) × (Int × Int)) ⊕ (Unit ⊕ Int)) :=
  bif decide (s2 < s1) then
    ((getI s0 s2)).bind fun x0 =>
    ((Er (x0.1, x0.2))).bind fun x1 =>
    bif x1 then
      some (Sum.inr (Sum.inr s2))
    else
    some (Sum.inl (s0, (s1, (Go.IntKind.wrap Go.IntKind.i64 (s2 + (1 : Int))))))
  else
  some (Sum.inr (Sum.inl ()))
noncomputable def AQ (a0 : (List (Bool × (List Int)))) : Option (Int) :=
  (loopM (fun (s : ((List (Bool × (List Int))) × (Int × Int))) => Ar s.1 s.2.1 s.2.2) (a0, ((((List.length a0) : Nat) : Int), (0 : Int)))).bind fun x0 =>
  Sum.elim
    (fun x1 =>
    some (-(1 : Int)))
    (fun x2 =>
    some x2)
    x0
noncomputable def BY : Ent := ⟨Bd, fun x => AQ x⟩
noncomputable def BZ : TX := ⟨tyTab, codTab, [], [4], [LL], Bd⟩
set_option maxHeartbeats 2000000 in
theorem EB (a0 : List ((Bool × List (Int)))) : wtF BZ Tryz.f281 (a0) = AQ a0 := by kernel_rfl
theorem Et : EntOK RR BY := Ab (X := BZ) ⟨tyOK, boolOK, eqOK⟩ (Ad (by exact ⟨⟨SC, rfl⟩, trivial⟩)) (Ae (by kernel_rfl)) ⟨Tryz.func281, rfl, by kernel_rfl, rfl⟩ (fun x => by exact EB x)
noncomputable def AJ (a0 : (List (Bool × (List Int)))) : Option (Bool) :=
  ((AQ a0)).bind fun x0 =>
  some (decide (x0 ≥ (0 : Int)))
noncomputable def BG : Ent := ⟨AZ, fun x => AJ x⟩
noncomputable def BJ : TX := ⟨tyTab, codTab, [], [4], [BY], AZ⟩
set_option maxHeartbeats 2000000 in
theorem DL (a0 : List ((Bool × List (Int)))) : wtF BJ Tryz.f230 (a0) = AJ a0 := by kernel_rfl
theorem Dz : EntOK RR BG := Ab (X := BJ) ⟨tyOK, boolOK, eqOK⟩ (Ad (by exact ⟨⟨Et, rfl⟩, trivial⟩)) (Ae (by kernel_rfl)) ⟨Tryz.func230, rfl, by kernel_rfl, rfl⟩ (fun x => by exact DL x)
noncomputable def EE (a0 : (List (Bool × (List Int)))) : Option (Bool) :=
  ((AJ a0)).bind fun x0 =>
  some (!x0)
noncomputable def R4 : Ent := ⟨Ls, fun x => EE x⟩
noncomputable def Q2 : TX := ⟨tyTab, codTab, [], [4], [BG], Ls⟩
set_option maxHeartbeats 2000000 in
theorem Xh (a0 : List ((Bool × List (Int)))) : wtF Q2 Tryz.f124 (a0) = EE a0 := by kernel_rfl
theorem WV : EntOK RR R4 := Ab (X := Q2) ⟨tyOK, boolOK, eqOK⟩ (Ad (by exact ⟨⟨Dz, rfl⟩, trivial⟩)) (Ae (by kernel_rfl)) ⟨Tryz.func124, rfl, by kernel_rfl, rfl⟩ (fun x => by exact Xh x)
noncomputable def AY (a0 : (Bool × (List Int))) : Option (Int) :=
  bif ((((List.length a0.2) : Nat) : Int) == (0 : Int)) then
    some (0 : Int)
  else
  bif a0.1 then
    some (-(1 : Int))
  else
  some (1 : Int)
noncomputable def H7 : Ent := ⟨It, fun x => AY x⟩
noncomputable def Mu : TX := ⟨tyTab, codTab, [], [4], [], It⟩
set_option maxHeartbeats 2000000 in
theorem U7 (a0 : (Bool × List (Int))) : wtF Mu Tryz.f125 (a0) = AY a0 := by kernel_rfl
theorem KK : EntOK RR H7 := Ab (X := Mu) ⟨tyOK, boolOK, eqOK⟩ (Ad (by exact trivial)) (Ae (by kernel_rfl)) ⟨Tryz.func125, rfl, by kernel_rfl, rfl⟩ (fun x => by exact U7 x)
noncomputable def CB (a0 : Int) : Option (Bool) :=
  some (a0 != a0)
noncomputable def IC : Ent := ⟨Fx, fun x => CB x⟩
noncomputable def IJ : TX := ⟨tyTab, codTab, [], [4], [], Fx⟩
set_option maxHeartbeats 2000000 in
theorem Pd (a0 : Int) : wtF IJ Tryz.f283 (a0) = CB a0 := by kernel_rfl
theorem MF : EntOK RR IC := Ab (X := IJ) ⟨tyOK, boolOK, eqOK⟩ (Ad (by exact trivial)) (Ae (by kernel_rfl)) ⟨Tryz.func283, rfl, by kernel_rfl, rfl⟩ (fun x => by exact Pd x)
noncomputable def A6 (a0 : Int) (a1 : Int) : Option (Int) :=
  ((CB a0)).bind fun x0 =>
  ((CB a1)).bind fun x1 =>
  bif x0 then
    bif x1 then
      some (0 : Int)
    else
    some (-(1 : Int))
  else
  bif x1 then
    some (1 : Int)
  else
  bif decide (a0 < a1) then
    some (-(1 : Int))
  else
  bif decide (a0 > a1) then
    some (1 : Int)
  else
  some (0 : Int)
noncomputable def Ep : Ent := ⟨Ej, fun x => A6 x.1 x.2⟩
noncomputable def G4 : TX := ⟨tyTab, codTab, [], [4], [IC], Ej⟩
set_option maxHeartbeats 2000000 in
theorem LM (a0 : Int) (a1 : Int) : wtF G4 Tryz.f239 (a0, a1) = A6 a0 a1 := by kernel_rfl
theorem F2 : EntOK RR Ep := Ab (X := G4) ⟨tyOK, boolOK, eqOK⟩ (Ad (by exact ⟨⟨MF, rfl⟩, trivial⟩)) (Ae (by kernel_rfl)) ⟨Tryz.func239, rfl, by kernel_rfl, rfl⟩ (fun x => by exact LM x.1 x.2)
noncomputable def AG (s0 : (List Int)) (s1 : (List Int)) (s2 : Int) : Option (((List Int) × ((List Int) × Int)) ⊕ (Unit ⊕ Int)) :=
  bif decide (s2 ≥ (0 : Int)) then
    ((getI s0 s2)).bind fun x0 =>
    ((getI s1 s2)).bind fun x1 =>
    bif (x0 != x1) then
      ((getI s0 s2)).bind fun x2 =>
      ((getI s1 s2)).bind fun x3 =>
      ((A6 x2 x3)).bind fun x4 =>
      some (Sum.inr (Sum.inr x4))
    else
    some (Sum.inl (s0, (s1, (Go.IntKind.wrap Go.IntKind.i64 (s2 - (1 : Int))))))
  else
  some (Sum.inr (Sum.inl ()))
noncomputable def A3 (a0 : (List Int)) (a1 : (List Int)) : Option (Int) :=
  bif ((((List.length a0) : Nat) : Int) != (((List.length a1) : Nat) : Int)) then
    ((A6 (((List.length a0) : Nat) : Int) (((List.length a1) : Nat) : Int))).bind fun x0 =>
    some x0
  else
  (loopM (fun (s : ((List Int) × ((List Int) × Int))) => AG s.1 s.2.1 s.2.2) (a0, (a1, (Go.IntKind.wrap Go.IntKind.i64 ((((List.length a0) : Nat) : Int) - (1 : Int)))))).bind fun x1 =>
  Sum.elim
    (fun x2 =>
    some (0 : Int))
    (fun x3 =>
    some x3)
    x1
noncomputable def Dq : Ent := ⟨EN, fun x => A3 x.1 x.2⟩
noncomputable def Hj : TX := ⟨tyTab, codTab, [], [4], [Ep], EN⟩
set_option maxHeartbeats 2000000 in
theorem NK (a0 : List (Int)) (a1 : List (Int)) : wtF Hj Tryz.f139 (a0, a1) = A3 a0 a1 := by kernel_rfl
theorem Es : EntOK RR Dq := Ab (X := Hj) ⟨tyOK, boolOK, eqOK⟩ (Ad (by exact ⟨⟨F2, rfl⟩, trivial⟩)) (Ae (by kernel_rfl)) ⟨Tryz.func139, rfl, by kernel_rfl, rfl⟩ (fun x => by exact NK x.1 x.2)
noncomputable def Kv (s0 : (List Int)) (s1 : Int) : Option (((List Int) × Int) ⊕ ((List Int) × Int)) :=
  bif decide (s1 > (0 : Int)) then
    ((getI s0 (Go.IntKind.wrap Go.IntKind.i64 (s1 - (1 : Int))))).bind fun x0 =>
    bif (x0 == (0 : Int)) then
      some (Sum.inl (s0, (Go.IntKind.wrap Go.IntKind.i64 (s1 - (1 : Int)))))
    else
    some (Sum.inr (s0, s1))
  else
  some (Sum.inr (s0, s1))
noncomputable def E7 (a0 : (List Int)) : Option (List (Int)) :=
  (loopM (fun (s : ((List Int) × Int)) => Kv s.1 s.2) (a0, (((List.length a0) : Nat) : Int))).bind fun x0 =>
  ((subI (0 : Int) x0.2 (List.length x0.1))).bind fun x1 =>
  some (List.drop x1.1 (List.take x1.2 x0.1))
noncomputable def LJ : Ent := ⟨Uz, fun x => E7 x⟩
noncomputable def Y1 : TX := ⟨tyTab, codTab, [], [4], [], Uz⟩
set_option maxHeartbeats 2000000 in
theorem Ao3 (a0 : List (Int)) : wtF Y1 Tryz.f278 (a0) = E7 a0 := by kernel_rfl
theorem Mo : EntOK RR LJ := Ab (X := Y1) ⟨tyOK, boolOK, eqOK⟩ (Ad (by exact trivial)) (Ae (by kernel_rfl)) ⟨Tryz.func278, rfl, by kernel_rfl, rfl⟩ (fun x => by exact Ao3 x)
noncomputable def CQ (s0 : (List Int)) (s1 : (List Int)) (s2 : Int) (s3 : Int) (s4 : Int) : Option (((List Int) × ((List Int) × (Int × (Int × Int)))) ⊕ ((List Int) × Int)) :=
  bif decide (s4 ≥ (0 : Int)) then
    ((getI s1 s4)).bind fun x0 =>
    bif (s2 == (0 : Int)) then
      none
    else
    ((idxI s4 (List.length s0))).bind fun x1 =>
    ((getN s0 x1)).bind fun x2 =>
    bif (s2 == (0 : Int)) then
      none
    else
    some (Sum.inl ((List.set s0 x1 (Go.IntKind.wrap Go.IntKind.i64 (Int.tdiv (Go.IntKind.wrap Go.IntKind.i64 ((Go.IntKind.wrap Go.IntKind.i64 (s3 * (65536 : Int))) + x0)) s2))), (s1, (s2, ((Int.tmod (Go.IntKind.wrap Go.IntKind.i64 ((Go.IntKind.wrap Go.IntKind.i64 (s3 * (65536 : Int))) + x0)) s2), (Go.IntKind.wrap Go.IntKind.i64 (s4 - (1 : Int))))))))
  else
  some (Sum.inr (s0, s3))
noncomputable def Dp (a0 : (List Int)) (a1 : Int) : Option (List (Int) × Int) :=
  ((lenI (((List.length a0) : Nat) : Int) 8 1)).bind fun x0 =>
  (loopM (fun (s : ((List Int) × ((List Int) × (Int × (Int × Int))))) => CQ s.1 s.2.1 s.2.2.1 s.2.2.2.1 s.2.2.2.2) ((List.replicate x0 (0 : Int)), (a0, (a1, ((0 : Int), (Go.IntKind.wrap Go.IntKind.i64 ((((List.length a0) : Nat) : Int) - (1 : Int)))))))).bind fun x1 =>
  ((E7 x1.1)).bind fun x2 =>
  some (x2, x1.2)
noncomputable def Mn : Ent := ⟨Ib, fun x => Dp x.1 x.2⟩
noncomputable def L0 : TX := ⟨tyTab, codTab, [], [4], [LJ], Ib⟩
set_option maxHeartbeats 2000000 in
theorem UW (a0 : List (Int)) (a1 : Int) : wtF L0 Tryz.f296 (a0, a1) = Dp a0 a1 := by kernel_rfl
theorem Sx : EntOK RR Mn := Ab (X := L0) ⟨tyOK, boolOK, eqOK⟩ (Ad (by exact ⟨⟨Mo, rfl⟩, trivial⟩)) (Ae (by kernel_rfl)) ⟨Tryz.func296, rfl, by kernel_rfl, rfl⟩ (fun x => by exact UW x.1 x.2)
noncomputable def A8 (a0 : (List Int)) : Option (List (Int)) :=
  ((neL a0)).bind fun x0 =>
  bif (roomI (List.length a0) 8 1) then
    some a0
  else
  none
noncomputable def GC : Ent := ⟨A1, fun x => A8 x⟩
noncomputable def D0 : TX := ⟨tyTab, codTab, [], [4], [], A1⟩
set_option maxHeartbeats 2000000 in
theorem Hs (a0 : List (Int)) : wtF D0 Tryz.f277 a0 = A8 a0 := by kernel_rfl
theorem GP : EntOK (Runs Tryz.prog cfC noExt) GC := Ab (X := D0) ⟨tyOK, boolOK, eqOK⟩ (Ai3 rfl) (Ae (by kernel_rfl)) ⟨Tryz.func277, rfl, by kernel_rfl, rfl⟩ (fun x => by exact Hs x)
noncomputable def A2 (a0 : List (Int)) : Option (List (Int)) := orNil A8 a0
noncomputable def Cb : Ent := ⟨A1, fun x => A2 x⟩
theorem Dw : EntOK RR Cb := Aa1 GP (.head _)
noncomputable def AP (a0 : Bool) (a1 : (List Int)) : Option (List (Int) × (Bool)) :=
  ((E7 a1)).bind fun x0 =>
  ((A2 x0)).bind fun x1 =>
  bif a0 then
    some (x1, decide ((((List.length x1) : Nat) : Int) > (0 : Int)))
  else
  some (x1, false)
noncomputable def Dm : Ent := ⟨NM, fun x => AP x.1 x.2⟩
noncomputable def Tt : TX := ⟨tyTab, codTab, [], [4], [LJ, Cb], NM⟩
set_option maxHeartbeats 2000000 in
theorem Ad5 (a0 : Bool) (a1 : List (Int)) : wtF Tt Tryz.f223 (a0, a1) = AP a0 a1 := by kernel_rfl
theorem C3 : EntOK RR Dm := Ab (X := Tt) ⟨tyOK, boolOK, eqOK⟩ (Ad (by exact ⟨⟨Mo, rfl⟩, ⟨⟨Dw, rfl⟩, trivial⟩⟩)) (Ae (by kernel_rfl)) ⟨Tryz.func223, rfl, by kernel_rfl, rfl⟩ (fun x => by exact Ad5 x.1 x.2)
noncomputable def GR (s0 : (Bool × (List Int))) (s1 : (List Int)) (s2 : Bool) (s3 : Int) : Option (((Bool × (List Int)) × ((List Int) × (Bool × Int))) ⊕ ((Bool × (List Int)) × ((List Int) × Bool))) :=
  bif decide (s3 > (0 : Int)) then
    ((appL 8 1 s1 (List.cons (Go.IntKind.wrap Go.IntKind.i64 (Int.tmod s3 (65536 : Int))) (List.nil : List Int)))).bind fun x0 =>
    some (Sum.inl ((s0.1, s0.2), (x0, (s2, (Go.IntKind.wrap Go.IntKind.u64 (Int.tdiv s3 (65536 : Int)))))))
  else
  some (Sum.inr ((s0.1, s0.2), (s1, s2)))
noncomputable def BS (a0 : Int) : Option ((Bool × List (Int))) :=
  (bif decide (a0 < (0 : Int)) then
      some (Sum.inr ((false, (List.nil : List Int)), (decide (a0 < (0 : Int)), (Go.IntKind.wrap Go.IntKind.u64 ((0 : Int) - (Go.IntKind.wrap Go.IntKind.u64 a0))))))
    else
    some (Sum.inr ((false, (List.nil : List Int)), (decide (a0 < (0 : Int)), (Go.IntKind.wrap Go.IntKind.u64 a0))))).bind fun x0 =>
  Sum.elim
    (fun x1 =>
    some x1)
    (fun x2 =>
    (loopM (fun (s : ((Bool × (List Int)) × ((List Int) × (Bool × Int)))) => GR s.1 s.2.1 s.2.2.1 s.2.2.2) ((x2.1.1, x2.1.2), ((List.nil : List Int), (x2.2.1, x2.2.2)))).bind fun x3 =>
    some (x3.2.2, x3.2.1))
    x0
noncomputable def Hi : Ent := ⟨Np, fun x => BS x⟩
noncomputable def S2 : TX := ⟨tyTab, codTab, [], [4], [], Np⟩
set_option maxHeartbeats 2000000 in
theorem Ad0 (a0 : Int) : wtF S2 Tryz.f25 (a0) = BS a0 := by kernel_rfl
theorem Il : EntOK RR Hi := Ab (X := S2) ⟨tyOK, boolOK, eqOK⟩ (Ad (by exact trivial)) (Ae (by kernel_rfl)) ⟨Tryz.func25, rfl, by kernel_rfl, rfl⟩ (fun x => by exact Ad0 x)
noncomputable def Dy (s0 : (Bool × (List Int))) (s1 : (Bool × (List Int))) (s2 : (Bool × (List Int))) (s3 : (List Int)) (s4 : Int) (s5 : Int) (s6 : Int) (s7 : (List Int)) (s8 : Int) (s9 : Int) (s10 : (List Int)) (s11 : Int) (s12 : Int) : Option (((Bool × (List Int)) × ((Bool × (List Int)) × ((Bool × (List Int)) × ((List Int) × (Int × (Int × (Int × ((List Int) × (Int × (Int × ((List Int) × (Int × Int)))))))))))) ⊕ ((Bool × (List Int)) × ((Bool × (List Int)) × ((Bool × (List Int)) × ((List Int) × (Int × (Int × ((List Int) × (Int × Int))))))))) :=
  bif decide (s12 < s11) then
    ((getI s10 s12)).bind fun x0 =>
    ((idxI (Go.IntKind.wrap Go.IntKind.i64 (s4 + s12)) (List.length s3))).bind fun x1 =>
    ((getN s3 x1)).bind fun x2 =>
    ((idxI (Go.IntKind.wrap Go.IntKind.i64 (s4 + s12)) (List.length s3))).bind fun x3 =>
    ((getN s3 x3)).bind fun x4 =>
    some (Sum.inl ((s0.1, s0.2), ((s1.1, s1.2), ((s2.1, s2.2), ((List.set s3 x3 (Int.tmod (Go.IntKind.wrap Go.IntKind.i64 (s6 + (Go.IntKind.wrap Go.IntKind.i64 (x2 + (Go.IntKind.wrap Go.IntKind.i64 (s5 * x0)))))) (65536 : Int))), (s4, (s5, ((Go.IntKind.wrap Go.IntKind.i64 (Int.tdiv (Go.IntKind.wrap Go.IntKind.i64 (s6 + (Go.IntKind.wrap Go.IntKind.i64 (x2 + (Go.IntKind.wrap Go.IntKind.i64 (s5 * x0)))))) (65536 : Int))), (s7, (s8, (s9, (s10, (s11, (Go.IntKind.wrap Go.IntKind.i64 (s12 + (1 : Int))))))))))))))))
  else
  some (Sum.inr ((s0.1, s0.2), ((s1.1, s1.2), ((s2.1, s2.2), (s3, (s4, (s6, (s7, (s8, s9)))))))))
noncomputable def EY (s0 : (Bool × (List Int))) (s1 : (Bool × (List Int))) (s2 : (Bool × (List Int))) (s3 : (List Int)) (s4 : (List Int)) (s5 : Int) (s6 : Int) : Option (((Bool × (List Int)) × ((Bool × (List Int)) × ((Bool × (List Int)) × ((List Int) × ((List Int) × (Int × Int)))))) ⊕ ((Bool × (List Int)) × ((Bool × (List Int)) × ((Bool × (List Int)) × (List Int))))) :=
  bif decide (s6 < s5) then
    ((getI s4 s6)).bind fun x0 =>
    (loopM (fun (s : ((Bool × (List Int)) × ((Bool × (List Int)) × ((Bool × (List Int)) × ((List Int) × (Int × (Int × (Int × ((List Int) × (Int × (Int × ((List Int) × (Int × Int))))))))))))) => Dy s.1 s.2.1 s.2.2.1 s.2.2.2.1 s.2.2.2.2.1 s.2.2.2.2.2.1 s.2.2.2.2.2.2.1 s.2.2.2.2.2.2.2.1 s.2.2.2.2.2.2.2.2.1 s.2.2.2.2.2.2.2.2.2.1 s.2.2.2.2.2.2.2.2.2.2.1 s.2.2.2.2.2.2.2.2.2.2.2.1 s.2.2.2.2.2.2.2.2.2.2.2.2) ((s0.1, s0.2), ((s1.1, s1.2), ((s2.1, s2.2), (s3, (s6, (x0, ((0 : Int), (s4, (s5, (s6, (s1.2, ((((List.length s1.2) : Nat) : Int), (0 : Int)))))))))))))).bind fun x1 =>
    ((idxI (Go.IntKind.wrap Go.IntKind.i64 (x1.2.2.2.2.1 + (((List.length x1.2.1.2) : Nat) : Int))) (List.length x1.2.2.2.1))).bind fun x2 =>
    ((getN x1.2.2.2.1 x2)).bind fun x3 =>
    ((idxI (Go.IntKind.wrap Go.IntKind.i64 (x1.2.2.2.2.1 + (((List.length x1.2.1.2) : Nat) : Int))) (List.length x1.2.2.2.1))).bind fun x4 =>
    ((getN x1.2.2.2.1 x4)).bind fun x5 =>
    some (Sum.inl ((x1.1.1, x1.1.2), ((x1.2.1.1, x1.2.1.2), ((x1.2.2.1.1, x1.2.2.1.2), ((List.set x1.2.2.2.1 x4 (Go.IntKind.wrap Go.IntKind.i64 (x3 + x1.2.2.2.2.2.1))), (x1.2.2.2.2.2.2.1, (x1.2.2.2.2.2.2.2.1, (Go.IntKind.wrap Go.IntKind.i64 (x1.2.2.2.2.2.2.2.2 + (1 : Int))))))))))
  else
  some (Sum.inr ((s0.1, s0.2), ((s1.1, s1.2), ((s2.1, s2.2), s3))))
noncomputable def AR (a0 : (Bool × (List Int))) (a1 : (Bool × (List Int))) : Option (List (Int) × (Bool)) :=
  ((lenI (Go.IntKind.wrap Go.IntKind.i64 ((((List.length a0.2) : Nat) : Int) + (((List.length a1.2) : Nat) : Int))) 8 1)).bind fun x0 =>
  (loopM (fun (s : ((Bool × (List Int)) × ((Bool × (List Int)) × ((Bool × (List Int)) × ((List Int) × ((List Int) × (Int × Int))))))) => EY s.1 s.2.1 s.2.2.1 s.2.2.2.1 s.2.2.2.2.1 s.2.2.2.2.2.1 s.2.2.2.2.2.2) ((a0.1, a0.2), ((a1.1, a1.2), ((false, (List.nil : List Int)), ((List.replicate x0 (0 : Int)), (a0.2, ((((List.length a0.2) : Nat) : Int), (0 : Int)))))))).bind fun x1 =>
  ((AP (!(x1.1.1 == x1.2.1.1)) x1.2.2.2)).bind fun x2 =>
  some (x2.1, x2.2)
noncomputable def D7 : Ent := ⟨JQ, fun x => AR x.1 x.2⟩
noncomputable def Ot : TX := ⟨tyTab, codTab, [], [4], [Dm], JQ⟩
set_option maxHeartbeats 2000000 in
theorem Wn (a0 : (Bool × List (Int))) (a1 : (Bool × List (Int))) : wtF Ot Tryz.f224 (a0, a1) = AR a0 a1 := by kernel_rfl
theorem Ew : EntOK RR D7 := Ab (X := Ot) ⟨tyOK, boolOK, eqOK⟩ (Ad (by exact ⟨⟨C3, rfl⟩, trivial⟩)) (Ae (by kernel_rfl)) ⟨Tryz.func224, rfl, by kernel_rfl, rfl⟩ (fun x => by exact Wn x.1 x.2)
noncomputable def JT (s0 : (List Int)) (s1 : (List Int)) (s2 : (List Int)) (s3 : Int) (s4 : Int) : Option (((List Int) × ((List Int) × ((List Int) × (Int × Int)))) ⊕ ((List Int) × ((List Int) × (Int × Int)))) :=
  bif decide ((((List.length s0) : Nat) : Int) < (Go.IntKind.wrap Go.IntKind.i64 ((((List.length s2) : Nat) : Int) + (1 : Int)))) then
    ((appL 8 1 s0 (List.cons (0 : Int) (List.nil : List Int)))).bind fun x0 =>
    some (Sum.inl (x0, (s1, (s2, (s3, s4)))))
  else
  some (Sum.inr (s0, (s1, (s3, s4))))
noncomputable def BO (s0 : (List Int)) (s1 : (List Int)) (s2 : (List Int)) (s3 : Int) (s4 : Int) (s5 : Int) (s6 : Int) (s7 : Int) : Option (((List Int) × ((List Int) × ((List Int) × (Int × (Int × (Int × (Int × Int))))))) ⊕ ((List Int) × ((List Int) × ((List Int) × (Int × (Int × (Int × Int))))))) :=
  (bif decide (s6 ≥ (65536 : Int)) then
      some (Sum.inr (s0, (s1, (s2, (s3, (s4, (s5, (s6, s7))))))))
    else
    bif decide (s7 < (65536 : Int)) then
      ((idxI (Go.IntKind.wrap Go.IntKind.i64 (s3 - (2 : Int))) (List.length s1))).bind fun x0 =>
      ((getN s1 x0)).bind fun x1 =>
      ((idxI (Go.IntKind.wrap Go.IntKind.i64 ((Go.IntKind.wrap Go.IntKind.i64 (s5 + s3)) - (2 : Int))) (List.length s0))).bind fun x2 =>
      ((getN s0 x2)).bind fun x3 =>
      bif decide ((Go.IntKind.wrap Go.IntKind.i64 (s6 * x1)) > (Go.IntKind.wrap Go.IntKind.i64 ((Go.IntKind.wrap Go.IntKind.i64 (s7 * (65536 : Int))) + x3))) then
        some (Sum.inr (s0, (s1, (s2, (s3, (s4, (s5, (s6, s7))))))))
      else
      some (Sum.inl (Sum.inr (s0, (s1, (s2, (s3, (s4, (s5, s6))))))))
    else
    some (Sum.inl (Sum.inr (s0, (s1, (s2, (s3, (s4, (s5, s6))))))))).bind fun x4 =>
  Sum.elim
    (fun x5 =>
    some x5)
    (fun x6 =>
    ((idxI (Go.IntKind.wrap Go.IntKind.i64 (x6.2.2.2.1 - (1 : Int))) (List.length x6.2.1))).bind fun x7 =>
    ((getN x6.2.1 x7)).bind fun x8 =>
    some (Sum.inl (x6.1, (x6.2.1, (x6.2.2.1, (x6.2.2.2.1, (x6.2.2.2.2.1, (x6.2.2.2.2.2.1, ((Go.IntKind.wrap Go.IntKind.i64 (x6.2.2.2.2.2.2.1 - (1 : Int))), (Go.IntKind.wrap Go.IntKind.i64 (x6.2.2.2.2.2.2.2 + x8)))))))))))
    x4
noncomputable def C9 (s0 : (List Int)) (s1 : (List Int)) (s2 : (List Int)) (s3 : Int) (s4 : Int) (s5 : Int) (s6 : Int) (s7 : Int) (s8 : Int) (s9 : Int) : Option (((List Int) × ((List Int) × ((List Int) × (Int × (Int × (Int × (Int × (Int × (Int × Int))))))))) ⊕ ((List Int) × ((List Int) × ((List Int) × (Int × (Int × (Int × (Int × Int)))))))) :=
  bif decide (s9 < s8) then
    ((idxI (Go.IntKind.wrap Go.IntKind.i64 (s5 + s9)) (List.length s0))).bind fun x0 =>
    ((getN s0 x0)).bind fun x1 =>
    ((idxI s9 (List.length s1))).bind fun x2 =>
    ((getN s1 x2)).bind fun x3 =>
    (bif decide ((Go.IntKind.wrap Go.IntKind.i64 ((Go.IntKind.wrap Go.IntKind.i64 (x1 - (Go.IntKind.wrap Go.IntKind.i64 (s6 * x3)))) - s7)) < (0 : Int)) then
        some (Sum.inr (s0, (s1, (s2, (s3, (s4, (s5, (s6, ((Go.IntKind.wrap Go.IntKind.i64 (Int.tdiv (Go.IntKind.wrap Go.IntKind.i64 ((Go.IntKind.wrap Go.IntKind.i64 ((Go.IntKind.wrap Go.IntKind.i64 ((0 : Int) - (Go.IntKind.wrap Go.IntKind.i64 ((Go.IntKind.wrap Go.IntKind.i64 (x1 - (Go.IntKind.wrap Go.IntKind.i64 (s6 * x3)))) - s7)))) + (65536 : Int))) - (1 : Int))) (65536 : Int))), (s9, ((Go.IntKind.wrap Go.IntKind.i64 ((Go.IntKind.wrap Go.IntKind.i64 ((Go.IntKind.wrap Go.IntKind.i64 (x1 - (Go.IntKind.wrap Go.IntKind.i64 (s6 * x3)))) - s7)) + (Go.IntKind.wrap Go.IntKind.i64 ((Go.IntKind.wrap Go.IntKind.i64 (Int.tdiv (Go.IntKind.wrap Go.IntKind.i64 ((Go.IntKind.wrap Go.IntKind.i64 ((Go.IntKind.wrap Go.IntKind.i64 ((0 : Int) - (Go.IntKind.wrap Go.IntKind.i64 ((Go.IntKind.wrap Go.IntKind.i64 (x1 - (Go.IntKind.wrap Go.IntKind.i64 (s6 * x3)))) - s7)))) + (65536 : Int))) - (1 : Int))) (65536 : Int))) * (65536 : Int))))), (s8, s9))))))))))))
      else
      some (Sum.inr (s0, (s1, (s2, (s3, (s4, (s5, (s6, ((0 : Int), (s9, ((Go.IntKind.wrap Go.IntKind.i64 ((Go.IntKind.wrap Go.IntKind.i64 (x1 - (Go.IntKind.wrap Go.IntKind.i64 (s6 * x3)))) - s7)), (s8, s9))))))))))))).bind fun x4 =>
    Sum.elim
      (fun x5 =>
      some x5)
      (fun x6 =>
      ((idxI (Go.IntKind.wrap Go.IntKind.i64 (x6.2.2.2.2.2.1 + x6.2.2.2.2.2.2.2.2.1)) (List.length x6.1))).bind fun x7 =>
      ((getN x6.1 x7)).bind fun x8 =>
      some (Sum.inl ((List.set x6.1 x7 x6.2.2.2.2.2.2.2.2.2.1), (x6.2.1, (x6.2.2.1, (x6.2.2.2.1, (x6.2.2.2.2.1, (x6.2.2.2.2.2.1, (x6.2.2.2.2.2.2.1, (x6.2.2.2.2.2.2.2.1, (x6.2.2.2.2.2.2.2.2.2.2.1, (Go.IntKind.wrap Go.IntKind.i64 (x6.2.2.2.2.2.2.2.2.2.2.2 + (1 : Int))))))))))))))
      x4
  else
  some (Sum.inr (s0, (s1, (s2, (s3, (s4, (s5, (s6, s7))))))))
noncomputable def C5 (s0 : (List Int)) (s1 : (List Int)) (s2 : (List Int)) (s3 : Int) (s4 : Int) (s5 : Int) (s6 : Int) (s7 : Int) (s8 : Int) (s9 : Int) : Option (((List Int) × ((List Int) × ((List Int) × (Int × (Int × (Int × (Int × (Int × (Int × Int))))))))) ⊕ ((List Int) × ((List Int) × ((List Int) × (Int × (Int × (Int × (Int × Int)))))))) :=
  bif decide (s9 < s8) then
    ((idxI (Go.IntKind.wrap Go.IntKind.i64 (s5 + s9)) (List.length s0))).bind fun x0 =>
    ((getN s0 x0)).bind fun x1 =>
    ((idxI s9 (List.length s1))).bind fun x2 =>
    ((getN s1 x2)).bind fun x3 =>
    ((idxI (Go.IntKind.wrap Go.IntKind.i64 (s5 + s9)) (List.length s0))).bind fun x4 =>
    ((getN s0 x4)).bind fun x5 =>
    some (Sum.inl ((List.set s0 x4 (Int.tmod (Go.IntKind.wrap Go.IntKind.i64 (s7 + (Go.IntKind.wrap Go.IntKind.i64 (x1 + x3)))) (65536 : Int))), (s1, (s2, (s3, (s4, (s5, (s6, ((Go.IntKind.wrap Go.IntKind.i64 (Int.tdiv (Go.IntKind.wrap Go.IntKind.i64 (s7 + (Go.IntKind.wrap Go.IntKind.i64 (x1 + x3)))) (65536 : Int))), (s8, (Go.IntKind.wrap Go.IntKind.i64 (s9 + (1 : Int)))))))))))))
  else
  some (Sum.inr (s0, (s1, (s2, (s3, (s4, (s5, (s6, s7))))))))
noncomputable def BM (s0 : (List Int)) (s1 : (List Int)) (s2 : (List Int)) (s3 : Int) (s4 : Int) (s5 : Int) : Option (((List Int) × ((List Int) × ((List Int) × (Int × (Int × Int))))) ⊕ ((List Int) × ((List Int) × (Int × Int)))) :=
  bif decide (s5 ≥ (0 : Int)) then
    ((idxI (Go.IntKind.wrap Go.IntKind.i64 (s5 + s3)) (List.length s0))).bind fun x0 =>
    ((getN s0 x0)).bind fun x1 =>
    ((idxI (Go.IntKind.wrap Go.IntKind.i64 ((Go.IntKind.wrap Go.IntKind.i64 (s5 + s3)) - (1 : Int))) (List.length s0))).bind fun x2 =>
    ((getN s0 x2)).bind fun x3 =>
    ((idxI (Go.IntKind.wrap Go.IntKind.i64 (s3 - (1 : Int))) (List.length s1))).bind fun x4 =>
    ((getN s1 x4)).bind fun x5 =>
    bif (x5 == (0 : Int)) then
      none
    else
    ((idxI (Go.IntKind.wrap Go.IntKind.i64 (s3 - (1 : Int))) (List.length s1))).bind fun x6 =>
    ((getN s1 x6)).bind fun x7 =>
    bif (x7 == (0 : Int)) then
      none
    else
    (loopM (fun (s : ((List Int) × ((List Int) × ((List Int) × (Int × (Int × (Int × (Int × Int)))))))) => BO s.1 s.2.1 s.2.2.1 s.2.2.2.1 s.2.2.2.2.1 s.2.2.2.2.2.1 s.2.2.2.2.2.2.1 s.2.2.2.2.2.2.2) (s0, (s1, (s2, (s3, (s4, (s5, ((Go.IntKind.wrap Go.IntKind.i64 (Int.tdiv (Go.IntKind.wrap Go.IntKind.i64 ((Go.IntKind.wrap Go.IntKind.i64 (x1 * (65536 : Int))) + x3)) x5)), (Int.tmod (Go.IntKind.wrap Go.IntKind.i64 ((Go.IntKind.wrap Go.IntKind.i64 (x1 * (65536 : Int))) + x3)) x7))))))))).bind fun x8 =>
    (loopM (fun (s : ((List Int) × ((List Int) × ((List Int) × (Int × (Int × (Int × (Int × (Int × (Int × Int)))))))))) => C9 s.1 s.2.1 s.2.2.1 s.2.2.2.1 s.2.2.2.2.1 s.2.2.2.2.2.1 s.2.2.2.2.2.2.1 s.2.2.2.2.2.2.2.1 s.2.2.2.2.2.2.2.2.1 s.2.2.2.2.2.2.2.2.2) (x8.1, (x8.2.1, (x8.2.2.1, (x8.2.2.2.1, (x8.2.2.2.2.1, (x8.2.2.2.2.2.1, (x8.2.2.2.2.2.2, ((0 : Int), (x8.2.2.2.1, (0 : Int))))))))))).bind fun x9 =>
    ((idxI (Go.IntKind.wrap Go.IntKind.i64 (x9.2.2.2.2.2.1 + x9.2.2.2.1)) (List.length x9.1))).bind fun x10 =>
    ((getN x9.1 x10)).bind fun x11 =>
    ((idxI (Go.IntKind.wrap Go.IntKind.i64 (x9.2.2.2.2.2.1 + x9.2.2.2.1)) (List.length x9.1))).bind fun x12 =>
    ((getN x9.1 x12)).bind fun x13 =>
    ((idxI (Go.IntKind.wrap Go.IntKind.i64 (x9.2.2.2.2.2.1 + x9.2.2.2.1)) (List.length (List.set x9.1 x12 (Go.IntKind.wrap Go.IntKind.i64 (x11 - x9.2.2.2.2.2.2.2)))))).bind fun x14 =>
    ((getN (List.set x9.1 x12 (Go.IntKind.wrap Go.IntKind.i64 (x11 - x9.2.2.2.2.2.2.2))) x14)).bind fun x15 =>
    bif decide (x15 < (0 : Int)) then
      (loopM (fun (s : ((List Int) × ((List Int) × ((List Int) × (Int × (Int × (Int × (Int × (Int × (Int × Int)))))))))) => C5 s.1 s.2.1 s.2.2.1 s.2.2.2.1 s.2.2.2.2.1 s.2.2.2.2.2.1 s.2.2.2.2.2.2.1 s.2.2.2.2.2.2.2.1 s.2.2.2.2.2.2.2.2.1 s.2.2.2.2.2.2.2.2.2) ((List.set x9.1 x12 (Go.IntKind.wrap Go.IntKind.i64 (x11 - x9.2.2.2.2.2.2.2))), (x9.2.1, (x9.2.2.1, (x9.2.2.2.1, (x9.2.2.2.2.1, (x9.2.2.2.2.2.1, ((Go.IntKind.wrap Go.IntKind.i64 (x9.2.2.2.2.2.2.1 - (1 : Int))), ((0 : Int), (x9.2.2.2.1, (0 : Int))))))))))).bind fun x16 =>
      ((idxI (Go.IntKind.wrap Go.IntKind.i64 (x16.2.2.2.2.2.1 + x16.2.2.2.1)) (List.length x16.1))).bind fun x17 =>
      ((getN x16.1 x17)).bind fun x18 =>
      ((idxI (Go.IntKind.wrap Go.IntKind.i64 (x16.2.2.2.2.2.1 + x16.2.2.2.1)) (List.length x16.1))).bind fun x19 =>
      ((getN x16.1 x19)).bind fun x20 =>
      ((idxI x16.2.2.2.2.2.1 (List.length x16.2.2.1))).bind fun x21 =>
      ((getN x16.2.2.1 x21)).bind fun x22 =>
      some (Sum.inl ((List.set x16.1 x19 (Go.IntKind.wrap Go.IntKind.i64 (x18 + x16.2.2.2.2.2.2.2))), (x16.2.1, ((List.set x16.2.2.1 x21 x16.2.2.2.2.2.2.1), (x16.2.2.2.1, (x16.2.2.2.2.1, (Go.IntKind.wrap Go.IntKind.i64 (x16.2.2.2.2.2.1 - (1 : Int)))))))))
    else
    ((idxI x9.2.2.2.2.2.1 (List.length x9.2.2.1))).bind fun x23 =>
    ((getN x9.2.2.1 x23)).bind fun x24 =>
    some (Sum.inl ((List.set x9.1 x12 (Go.IntKind.wrap Go.IntKind.i64 (x11 - x9.2.2.2.2.2.2.2))), (x9.2.1, ((List.set x9.2.2.1 x23 x9.2.2.2.2.2.2.1), (x9.2.2.2.1, (x9.2.2.2.2.1, (Go.IntKind.wrap Go.IntKind.i64 (x9.2.2.2.2.2.1 - (1 : Int)))))))))
  else
  some (Sum.inr (s0, (s2, (s3, s4))))
noncomputable def Df (a0 : (List Int)) (a1 : (List Int)) : Option (List (Int) × List (Int)) :=
  ((A3 a0 a1)).bind fun x0 =>
  bif decide (x0 < (0 : Int)) then
    some ((List.nil : List Int), a0)
  else
  bif ((((List.length a1) : Nat) : Int) == (1 : Int)) then
    ((getI a1 (0 : Int))).bind fun x1 =>
    ((Dp a0 x1)).bind fun x2 =>
    ((E7 (List.cons x2.2 (List.nil : List Int)))).bind fun x3 =>
    some (x2.1, x3)
  else
  ((getI a1 (Go.IntKind.wrap Go.IntKind.i64 ((((List.length a1) : Nat) : Int) - (1 : Int))))).bind fun x4 =>
  bif ((Go.IntKind.wrap Go.IntKind.i64 (x4 + (1 : Int))) == (0 : Int)) then
    none
  else
  ((AP false a0)).bind fun x5 =>
  ((BS (Go.IntKind.wrap Go.IntKind.i64 (Int.tdiv (65536 : Int) (Go.IntKind.wrap Go.IntKind.i64 (x4 + (1 : Int))))))).bind fun x6 =>
  ((AR (x5.2, x5.1) (x6.1, x6.2))).bind fun x7 =>
  ((appL 8 1 x7.1 (List.cons (0 : Int) (List.nil : List Int)))).bind fun x8 =>
  ((AP false a1)).bind fun x9 =>
  ((BS (Go.IntKind.wrap Go.IntKind.i64 (Int.tdiv (65536 : Int) (Go.IntKind.wrap Go.IntKind.i64 (x4 + (1 : Int))))))).bind fun x10 =>
  ((AR (x9.2, x9.1) (x10.1, x10.2))).bind fun x11 =>
  (loopM (fun (s : ((List Int) × ((List Int) × ((List Int) × (Int × Int))))) => JT s.1 s.2.1 s.2.2.1 s.2.2.2.1 s.2.2.2.2) (x8, (x11.1, (a0, ((((List.length a1) : Nat) : Int), (Go.IntKind.wrap Go.IntKind.i64 (Int.tdiv (65536 : Int) (Go.IntKind.wrap Go.IntKind.i64 (x4 + (1 : Int)))))))))).bind fun x12 =>
  ((lenI (Go.IntKind.wrap Go.IntKind.i64 ((((List.length x12.1) : Nat) : Int) - x12.2.2.1)) 8 1)).bind fun x13 =>
  (loopM (fun (s : ((List Int) × ((List Int) × ((List Int) × (Int × (Int × Int)))))) => BM s.1 s.2.1 s.2.2.1 s.2.2.2.1 s.2.2.2.2.1 s.2.2.2.2.2) (x12.1, (x12.2.1, ((List.replicate x13 (0 : Int)), (x12.2.2.1, (x12.2.2.2, (Go.IntKind.wrap Go.IntKind.i64 ((Go.IntKind.wrap Go.IntKind.i64 ((((List.length x12.1) : Nat) : Int) - x12.2.2.1)) - (1 : Int))))))))).bind fun x14 =>
  ((subI (0 : Int) x14.2.2.1 (List.length x14.1))).bind fun x15 =>
  ((E7 (List.drop x15.1 (List.take (x15.1 + (x15.2 - x15.1)) x14.1)))).bind fun x16 =>
  ((Dp x16 x14.2.2.2)).bind fun x17 =>
  ((E7 x14.2.1)).bind fun x18 =>
  some (x18, x17.1)
noncomputable def Ia : Ent := ⟨HQ, fun x => Df x.1 x.2⟩
noncomputable def LO : TX := ⟨tyTab, codTab, [], [4], [Dq, Mn, LJ, Dm, Hi, D7], HQ⟩
set_option maxHeartbeats 2000000 in
theorem Uw (a0 : List (Int)) (a1 : List (Int)) : wtF LO Tryz.f275 (a0, a1) = Df a0 a1 := by kernel_rfl
theorem KF : EntOK RR Ia := Ab (X := LO) ⟨tyOK, boolOK, eqOK⟩ (Ad (by exact ⟨⟨Es, rfl⟩, ⟨⟨Sx, rfl⟩, ⟨⟨Mo, rfl⟩, ⟨⟨C3, rfl⟩, ⟨⟨Il, rfl⟩, ⟨⟨Ew, rfl⟩, trivial⟩⟩⟩⟩⟩⟩)) (Ae (by kernel_rfl)) ⟨Tryz.func275, rfl, by kernel_rfl, rfl⟩ (fun x => by exact Uw x.1 x.2)
noncomputable def E4 (s0 : (Bool × (List Int))) (s1 : (List Int)) (s2 : (List Int)) : Option (((Bool × (List Int)) × ((List Int) × (List Int))) ⊕ ((Bool × (List Int)) × (List Int))) :=
  bif decide ((((List.length s2) : Nat) : Int) > (0 : Int)) then
    ((Df s1 s2)).bind fun x0 =>
    some (Sum.inl ((s0.1, s0.2), (s2, x0.2)))
  else
  some (Sum.inr ((s0.1, s0.2), s1))
noncomputable def DZ (a0 : (Bool × (List Int))) (a1 : (Bool × (List Int))) : Option ((Bool × List (Int))) :=
  (loopM (fun (s : ((Bool × (List Int)) × ((List Int) × (List Int)))) => E4 s.1 s.2.1 s.2.2) ((false, (List.nil : List Int)), (a0.2, a1.2))).bind fun x0 =>
  ((AP false x0.2)).bind fun x1 =>
  some (x1.2, x1.1)
noncomputable def J5 : Ent := ⟨I4, fun x => DZ x.1 x.2⟩
noncomputable def OB : TX := ⟨tyTab, codTab, [], [4], [Ia, Dm], I4⟩
set_option maxHeartbeats 2000000 in
theorem V1 (a0 : (Bool × List (Int))) (a1 : (Bool × List (Int))) : wtF OB Tryz.f220 (a0, a1) = DZ a0 a1 := by kernel_rfl
theorem L3 : EntOK RR J5 := Ab (X := OB) ⟨tyOK, boolOK, eqOK⟩ (Ad (by exact ⟨⟨KF, rfl⟩, ⟨⟨C3, rfl⟩, trivial⟩⟩)) (Ae (by kernel_rfl)) ⟨Tryz.func220, rfl, by kernel_rfl, rfl⟩ (fun x => by exact V1 x.1 x.2)
noncomputable def Cd (a0 : (Bool × (List Int))) (a1 : (Bool × (List Int))) : Option (Int) :=
  ((AY (a0.1, a0.2))).bind fun x0 =>
  ((AY (a1.1, a1.2))).bind fun x1 =>
  bif (x0 != x1) then
    ((AY (a0.1, a0.2))).bind fun x2 =>
    ((AY (a1.1, a1.2))).bind fun x3 =>
    ((A6 x2 x3)).bind fun x4 =>
    some x4
  else
  ((AY (a0.1, a0.2))).bind fun x5 =>
  ((A3 a0.2 a1.2)).bind fun x6 =>
  some (Go.IntKind.wrap Go.IntKind.i64 (x5 * x6))
noncomputable def Gd : Ent := ⟨GA, fun x => Cd x.1 x.2⟩
noncomputable def Jx : TX := ⟨tyTab, codTab, [], [4], [H7, Ep, Dq], GA⟩
set_option maxHeartbeats 2000000 in
theorem QB (a0 : (Bool × List (Int))) (a1 : (Bool × List (Int))) : wtF Jx Tryz.f219 (a0, a1) = Cd a0 a1 := by kernel_rfl
theorem IF : EntOK RR Gd := Ab (X := Jx) ⟨tyOK, boolOK, eqOK⟩ (Ad (by exact ⟨⟨KK, rfl⟩, ⟨⟨F2, rfl⟩, ⟨⟨Es, rfl⟩, trivial⟩⟩⟩)) (Ae (by kernel_rfl)) ⟨Tryz.func219, rfl, by kernel_rfl, rfl⟩ (fun x => by exact QB x.1 x.2)
noncomputable def D9 (a0 : (Bool × ((List Int) × (Bool × (List Int))))) : Option (Bool) :=
  ((EE (List.cons (a0.1, a0.2.1) (List.cons (a0.2.2.1, a0.2.2.2) (List.nil : List (Bool × (List Int))))))).bind fun x0 =>
  bif x0 then
    ((AY (a0.2.2.1, a0.2.2.2))).bind fun x1 =>
    bif decide (x1 > (0 : Int)) then
      ((DZ (a0.1, a0.2.1) (a0.2.2.1, a0.2.2.2))).bind fun x2 =>
      ((BS (1 : Int))).bind fun x3 =>
      ((Cd (x2.1, x2.2) (x3.1, x3.2))).bind fun x4 =>
      some (x4 == (0 : Int))
    else
    some false
  else
  some false
noncomputable def JR : Ent := ⟨J8, fun x => D9 x⟩
noncomputable def Ox : TX := ⟨tyTab, codTab, [], [4], [R4, H7, J5, Hi, Gd], J8⟩
set_option maxHeartbeats 2000000 in
theorem VH (a0 : (Bool × List (Int) × Bool × List (Int))) : wtF Ox Tryz.f105 (a0) = D9 a0 := by kernel_rfl
theorem Mi : EntOK RR JR := Ab (X := Ox) ⟨tyOK, boolOK, eqOK⟩ (Ad (by exact ⟨⟨WV, rfl⟩, ⟨⟨KK, rfl⟩, ⟨⟨L3, rfl⟩, ⟨⟨Il, rfl⟩, ⟨⟨IF, rfl⟩, trivial⟩⟩⟩⟩⟩)) (Ae (by kernel_rfl)) ⟨Tryz.func105, rfl, by kernel_rfl, rfl⟩ (fun x => by exact VH x)
noncomputable def E5 (s0 : (List ((Bool × (List Int)) × (Bool × (List Int))))) (s1 : Int) (s2 : Int) : Option (((List ((Bool × (List Int)) × (Bool × (List Int)))) × (Int × Int)) ⊕ (Unit ⊕ Bool)) :=
  bif decide (s2 < s1) then
    ((getI s0 s2)).bind fun x0 =>
    ((D9 (x0.1.1, (x0.1.2, (x0.2.1, x0.2.2))))).bind fun x1 =>
    bif (!x1) then
      some (Sum.inr (Sum.inr false))
    else
    some (Sum.inl (s0, (s1, (Go.IntKind.wrap Go.IntKind.i64 (s2 + (1 : Int))))))
  else
  some (Sum.inr (Sum.inl ()))
noncomputable def BB (a0 : (List ((Bool × (List Int)) × (Bool × (List Int))))) : Option (Bool) :=
  (loopM (fun (s : ((List ((Bool × (List Int)) × (Bool × (List Int)))) × (Int × Int))) => E5 s.1 s.2.1 s.2.2) (a0, ((((List.length a0) : Nat) : Int), (0 : Int)))).bind fun x0 =>
  Sum.elim
    (fun x1 =>
    some true)
    (fun x2 =>
    some x2)
    x0
noncomputable def Fi : Ent := ⟨JV, fun x => BB x⟩
noncomputable def Oe : TX := ⟨tyTab, codTab, [], [4], [JR], JV⟩
set_option maxHeartbeats 2000000 in
theorem W1 (a0 : List (((Bool × List (Int)) × (Bool × List (Int))))) : wtF Oe Tryz.f129 (a0) = BB a0 := by kernel_rfl
theorem FG : EntOK RR Fi := Ab (X := Oe) ⟨tyOK, boolOK, eqOK⟩ (Ad (by exact ⟨⟨Mi, rfl⟩, trivial⟩)) (Ae (by kernel_rfl)) ⟨Tryz.func129, rfl, by kernel_rfl, rfl⟩ (fun x => by exact W1 x)
noncomputable def BL (a0 : (Bool × ((List Int) × (Bool × (List Int))))) (a1 : (Bool × ((List Int) × (Bool × (List Int))))) : Option (Int) :=
  ((AR (a0.1, a0.2.1) (a1.2.2.1, a1.2.2.2))).bind fun x0 =>
  ((AR (a1.1, a1.2.1) (a0.2.2.1, a0.2.2.2))).bind fun x1 =>
  ((Cd (x0.2, x0.1) (x1.2, x1.1))).bind fun x2 =>
  some x2
noncomputable def Ei : Ent := ⟨Gt, fun x => BL x.1 x.2⟩
noncomputable def Jk : TX := ⟨tyTab, codTab, [], [4], [D7, Gd], Gt⟩
set_option maxHeartbeats 2000000 in
theorem QP (a0 : (Bool × List (Int) × Bool × List (Int))) (a1 : (Bool × List (Int) × Bool × List (Int))) : wtF Jk Tryz.f138 (a0, a1) = BL a0 a1 := by kernel_rfl
theorem Fy : EntOK RR Ei := Ab (X := Jk) ⟨tyOK, boolOK, eqOK⟩ (Ad (by exact ⟨⟨Ew, rfl⟩, ⟨⟨IF, rfl⟩, trivial⟩⟩)) (Ae (by kernel_rfl)) ⟨Tryz.func138, rfl, by kernel_rfl, rfl⟩ (fun x => by exact QP x.1 x.2)
noncomputable def Ct (a0 : (Bool × ((List Int) × (Bool × (List Int))))) (a1 : (Bool × ((List Int) × (Bool × (List Int))))) : Option (Bool) :=
  ((BL (a0.1, (a0.2.1, (a0.2.2.1, a0.2.2.2))) (a1.1, (a1.2.1, (a1.2.2.1, a1.2.2.2))))).bind fun x0 =>
  some (decide (x0 < (0 : Int)))
noncomputable def HV : Ent := ⟨Ic, fun x => Ct x.1 x.2⟩
noncomputable def Mb : TX := ⟨tyTab, codTab, [], [4], [Ei], Ic⟩
set_option maxHeartbeats 2000000 in
theorem UH (a0 : (Bool × List (Int) × Bool × List (Int))) (a1 : (Bool × List (Int) × Bool × List (Int))) : wtF Mb Tryz.f130 (a0, a1) = Ct a0 a1 := by kernel_rfl
theorem KD : EntOK RR HV := Ab (X := Mb) ⟨tyOK, boolOK, eqOK⟩ (Ad (by exact ⟨⟨Fy, rfl⟩, trivial⟩)) (Ae (by kernel_rfl)) ⟨Tryz.func130, rfl, by kernel_rfl, rfl⟩ (fun x => by exact UH x.1 x.2)
noncomputable def As (a0 : (Bool × ((List Int) × (Bool × ((List Int) × (Bool × ((List Int) × (Bool × (List Int))))))))) : Option (Bool) :=
  ((BB (List.cons ((a0.1, a0.2.1), (a0.2.2.1, a0.2.2.2.1)) (List.cons ((a0.2.2.2.2.1, a0.2.2.2.2.2.1), (a0.2.2.2.2.2.2.1, a0.2.2.2.2.2.2.2)) (List.nil : List ((Bool × (List Int)) × (Bool × (List Int)))))))).bind fun x0 =>
  bif x0 then
    ((Ct (a0.2.2.2.2.1, (a0.2.2.2.2.2.1, (a0.2.2.2.2.2.2.1, a0.2.2.2.2.2.2.2))) (a0.1, (a0.2.1, (a0.2.2.1, a0.2.2.2.1))))).bind fun x1 =>
    some (!x1)
  else
  some false
noncomputable def Cv : Ent := ⟨HR, fun x => As x⟩
noncomputable def Mf : TX := ⟨tyTab, codTab, [], [4], [Fi, HV], HR⟩
set_option maxHeartbeats 2000000 in
theorem Vc (a0 : (Bool × List (Int) × Bool × List (Int) × Bool × List (Int) × Bool × List (Int))) : wtF Mf Tryz.f39 (a0) = As a0 := by kernel_rfl
theorem CL : EntOK RR Cv := Ab (X := Mf) ⟨tyOK, boolOK, eqOK⟩ (Ad (by exact ⟨⟨FG, rfl⟩, ⟨⟨KD, rfl⟩, trivial⟩⟩)) (Ae (by kernel_rfl)) ⟨Tryz.func39, rfl, by kernel_rfl, rfl⟩ (fun x => by exact Vc x)
noncomputable def Eu (a0 : (Bool × ((List Int) × (Bool × ((List Int) × (Bool × ((List Int) × (Bool × (List Int))))))))) : Option (Bool) :=
  ((As (a0.1, (a0.2.1, (a0.2.2.1, (a0.2.2.2.1, (a0.2.2.2.2.1, (a0.2.2.2.2.2.1, (a0.2.2.2.2.2.2.1, a0.2.2.2.2.2.2.2))))))))).bind fun x0 =>
  some (!x0)
noncomputable def IW : Ent := ⟨GD, fun x => Eu x⟩
noncomputable def IY : TX := ⟨tyTab, codTab, [], [4], [Cv], GD⟩
set_option maxHeartbeats 2000000 in
theorem Ra (a0 : (Bool × List (Int) × Bool × List (Int) × Bool × List (Int) × Bool × List (Int))) : wtF IY Tryz.f242 (a0) = Eu a0 := by kernel_rfl
theorem Pm : EntOK RR IW := Ab (X := IY) ⟨tyOK, boolOK, eqOK⟩ (Ad (by exact ⟨⟨CL, rfl⟩, trivial⟩)) (Ae (by kernel_rfl)) ⟨Tryz.func242, rfl, by kernel_rfl, rfl⟩ (fun x => by exact Ra x)
noncomputable def Ai (s0 : (List (((Bool × (List Int)) × (Bool × (List Int))) × ((Bool × (List Int)) × (Bool × (List Int)))))) (s1 : Int) (s2 : Int) : Option (((List (((Bool × (List Int)) × (Bool × (List Int))) × ((Bool × (List Int)) × (Bool × (List Int))))) × (Int × Int)) ⊕ (Unit ⊕ Int)) :=
  bif decide (s2 < s1) then
    ((getI s0 s2)).bind fun x0 =>
    ((Eu (x0.1.1.1, (x0.1.1.2, (x0.1.2.1, (x0.1.2.2, (x0.2.1.1, (x0.2.1.2, (x0.2.2.1, x0.2.2.2))))))))).bind fun x1 =>
    bif x1 then
      some (Sum.inr (Sum.inr s2))
    else
    some (Sum.inl (s0, (s1, (Go.IntKind.wrap Go.IntKind.i64 (s2 + (1 : Int))))))
  else
  some (Sum.inr (Sum.inl ()))
noncomputable def AN (a0 : (List (((Bool × (List Int)) × (Bool × (List Int))) × ((Bool × (List Int)) × (Bool × (List Int)))))) : Option (Int) :=
  (loopM (fun (s : ((List (((Bool × (List Int)) × (Bool × (List Int))) × ((Bool × (List Int)) × (Bool × (List Int))))) × (Int × Int))) => Ai s.1 s.2.1 s.2.2) (a0, ((((List.length a0) : Nat) : Int), (0 : Int)))).bind fun x0 =>
  Sum.elim
    (fun x1 =>
    some (-(1 : Int)))
    (fun x2 =>
    some x2)
    x0
noncomputable def BR : Ent := ⟨A5, fun x => AN x⟩
noncomputable def BQ : TX := ⟨tyTab, codTab, [], [4], [IW], A5⟩
set_option maxHeartbeats 2000000 in
theorem Ec (a0 : List ((((Bool × List (Int)) × (Bool × List (Int))) × ((Bool × List (Int)) × (Bool × List (Int)))))) : wtF BQ Tryz.f284 (a0) = AN a0 := by kernel_rfl
theorem DQ : EntOK RR BR := Ab (X := BQ) ⟨tyOK, boolOK, eqOK⟩ (Ad (by exact ⟨⟨Pm, rfl⟩, trivial⟩)) (Ae (by kernel_rfl)) ⟨Tryz.func284, rfl, by kernel_rfl, rfl⟩ (fun x => by exact Ec x)
noncomputable def Ax (a0 : (List (((Bool × (List Int)) × (Bool × (List Int))) × ((Bool × (List Int)) × (Bool × (List Int)))))) : Option (Bool) :=
  ((AN a0)).bind fun x0 =>
  some (decide (x0 ≥ (0 : Int)))
noncomputable def Bx : Ent := ⟨AU, fun x => Ax x⟩
noncomputable def Bw : TX := ⟨tyTab, codTab, [], [4], [BR], AU⟩
set_option maxHeartbeats 2000000 in
theorem Dr (a0 : List ((((Bool × List (Int)) × (Bool × List (Int))) × ((Bool × List (Int)) × (Bool × List (Int)))))) : wtF Bw Tryz.f241 (a0) = Ax a0 := by kernel_rfl
theorem Dd : EntOK RR Bx := Ab (X := Bw) ⟨tyOK, boolOK, eqOK⟩ (Ad (by exact ⟨⟨DQ, rfl⟩, trivial⟩)) (Ae (by kernel_rfl)) ⟨Tryz.func241, rfl, by kernel_rfl, rfl⟩ (fun x => by exact Dr x)
noncomputable def BA (a0 : (List (((Bool × (List Int)) × (Bool × (List Int))) × ((Bool × (List Int)) × (Bool × (List Int)))))) : Option (Bool) :=
  ((Ax a0)).bind fun x0 =>
  some (!x0)
noncomputable def Eg : Ent := ⟨Id, fun x => BA x⟩
noncomputable def Mr : TX := ⟨tyTab, codTab, [], [4], [Bx], Id⟩
set_option maxHeartbeats 2000000 in
theorem U5 (a0 : List ((((Bool × List (Int)) × (Bool × List (Int))) × ((Bool × List (Int)) × (Bool × List (Int)))))) : wtF Mr Tryz.f146 (a0) = BA a0 := by kernel_rfl
theorem EV : EntOK RR Eg := Ab (X := Mr) ⟨tyOK, boolOK, eqOK⟩ (Ad (by exact ⟨⟨Dd, rfl⟩, trivial⟩)) (Ae (by kernel_rfl)) ⟨Tryz.func146, rfl, by kernel_rfl, rfl⟩ (fun x => by exact U5 x)
noncomputable def CS (s0 : (List Int)) (s1 : (List Int)) (s2 : (List Int)) (s3 : Int) (s4 : Int) : Option (((List Int) × ((List Int) × ((List Int) × (Int × Int)))) ⊕ (List Int)) :=
  (bif decide (s4 < (maxL (List.cons (((List.length s1) : Nat) : Int) (List.cons (((List.length s2) : Nat) : Int) (List.nil : List Int))))) then
      some (Sum.inr (s0, (s1, (s2, (s3, s4)))))
    else
    bif decide (s3 > (0 : Int)) then
      some (Sum.inr (s0, (s1, (s2, (s3, s4)))))
    else
    some (Sum.inl (Sum.inr s0))).bind fun x0 =>
  Sum.elim
    (fun x1 =>
    some x1)
    (fun x2 =>
    (bif decide (x2.2.2.2.2 < (((List.length x2.2.1) : Nat) : Int)) then
        ((getI x2.2.1 x2.2.2.2.2)).bind fun x3 =>
        some (Sum.inr (x2.1, (x2.2.1, (x2.2.2.1, ((Go.IntKind.wrap Go.IntKind.i64 (x2.2.2.2.1 + x3)), x2.2.2.2.2)))))
      else
      some (Sum.inr (x2.1, (x2.2.1, (x2.2.2.1, (x2.2.2.2.1, x2.2.2.2.2)))))).bind fun x4 =>
    Sum.elim
      (fun x5 =>
      some x5)
      (fun x6 =>
      (bif decide (x6.2.2.2.2 < (((List.length x6.2.2.1) : Nat) : Int)) then
          ((getI x6.2.2.1 x6.2.2.2.2)).bind fun x7 =>
          some (Sum.inr (x6.1, (x6.2.1, (x6.2.2.1, ((Go.IntKind.wrap Go.IntKind.i64 (x6.2.2.2.1 + x7)), x6.2.2.2.2)))))
        else
        some (Sum.inr (x6.1, (x6.2.1, (x6.2.2.1, (x6.2.2.2.1, x6.2.2.2.2)))))).bind fun x8 =>
      Sum.elim
        (fun x9 =>
        some x9)
        (fun x10 =>
        ((appL 8 1 x10.1 (List.cons (Int.tmod x10.2.2.2.1 (65536 : Int)) (List.nil : List Int)))).bind fun x11 =>
        some (Sum.inl (x11, (x10.2.1, (x10.2.2.1, ((Go.IntKind.wrap Go.IntKind.i64 (Int.tdiv x10.2.2.2.1 (65536 : Int))), (Go.IntKind.wrap Go.IntKind.i64 (x10.2.2.2.2 + (1 : Int)))))))))
        x8)
      x4)
    x0
noncomputable def Ef (a0 : (List Int)) (a1 : (List Int)) : Option (List (Int)) :=
  (loopM (fun (s : ((List Int) × ((List Int) × ((List Int) × (Int × Int))))) => CS s.1 s.2.1 s.2.2.1 s.2.2.2.1 s.2.2.2.2) ((List.nil : List Int), (a0, (a1, ((0 : Int), (0 : Int)))))).bind fun x0 =>
  some x0
noncomputable def Lu : Ent := ⟨Iv, fun x => Ef x.1 x.2⟩
noncomputable def LS : TX := ⟨tyTab, codTab, [], [4], [], Iv⟩
set_option maxHeartbeats 2000000 in
theorem UG (a0 : List (Int)) (a1 : List (Int)) : wtF LS Tryz.f235 (a0, a1) = Ef a0 a1 := by kernel_rfl
theorem Sp : EntOK RR Lu := Ab (X := LS) ⟨tyOK, boolOK, eqOK⟩ (Ad (by exact trivial)) (Ae (by kernel_rfl)) ⟨Tryz.func235, rfl, by kernel_rfl, rfl⟩ (fun x => by exact UG x.1 x.2)
noncomputable def Ey (s0 : (List Int)) (s1 : (List Int)) (s2 : Int) (s3 : Int) (s4 : Int) : Option (((List Int) × ((List Int) × (Int × (Int × Int)))) ⊕ (List Int)) :=
  bif decide (s4 < s3) then
    ((idxI s4 (List.length s0))).bind fun x0 =>
    ((getN s0 x0)).bind fun x1 =>
    ((idxI s4 (List.length s0))).bind fun x2 =>
    ((getN s0 x2)).bind fun x3 =>
    (bif decide (s4 < (((List.length s1) : Nat) : Int)) then
        ((idxI s4 (List.length (List.set s0 x2 (Go.IntKind.wrap Go.IntKind.i64 (x1 - s2)))))).bind fun x4 =>
        ((getN (List.set s0 x2 (Go.IntKind.wrap Go.IntKind.i64 (x1 - s2))) x4)).bind fun x5 =>
        ((getI s1 s4)).bind fun x6 =>
        ((idxI s4 (List.length (List.set s0 x2 (Go.IntKind.wrap Go.IntKind.i64 (x1 - s2)))))).bind fun x7 =>
        ((getN (List.set s0 x2 (Go.IntKind.wrap Go.IntKind.i64 (x1 - s2))) x7)).bind fun x8 =>
        some (Sum.inr ((List.set (List.set s0 x2 (Go.IntKind.wrap Go.IntKind.i64 (x1 - s2))) x7 (Go.IntKind.wrap Go.IntKind.i64 (x5 - x6))), (s1, (s4, (s3, s4)))))
      else
      some (Sum.inr ((List.set s0 x2 (Go.IntKind.wrap Go.IntKind.i64 (x1 - s2))), (s1, (s4, (s3, s4)))))).bind fun x9 =>
    Sum.elim
      (fun x10 =>
      some x10)
      (fun x11 =>
      ((idxI x11.2.2.1 (List.length x11.1))).bind fun x12 =>
      ((getN x11.1 x12)).bind fun x13 =>
      bif decide (x13 < (0 : Int)) then
        ((idxI x11.2.2.1 (List.length x11.1))).bind fun x14 =>
        ((getN x11.1 x14)).bind fun x15 =>
        ((idxI x11.2.2.1 (List.length x11.1))).bind fun x16 =>
        ((getN x11.1 x16)).bind fun x17 =>
        some (Sum.inl ((List.set x11.1 x16 (Go.IntKind.wrap Go.IntKind.i64 (x15 + (65536 : Int)))), (x11.2.1, ((1 : Int), (x11.2.2.2.1, (Go.IntKind.wrap Go.IntKind.i64 (x11.2.2.2.2 + (1 : Int))))))))
      else
      some (Sum.inl (x11.1, (x11.2.1, ((0 : Int), (x11.2.2.2.1, (Go.IntKind.wrap Go.IntKind.i64 (x11.2.2.2.2 + (1 : Int)))))))))
      x9
  else
  some (Sum.inr s0)
noncomputable def Dj (a0 : (List Int)) (a1 : (List Int)) : Option (List (Int)) :=
  ((A2 a0)).bind fun x0 =>
  (loopM (fun (s : ((List Int) × ((List Int) × (Int × (Int × Int))))) => Ey s.1 s.2.1 s.2.2.1 s.2.2.2.1 s.2.2.2.2) (x0, (a1, ((0 : Int), ((((List.length x0) : Nat) : Int), (0 : Int)))))).bind fun x1 =>
  ((E7 x1)).bind fun x2 =>
  some x2
noncomputable def LQ : Ent := ⟨HO, fun x => Dj x.1 x.2⟩
noncomputable def L2 : TX := ⟨tyTab, codTab, [], [4], [Cb, LJ], HO⟩
set_option maxHeartbeats 2000000 in
theorem Ut (a0 : List (Int)) (a1 : List (Int)) : wtF L2 Tryz.f236 (a0, a1) = Dj a0 a1 := by kernel_rfl
theorem R9 : EntOK RR LQ := Ab (X := L2) ⟨tyOK, boolOK, eqOK⟩ (Ad (by exact ⟨⟨Dw, rfl⟩, ⟨⟨Mo, rfl⟩, trivial⟩⟩)) (Ae (by kernel_rfl)) ⟨Tryz.func236, rfl, by kernel_rfl, rfl⟩ (fun x => by exact Ut x.1 x.2)
noncomputable def Fe (a0 : (Bool × (List Int))) (a1 : (Bool × (List Int))) : Option ((Bool × List (Int))) :=
  bif (a0.1 == a1.1) then
    ((Ef a0.2 a1.2)).bind fun x0 =>
    ((AP a0.1 x0)).bind fun x1 =>
    some (x1.2, x1.1)
  else
  ((A3 a0.2 a1.2)).bind fun x2 =>
  bif decide (x2 ≥ (0 : Int)) then
    ((Dj a0.2 a1.2)).bind fun x3 =>
    ((AP a0.1 x3)).bind fun x4 =>
    some (x4.2, x4.1)
  else
  ((Dj a1.2 a0.2)).bind fun x5 =>
  ((AP a1.1 x5)).bind fun x6 =>
  some (x6.2, x6.1)
noncomputable def Ok : Ent := ⟨JL, fun x => Fe x.1 x.2⟩
noncomputable def OD : TX := ⟨tyTab, codTab, [], [4], [Lu, Dm, Dq, LQ], JL⟩
set_option maxHeartbeats 2000000 in
theorem Vo (a0 : (Bool × List (Int))) (a1 : (Bool × List (Int))) : wtF OD Tryz.f132 (a0, a1) = Fe a0 a1 := by kernel_rfl
theorem Uy : EntOK RR Ok := Ab (X := OD) ⟨tyOK, boolOK, eqOK⟩ (Ad (by exact ⟨⟨Sp, rfl⟩, ⟨⟨C3, rfl⟩, ⟨⟨Es, rfl⟩, ⟨⟨R9, rfl⟩, trivial⟩⟩⟩⟩)) (Ae (by kernel_rfl)) ⟨Tryz.func132, rfl, by kernel_rfl, rfl⟩ (fun x => by exact Vo x.1 x.2)
noncomputable def DT (a0 : (Bool × (List Int))) : Option ((Bool × List (Int))) :=
  ((AP (!a0.1) a0.2)).bind fun x0 =>
  some (x0.2, x0.1)
noncomputable def J0 : Ent := ⟨Jz, fun x => DT x⟩
noncomputable def OH : TX := ⟨tyTab, codTab, [], [4], [Dm], Jz⟩
set_option maxHeartbeats 2000000 in
theorem WE (a0 : (Bool × List (Int))) : wtF OH Tryz.f233 (a0) = DT a0 := by kernel_rfl
theorem LV : EntOK RR J0 := Ab (X := OH) ⟨tyOK, boolOK, eqOK⟩ (Ad (by exact ⟨⟨C3, rfl⟩, trivial⟩)) (Ae (by kernel_rfl)) ⟨Tryz.func233, rfl, by kernel_rfl, rfl⟩ (fun x => by exact WE x)
noncomputable def D3 (a0 : (Bool × (List Int))) (a1 : (Bool × (List Int))) : Option ((Bool × List (Int)) × (Bool × List (Int))) :=
  ((Df a0.2 a1.2)).bind fun x0 =>
  ((AP (!(a0.1 == a1.1)) x0.1)).bind fun x1 =>
  ((AP a0.1 x0.2)).bind fun x2 =>
  some ((x1.2, x1.1), (x2.2, x2.1))
noncomputable def OZ : Ent := ⟨Jw, fun x => D3 x.1 x.2⟩
noncomputable def Ob : TX := ⟨tyTab, codTab, [], [4], [Ia, Dm], Jw⟩
set_option maxHeartbeats 2000000 in
theorem VT (a0 : (Bool × List (Int))) (a1 : (Bool × List (Int))) : wtF Ob Tryz.f234 (a0, a1) = D3 a0 a1 := by kernel_rfl
theorem UV : EntOK RR OZ := Ab (X := Ob) ⟨tyOK, boolOK, eqOK⟩ (Ad (by exact ⟨⟨KF, rfl⟩, ⟨⟨C3, rfl⟩, trivial⟩⟩)) (Ae (by kernel_rfl)) ⟨Tryz.func234, rfl, by kernel_rfl, rfl⟩ (fun x => by exact VT x.1 x.2)
noncomputable def D2 (a0 : (Bool × (List Int))) (a1 : (Bool × (List Int))) : Option ((Bool × List (Int) × Bool × List (Int))) :=
  ((DZ (a0.1, a0.2) (a1.1, a1.2))).bind fun x0 =>
  (bif a1.1 then
      ((DT (x0.1, x0.2))).bind fun x1 =>
      some (Sum.inr ((a0.1, a0.2), ((a1.1, a1.2), ((false, ((List.nil : List Int), (false, (List.nil : List Int)))), (x1.1, x1.2)))))
    else
    some (Sum.inr ((a0.1, a0.2), ((a1.1, a1.2), ((false, ((List.nil : List Int), (false, (List.nil : List Int)))), (x0.1, x0.2)))))).bind fun x2 =>
  Sum.elim
    (fun x3 =>
    some x3)
    (fun x4 =>
    ((D3 (x4.1.1, x4.1.2) (x4.2.2.2.1, x4.2.2.2.2))).bind fun x5 =>
    ((D3 (x4.2.1.1, x4.2.1.2) (x4.2.2.2.1, x4.2.2.2.2))).bind fun x6 =>
    some (x5.1.1, (x5.1.2, (x6.1.1, x6.1.2))))
    x2
noncomputable def Hh : Ent := ⟨MM, fun x => D2 x.1 x.2⟩
noncomputable def Te : TX := ⟨tyTab, codTab, [], [4], [J5, J0, OZ], MM⟩
set_option maxHeartbeats 2000000 in
theorem Z8 (a0 : (Bool × List (Int))) (a1 : (Bool × List (Int))) : wtF Te Tryz.f131 (a0, a1) = D2 a0 a1 := by kernel_rfl
theorem Ii : EntOK RR Hh := Ab (X := Te) ⟨tyOK, boolOK, eqOK⟩ (Ad (by exact ⟨⟨L3, rfl⟩, ⟨⟨LV, rfl⟩, ⟨⟨UV, rfl⟩, trivial⟩⟩⟩)) (Ae (by kernel_rfl)) ⟨Tryz.func131, rfl, by kernel_rfl, rfl⟩ (fun x => by exact Z8 x.1 x.2)
noncomputable def Ch (a0 : (Bool × ((List Int) × (Bool × (List Int))))) (a1 : (Bool × ((List Int) × (Bool × (List Int))))) : Option ((Bool × List (Int) × Bool × List (Int))) :=
  ((AR (a0.1, a0.2.1) (a1.2.2.1, a1.2.2.2))).bind fun x0 =>
  ((AR (a1.1, a1.2.1) (a0.2.2.1, a0.2.2.2))).bind fun x1 =>
  ((Fe (x0.2, x0.1) (x1.2, x1.1))).bind fun x2 =>
  ((AR (a0.2.2.1, a0.2.2.2) (a1.2.2.1, a1.2.2.2))).bind fun x3 =>
  ((D2 (x2.1, x2.2) (x3.2, x3.1))).bind fun x4 =>
  some (x4.1, (x4.2.1, (x4.2.2.1, x4.2.2.2)))
noncomputable def GY : Ent := ⟨JP, fun x => Ch x.1 x.2⟩
noncomputable def NX : TX := ⟨tyTab, codTab, [], [4], [D7, Ok, Hh], JP⟩
set_option maxHeartbeats 2000000 in
theorem Wf (a0 : (Bool × List (Int) × Bool × List (Int))) (a1 : (Bool × List (Int) × Bool × List (Int))) : wtF NX Tryz.f126 (a0, a1) = Ch a0 a1 := by kernel_rfl
theorem Iq : EntOK RR GY := Ab (X := NX) ⟨tyOK, boolOK, eqOK⟩ (Ad (by exact ⟨⟨Ew, rfl⟩, ⟨⟨Uy, rfl⟩, ⟨⟨Ii, rfl⟩, trivial⟩⟩⟩)) (Ae (by kernel_rfl)) ⟨Tryz.func126, rfl, by kernel_rfl, rfl⟩ (fun x => by exact Wf x.1 x.2)
noncomputable def Bu (a0 : (Bool × ((List Int) × (Bool × (List Int))))) (a1 : Int) : Option (Bool) :=
  bif decide ((((List.length a0.2.1) : Nat) : Int) ≤ a1) then
    some (decide ((((List.length a0.2.2.2) : Nat) : Int) ≤ a1))
  else
  some false
noncomputable def FB : Ent := ⟨Fu, fun x => Bu x.1 x.2⟩
noncomputable def IK : TX := ⟨tyTab, codTab, [], [4], [], Fu⟩
set_option maxHeartbeats 2000000 in
theorem Pf (a0 : (Bool × List (Int) × Bool × List (Int))) (a1 : Int) : wtF IK Tryz.f232 (a0, a1) = Bu a0 a1 := by kernel_rfl
theorem HH : EntOK RR FB := Ab (X := IK) ⟨tyOK, boolOK, eqOK⟩ (Ad (by exact trivial)) (Ae (by kernel_rfl)) ⟨Tryz.func232, rfl, by kernel_rfl, rfl⟩ (fun x => by exact Pf x.1 x.2)
noncomputable def EC (a0 : (Bool × ((List Int) × (Bool × (List Int))))) : Option ((Bool × List (Int) × Bool × List (Int))) :=
  ((AP a0.1 a0.2.1)).bind fun x0 =>
  ((AP false a0.2.2.2)).bind fun x1 =>
  some (x0.2, (x0.1, (x1.2, x1.1)))
noncomputable def Qw : Ent := ⟨KO, fun x => EC x⟩
noncomputable def Rd : TX := ⟨tyTab, codTab, [], [4], [Dm], KO⟩
set_option maxHeartbeats 2000000 in
theorem XO (a0 : (Bool × List (Int) × Bool × List (Int))) : wtF Rd Tryz.f243 (a0) = EC a0 := by kernel_rfl
theorem VJ : EntOK RR Qw := Ab (X := Rd) ⟨tyOK, boolOK, eqOK⟩ (Ad (by exact ⟨⟨C3, rfl⟩, trivial⟩)) (Ae (by kernel_rfl)) ⟨Tryz.func243, rfl, by kernel_rfl, rfl⟩ (fun x => by exact XO x)
noncomputable def Bb (a0 : (Bool × ((List Int) × (Bool × (List Int))))) (a1 : (Bool × ((List Int) × (Bool × (List Int))))) : Option ((Bool × List (Int) × Bool × List (Int) × Bool × List (Int) × Bool × List (Int)) × Bool) :=
  ((Bu (a0.1, (a0.2.1, (a0.2.2.1, a0.2.2.2))) (40 : Int))).bind fun x0 =>
  bif (!x0) then
    some ((false, ((List.nil : List Int), (false, ((List.nil : List Int), (false, ((List.nil : List Int), (false, (List.nil : List Int)))))))), false)
  else
  ((Bu (a1.1, (a1.2.1, (a1.2.2.1, a1.2.2.2))) (40 : Int))).bind fun x1 =>
  bif (!x1) then
    some ((false, ((List.nil : List Int), (false, ((List.nil : List Int), (false, ((List.nil : List Int), (false, (List.nil : List Int)))))))), false)
  else
  ((EC (a0.1, (a0.2.1, (a0.2.2.1, a0.2.2.2))))).bind fun x2 =>
  ((EC (a1.1, (a1.2.1, (a1.2.2.1, a1.2.2.2))))).bind fun x3 =>
  some ((x2.1, (x2.2.1, (x2.2.2.1, (x2.2.2.2, (x3.1, (x3.2.1, (x3.2.2.1, x3.2.2.2))))))), true)
noncomputable def CA : Ent := ⟨Fq, fun x => Bb x.1 x.2⟩
noncomputable def IG : TX := ⟨tyTab, codTab, [], [4], [FB, Qw], Fq⟩
set_option maxHeartbeats 2000000 in
theorem Pk (a0 : (Bool × List (Int) × Bool × List (Int))) (a1 : (Bool × List (Int) × Bool × List (Int))) : wtF IG Tryz.f147 (a0, a1) = Bb a0 a1 := by kernel_rfl
theorem Dg : EntOK RR CA := Ab (X := IG) ⟨tyOK, boolOK, eqOK⟩ (Ad (by exact ⟨⟨HH, rfl⟩, ⟨⟨VJ, rfl⟩, trivial⟩⟩)) (Ae (by kernel_rfl)) ⟨Tryz.func147, rfl, by kernel_rfl, rfl⟩ (fun x => by exact Pk x.1 x.2)
noncomputable def C2 (a0 : (Bool × ((List Int) × (Bool × ((List Int) × (Bool × ((List Int) × (Bool × (List Int))))))))) (a1 : (Bool × ((List Int) × (Bool × ((List Int) × (Bool × ((List Int) × (Bool × (List Int))))))))) : Option ((Bool × List (Int) × Bool × List (Int) × Bool × List (Int) × Bool × List (Int)) × Bool) :=
  ((BA (List.cons (((a0.1, a0.2.1), (a0.2.2.1, a0.2.2.2.1)), ((a0.2.2.2.2.1, a0.2.2.2.2.2.1), (a0.2.2.2.2.2.2.1, a0.2.2.2.2.2.2.2))) (List.cons (((a1.1, a1.2.1), (a1.2.2.1, a1.2.2.2.1)), ((a1.2.2.2.2.1, a1.2.2.2.2.2.1), (a1.2.2.2.2.2.2.1, a1.2.2.2.2.2.2.2))) (List.nil : List (((Bool × (List Int)) × (Bool × (List Int))) × ((Bool × (List Int)) × (Bool × (List Int))))))))).bind fun x0 =>
  bif (!x0) then
    some ((false, ((List.nil : List Int), (false, ((List.nil : List Int), (false, ((List.nil : List Int), (false, (List.nil : List Int)))))))), false)
  else
  ((Ch (a0.1, (a0.2.1, (a0.2.2.1, a0.2.2.2.1))) (a1.1, (a1.2.1, (a1.2.2.1, a1.2.2.2.1))))).bind fun x1 =>
  ((Ch (a0.2.2.2.2.1, (a0.2.2.2.2.2.1, (a0.2.2.2.2.2.2.1, a0.2.2.2.2.2.2.2))) (a1.2.2.2.2.1, (a1.2.2.2.2.2.1, (a1.2.2.2.2.2.2.1, a1.2.2.2.2.2.2.2))))).bind fun x2 =>
  ((Bb (x1.1, (x1.2.1, (x1.2.2.1, x1.2.2.2))) (x2.1, (x2.2.1, (x2.2.2.1, x2.2.2.2))))).bind fun x3 =>
  some ((x3.1.1, (x3.1.2.1, (x3.1.2.2.1, (x3.1.2.2.2.1, (x3.1.2.2.2.2.1, (x3.1.2.2.2.2.2.1, (x3.1.2.2.2.2.2.2.1, x3.1.2.2.2.2.2.2.2))))))), x3.2)
noncomputable def NZ : Ent := ⟨Jb, fun x => C2 x.1 x.2⟩
noncomputable def Om : TX := ⟨tyTab, codTab, [], [4], [Eg, GY, CA], Jb⟩
set_option maxHeartbeats 2000000 in
theorem Vu (a0 : (Bool × List (Int) × Bool × List (Int) × Bool × List (Int) × Bool × List (Int))) (a1 : (Bool × List (Int) × Bool × List (Int) × Bool × List (Int) × Bool × List (Int))) : wtF Om Tryz.f30 (a0, a1) = C2 a0 a1 := by kernel_rfl
theorem UK : EntOK RR NZ := Ab (X := Om) ⟨tyOK, boolOK, eqOK⟩ (Ad (by exact ⟨⟨EV, rfl⟩, ⟨⟨Iq, rfl⟩, ⟨⟨Dg, rfl⟩, trivial⟩⟩⟩)) (Ae (by kernel_rfl)) ⟨Tryz.func30, rfl, by kernel_rfl, rfl⟩ (fun x => by exact Vu x.1 x.2)
noncomputable def EJ (a0 : (Bool × ((List Int) × (Bool × (List Int))))) (a1 : (Bool × ((List Int) × (Bool × (List Int))))) : Option (Bool) :=
  ((Cr (a0.1, (a0.2.1, (a0.2.2.1, a0.2.2.2))))).bind fun x0 =>
  bif x0 then
    ((Cr (a1.1, (a1.2.1, (a1.2.2.1, a1.2.2.2))))).bind fun x1 =>
    some x1
  else
  some false
noncomputable def QQ : Ent := ⟨K7, fun x => EJ x.1 x.2⟩
noncomputable def RN : TX := ⟨tyTab, codTab, [], [4], [JE], K7⟩
set_option maxHeartbeats 2000000 in
theorem Yz (a0 : (Bool × List (Int) × Bool × List (Int))) (a1 : (Bool × List (Int) × Bool × List (Int))) : wtF RN Tryz.f133 (a0, a1) = EJ a0 a1 := by kernel_rfl
theorem Wg : EntOK RR QQ := Ab (X := RN) ⟨tyOK, boolOK, eqOK⟩ (Ad (by exact ⟨⟨Lz, rfl⟩, trivial⟩)) (Ae (by kernel_rfl)) ⟨Tryz.func133, rfl, by kernel_rfl, rfl⟩ (fun x => by exact Yz x.1 x.2)
noncomputable def AI (a0 : (Bool × ((List Int) × (Bool × ((List Int) × (Bool × ((List Int) × (Bool × (List Int))))))))) : Option (Bool) :=
  ((EJ (a0.1, (a0.2.1, (a0.2.2.1, a0.2.2.2.1))) (a0.2.2.2.2.1, (a0.2.2.2.2.2.1, (a0.2.2.2.2.2.2.1, a0.2.2.2.2.2.2.2))))).bind fun x0 =>
  bif x0 then
    ((CI (a0.1, (a0.2.1, (a0.2.2.1, a0.2.2.2.1))) (a0.2.2.2.2.1, (a0.2.2.2.2.2.1, (a0.2.2.2.2.2.2.1, a0.2.2.2.2.2.2.2))))).bind fun x1 =>
    some (decide (x1 ≤ (0 : Int)))
  else
  some false
noncomputable def Db : Ent := ⟨HT, fun x => AI x⟩
noncomputable def Ms : TX := ⟨tyTab, codTab, [], [4], [QQ, HC], HT⟩
set_option maxHeartbeats 2000000 in
theorem UA (a0 : (Bool × List (Int) × Bool × List (Int) × Bool × List (Int) × Bool × List (Int))) : wtF Ms Tryz.f40 (a0) = AI a0 := by kernel_rfl
theorem DB : EntOK RR Db := Ab (X := Ms) ⟨tyOK, boolOK, eqOK⟩ (Ad (by exact ⟨⟨Wg, rfl⟩, ⟨⟨Ir, rfl⟩, trivial⟩⟩)) (Ae (by kernel_rfl)) ⟨Tryz.func40, rfl, by kernel_rfl, rfl⟩ (fun x => by exact UA x)
noncomputable def Cz (a0 : (Bool × ((List Int) × (Bool × ((List Int) × (Bool × ((List Int) × (Bool × (List Int))))))))) (a1 : (Bool × ((List Int) × (Bool × ((List Int) × (Bool × ((List Int) × (Bool × (List Int))))))))) : Option (Bool) :=
  ((AI (a0.1, (a0.2.1, (a0.2.2.1, (a0.2.2.2.1, (a0.2.2.2.2.1, (a0.2.2.2.2.2.1, (a0.2.2.2.2.2.2.1, a0.2.2.2.2.2.2.2))))))))).bind fun x0 =>
  bif x0 then
    ((AI (a1.1, (a1.2.1, (a1.2.2.1, (a1.2.2.2.1, (a1.2.2.2.2.1, (a1.2.2.2.2.2.1, (a1.2.2.2.2.2.2.1, a1.2.2.2.2.2.2.2))))))))).bind fun x1 =>
    some x1
  else
  some false
noncomputable def Gl : Ent := ⟨Lt, fun x => Cz x.1 x.2⟩
noncomputable def PM : TX := ⟨tyTab, codTab, [], [4], [Db], Lt⟩
set_option maxHeartbeats 2000000 in
theorem Xq (a0 : (Bool × List (Int) × Bool × List (Int) × Bool × List (Int) × Bool × List (Int))) (a1 : (Bool × List (Int) × Bool × List (Int) × Bool × List (Int) × Bool × List (Int))) : wtF PM Tryz.f148 (a0, a1) = Cz a0 a1 := by kernel_rfl
theorem G5 : EntOK RR Gl := Ab (X := PM) ⟨tyOK, boolOK, eqOK⟩ (Ad (by exact ⟨⟨DB, rfl⟩, trivial⟩)) (Ae (by kernel_rfl)) ⟨Tryz.func148, rfl, by kernel_rfl, rfl⟩ (fun x => by exact Xq x.1 x.2)
noncomputable def B3 (s0 : (List Int)) (s1 : (List Int)) (s2 : (List Int)) (s3 : Int) (s4 : Int) : Option (((List Int) × ((List Int) × ((List Int) × (Int × Int)))) ⊕ (List Int)) :=
  (bif decide (s4 < (((List.length s1) : Nat) : Int)) then
      some (Sum.inr (s0, (s1, (s2, (s3, s4)))))
    else
    bif decide (s4 < (((List.length s2) : Nat) : Int)) then
      some (Sum.inr (s0, (s1, (s2, (s3, s4)))))
    else
    bif decide (s3 > (0 : Int)) then
      some (Sum.inr (s0, (s1, (s2, (s3, s4)))))
    else
    some (Sum.inl (Sum.inr s0))).bind fun x0 =>
  Sum.elim
    (fun x1 =>
    some x1)
    (fun x2 =>
    ((BF x2.2.1 x2.2.2.2.2)).bind fun x3 =>
    ((BF x2.2.2.1 x2.2.2.2.2)).bind fun x4 =>
    ((appL 8 1 x2.1 (List.cons (Int.tmod (Go.IntKind.wrap Go.IntKind.i64 ((Go.IntKind.wrap Go.IntKind.i64 (x3 + x4)) + x2.2.2.2.1)) (65536 : Int)) (List.nil : List Int)))).bind fun x5 =>
    some (Sum.inl (x5, (x2.2.1, (x2.2.2.1, ((Go.IntKind.wrap Go.IntKind.i64 (Int.tdiv (Go.IntKind.wrap Go.IntKind.i64 ((Go.IntKind.wrap Go.IntKind.i64 (x3 + x4)) + x2.2.2.2.1)) (65536 : Int))), (Go.IntKind.wrap Go.IntKind.i64 (x2.2.2.2.2 + (1 : Int)))))))))
    x0
noncomputable def C8 (a0 : (List Int)) (a1 : (List Int)) : Option (List (Int)) :=
  (loopM (fun (s : ((List Int) × ((List Int) × ((List Int) × (Int × Int))))) => B3 s.1 s.2.1 s.2.2.1 s.2.2.2.1 s.2.2.2.2) ((List.nil : List Int), (a0, (a1, ((0 : Int), (0 : Int)))))).bind fun x0 =>
  some x0
noncomputable def JI : Ent := ⟨Gp, fun x => C8 x.1 x.2⟩
noncomputable def Ji : TX := ⟨tyTab, codTab, [], [4], [DK], Gp⟩
set_option maxHeartbeats 2000000 in
theorem QO (a0 : List (Int)) (a1 : List (Int)) : wtF Ji Tryz.f237 (a0, a1) = C8 a0 a1 := by kernel_rfl
theorem Pi : EntOK RR JI := Ab (X := Ji) ⟨tyOK, boolOK, eqOK⟩ (Ad (by exact ⟨⟨DX, rfl⟩, trivial⟩)) (Ae (by kernel_rfl)) ⟨Tryz.func237, rfl, by kernel_rfl, rfl⟩ (fun x => by exact QO x.1 x.2)
noncomputable def Di (s0 : (List Int)) (s1 : (List Int)) (s2 : (List Int)) (s3 : Int) (s4 : Int) (s5 : Int) : Option (((List Int) × ((List Int) × ((List Int) × (Int × (Int × Int))))) ⊕ (List Int)) :=
  bif decide (s5 < s4) then
    ((getI s1 s5)).bind fun x0 =>
    ((BF s2 s5)).bind fun x1 =>
    bif decide ((Go.IntKind.wrap Go.IntKind.i64 ((Go.IntKind.wrap Go.IntKind.i64 (x0 - x1)) - s3)) < (0 : Int)) then
      ((appL 8 1 s0 (List.cons (Go.IntKind.wrap Go.IntKind.i64 ((Go.IntKind.wrap Go.IntKind.i64 ((Go.IntKind.wrap Go.IntKind.i64 (x0 - x1)) - s3)) + (65536 : Int))) (List.nil : List Int)))).bind fun x2 =>
      some (Sum.inl (x2, (s1, (s2, ((1 : Int), (s4, (Go.IntKind.wrap Go.IntKind.i64 (s5 + (1 : Int)))))))))
    else
    ((appL 8 1 s0 (List.cons (Go.IntKind.wrap Go.IntKind.i64 ((Go.IntKind.wrap Go.IntKind.i64 (x0 - x1)) - s3)) (List.nil : List Int)))).bind fun x3 =>
    some (Sum.inl (x3, (s1, (s2, ((0 : Int), (s4, (Go.IntKind.wrap Go.IntKind.i64 (s5 + (1 : Int)))))))))
  else
  some (Sum.inr s0)
noncomputable def B2 (a0 : (List Int)) (a1 : (List Int)) : Option (List (Int)) :=
  (loopM (fun (s : ((List Int) × ((List Int) × ((List Int) × (Int × (Int × Int)))))) => Di s.1 s.2.1 s.2.2.1 s.2.2.2.1 s.2.2.2.2.1 s.2.2.2.2.2) ((List.nil : List Int), (a0, (a1, ((0 : Int), ((((List.length a0) : Nat) : Int), (0 : Int))))))).bind fun x0 =>
  ((Bl x0)).bind fun x1 =>
  some x1
noncomputable def JJ : Ent := ⟨Gi, fun x => B2 x.1 x.2⟩
noncomputable def JX : TX := ⟨tyTab, codTab, [], [4], [DK, D4], Gi⟩
set_option maxHeartbeats 2000000 in
theorem QD (a0 : List (Int)) (a1 : List (Int)) : wtF JX Tryz.f238 (a0, a1) = B2 a0 a1 := by kernel_rfl
theorem Pq : EntOK RR JJ := Ab (X := JX) ⟨tyOK, boolOK, eqOK⟩ (Ad (by exact ⟨⟨DX, rfl⟩, ⟨⟨DN, rfl⟩, trivial⟩⟩)) (Ae (by kernel_rfl)) ⟨Tryz.func238, rfl, by kernel_rfl, rfl⟩ (fun x => by exact QD x.1 x.2)
noncomputable def HF (a0 : (Bool × (List Int))) (a1 : (Bool × (List Int))) : Option ((Bool × List (Int))) :=
  bif (a0.1 == a1.1) then
    ((C8 a0.2 a1.2)).bind fun x0 =>
    ((AH a0.1 x0)).bind fun x1 =>
    some (x1.2, x1.1)
  else
  ((Bj a0.2 a1.2)).bind fun x2 =>
  bif decide (x2 ≥ (0 : Int)) then
    ((B2 a0.2 a1.2)).bind fun x3 =>
    ((AH a0.1 x3)).bind fun x4 =>
    some (x4.2, x4.1)
  else
  ((B2 a1.2 a0.2)).bind fun x5 =>
  ((AH a1.1 x5)).bind fun x6 =>
  some (x6.2, x6.1)
noncomputable def TL : Ent := ⟨MN, fun x => HF x.1 x.2⟩
noncomputable def SY : TX := ⟨tyTab, codTab, [], [4], [JI, Cu, Hm, JJ], MN⟩
set_option maxHeartbeats 2000000 in
theorem Z3 (a0 : (Bool × List (Int))) (a1 : (Bool × List (Int))) : wtF SY Tryz.f137 (a0, a1) = HF a0 a1 := by kernel_rfl
theorem X4 : EntOK RR TL := Ab (X := SY) ⟨tyOK, boolOK, eqOK⟩ (Ad (by exact ⟨⟨Pi, rfl⟩, ⟨⟨Co, rfl⟩, ⟨⟨H4, rfl⟩, ⟨⟨Pq, rfl⟩, trivial⟩⟩⟩⟩)) (Ae (by kernel_rfl)) ⟨Tryz.func137, rfl, by kernel_rfl, rfl⟩ (fun x => by exact Z3 x.1 x.2)
noncomputable def ET (a0 : (Bool × ((List Int) × (Bool × (List Int))))) (a1 : (Bool × ((List Int) × (Bool × (List Int))))) : Option ((Bool × List (Int) × Bool × List (Int))) :=
  ((BE (a0.1, a0.2.1) (a1.2.2.1, a1.2.2.2))).bind fun x0 =>
  ((BE (a1.1, a1.2.1) (a0.2.2.1, a0.2.2.2))).bind fun x1 =>
  ((HF (x0.1, x0.2) (x1.1, x1.2))).bind fun x2 =>
  ((BE (a0.2.2.1, a0.2.2.2) (a1.2.2.1, a1.2.2.2))).bind fun x3 =>
  ((Cw (x2.1, x2.2) (x3.1, x3.2))).bind fun x4 =>
  some (x4.1, (x4.2.1, (x4.2.2.1, x4.2.2.2)))
noncomputable def M5 : Ent := ⟨NO, fun x => ET x.1 x.2⟩
noncomputable def TT : TX := ⟨tyTab, codTab, [], [4], [Hw, TL, EG], NO⟩
set_option maxHeartbeats 2000000 in
theorem Z0 (a0 : (Bool × List (Int) × Bool × List (Int))) (a1 : (Bool × List (Int) × Bool × List (Int))) : wtF TT Tryz.f135 (a0, a1) = ET a0 a1 := by kernel_rfl
theorem RW : EntOK RR M5 := Ab (X := TT) ⟨tyOK, boolOK, eqOK⟩ (Ad (by exact ⟨⟨Io, rfl⟩, ⟨⟨X4, rfl⟩, ⟨⟨Fh, rfl⟩, trivial⟩⟩⟩)) (Ae (by kernel_rfl)) ⟨Tryz.func135, rfl, by kernel_rfl, rfl⟩ (fun x => by exact Z0 x.1 x.2)
noncomputable def DR (a0 : (Bool × ((List Int) × (Bool × (List Int))))) : Option ((Bool × List (Int) × Bool × List (Int)) × Bool) :=
  bif decide ((((List.length a0.2.1) : Nat) : Int) > (40 : Int)) then
    some ((false, ((List.nil : List Int), (false, (List.nil : List Int)))), false)
  else
  bif decide ((((List.length a0.2.2.2) : Nat) : Int) > (40 : Int)) then
    some ((false, ((List.nil : List Int), (false, (List.nil : List Int)))), false)
  else
  ((AH a0.1 a0.2.1)).bind fun x0 =>
  ((AH false a0.2.2.2)).bind fun x1 =>
  some ((x0.2, (x0.1, (x1.2, x1.1))), true)
noncomputable def Lr : Ent := ⟨Lg, fun x => DR x⟩
noncomputable def QI : TX := ⟨tyTab, codTab, [], [4], [Cu], Lg⟩
set_option maxHeartbeats 2000000 in
theorem XJ (a0 : (Bool × List (Int) × Bool × List (Int))) : wtF QI Tryz.f136 (a0) = DR a0 := by kernel_rfl
theorem OO : EntOK RR Lr := Ab (X := QI) ⟨tyOK, boolOK, eqOK⟩ (Ad (by exact ⟨⟨Co, rfl⟩, trivial⟩)) (Ae (by kernel_rfl)) ⟨Tryz.func136, rfl, by kernel_rfl, rfl⟩ (fun x => by exact XJ x)
noncomputable def BX (a0 : (Bool × ((List Int) × (Bool × ((List Int) × (Bool × ((List Int) × (Bool × (List Int))))))))) : Option ((Bool × List (Int) × Bool × List (Int) × Bool × List (Int) × Bool × List (Int)) × Bool) :=
  ((DR (a0.1, (a0.2.1, (a0.2.2.1, a0.2.2.2.1))))).bind fun x0 =>
  ((DR (a0.2.2.2.2.1, (a0.2.2.2.2.2.1, (a0.2.2.2.2.2.2.1, a0.2.2.2.2.2.2.2))))).bind fun x1 =>
  bif (!x0.2) then
    some ((false, ((List.nil : List Int), (false, ((List.nil : List Int), (false, ((List.nil : List Int), (false, (List.nil : List Int)))))))), false)
  else
  bif (!x1.2) then
    some ((false, ((List.nil : List Int), (false, ((List.nil : List Int), (false, ((List.nil : List Int), (false, (List.nil : List Int)))))))), false)
  else
  some ((x0.1.1, (x0.1.2.1, (x0.1.2.2.1, (x0.1.2.2.2, (x1.1.1, (x1.1.2.1, (x1.1.2.2.1, x1.1.2.2.2))))))), true)
noncomputable def DP : Ent := ⟨Ln, fun x => BX x⟩
noncomputable def Qu : TX := ⟨tyTab, codTab, [], [4], [Lr], Ln⟩
set_option maxHeartbeats 2000000 in
theorem Yw (a0 : (Bool × List (Int) × Bool × List (Int) × Bool × List (Int) × Bool × List (Int))) : wtF Qu Tryz.f149 (a0) = BX a0 := by kernel_rfl
theorem DU : EntOK RR DP := Ab (X := Qu) ⟨tyOK, boolOK, eqOK⟩ (Ad (by exact ⟨⟨OO, rfl⟩, trivial⟩)) (Ae (by kernel_rfl)) ⟨Tryz.func149, rfl, by kernel_rfl, rfl⟩ (fun x => by exact Yw x)
noncomputable def C0 (a0 : (Bool × ((List Int) × (Bool × ((List Int) × (Bool × ((List Int) × (Bool × (List Int))))))))) (a1 : (Bool × ((List Int) × (Bool × ((List Int) × (Bool × ((List Int) × (Bool × (List Int))))))))) : Option ((Bool × List (Int) × Bool × List (Int) × Bool × List (Int) × Bool × List (Int)) × Bool) :=
  ((Cz (a0.1, (a0.2.1, (a0.2.2.1, (a0.2.2.2.1, (a0.2.2.2.2.1, (a0.2.2.2.2.2.1, (a0.2.2.2.2.2.2.1, a0.2.2.2.2.2.2.2))))))) (a1.1, (a1.2.1, (a1.2.2.1, (a1.2.2.2.1, (a1.2.2.2.2.1, (a1.2.2.2.2.2.1, (a1.2.2.2.2.2.2.1, a1.2.2.2.2.2.2.2))))))))).bind fun x0 =>
  bif (!x0) then
    some ((false, ((List.nil : List Int), (false, ((List.nil : List Int), (false, ((List.nil : List Int), (false, (List.nil : List Int)))))))), false)
  else
  ((ET (a0.1, (a0.2.1, (a0.2.2.1, a0.2.2.2.1))) (a1.1, (a1.2.1, (a1.2.2.1, a1.2.2.2.1))))).bind fun x1 =>
  ((ET (a0.2.2.2.2.1, (a0.2.2.2.2.2.1, (a0.2.2.2.2.2.2.1, a0.2.2.2.2.2.2.2))) (a1.2.2.2.2.1, (a1.2.2.2.2.2.1, (a1.2.2.2.2.2.2.1, a1.2.2.2.2.2.2.2))))).bind fun x2 =>
  ((BX (x1.1, (x1.2.1, (x1.2.2.1, (x1.2.2.2, (x2.1, (x2.2.1, (x2.2.2.1, x2.2.2.2))))))))).bind fun x3 =>
  some ((x3.1.1, (x3.1.2.1, (x3.1.2.2.1, (x3.1.2.2.2.1, (x3.1.2.2.2.2.1, (x3.1.2.2.2.2.2.1, (x3.1.2.2.2.2.2.2.1, x3.1.2.2.2.2.2.2.2))))))), x3.2)
noncomputable def Oi : Ent := ⟨Jl, fun x => C0 x.1 x.2⟩
noncomputable def OU : TX := ⟨tyTab, codTab, [], [4], [Gl, M5, DP], Jl⟩
set_option maxHeartbeats 2000000 in
theorem WH (a0 : (Bool × List (Int) × Bool × List (Int) × Bool × List (Int) × Bool × List (Int))) (a1 : (Bool × List (Int) × Bool × List (Int) × Bool × List (Int) × Bool × List (Int))) : wtF OU Tryz.f31 (a0, a1) = C0 a0 a1 := by kernel_rfl
theorem UN : EntOK RR Oi := Ab (X := OU) ⟨tyOK, boolOK, eqOK⟩ (Ad (by exact ⟨⟨G5, rfl⟩, ⟨⟨RW, rfl⟩, ⟨⟨DU, rfl⟩, trivial⟩⟩⟩)) (Ae (by kernel_rfl)) ⟨Tryz.func31, rfl, by kernel_rfl, rfl⟩ (fun x => by exact WH x.1 x.2)
noncomputable def Fn (a0 : (Bool × ((List Int) × (Bool × (List Int))))) : Option ((Bool × List (Int) × Bool × List (Int))) :=
  ((DT (a0.1, a0.2.1))).bind fun x0 =>
  ((AP false a0.2.2.2)).bind fun x1 =>
  some (x0.1, (x0.2, (x1.2, x1.1)))
noncomputable def O0 : Ent := ⟨JH, fun x => Fn x⟩
noncomputable def Pa : TX := ⟨tyTab, codTab, [], [4], [J0, Dm], JH⟩
set_option maxHeartbeats 2000000 in
theorem VS (a0 : (Bool × List (Int) × Bool × List (Int))) : wtF Pa Tryz.f159 (a0) = Fn a0 := by kernel_rfl
theorem Vf : EntOK RR O0 := Ab (X := Pa) ⟨tyOK, boolOK, eqOK⟩ (Ad (by exact ⟨⟨LV, rfl⟩, ⟨⟨C3, rfl⟩, trivial⟩⟩)) (Ae (by kernel_rfl)) ⟨Tryz.func159, rfl, by kernel_rfl, rfl⟩ (fun x => by exact VS x)
noncomputable def Cl (a0 : (Bool × ((List Int) × (Bool × (List Int))))) (a1 : (Bool × ((List Int) × (Bool × (List Int))))) : Option ((Bool × List (Int) × Bool × List (Int))) :=
  ((Fn (a1.1, (a1.2.1, (a1.2.2.1, a1.2.2.2))))).bind fun x0 =>
  ((Ch (a0.1, (a0.2.1, (a0.2.2.1, a0.2.2.2))) (x0.1, (x0.2.1, (x0.2.2.1, x0.2.2.2))))).bind fun x1 =>
  some (x1.1, (x1.2.1, (x1.2.2.1, x1.2.2.2)))
noncomputable def GX : Ent := ⟨IP, fun x => Cl x.1 x.2⟩
noncomputable def N4 : TX := ⟨tyTab, codTab, [], [4], [O0, GY], IP⟩
set_option maxHeartbeats 2000000 in
theorem W3 (a0 : (Bool × List (Int) × Bool × List (Int))) (a1 : (Bool × List (Int) × Bool × List (Int))) : wtF N4 Tryz.f108 (a0, a1) = Cl a0 a1 := by kernel_rfl
theorem Ig : EntOK RR GX := Ab (X := N4) ⟨tyOK, boolOK, eqOK⟩ (Ad (by exact ⟨⟨Vf, rfl⟩, ⟨⟨Iq, rfl⟩, trivial⟩⟩)) (Ae (by kernel_rfl)) ⟨Tryz.func108, rfl, by kernel_rfl, rfl⟩ (fun x => by exact W3 x.1 x.2)
noncomputable def CR (a0 : (Bool × ((List Int) × (Bool × ((List Int) × (Bool × ((List Int) × (Bool × (List Int))))))))) (a1 : (Bool × ((List Int) × (Bool × ((List Int) × (Bool × ((List Int) × (Bool × (List Int))))))))) : Option ((Bool × List (Int) × Bool × List (Int) × Bool × List (Int) × Bool × List (Int)) × Bool) :=
  ((BA (List.cons (((a0.1, a0.2.1), (a0.2.2.1, a0.2.2.2.1)), ((a0.2.2.2.2.1, a0.2.2.2.2.2.1), (a0.2.2.2.2.2.2.1, a0.2.2.2.2.2.2.2))) (List.cons (((a1.1, a1.2.1), (a1.2.2.1, a1.2.2.2.1)), ((a1.2.2.2.2.1, a1.2.2.2.2.2.1), (a1.2.2.2.2.2.2.1, a1.2.2.2.2.2.2.2))) (List.nil : List (((Bool × (List Int)) × (Bool × (List Int))) × ((Bool × (List Int)) × (Bool × (List Int))))))))).bind fun x0 =>
  bif (!x0) then
    some ((false, ((List.nil : List Int), (false, ((List.nil : List Int), (false, ((List.nil : List Int), (false, (List.nil : List Int)))))))), false)
  else
  ((Cl (a0.1, (a0.2.1, (a0.2.2.1, a0.2.2.2.1))) (a1.2.2.2.2.1, (a1.2.2.2.2.2.1, (a1.2.2.2.2.2.2.1, a1.2.2.2.2.2.2.2))))).bind fun x1 =>
  ((Cl (a0.2.2.2.2.1, (a0.2.2.2.2.2.1, (a0.2.2.2.2.2.2.1, a0.2.2.2.2.2.2.2))) (a1.1, (a1.2.1, (a1.2.2.1, a1.2.2.2.1))))).bind fun x2 =>
  ((Bb (x1.1, (x1.2.1, (x1.2.2.1, x1.2.2.2))) (x2.1, (x2.2.1, (x2.2.2.1, x2.2.2.2))))).bind fun x3 =>
  some ((x3.1.1, (x3.1.2.1, (x3.1.2.2.1, (x3.1.2.2.2.1, (x3.1.2.2.2.2.1, (x3.1.2.2.2.2.2.1, (x3.1.2.2.2.2.2.2.1, x3.1.2.2.2.2.2.2.2))))))), x3.2)
noncomputable def OW : Ent := ⟨I3, fun x => CR x.1 x.2⟩
noncomputable def Oy : TX := ⟨tyTab, codTab, [], [4], [Eg, GX, CA], I3⟩
set_option maxHeartbeats 2000000 in
theorem VM (a0 : (Bool × List (Int) × Bool × List (Int) × Bool × List (Int) × Bool × List (Int))) (a1 : (Bool × List (Int) × Bool × List (Int) × Bool × List (Int) × Bool × List (Int))) : wtF Oy Tryz.f32 (a0, a1) = CR a0 a1 := by kernel_rfl
theorem T8 : EntOK RR OW := Ab (X := Oy) ⟨tyOK, boolOK, eqOK⟩ (Ad (by exact ⟨⟨EV, rfl⟩, ⟨⟨Ig, rfl⟩, ⟨⟨Dg, rfl⟩, trivial⟩⟩⟩)) (Ae (by kernel_rfl)) ⟨Tryz.func32, rfl, by kernel_rfl, rfl⟩ (fun x => by exact VM x.1 x.2)
noncomputable def Hq (a0 : (Bool × ((List Int) × (Bool × (List Int))))) : Option ((Bool × List (Int) × Bool × List (Int))) :=
  ((EL (a0.1, a0.2.1))).bind fun x0 =>
  some (x0.1, (x0.2, (a0.2.2.1, a0.2.2.2)))
noncomputable def Tx : Ent := ⟨Nu, fun x => Hq x⟩
noncomputable def S3 : TX := ⟨tyTab, codTab, [], [4], [M9], Nu⟩
set_option maxHeartbeats 2000000 in
theorem Ad1 (a0 : (Bool × List (Int) × Bool × List (Int))) : wtF S3 Tryz.f163 (a0) = Hq a0 := by kernel_rfl
theorem Xz : EntOK RR Tx := Ab (X := S3) ⟨tyOK, boolOK, eqOK⟩ (Ad (by exact ⟨⟨R3, rfl⟩, trivial⟩)) (Ae (by kernel_rfl)) ⟨Tryz.func163, rfl, by kernel_rfl, rfl⟩ (fun x => by exact Ad1 x)
noncomputable def EU (a0 : (Bool × ((List Int) × (Bool × (List Int))))) (a1 : (Bool × ((List Int) × (Bool × (List Int))))) : Option ((Bool × List (Int) × Bool × List (Int))) :=
  ((Hq (a1.1, (a1.2.1, (a1.2.2.1, a1.2.2.2))))).bind fun x0 =>
  ((ET (a0.1, (a0.2.1, (a0.2.2.1, a0.2.2.2))) (x0.1, (x0.2.1, (x0.2.2.1, x0.2.2.2))))).bind fun x1 =>
  some (x1.1, (x1.2.1, (x1.2.2.1, x1.2.2.2)))
noncomputable def NP : Ent := ⟨MT, fun x => EU x.1 x.2⟩
noncomputable def Tj : TX := ⟨tyTab, codTab, [], [4], [Tx, M5], MT⟩
set_option maxHeartbeats 2000000 in
theorem Aa4 (a0 : (Bool × List (Int) × Bool × List (Int))) (a1 : (Bool × List (Int) × Bool × List (Int))) : wtF Tj Tryz.f115 (a0, a1) = EU a0 a1 := by kernel_rfl
theorem RA : EntOK RR NP := Ab (X := Tj) ⟨tyOK, boolOK, eqOK⟩ (Ad (by exact ⟨⟨Xz, rfl⟩, ⟨⟨RW, rfl⟩, trivial⟩⟩)) (Ae (by kernel_rfl)) ⟨Tryz.func115, rfl, by kernel_rfl, rfl⟩ (fun x => by exact Aa4 x.1 x.2)
noncomputable def CZ (a0 : (Bool × ((List Int) × (Bool × ((List Int) × (Bool × ((List Int) × (Bool × (List Int))))))))) (a1 : (Bool × ((List Int) × (Bool × ((List Int) × (Bool × ((List Int) × (Bool × (List Int))))))))) : Option ((Bool × List (Int) × Bool × List (Int) × Bool × List (Int) × Bool × List (Int)) × Bool) :=
  ((Cz (a0.1, (a0.2.1, (a0.2.2.1, (a0.2.2.2.1, (a0.2.2.2.2.1, (a0.2.2.2.2.2.1, (a0.2.2.2.2.2.2.1, a0.2.2.2.2.2.2.2))))))) (a1.1, (a1.2.1, (a1.2.2.1, (a1.2.2.2.1, (a1.2.2.2.2.1, (a1.2.2.2.2.2.1, (a1.2.2.2.2.2.2.1, a1.2.2.2.2.2.2.2))))))))).bind fun x0 =>
  bif (!x0) then
    some ((false, ((List.nil : List Int), (false, ((List.nil : List Int), (false, ((List.nil : List Int), (false, (List.nil : List Int)))))))), false)
  else
  ((EU (a0.1, (a0.2.1, (a0.2.2.1, a0.2.2.2.1))) (a1.2.2.2.2.1, (a1.2.2.2.2.2.1, (a1.2.2.2.2.2.2.1, a1.2.2.2.2.2.2.2))))).bind fun x1 =>
  ((EU (a0.2.2.2.2.1, (a0.2.2.2.2.2.1, (a0.2.2.2.2.2.2.1, a0.2.2.2.2.2.2.2))) (a1.1, (a1.2.1, (a1.2.2.1, a1.2.2.2.1))))).bind fun x2 =>
  ((BX (x1.1, (x1.2.1, (x1.2.2.1, (x1.2.2.2, (x2.1, (x2.2.1, (x2.2.2.1, x2.2.2.2))))))))).bind fun x3 =>
  some ((x3.1.1, (x3.1.2.1, (x3.1.2.2.1, (x3.1.2.2.2.1, (x3.1.2.2.2.2.1, (x3.1.2.2.2.2.2.1, (x3.1.2.2.2.2.2.2.1, x3.1.2.2.2.2.2.2.2))))))), x3.2)
noncomputable def OJ : Ent := ⟨JS, fun x => CZ x.1 x.2⟩
noncomputable def N5 : TX := ⟨tyTab, codTab, [], [4], [Gl, NP, DP], JS⟩
set_option maxHeartbeats 2000000 in
theorem WF (a0 : (Bool × List (Int) × Bool × List (Int) × Bool × List (Int) × Bool × List (Int))) (a1 : (Bool × List (Int) × Bool × List (Int) × Bool × List (Int) × Bool × List (Int))) : wtF N5 Tryz.f33 (a0, a1) = CZ a0 a1 := by kernel_rfl
theorem UL : EntOK RR OJ := Ab (X := N5) ⟨tyOK, boolOK, eqOK⟩ (Ad (by exact ⟨⟨G5, rfl⟩, ⟨⟨RA, rfl⟩, ⟨⟨DU, rfl⟩, trivial⟩⟩⟩)) (Ae (by kernel_rfl)) ⟨Tryz.func33, rfl, by kernel_rfl, rfl⟩ (fun x => by exact WF x.1 x.2)
noncomputable def Bm (a0 : (Bool × ((List Int) × (Bool × (List Int))))) (a1 : (Bool × ((List Int) × (Bool × (List Int))))) : Option ((Bool × List (Int) × Bool × List (Int))) :=
  ((AR (a0.1, a0.2.1) (a1.1, a1.2.1))).bind fun x0 =>
  ((AR (a0.2.2.1, a0.2.2.2) (a1.2.2.1, a1.2.2.2))).bind fun x1 =>
  ((D2 (x0.2, x0.1) (x1.2, x1.1))).bind fun x2 =>
  some (x2.1, (x2.2.1, (x2.2.2.1, x2.2.2.2)))
noncomputable def GV : Ent := ⟨JW, fun x => Bm x.1 x.2⟩
noncomputable def O7 : TX := ⟨tyTab, codTab, [], [4], [D7, Hh], JW⟩
set_option maxHeartbeats 2000000 in
theorem VN (a0 : (Bool × List (Int) × Bool × List (Int))) (a1 : (Bool × List (Int) × Bool × List (Int))) : wtF O7 Tryz.f140 (a0, a1) = Bm a0 a1 := by kernel_rfl
theorem Ie : EntOK RR GV := Ab (X := O7) ⟨tyOK, boolOK, eqOK⟩ (Ad (by exact ⟨⟨Ew, rfl⟩, ⟨⟨Ii, rfl⟩, trivial⟩⟩)) (Ae (by kernel_rfl)) ⟨Tryz.func140, rfl, by kernel_rfl, rfl⟩ (fun x => by exact VN x.1 x.2)
noncomputable def Ap (s0 : (Bool × ((List Int) × (Bool × (List Int))))) (s1 : (Bool × ((List Int) × (Bool × (List Int))))) (s2 : (List ((Bool × (List Int)) × (Bool × (List Int))))) (s3 : Int) : Option (((Bool × ((List Int) × (Bool × (List Int)))) × ((Bool × ((List Int) × (Bool × (List Int)))) × ((List ((Bool × (List Int)) × (Bool × (List Int)))) × Int))) ⊕ ((Bool × ((List Int) × (Bool × (List Int)))) × (Bool × ((List Int) × (Bool × (List Int)))))) :=
  bif decide (s3 < (((List.length s2) : Nat) : Int)) then
    ((getI s2 s3)).bind fun x0 =>
    ((BL (x0.1.1, (x0.1.2, (x0.2.1, x0.2.2))) (s1.1, (s1.2.1, (s1.2.2.1, s1.2.2.2))))).bind fun x1 =>
    bif decide (x1 < (0 : Int)) then
      ((getI s2 s3)).bind fun x2 =>
      some (Sum.inl ((s0.1, (s0.2.1, (s0.2.2.1, s0.2.2.2))), ((x2.1.1, (x2.1.2, (x2.2.1, x2.2.2))), (s2, (Go.IntKind.wrap Go.IntKind.i64 (s3 + (1 : Int)))))))
    else
    some (Sum.inl ((s0.1, (s0.2.1, (s0.2.2.1, s0.2.2.2))), ((s1.1, (s1.2.1, (s1.2.2.1, s1.2.2.2))), (s2, (Go.IntKind.wrap Go.IntKind.i64 (s3 + (1 : Int)))))))
  else
  some (Sum.inr ((s0.1, (s0.2.1, (s0.2.2.1, s0.2.2.2))), (s1.1, (s1.2.1, (s1.2.2.1, s1.2.2.2)))))
noncomputable def AA (a0 : (List ((Bool × (List Int)) × (Bool × (List Int))))) : Option ((Bool × List (Int) × Bool × List (Int))) :=
  bif decide ((((List.length a0) : Nat) : Int) < (1 : Int)) then
    none
  else
  ((getI a0 (0 : Int))).bind fun x0 =>
  (loopM (fun (s : ((Bool × ((List Int) × (Bool × (List Int)))) × ((Bool × ((List Int) × (Bool × (List Int)))) × ((List ((Bool × (List Int)) × (Bool × (List Int)))) × Int)))) => Ap s.1 s.2.1 s.2.2.1 s.2.2.2) ((false, ((List.nil : List Int), (false, (List.nil : List Int)))), ((x0.1.1, (x0.1.2, (x0.2.1, x0.2.2))), (a0, (1 : Int))))).bind fun x1 =>
  some (x1.2.1, (x1.2.2.1, (x1.2.2.2.1, x1.2.2.2.2)))
noncomputable def Cq : Ent := ⟨Bq, fun x => AA x⟩
noncomputable def Ci : TX := ⟨tyTab, codTab, [], [4], [Ei], Bq⟩
set_option maxHeartbeats 2000000 in
theorem Fb (a0 : List (((Bool × List (Int)) × (Bool × List (Int))))) : wtF Ci Tryz.f244 (a0) = AA a0 := by kernel_rfl
theorem ED : EntOK RR Cq := Ab (X := Ci) ⟨tyOK, boolOK, eqOK⟩ (Ad (by exact ⟨⟨Fy, rfl⟩, trivial⟩)) (Ae (by kernel_rfl)) ⟨Tryz.func244, rfl, by kernel_rfl, rfl⟩ (fun x => by exact Fb x)
noncomputable def Ao (s0 : (Bool × ((List Int) × (Bool × (List Int))))) (s1 : (Bool × ((List Int) × (Bool × (List Int))))) (s2 : (List ((Bool × (List Int)) × (Bool × (List Int))))) (s3 : Int) : Option (((Bool × ((List Int) × (Bool × (List Int)))) × ((Bool × ((List Int) × (Bool × (List Int)))) × ((List ((Bool × (List Int)) × (Bool × (List Int)))) × Int))) ⊕ ((Bool × ((List Int) × (Bool × (List Int)))) × (Bool × ((List Int) × (Bool × (List Int)))))) :=
  bif decide (s3 < (((List.length s2) : Nat) : Int)) then
    ((getI s2 s3)).bind fun x0 =>
    ((BL (x0.1.1, (x0.1.2, (x0.2.1, x0.2.2))) (s1.1, (s1.2.1, (s1.2.2.1, s1.2.2.2))))).bind fun x1 =>
    bif decide (x1 > (0 : Int)) then
      ((getI s2 s3)).bind fun x2 =>
      some (Sum.inl ((s0.1, (s0.2.1, (s0.2.2.1, s0.2.2.2))), ((x2.1.1, (x2.1.2, (x2.2.1, x2.2.2))), (s2, (Go.IntKind.wrap Go.IntKind.i64 (s3 + (1 : Int)))))))
    else
    some (Sum.inl ((s0.1, (s0.2.1, (s0.2.2.1, s0.2.2.2))), ((s1.1, (s1.2.1, (s1.2.2.1, s1.2.2.2))), (s2, (Go.IntKind.wrap Go.IntKind.i64 (s3 + (1 : Int)))))))
  else
  some (Sum.inr ((s0.1, (s0.2.1, (s0.2.2.1, s0.2.2.2))), (s1.1, (s1.2.1, (s1.2.2.1, s1.2.2.2)))))
noncomputable def AD (a0 : (List ((Bool × (List Int)) × (Bool × (List Int))))) : Option ((Bool × List (Int) × Bool × List (Int))) :=
  bif decide ((((List.length a0) : Nat) : Int) < (1 : Int)) then
    none
  else
  ((getI a0 (0 : Int))).bind fun x0 =>
  (loopM (fun (s : ((Bool × ((List Int) × (Bool × (List Int)))) × ((Bool × ((List Int) × (Bool × (List Int)))) × ((List ((Bool × (List Int)) × (Bool × (List Int)))) × Int)))) => Ao s.1 s.2.1 s.2.2.1 s.2.2.2) ((false, ((List.nil : List Int), (false, (List.nil : List Int)))), ((x0.1.1, (x0.1.2, (x0.2.1, x0.2.2))), (a0, (1 : Int))))).bind fun x1 =>
  some (x1.2.1, (x1.2.2.1, (x1.2.2.2.1, x1.2.2.2.2)))
noncomputable def Cn : Ent := ⟨Bs, fun x => AD x⟩
noncomputable def Cj : TX := ⟨tyTab, codTab, [], [4], [Ei], Bs⟩
set_option maxHeartbeats 2000000 in
theorem Fa (a0 : List (((Bool × List (Int)) × (Bool × List (Int))))) : wtF Cj Tryz.f245 (a0) = AD a0 := by kernel_rfl
theorem EO : EntOK RR Cn := Ab (X := Cj) ⟨tyOK, boolOK, eqOK⟩ (Ad (by exact ⟨⟨Fy, rfl⟩, trivial⟩)) (Ae (by kernel_rfl)) ⟨Tryz.func245, rfl, by kernel_rfl, rfl⟩ (fun x => by exact Fa x)
noncomputable def Bt (a0 : (List ((Bool × (List Int)) × (Bool × (List Int))))) : Option ((Bool × List (Int) × Bool × List (Int) × Bool × List (Int) × Bool × List (Int)) × Bool) :=
  ((AA a0)).bind fun x0 =>
  ((AD a0)).bind fun x1 =>
  ((Bb (x0.1, (x0.2.1, (x0.2.2.1, x0.2.2.2))) (x1.1, (x1.2.1, (x1.2.2.1, x1.2.2.2))))).bind fun x2 =>
  some ((x2.1.1, (x2.1.2.1, (x2.1.2.2.1, (x2.1.2.2.2.1, (x2.1.2.2.2.2.1, (x2.1.2.2.2.2.2.1, (x2.1.2.2.2.2.2.2.1, x2.1.2.2.2.2.2.2.2))))))), x2.2)
noncomputable def H1 : Ent := ⟨Lp, fun x => Bt x⟩
noncomputable def QZ : TX := ⟨tyTab, codTab, [], [4], [Cq, Cn, CA], Lp⟩
set_option maxHeartbeats 2000000 in
theorem Yg (a0 : List (((Bool × List (Int)) × (Bool × List (Int))))) : wtF QZ Tryz.f150 (a0) = Bt a0 := by kernel_rfl
theorem JD : EntOK RR H1 := Ab (X := QZ) ⟨tyOK, boolOK, eqOK⟩ (Ad (by exact ⟨⟨ED, rfl⟩, ⟨⟨EO, rfl⟩, ⟨⟨Dg, rfl⟩, trivial⟩⟩⟩)) (Ae (by kernel_rfl)) ⟨Tryz.func150, rfl, by kernel_rfl, rfl⟩ (fun x => by exact Yg x)
noncomputable def CV (a0 : (Bool × ((List Int) × (Bool × ((List Int) × (Bool × ((List Int) × (Bool × (List Int))))))))) (a1 : (Bool × ((List Int) × (Bool × ((List Int) × (Bool × ((List Int) × (Bool × (List Int))))))))) : Option ((Bool × List (Int) × Bool × List (Int) × Bool × List (Int) × Bool × List (Int)) × Bool) :=
  ((BA (List.cons (((a0.1, a0.2.1), (a0.2.2.1, a0.2.2.2.1)), ((a0.2.2.2.2.1, a0.2.2.2.2.2.1), (a0.2.2.2.2.2.2.1, a0.2.2.2.2.2.2.2))) (List.cons (((a1.1, a1.2.1), (a1.2.2.1, a1.2.2.2.1)), ((a1.2.2.2.2.1, a1.2.2.2.2.2.1), (a1.2.2.2.2.2.2.1, a1.2.2.2.2.2.2.2))) (List.nil : List (((Bool × (List Int)) × (Bool × (List Int))) × ((Bool × (List Int)) × (Bool × (List Int))))))))).bind fun x0 =>
  bif (!x0) then
    some ((false, ((List.nil : List Int), (false, ((List.nil : List Int), (false, ((List.nil : List Int), (false, (List.nil : List Int)))))))), false)
  else
  ((Bm (a0.1, (a0.2.1, (a0.2.2.1, a0.2.2.2.1))) (a1.1, (a1.2.1, (a1.2.2.1, a1.2.2.2.1))))).bind fun x1 =>
  ((Bm (a0.1, (a0.2.1, (a0.2.2.1, a0.2.2.2.1))) (a1.2.2.2.2.1, (a1.2.2.2.2.2.1, (a1.2.2.2.2.2.2.1, a1.2.2.2.2.2.2.2))))).bind fun x2 =>
  ((Bm (a0.2.2.2.2.1, (a0.2.2.2.2.2.1, (a0.2.2.2.2.2.2.1, a0.2.2.2.2.2.2.2))) (a1.1, (a1.2.1, (a1.2.2.1, a1.2.2.2.1))))).bind fun x3 =>
  ((Bm (a0.2.2.2.2.1, (a0.2.2.2.2.2.1, (a0.2.2.2.2.2.2.1, a0.2.2.2.2.2.2.2))) (a1.2.2.2.2.1, (a1.2.2.2.2.2.1, (a1.2.2.2.2.2.2.1, a1.2.2.2.2.2.2.2))))).bind fun x4 =>
  ((Bt (List.cons ((x1.1, x1.2.1), (x1.2.2.1, x1.2.2.2)) (List.cons ((x2.1, x2.2.1), (x2.2.2.1, x2.2.2.2)) (List.cons ((x3.1, x3.2.1), (x3.2.2.1, x3.2.2.2)) (List.cons ((x4.1, x4.2.1), (x4.2.2.1, x4.2.2.2)) (List.nil : List ((Bool × (List Int)) × (Bool × (List Int)))))))))).bind fun x5 =>
  some ((x5.1.1, (x5.1.2.1, (x5.1.2.2.1, (x5.1.2.2.2.1, (x5.1.2.2.2.2.1, (x5.1.2.2.2.2.2.1, (x5.1.2.2.2.2.2.2.1, x5.1.2.2.2.2.2.2.2))))))), x5.2)
noncomputable def OG : Ent := ⟨Je, fun x => CV x.1 x.2⟩
noncomputable def O6 : TX := ⟨tyTab, codTab, [], [4], [Eg, GV, H1], Je⟩
set_option maxHeartbeats 2000000 in
theorem WZ (a0 : (Bool × List (Int) × Bool × List (Int) × Bool × List (Int) × Bool × List (Int))) (a1 : (Bool × List (Int) × Bool × List (Int) × Bool × List (Int) × Bool × List (Int))) : wtF O6 Tryz.f34 (a0, a1) = CV a0 a1 := by kernel_rfl
theorem UR : EntOK RR OG := Ab (X := O6) ⟨tyOK, boolOK, eqOK⟩ (Ad (by exact ⟨⟨EV, rfl⟩, ⟨⟨Ie, rfl⟩, ⟨⟨JD, rfl⟩, trivial⟩⟩⟩)) (Ae (by kernel_rfl)) ⟨Tryz.func34, rfl, by kernel_rfl, rfl⟩ (fun x => by exact WZ x.1 x.2)
noncomputable def CG (a0 : (Bool × ((List Int) × (Bool × (List Int))))) (a1 : (Bool × ((List Int) × (Bool × (List Int))))) : Option ((Bool × List (Int) × Bool × List (Int))) :=
  ((BE (a0.1, a0.2.1) (a1.1, a1.2.1))).bind fun x0 =>
  ((BE (a0.2.2.1, a0.2.2.2) (a1.2.2.1, a1.2.2.2))).bind fun x1 =>
  ((Cw (x0.1, x0.2) (x1.1, x1.2))).bind fun x2 =>
  some (x2.1, (x2.2.1, (x2.2.2.1, x2.2.2.2)))
noncomputable def M3 : Ent := ⟨NE, fun x => CG x.1 x.2⟩
noncomputable def SE : TX := ⟨tyTab, codTab, [], [4], [Hw, EG], NE⟩
set_option maxHeartbeats 2000000 in
theorem Ab1 (a0 : (Bool × List (Int) × Bool × List (Int))) (a1 : (Bool × List (Int) × Bool × List (Int))) : wtF SE Tryz.f152 (a0, a1) = CG a0 a1 := by kernel_rfl
theorem Ri : EntOK RR M3 := Ab (X := SE) ⟨tyOK, boolOK, eqOK⟩ (Ad (by exact ⟨⟨Io, rfl⟩, ⟨⟨Fh, rfl⟩, trivial⟩⟩)) (Ae (by kernel_rfl)) ⟨Tryz.func152, rfl, by kernel_rfl, rfl⟩ (fun x => by exact Ab1 x.1 x.2)
noncomputable def DG (s0 : (Bool × ((List Int) × (Bool × ((List Int) × (Bool × ((List Int) × (Bool × (List Int))))))))) (s1 : (Bool × ((List Int) × (Bool × ((List Int) × (Bool × ((List Int) × (Bool × (List Int))))))))) (s2 : (List ((Bool × (List Int)) × (Bool × (List Int))))) (s3 : Int) (s4 : Int) : Option (((Bool × ((List Int) × (Bool × ((List Int) × (Bool × ((List Int) × (Bool × (List Int)))))))) × ((Bool × ((List Int) × (Bool × ((List Int) × (Bool × ((List Int) × (Bool × (List Int)))))))) × ((List ((Bool × (List Int)) × (Bool × (List Int)))) × (Int × Int)))) ⊕ ((Bool × ((List Int) × (Bool × ((List Int) × (Bool × ((List Int) × (Bool × (List Int)))))))) × (Bool × ((List Int) × (Bool × ((List Int) × (Bool × ((List Int) × (Bool × (List Int)))))))))) :=
  bif decide (s4 < s3) then
    ((getI s2 s4)).bind fun x0 =>
    (((CI (x0.1.1, (x0.1.2, (x0.2.1, x0.2.2))) (s1.1, (s1.2.1, (s1.2.2.1, s1.2.2.2.1))))).bind fun x1 =>
      bif decide (x1 < (0 : Int)) then
        some (Sum.inr ((s0.1, (s0.2.1, (s0.2.2.1, (s0.2.2.2.1, (s0.2.2.2.2.1, (s0.2.2.2.2.2.1, (s0.2.2.2.2.2.2.1, s0.2.2.2.2.2.2.2))))))), ((x0.1.1, (x0.1.2, (x0.2.1, (x0.2.2, (s1.2.2.2.2.1, (s1.2.2.2.2.2.1, (s1.2.2.2.2.2.2.1, s1.2.2.2.2.2.2.2))))))), ((x0.1.1, (x0.1.2, (x0.2.1, x0.2.2))), (s2, (s3, s4))))))
      else
      some (Sum.inr ((s0.1, (s0.2.1, (s0.2.2.1, (s0.2.2.2.1, (s0.2.2.2.2.1, (s0.2.2.2.2.2.1, (s0.2.2.2.2.2.2.1, s0.2.2.2.2.2.2.2))))))), ((s1.1, (s1.2.1, (s1.2.2.1, (s1.2.2.2.1, (s1.2.2.2.2.1, (s1.2.2.2.2.2.1, (s1.2.2.2.2.2.2.1, s1.2.2.2.2.2.2.2))))))), ((x0.1.1, (x0.1.2, (x0.2.1, x0.2.2))), (s2, (s3, s4))))))).bind fun x2 =>
    Sum.elim
      (fun x3 =>
      some x3)
      (fun x4 =>
      ((CI (x4.2.2.1.1, (x4.2.2.1.2.1, (x4.2.2.1.2.2.1, x4.2.2.1.2.2.2))) (x4.2.1.2.2.2.2.1, (x4.2.1.2.2.2.2.2.1, (x4.2.1.2.2.2.2.2.2.1, x4.2.1.2.2.2.2.2.2.2))))).bind fun x5 =>
      bif decide (x5 > (0 : Int)) then
        some (Sum.inl ((x4.1.1, (x4.1.2.1, (x4.1.2.2.1, (x4.1.2.2.2.1, (x4.1.2.2.2.2.1, (x4.1.2.2.2.2.2.1, (x4.1.2.2.2.2.2.2.1, x4.1.2.2.2.2.2.2.2))))))), ((x4.2.1.1, (x4.2.1.2.1, (x4.2.1.2.2.1, (x4.2.1.2.2.2.1, (x4.2.2.1.1, (x4.2.2.1.2.1, (x4.2.2.1.2.2.1, x4.2.2.1.2.2.2))))))), (x4.2.2.2.1, (x4.2.2.2.2.1, (Go.IntKind.wrap Go.IntKind.i64 (x4.2.2.2.2.2 + (1 : Int))))))))
      else
      some (Sum.inl ((x4.1.1, (x4.1.2.1, (x4.1.2.2.1, (x4.1.2.2.2.1, (x4.1.2.2.2.2.1, (x4.1.2.2.2.2.2.1, (x4.1.2.2.2.2.2.2.1, x4.1.2.2.2.2.2.2.2))))))), ((x4.2.1.1, (x4.2.1.2.1, (x4.2.1.2.2.1, (x4.2.1.2.2.2.1, (x4.2.1.2.2.2.2.1, (x4.2.1.2.2.2.2.2.1, (x4.2.1.2.2.2.2.2.2.1, x4.2.1.2.2.2.2.2.2.2))))))), (x4.2.2.2.1, (x4.2.2.2.2.1, (Go.IntKind.wrap Go.IntKind.i64 (x4.2.2.2.2.2 + (1 : Int)))))))))
      x2
  else
  some (Sum.inr ((s0.1, (s0.2.1, (s0.2.2.1, (s0.2.2.2.1, (s0.2.2.2.2.1, (s0.2.2.2.2.2.1, (s0.2.2.2.2.2.2.1, s0.2.2.2.2.2.2.2))))))), (s1.1, (s1.2.1, (s1.2.2.1, (s1.2.2.2.1, (s1.2.2.2.2.1, (s1.2.2.2.2.2.1, (s1.2.2.2.2.2.2.1, s1.2.2.2.2.2.2.2)))))))))
noncomputable def C4 (a0 : (List ((Bool × (List Int)) × (Bool × (List Int))))) : Option ((Bool × List (Int) × Bool × List (Int) × Bool × List (Int) × Bool × List (Int))) :=
  ((getI a0 (0 : Int))).bind fun x0 =>
  ((getI a0 (0 : Int))).bind fun x1 =>
  (loopM (fun (s : ((Bool × ((List Int) × (Bool × ((List Int) × (Bool × ((List Int) × (Bool × (List Int)))))))) × ((Bool × ((List Int) × (Bool × ((List Int) × (Bool × ((List Int) × (Bool × (List Int)))))))) × ((List ((Bool × (List Int)) × (Bool × (List Int)))) × (Int × Int))))) => DG s.1 s.2.1 s.2.2.1 s.2.2.2.1 s.2.2.2.2) ((false, ((List.nil : List Int), (false, ((List.nil : List Int), (false, ((List.nil : List Int), (false, (List.nil : List Int)))))))), ((x0.1.1, (x0.1.2, (x0.2.1, (x0.2.2, (x1.1.1, (x1.1.2, (x1.2.1, x1.2.2))))))), (a0, ((((List.length a0) : Nat) : Int), (0 : Int)))))).bind fun x2 =>
  some (x2.2.1, (x2.2.2.1, (x2.2.2.2.1, (x2.2.2.2.2.1, (x2.2.2.2.2.2.1, (x2.2.2.2.2.2.2.1, (x2.2.2.2.2.2.2.2.1, x2.2.2.2.2.2.2.2.2)))))))
noncomputable def Mj : Ent := ⟨Q0, fun x => C4 x⟩
noncomputable def W4 : TX := ⟨tyTab, codTab, [], [4], [HC], Q0⟩
set_option maxHeartbeats 2000000 in
theorem Ad9 (a0 : List (((Bool × List (Int)) × (Bool × List (Int))))) : wtF W4 Tryz.f151 (a0) = C4 a0 := by kernel_rfl
theorem Nb : EntOK RR Mj := Ab (X := W4) ⟨tyOK, boolOK, eqOK⟩ (Ad (by exact ⟨⟨Ir, rfl⟩, trivial⟩)) (Ae (by kernel_rfl)) ⟨Tryz.func151, rfl, by kernel_rfl, rfl⟩ (fun x => by exact Ad9 x)
noncomputable def C6 (a0 : (Bool × ((List Int) × (Bool × ((List Int) × (Bool × ((List Int) × (Bool × (List Int))))))))) (a1 : (Bool × ((List Int) × (Bool × ((List Int) × (Bool × ((List Int) × (Bool × (List Int))))))))) : Option ((Bool × List (Int) × Bool × List (Int) × Bool × List (Int) × Bool × List (Int)) × Bool) :=
  ((Cz (a0.1, (a0.2.1, (a0.2.2.1, (a0.2.2.2.1, (a0.2.2.2.2.1, (a0.2.2.2.2.2.1, (a0.2.2.2.2.2.2.1, a0.2.2.2.2.2.2.2))))))) (a1.1, (a1.2.1, (a1.2.2.1, (a1.2.2.2.1, (a1.2.2.2.2.1, (a1.2.2.2.2.2.1, (a1.2.2.2.2.2.2.1, a1.2.2.2.2.2.2.2))))))))).bind fun x0 =>
  bif (!x0) then
    some ((false, ((List.nil : List Int), (false, ((List.nil : List Int), (false, ((List.nil : List Int), (false, (List.nil : List Int)))))))), false)
  else
  ((CG (a0.1, (a0.2.1, (a0.2.2.1, a0.2.2.2.1))) (a1.1, (a1.2.1, (a1.2.2.1, a1.2.2.2.1))))).bind fun x1 =>
  ((CG (a0.1, (a0.2.1, (a0.2.2.1, a0.2.2.2.1))) (a1.2.2.2.2.1, (a1.2.2.2.2.2.1, (a1.2.2.2.2.2.2.1, a1.2.2.2.2.2.2.2))))).bind fun x2 =>
  ((CG (a0.2.2.2.2.1, (a0.2.2.2.2.2.1, (a0.2.2.2.2.2.2.1, a0.2.2.2.2.2.2.2))) (a1.1, (a1.2.1, (a1.2.2.1, a1.2.2.2.1))))).bind fun x3 =>
  ((CG (a0.2.2.2.2.1, (a0.2.2.2.2.2.1, (a0.2.2.2.2.2.2.1, a0.2.2.2.2.2.2.2))) (a1.2.2.2.2.1, (a1.2.2.2.2.2.1, (a1.2.2.2.2.2.2.1, a1.2.2.2.2.2.2.2))))).bind fun x4 =>
  ((C4 (List.cons ((x1.1, x1.2.1), (x1.2.2.1, x1.2.2.2)) (List.cons ((x2.1, x2.2.1), (x2.2.2.1, x2.2.2.2)) (List.cons ((x3.1, x3.2.1), (x3.2.2.1, x3.2.2.2)) (List.cons ((x4.1, x4.2.1), (x4.2.2.1, x4.2.2.2)) (List.nil : List ((Bool × (List Int)) × (Bool × (List Int)))))))))).bind fun x5 =>
  ((BX (x5.1, (x5.2.1, (x5.2.2.1, (x5.2.2.2.1, (x5.2.2.2.2.1, (x5.2.2.2.2.2.1, (x5.2.2.2.2.2.2.1, x5.2.2.2.2.2.2.2))))))))).bind fun x6 =>
  some ((x6.1.1, (x6.1.2.1, (x6.1.2.2.1, (x6.1.2.2.2.1, (x6.1.2.2.2.2.1, (x6.1.2.2.2.2.2.1, (x6.1.2.2.2.2.2.2.1, x6.1.2.2.2.2.2.2.2))))))), x6.2)
noncomputable def N8 : Ent := ⟨Jn, fun x => C6 x.1 x.2⟩
noncomputable def NU : TX := ⟨tyTab, codTab, [], [4], [Gl, M3, Mj, DP], Jn⟩
set_option maxHeartbeats 2000000 in
theorem V2 (a0 : (Bool × List (Int) × Bool × List (Int) × Bool × List (Int) × Bool × List (Int))) (a1 : (Bool × List (Int) × Bool × List (Int) × Bool × List (Int) × Bool × List (Int))) : wtF NU Tryz.f35 (a0, a1) = C6 a0 a1 := by kernel_rfl
theorem Uu : EntOK RR N8 := Ab (X := NU) ⟨tyOK, boolOK, eqOK⟩ (Ad (by exact ⟨⟨G5, rfl⟩, ⟨⟨Ri, rfl⟩, ⟨⟨Nb, rfl⟩, ⟨⟨DU, rfl⟩, trivial⟩⟩⟩⟩)) (Ae (by kernel_rfl)) ⟨Tryz.func35, rfl, by kernel_rfl, rfl⟩ (fun x => by exact V2 x.1 x.2)
noncomputable def Cx (a0 : (Bool × ((List Int) × (Bool × ((List Int) × (Bool × ((List Int) × (Bool × (List Int))))))))) (a1 : (Bool × ((List Int) × (Bool × ((List Int) × (Bool × ((List Int) × (Bool × (List Int))))))))) : Option ((Bool × List (Int) × Bool × List (Int) × Bool × List (Int) × Bool × List (Int)) × Bool) :=
  ((BA (List.cons (((a0.1, a0.2.1), (a0.2.2.1, a0.2.2.2.1)), ((a0.2.2.2.2.1, a0.2.2.2.2.2.1), (a0.2.2.2.2.2.2.1, a0.2.2.2.2.2.2.2))) (List.cons (((a1.1, a1.2.1), (a1.2.2.1, a1.2.2.2.1)), ((a1.2.2.2.2.1, a1.2.2.2.2.2.1), (a1.2.2.2.2.2.2.1, a1.2.2.2.2.2.2.2))) (List.nil : List (((Bool × (List Int)) × (Bool × (List Int))) × ((Bool × (List Int)) × (Bool × (List Int))))))))).bind fun x0 =>
  bif (!x0) then
    some ((false, ((List.nil : List Int), (false, ((List.nil : List Int), (false, ((List.nil : List Int), (false, (List.nil : List Int)))))))), false)
  else
  ((Bt (List.cons ((a0.1, a0.2.1), (a0.2.2.1, a0.2.2.2.1)) (List.cons ((a0.2.2.2.2.1, a0.2.2.2.2.2.1), (a0.2.2.2.2.2.2.1, a0.2.2.2.2.2.2.2)) (List.cons ((a1.1, a1.2.1), (a1.2.2.1, a1.2.2.2.1)) (List.cons ((a1.2.2.2.2.1, a1.2.2.2.2.2.1), (a1.2.2.2.2.2.2.1, a1.2.2.2.2.2.2.2)) (List.nil : List ((Bool × (List Int)) × (Bool × (List Int)))))))))).bind fun x1 =>
  some ((x1.1.1, (x1.1.2.1, (x1.1.2.2.1, (x1.1.2.2.2.1, (x1.1.2.2.2.2.1, (x1.1.2.2.2.2.2.1, (x1.1.2.2.2.2.2.2.1, x1.1.2.2.2.2.2.2.2))))))), x1.2)
noncomputable def LW : Ent := ⟨HW, fun x => Cx x.1 x.2⟩
noncomputable def Mh : TX := ⟨tyTab, codTab, [], [4], [Eg, H1], HW⟩
set_option maxHeartbeats 2000000 in
theorem Uo (a0 : (Bool × List (Int) × Bool × List (Int) × Bool × List (Int) × Bool × List (Int))) (a1 : (Bool × List (Int) × Bool × List (Int) × Bool × List (Int) × Bool × List (Int))) : wtF Mh Tryz.f36 (a0, a1) = Cx a0 a1 := by kernel_rfl
theorem Sb : EntOK RR LW := Ab (X := Mh) ⟨tyOK, boolOK, eqOK⟩ (Ad (by exact ⟨⟨EV, rfl⟩, ⟨⟨JD, rfl⟩, trivial⟩⟩)) (Ae (by kernel_rfl)) ⟨Tryz.func36, rfl, by kernel_rfl, rfl⟩ (fun x => by exact Uo x.1 x.2)
noncomputable def Cs (a0 : (Bool × ((List Int) × (Bool × ((List Int) × (Bool × ((List Int) × (Bool × (List Int))))))))) (a1 : (Bool × ((List Int) × (Bool × ((List Int) × (Bool × ((List Int) × (Bool × (List Int))))))))) : Option ((Bool × List (Int) × Bool × List (Int) × Bool × List (Int) × Bool × List (Int)) × Bool) :=
  ((Cz (a0.1, (a0.2.1, (a0.2.2.1, (a0.2.2.2.1, (a0.2.2.2.2.1, (a0.2.2.2.2.2.1, (a0.2.2.2.2.2.2.1, a0.2.2.2.2.2.2.2))))))) (a1.1, (a1.2.1, (a1.2.2.1, (a1.2.2.2.1, (a1.2.2.2.2.1, (a1.2.2.2.2.2.1, (a1.2.2.2.2.2.2.1, a1.2.2.2.2.2.2.2))))))))).bind fun x0 =>
  bif (!x0) then
    some ((false, ((List.nil : List Int), (false, ((List.nil : List Int), (false, ((List.nil : List Int), (false, (List.nil : List Int)))))))), false)
  else
  ((C4 (List.cons ((a0.1, a0.2.1), (a0.2.2.1, a0.2.2.2.1)) (List.cons ((a0.2.2.2.2.1, a0.2.2.2.2.2.1), (a0.2.2.2.2.2.2.1, a0.2.2.2.2.2.2.2)) (List.cons ((a1.1, a1.2.1), (a1.2.2.1, a1.2.2.2.1)) (List.cons ((a1.2.2.2.2.1, a1.2.2.2.2.2.1), (a1.2.2.2.2.2.2.1, a1.2.2.2.2.2.2.2)) (List.nil : List ((Bool × (List Int)) × (Bool × (List Int)))))))))).bind fun x1 =>
  ((BX (x1.1, (x1.2.1, (x1.2.2.1, (x1.2.2.2.1, (x1.2.2.2.2.1, (x1.2.2.2.2.2.1, (x1.2.2.2.2.2.2.1, x1.2.2.2.2.2.2.2))))))))).bind fun x2 =>
  some ((x2.1.1, (x2.1.2.1, (x2.1.2.2.1, (x2.1.2.2.2.1, (x2.1.2.2.2.2.1, (x2.1.2.2.2.2.2.1, (x2.1.2.2.2.2.2.2.1, x2.1.2.2.2.2.2.2.2))))))), x2.2)
noncomputable def Mt : Ent := ⟨Iy, fun x => Cs x.1 x.2⟩
noncomputable def My : TX := ⟨tyTab, codTab, [], [4], [Gl, Mj, DP], Iy⟩
set_option maxHeartbeats 2000000 in
theorem UZ (a0 : (Bool × List (Int) × Bool × List (Int) × Bool × List (Int) × Bool × List (Int))) (a1 : (Bool × List (Int) × Bool × List (Int) × Bool × List (Int) × Bool × List (Int))) : wtF My Tryz.f37 (a0, a1) = Cs a0 a1 := by kernel_rfl
theorem Sj : EntOK RR Mt := Ab (X := My) ⟨tyOK, boolOK, eqOK⟩ (Ad (by exact ⟨⟨G5, rfl⟩, ⟨⟨Nb, rfl⟩, ⟨⟨DU, rfl⟩, trivial⟩⟩⟩)) (Ae (by kernel_rfl)) ⟨Tryz.func37, rfl, by kernel_rfl, rfl⟩ (fun x => by exact UZ x.1 x.2)
noncomputable def Ek (s0 : (List Int)) (s1 : (List Int)) (s2 : Int) (s3 : Int) : Option (((List Int) × ((List Int) × (Int × Int))) ⊕ (Unit ⊕ Bool)) :=
  bif decide (s3 < s2) then
    ((getI s0 s3)).bind fun x0 =>
    ((getI s1 s3)).bind fun x1 =>
    bif (x0 != x1) then
      some (Sum.inr (Sum.inr false))
    else
    some (Sum.inl (s0, (s1, (s2, (Go.IntKind.wrap Go.IntKind.i64 (s3 + (1 : Int)))))))
  else
  some (Sum.inr (Sum.inl ()))
noncomputable def Eo (a0 : (List Int)) (a1 : (List Int)) : Option (Bool) :=
  bif ((((List.length a0) : Nat) : Int) != (((List.length a1) : Nat) : Int)) then
    some false
  else
  (loopM (fun (s : ((List Int) × ((List Int) × (Int × Int)))) => Ek s.1 s.2.1 s.2.2.1 s.2.2.2) (a0, (a1, ((((List.length a0) : Nat) : Int), (0 : Int))))).bind fun x0 =>
  Sum.elim
    (fun x1 =>
    some true)
    (fun x2 =>
    some x2)
    x0
noncomputable def L6 : Ent := ⟨HS, fun x => Eo x.1 x.2⟩
noncomputable def LE : TX := ⟨tyTab, codTab, [], [4], [], HS⟩
set_option maxHeartbeats 2000000 in
theorem UB (a0 : List (Int)) (a1 : List (Int)) : wtF LE Tryz.f122 (a0, a1) = Eo a0 a1 := by kernel_rfl
theorem R7 : EntOK RR L6 := Ab (X := LE) ⟨tyOK, boolOK, eqOK⟩ (Ad (by exact trivial)) (Ae (by kernel_rfl)) ⟨Tryz.func122, rfl, by kernel_rfl, rfl⟩ (fun x => by exact UB x.1 x.2)
noncomputable def D5 (a0 : (Bool × (List Int))) (a1 : (Bool × (List Int))) : Option (Bool) :=
  bif (a0.1 == a1.1) then
    ((Eo a0.2 a1.2)).bind fun x0 =>
    some x0
  else
  some false
noncomputable def OP : Ent := ⟨Jy, fun x => D5 x.1 x.2⟩
noncomputable def N2 : TX := ⟨tyTab, codTab, [], [4], [L6], Jy⟩
set_option maxHeartbeats 2000000 in
theorem Vj (a0 : (Bool × List (Int))) (a1 : (Bool × List (Int))) : wtF N2 Tryz.f14 (a0, a1) = D5 a0 a1 := by kernel_rfl
theorem U2 : EntOK RR OP := Ab (X := N2) ⟨tyOK, boolOK, eqOK⟩ (Ad (by exact ⟨⟨R7, rfl⟩, trivial⟩)) (Ae (by kernel_rfl)) ⟨Tryz.func14, rfl, by kernel_rfl, rfl⟩ (fun x => by exact Vj x.1 x.2)
noncomputable def Bc (a0 : (Bool × ((List Int) × (Bool × (List Int))))) (a1 : (Bool × ((List Int) × (Bool × (List Int))))) : Option (Bool) :=
  ((D5 (a0.1, a0.2.1) (a1.1, a1.2.1))).bind fun x0 =>
  bif x0 then
    ((D5 (a0.2.2.1, a0.2.2.2) (a1.2.2.1, a1.2.2.2))).bind fun x1 =>
    some x1
  else
  some false
noncomputable def Jr : Ent := ⟨JB, fun x => Bc x.1 x.2⟩
noncomputable def Ou : TX := ⟨tyTab, codTab, [], [4], [OP], JB⟩
set_option maxHeartbeats 2000000 in
theorem Ws (a0 : (Bool × List (Int) × Bool × List (Int))) (a1 : (Bool × List (Int) × Bool × List (Int))) : wtF Ou Tryz.f16 (a0, a1) = Bc a0 a1 := by kernel_rfl
theorem LP : EntOK RR Jr := Ab (X := Ou) ⟨tyOK, boolOK, eqOK⟩ (Ad (by exact ⟨⟨U2, rfl⟩, trivial⟩)) (Ae (by kernel_rfl)) ⟨Tryz.func16, rfl, by kernel_rfl, rfl⟩ (fun x => by exact Ws x.1 x.2)
noncomputable def Au (a0 : (Bool × ((List Int) × (Bool × ((List Int) × (Bool × ((List Int) × (Bool × (List Int))))))))) (a1 : (Bool × ((List Int) × (Bool × ((List Int) × (Bool × ((List Int) × (Bool × (List Int))))))))) : Option (Bool) :=
  ((Bc (a0.1, (a0.2.1, (a0.2.2.1, a0.2.2.2.1))) (a1.1, (a1.2.1, (a1.2.2.1, a1.2.2.2.1))))).bind fun x0 =>
  bif x0 then
    ((Bc (a0.2.2.2.2.1, (a0.2.2.2.2.2.1, (a0.2.2.2.2.2.2.1, a0.2.2.2.2.2.2.2))) (a1.2.2.2.2.1, (a1.2.2.2.2.2.1, (a1.2.2.2.2.2.2.1, a1.2.2.2.2.2.2.2))))).bind fun x1 =>
    some x1
  else
  some false
noncomputable def LF : Ent := ⟨Ix, fun x => Au x.1 x.2⟩
noncomputable def MB : TX := ⟨tyTab, codTab, [], [4], [Jr], Ix⟩
set_option maxHeartbeats 2000000 in
theorem Ui (a0 : (Bool × List (Int) × Bool × List (Int) × Bool × List (Int) × Bool × List (Int))) (a1 : (Bool × List (Int) × Bool × List (Int) × Bool × List (Int) × Bool × List (Int))) : wtF MB Tryz.f38 (a0, a1) = Au a0 a1 := by kernel_rfl
theorem Sd : EntOK RR LF := Ab (X := MB) ⟨tyOK, boolOK, eqOK⟩ (Ad (by exact ⟨⟨LP, rfl⟩, trivial⟩)) (Ae (by kernel_rfl)) ⟨Tryz.func38, rfl, by kernel_rfl, rfl⟩ (fun x => by exact Ui x.1 x.2)
noncomputable def FX (a0 : Int) (a1 : Int) : Option ((Bool × List (Int) × Bool × List (Int)) × Bool) :=
  bif (a1 == (0 : Int)) then
    some ((false, ((List.nil : List Int), (false, (List.nil : List Int)))), false)
  else
  ((DO a0 (-(4611686018427387904 : Int)) (4611686018427387904 : Int))).bind fun x0 =>
  bif (!x0) then
    some ((false, ((List.nil : List Int), (false, (List.nil : List Int)))), false)
  else
  ((DO a1 (-(4611686018427387904 : Int)) (4611686018427387904 : Int))).bind fun x1 =>
  bif (!x1) then
    some ((false, ((List.nil : List Int), (false, (List.nil : List Int)))), false)
  else
  ((BS a0)).bind fun x2 =>
  ((BS a1)).bind fun x3 =>
  ((D2 (x2.1, x2.2) (x3.1, x3.2))).bind fun x4 =>
  some ((x4.1, (x4.2.1, (x4.2.2.1, x4.2.2.2))), true)
noncomputable def TZ : Ent := ⟨MK, fun x => FX x.1 x.2⟩
noncomputable def SU : TX := ⟨tyTab, codTab, [], [4], [KZ, Hi, Hh], MK⟩
set_option maxHeartbeats 2000000 in
theorem Ab5 (a0 : Int) (a1 : Int) : wtF SU Tryz.f22 (a0, a1) = FX a0 a1 := by kernel_rfl
theorem Xt : EntOK RR TZ := Ab (X := SU) ⟨tyOK, boolOK, eqOK⟩ (Ad (by exact ⟨⟨OX, rfl⟩, ⟨⟨Il, rfl⟩, ⟨⟨Ii, rfl⟩, trivial⟩⟩⟩)) (Ae (by kernel_rfl)) ⟨Tryz.func22, rfl, by kernel_rfl, rfl⟩ (fun x => by exact Ab5 x.1 x.2)
noncomputable def Cy (a0 : (Bool × ((List Int) × (Bool × ((List Int) × (Bool × ((List Int) × (Bool × (List Int))))))))) (a1 : (Bool × ((List Int) × (Bool × (List Int))))) : Option (Bool) :=
  ((Ct (a1.1, (a1.2.1, (a1.2.2.1, a1.2.2.2))) (a0.1, (a0.2.1, (a0.2.2.1, a0.2.2.2.1))))).bind fun x0 =>
  bif (!x0) then
    ((Ct (a0.2.2.2.2.1, (a0.2.2.2.2.2.1, (a0.2.2.2.2.2.2.1, a0.2.2.2.2.2.2.2))) (a1.1, (a1.2.1, (a1.2.2.1, a1.2.2.2))))).bind fun x1 =>
    some (!x1)
  else
  some false
noncomputable def FF : Ent := ⟨Ip, fun x => Cy x.1 x.2⟩
noncomputable def LA : TX := ⟨tyTab, codTab, [], [4], [HV], Ip⟩
set_option maxHeartbeats 2000000 in
theorem Us (a0 : (Bool × List (Int) × Bool × List (Int) × Bool × List (Int) × Bool × List (Int))) (a1 : (Bool × List (Int) × Bool × List (Int))) : wtF LA Tryz.f154 (a0, a1) = Cy a0 a1 := by kernel_rfl
theorem G8 : EntOK RR FF := Ab (X := LA) ⟨tyOK, boolOK, eqOK⟩ (Ad (by exact ⟨⟨KD, rfl⟩, trivial⟩)) (Ae (by kernel_rfl)) ⟨Tryz.func154, rfl, by kernel_rfl, rfl⟩ (fun x => by exact Us x.1 x.2)
noncomputable def HM (a0 : (Bool × ((List Int) × (Bool × ((List Int) × (Bool × ((List Int) × (Bool × (List Int))))))))) (a1 : (Bool × ((List Int) × (Bool × (List Int))))) : Option (Bool × Bool) :=
  ((As (a0.1, (a0.2.1, (a0.2.2.1, (a0.2.2.2.1, (a0.2.2.2.2.1, (a0.2.2.2.2.2.1, (a0.2.2.2.2.2.2.1, a0.2.2.2.2.2.2.2))))))))).bind fun x0 =>
  bif (!x0) then
    some (false, false)
  else
  ((D9 (a1.1, (a1.2.1, (a1.2.2.1, a1.2.2.2))))).bind fun x1 =>
  bif (!x1) then
    some (false, false)
  else
  ((Cy (a0.1, (a0.2.1, (a0.2.2.1, (a0.2.2.2.1, (a0.2.2.2.2.1, (a0.2.2.2.2.2.1, (a0.2.2.2.2.2.2.1, a0.2.2.2.2.2.2.2))))))) (a1.1, (a1.2.1, (a1.2.2.1, a1.2.2.2))))).bind fun x2 =>
  some (x2, true)
noncomputable def PT : Ent := ⟨Lf, fun x => HM x.1 x.2⟩
noncomputable def RL : TX := ⟨tyTab, codTab, [], [4], [Cv, JR, FF], Lf⟩
set_option maxHeartbeats 2000000 in
theorem Ya (a0 : (Bool × List (Int) × Bool × List (Int) × Bool × List (Int) × Bool × List (Int))) (a1 : (Bool × List (Int) × Bool × List (Int))) : wtF RL Tryz.f62 (a0, a1) = HM a0 a1 := by kernel_rfl
theorem VD : EntOK RR PT := Ab (X := RL) ⟨tyOK, boolOK, eqOK⟩ (Ad (by exact ⟨⟨CL, rfl⟩, ⟨⟨Mi, rfl⟩, ⟨⟨G8, rfl⟩, trivial⟩⟩⟩)) (Ae (by kernel_rfl)) ⟨Tryz.func62, rfl, by kernel_rfl, rfl⟩ (fun x => by exact Ya x.1 x.2)
noncomputable def Ak (a0 : (Bool × ((List Int) × (Bool × ((List Int) × (Bool × ((List Int) × (Bool × (List Int))))))))) (a1 : (Bool × ((List Int) × (Bool × (List Int))))) : Option (Bool) :=
  ((HM (a0.1, (a0.2.1, (a0.2.2.1, (a0.2.2.2.1, (a0.2.2.2.2.1, (a0.2.2.2.2.2.1, (a0.2.2.2.2.2.2.1, a0.2.2.2.2.2.2.2))))))) (a1.1, (a1.2.1, (a1.2.2.1, a1.2.2.2))))).bind fun x0 =>
  bif x0.2 then
    some x0.1
  else
  some false
noncomputable def R1 : Ent := ⟨Ll, fun x => Ak x.1 x.2⟩
noncomputable def Qn : TX := ⟨tyTab, codTab, [], [4], [PT], Ll⟩
set_option maxHeartbeats 2000000 in
theorem XC (a0 : (Bool × List (Int) × Bool × List (Int) × Bool × List (Int) × Bool × List (Int))) (a1 : (Bool × List (Int) × Bool × List (Int))) : wtF Qn Tryz.f41 (a0, a1) = Ak a0 a1 := by kernel_rfl
theorem VA : EntOK RR R1 := Ab (X := Qn) ⟨tyOK, boolOK, eqOK⟩ (Ad (by exact ⟨⟨VD, rfl⟩, trivial⟩)) (Ae (by kernel_rfl)) ⟨Tryz.func41, rfl, by kernel_rfl, rfl⟩ (fun x => by exact XC x.1 x.2)
noncomputable def Br (a0 : (Bool × ((List Int) × (Bool × (List Int))))) : Option ((Bool × List (Int) × Bool × List (Int)) × Bool) :=
  ((Bu (a0.1, (a0.2.1, (a0.2.2.1, a0.2.2.2))) (40 : Int))).bind fun x0 =>
  bif (!x0) then
    some ((false, ((List.nil : List Int), (false, (List.nil : List Int)))), false)
  else
  some ((a0.1, (a0.2.1, (a0.2.2.1, a0.2.2.2))), true)
noncomputable def CU : Ent := ⟨F8, fun x => Br x⟩
noncomputable def IS : TX := ⟨tyTab, codTab, [], [4], [FB], F8⟩
set_option maxHeartbeats 2000000 in
theorem RU (a0 : (Bool × List (Int) × Bool × List (Int))) : wtF IS Tryz.f127 (a0) = Br a0 := by kernel_rfl
theorem DE : EntOK RR CU := Ab (X := IS) ⟨tyOK, boolOK, eqOK⟩ (Ad (by exact ⟨⟨HH, rfl⟩, trivial⟩)) (Ae (by kernel_rfl)) ⟨Tryz.func127, rfl, by kernel_rfl, rfl⟩ (fun x => by exact RU x)
noncomputable def FY (a0 : (Bool × ((List Int) × (Bool × (List Int))))) (a1 : (Bool × ((List Int) × (Bool × (List Int))))) : Option ((Bool × List (Int) × Bool × List (Int)) × Bool) :=
  ((BB (List.cons ((a0.1, a0.2.1), (a0.2.2.1, a0.2.2.2)) (List.cons ((a1.1, a1.2.1), (a1.2.2.1, a1.2.2.2)) (List.nil : List ((Bool × (List Int)) × (Bool × (List Int)))))))).bind fun x0 =>
  bif (!x0) then
    some ((false, ((List.nil : List Int), (false, (List.nil : List Int)))), false)
  else
  ((Ch (a0.1, (a0.2.1, (a0.2.2.1, a0.2.2.2))) (a1.1, (a1.2.1, (a1.2.2.1, a1.2.2.2))))).bind fun x1 =>
  ((Br (x1.1, (x1.2.1, (x1.2.2.1, x1.2.2.2))))).bind fun x2 =>
  some ((x2.1.1, (x2.1.2.1, (x2.1.2.2.1, x2.1.2.2.2))), x2.2)
noncomputable def Ru : Ent := ⟨KM, fun x => FY x.1 x.2⟩
noncomputable def QS : TX := ⟨tyTab, codTab, [], [4], [Fi, GY, CU], KM⟩
set_option maxHeartbeats 2000000 in
theorem Ys (a0 : (Bool × List (Int) × Bool × List (Int))) (a1 : (Bool × List (Int) × Bool × List (Int))) : wtF QS Tryz.f42 (a0, a1) = FY a0 a1 := by kernel_rfl
theorem Wa : EntOK RR Ru := Ab (X := QS) ⟨tyOK, boolOK, eqOK⟩ (Ad (by exact ⟨⟨FG, rfl⟩, ⟨⟨Iq, rfl⟩, ⟨⟨DE, rfl⟩, trivial⟩⟩⟩)) (Ae (by kernel_rfl)) ⟨Tryz.func42, rfl, by kernel_rfl, rfl⟩ (fun x => by exact Ys x.1 x.2)
noncomputable def F5 (a0 : (Bool × ((List Int) × (Bool × (List Int))))) (a1 : (Bool × ((List Int) × (Bool × (List Int))))) : Option ((Bool × List (Int) × Bool × List (Int)) × Bool) :=
  ((BB (List.cons ((a0.1, a0.2.1), (a0.2.2.1, a0.2.2.2)) (List.cons ((a1.1, a1.2.1), (a1.2.2.1, a1.2.2.2)) (List.nil : List ((Bool × (List Int)) × (Bool × (List Int)))))))).bind fun x0 =>
  bif (!x0) then
    some ((false, ((List.nil : List Int), (false, (List.nil : List Int)))), false)
  else
  ((Cl (a0.1, (a0.2.1, (a0.2.2.1, a0.2.2.2))) (a1.1, (a1.2.1, (a1.2.2.1, a1.2.2.2))))).bind fun x1 =>
  ((Br (x1.1, (x1.2.1, (x1.2.2.1, x1.2.2.2))))).bind fun x2 =>
  some ((x2.1.1, (x2.1.2.1, (x2.1.2.2.1, x2.1.2.2.2))), x2.2)
noncomputable def Qx : Ent := ⟨K2, fun x => F5 x.1 x.2⟩
noncomputable def Rz : TX := ⟨tyTab, codTab, [], [4], [Fi, GX, CU], K2⟩
set_option maxHeartbeats 2000000 in
theorem XE (a0 : (Bool × List (Int) × Bool × List (Int))) (a1 : (Bool × List (Int) × Bool × List (Int))) : wtF Rz Tryz.f43 (a0, a1) = F5 a0 a1 := by kernel_rfl
theorem WU : EntOK RR Qx := Ab (X := Rz) ⟨tyOK, boolOK, eqOK⟩ (Ad (by exact ⟨⟨FG, rfl⟩, ⟨⟨Ig, rfl⟩, ⟨⟨DE, rfl⟩, trivial⟩⟩⟩)) (Ae (by kernel_rfl)) ⟨Tryz.func43, rfl, by kernel_rfl, rfl⟩ (fun x => by exact XE x.1 x.2)
noncomputable def Gu (a0 : (Bool × ((List Int) × (Bool × (List Int))))) (a1 : (Bool × ((List Int) × (Bool × (List Int))))) : Option ((Bool × List (Int) × Bool × List (Int)) × Bool) :=
  ((BB (List.cons ((a0.1, a0.2.1), (a0.2.2.1, a0.2.2.2)) (List.cons ((a1.1, a1.2.1), (a1.2.2.1, a1.2.2.2)) (List.nil : List ((Bool × (List Int)) × (Bool × (List Int)))))))).bind fun x0 =>
  bif (!x0) then
    some ((false, ((List.nil : List Int), (false, (List.nil : List Int)))), false)
  else
  ((Bm (a0.1, (a0.2.1, (a0.2.2.1, a0.2.2.2))) (a1.1, (a1.2.1, (a1.2.2.1, a1.2.2.2))))).bind fun x1 =>
  ((Br (x1.1, (x1.2.1, (x1.2.2.1, x1.2.2.2))))).bind fun x2 =>
  some ((x2.1.1, (x2.1.2.1, (x2.1.2.2.1, x2.1.2.2.2))), x2.2)
noncomputable def Qd : Ent := ⟨Le, fun x => Gu x.1 x.2⟩
noncomputable def RI : TX := ⟨tyTab, codTab, [], [4], [Fi, GV, CU], Le⟩
set_option maxHeartbeats 2000000 in
theorem Xx (a0 : (Bool × List (Int) × Bool × List (Int))) (a1 : (Bool × List (Int) × Bool × List (Int))) : wtF RI Tryz.f23 (a0, a1) = Gu a0 a1 := by kernel_rfl
theorem WK : EntOK RR Qd := Ab (X := RI) ⟨tyOK, boolOK, eqOK⟩ (Ad (by exact ⟨⟨FG, rfl⟩, ⟨⟨Ie, rfl⟩, ⟨⟨DE, rfl⟩, trivial⟩⟩⟩)) (Ae (by kernel_rfl)) ⟨Tryz.func23, rfl, by kernel_rfl, rfl⟩ (fun x => by exact Xx x.1 x.2)
noncomputable def Cf (a0 : (List Int)) : Option ((Bool × List (Int) × Bool × List (Int) × Bool × List (Int) × Bool × List (Int))) :=
  ((BN (a0, ((0 : Int), (0 : Int))))).bind fun x0 =>
  some (x0.2.1, (x0.2.2.1, (x0.2.2.2.1, (x0.2.2.2.2.1, (x0.2.2.2.2.2.1, (x0.2.2.2.2.2.2.1, (x0.2.2.2.2.2.2.2.1, x0.2.2.2.2.2.2.2.2)))))))
noncomputable def Hr : Ent := ⟨ES, fun x => Cf x⟩
noncomputable def Ho : TX := ⟨tyTab, codTab, [], [4], [FZ], ES⟩
set_option maxHeartbeats 2000000 in
theorem Nz (a0 : List (Int)) : wtF Ho Tryz.f153 (a0) = Cf a0 := by kernel_rfl
theorem Mz : EntOK RR Hr := Ab (X := Ho) ⟨tyOK, boolOK, eqOK⟩ (Ad (by exact ⟨⟨IH, rfl⟩, trivial⟩)) (Ae (by kernel_rfl)) ⟨Tryz.func153, rfl, by kernel_rfl, rfl⟩ (fun x => by exact Nz x)
noncomputable def Bh (a0 : (List Int)) : Option ((Bool × List (Int) × Bool × List (Int) × Bool × List (Int) × Bool × List (Int))) :=
  ((Cf a0)).bind fun x0 =>
  some (x0.1, (x0.2.1, (x0.2.2.1, (x0.2.2.2.1, (x0.2.2.2.2.1, (x0.2.2.2.2.2.1, (x0.2.2.2.2.2.2.1, x0.2.2.2.2.2.2.2)))))))
noncomputable def Ga : Ent := ⟨DH, fun x => Bh x⟩
noncomputable def GE : TX := ⟨tyTab, codTab, [], [4], [Hr], DH⟩
set_option maxHeartbeats 2000000 in
theorem Lc (a0 : List (Int)) : wtF GE Tryz.f44 (a0) = Bh a0 := by kernel_rfl
theorem KA : EntOK RR Ga := Ab (X := GE) ⟨tyOK, boolOK, eqOK⟩ (Ad (by exact ⟨⟨Mz, rfl⟩, trivial⟩)) (Ae (by kernel_rfl)) ⟨Tryz.func44, rfl, by kernel_rfl, rfl⟩ (fun x => by exact Lc x)
noncomputable def B5 (a0 : Int) : Option ((Bool × List (Int) × Bool × List (Int))) :=
  ((BS a0)).bind fun x0 =>
  ((BS (1 : Int))).bind fun x1 =>
  some (x0.1, (x0.2, (x1.1, x1.2)))
noncomputable def Na : Ent := ⟨Ni, fun x => B5 x⟩
noncomputable def TP : TX := ⟨tyTab, codTab, [], [4], [Hi], Ni⟩
set_option maxHeartbeats 2000000 in
theorem Ac0 (a0 : Int) : wtF TP Tryz.f111 (a0) = B5 a0 := by kernel_rfl
theorem Rt : EntOK RR Na := Ab (X := TP) ⟨tyOK, boolOK, eqOK⟩ (Ad (by exact ⟨⟨Il, rfl⟩, trivial⟩)) (Ae (by kernel_rfl)) ⟨Tryz.func111, rfl, by kernel_rfl, rfl⟩ (fun x => by exact Ac0 x)
noncomputable def Bp (a0 : (Bool × ((List Int) × (Bool × ((List Int) × (Bool × ((List Int) × (Bool × (List Int))))))))) : Option ((Bool × List (Int) × Bool × List (Int) × Bool × List (Int) × Bool × List (Int)) × Bool) :=
  ((As (a0.1, (a0.2.1, (a0.2.2.1, (a0.2.2.2.1, (a0.2.2.2.2.1, (a0.2.2.2.2.2.1, (a0.2.2.2.2.2.2.1, a0.2.2.2.2.2.2.2))))))))).bind fun x0 =>
  bif (!x0) then
    some ((false, ((List.nil : List Int), (false, ((List.nil : List Int), (false, ((List.nil : List Int), (false, (List.nil : List Int)))))))), false)
  else
  ((Bm (a0.1, (a0.2.1, (a0.2.2.1, a0.2.2.2.1))) (a0.1, (a0.2.1, (a0.2.2.1, a0.2.2.2.1))))).bind fun x1 =>
  ((Bm (a0.2.2.2.2.1, (a0.2.2.2.2.2.1, (a0.2.2.2.2.2.2.1, a0.2.2.2.2.2.2.2))) (a0.2.2.2.2.1, (a0.2.2.2.2.2.1, (a0.2.2.2.2.2.2.1, a0.2.2.2.2.2.2.2))))).bind fun x2 =>
  ((B5 (0 : Int))).bind fun x3 =>
  ((Cy (a0.1, (a0.2.1, (a0.2.2.1, (a0.2.2.2.1, (a0.2.2.2.2.1, (a0.2.2.2.2.2.1, (a0.2.2.2.2.2.2.1, a0.2.2.2.2.2.2.2))))))) (x3.1, (x3.2.1, (x3.2.2.1, x3.2.2.2))))).bind fun x4 =>
  bif x4 then
    ((B5 (0 : Int))).bind fun x5 =>
    ((appL 64 4 (List.cons ((x1.1, x1.2.1), (x1.2.2.1, x1.2.2.2)) (List.cons ((x2.1, x2.2.1), (x2.2.2.1, x2.2.2.2)) (List.nil : List ((Bool × (List Int)) × (Bool × (List Int)))))) (List.cons ((x5.1, x5.2.1), (x5.2.2.1, x5.2.2.2)) (List.nil : List ((Bool × (List Int)) × (Bool × (List Int))))))).bind fun x6 =>
    ((Bt x6)).bind fun x7 =>
    some ((x7.1.1, (x7.1.2.1, (x7.1.2.2.1, (x7.1.2.2.2.1, (x7.1.2.2.2.2.1, (x7.1.2.2.2.2.2.1, (x7.1.2.2.2.2.2.2.1, x7.1.2.2.2.2.2.2.2))))))), x7.2)
  else
  ((Bt (List.cons ((x1.1, x1.2.1), (x1.2.2.1, x1.2.2.2)) (List.cons ((x2.1, x2.2.1), (x2.2.2.1, x2.2.2.2)) (List.nil : List ((Bool × (List Int)) × (Bool × (List Int)))))))).bind fun x8 =>
  some ((x8.1.1, (x8.1.2.1, (x8.1.2.2.1, (x8.1.2.2.2.1, (x8.1.2.2.2.2.1, (x8.1.2.2.2.2.2.1, (x8.1.2.2.2.2.2.2.1, x8.1.2.2.2.2.2.2.2))))))), x8.2)
noncomputable def Ju : Ent := ⟨F7, fun x => Bp x⟩
noncomputable def Jv : TX := ⟨tyTab, codTab, [], [4], [Cv, GV, Na, FF, H1], F7⟩
set_option maxHeartbeats 2000000 in
theorem Rm (a0 : (Bool × List (Int) × Bool × List (Int) × Bool × List (Int) × Bool × List (Int))) : wtF Jv Tryz.f45 (a0) = Bp a0 := by kernel_rfl
theorem Po : EntOK RR Ju := Ab (X := Jv) ⟨tyOK, boolOK, eqOK⟩ (Ad (by exact ⟨⟨CL, rfl⟩, ⟨⟨Ie, rfl⟩, ⟨⟨Rt, rfl⟩, ⟨⟨G8, rfl⟩, ⟨⟨JD, rfl⟩, trivial⟩⟩⟩⟩⟩)) (Ae (by kernel_rfl)) ⟨Tryz.func45, rfl, by kernel_rfl, rfl⟩ (fun x => by exact Rm x)
noncomputable def Cg (a0 : Int) : Option ((Bool × List (Int) × Bool × List (Int))) :=
  ((Dl a0)).bind fun x0 =>
  ((Dl (1 : Int))).bind fun x1 =>
  some (x0.1, (x0.2, (x1.1, x1.2)))
noncomputable def Nl : Ent := ⟨Nj, fun x => Cg x⟩
noncomputable def TU : TX := ⟨tyTab, codTab, [], [4], [M7], Nj⟩
set_option maxHeartbeats 2000000 in
theorem Aa5 (a0 : Int) : wtF TU Tryz.f119 (a0) = Cg a0 := by kernel_rfl
theorem QH : EntOK RR Nl := Ab (X := TU) ⟨tyOK, boolOK, eqOK⟩ (Ad (by exact ⟨⟨Rh, rfl⟩, trivial⟩)) (Ae (by kernel_rfl)) ⟨Tryz.func119, rfl, by kernel_rfl, rfl⟩ (fun x => by exact Aa5 x)
noncomputable def HE (a0 : (Bool × ((List Int) × (Bool × ((List Int) × (Bool × ((List Int) × (Bool × (List Int))))))))) (a1 : (Bool × ((List Int) × (Bool × (List Int))))) : Option (Bool) :=
  ((CI (a0.1, (a0.2.1, (a0.2.2.1, a0.2.2.2.1))) (a1.1, (a1.2.1, (a1.2.2.1, a1.2.2.2))))).bind fun x0 =>
  bif decide (x0 ≤ (0 : Int)) then
    ((CI (a1.1, (a1.2.1, (a1.2.2.1, a1.2.2.2))) (a0.2.2.2.2.1, (a0.2.2.2.2.2.1, (a0.2.2.2.2.2.2.1, a0.2.2.2.2.2.2.2))))).bind fun x1 =>
    some (decide (x1 ≤ (0 : Int)))
  else
  some false
noncomputable def Q8 : Ent := ⟨PW, fun x => HE x.1 x.2⟩
noncomputable def WO : TX := ⟨tyTab, codTab, [], [4], [HC], PW⟩
end Go.Proofs.YtgfchmagglhohaaGreat.Ev

end
