/- What the theorem of this claim leans on, part 4. -/
import Derived.Test.YtgfchmagglhohaaGreatKC
import Derived.WalkKit
import Derived.SizedLaws
import Derived.IntWalk
import Derived.Test.YtgfchmagglhohaaGreatProg
import Derived.KernelRfl
set_option linter.unusedVariables false
set_option linter.unusedSimpArgs false
set_option linter.unusedSectionVars false
section
namespace Go.Proofs.YtgfchmagglhohaaGreat.Ev
open Go
section
variable {P : Program} {R : Rel} {cf : Cfg} {X : TX} {g : FuncId}
def EntsOK (R : Rel) (cf : Cfg) (X : TX) : Prop := ∀ g E, findF X.ents g = some E → EntOK R E ∧ E.a.g = g ∧ cf.byref g = (slotsA E.a.params).map refA
theorem As6 {α : Type} {op : Op} {b : Nat} {tm : TTm} {m : Tm} {hp hpm : THp} {hvm : Hp} {K : SV → THp → Cls → Option α} {z : α} (hX : XOK P X) (hisr : isR op = true) (hr : RT hp tm m) (hh : RHm hpm hp hvm) (h : wtOp X op b tm hpm K = some z) : Looks P R cf op b m hp hpm hvm K z := by
 cases op with
 | load t a => exact Aw3 hX hr hh h
 | indexAddr t x i => exact AE6 hX hr hh h
 | convert s d x => exact Av3 hX hr hh h
 | slice t x lo hi mx =>
  cases mx with
  | none => exact Ac4 hX hr hh h
  | some m' =>
   cases hi with
   | none => simp [wtOp] at h
   | some h' => exact Xb hX hr h
 | _ => simp [isR] at hisr
theorem AA5 {α : Type} {op : Op} {b : Nat} {tm : TTm} {m : Tm} {hp : THp} {hv : Hp} {K : SV → THp → Cls → Option α} {z : α} (hX : XOK P X) (hE : EntsOK R cf X) (hh : RH hp hv) (hr : RT hp tm m) (h : wtOp X op b tm hp K = some z) : Done P R cf op b tm m hv K z := by
 cases op with
 | move x => exact (AH7 hr h).done hh hr
 | assign x => exact (Ax5 hr h).done hh hr
 | pick c x y => exact (AF5 hr h).done hh hr
 | alloc t => exact AB2 hX hh hr h
 | box t x => exact AJ1 hX hh hr h
 | build t parts => exact (AB0 hX hr h).done hh hr
 | buildSlice t len parts => exact AE2 hX hh hr h
 | load t a => exact (Aw3 hX hr hh.toM h).done hh hr
 | store t a x => exact AB4 hX hh hr h
 | nilCheck x => exact (AJ6 hr h).done hh hr
 | binOp op t x y yt => exact (AI9 hX hr h).done hh hr
 | unOp u t x => exact (l_un hr h).done hh hr
 | convert s d x => exact (Av3 hX hr hh.toM h).done hh hr
 | makeSlice t l c => exact AF7 hX hh hr h
 | slice t x lo hi mx =>
  cases mx with
  | none => exact (Ac4 hX hr hh.toM h).done hh hr
  | some m' =>
   cases hi with
   | none => simp [wtOp] at h
   | some h' => exact (Xb hX hr h).done hh hr
 | fieldAddr t x k => exact (YI hX hr h).done hh hr
 | field t x k => exact (AC4 hX hr h).done hh hr
 | indexAddr t x i => exact (AE6 hX hr hh.toM h).done hh hr
 | index t x i => exact (AC9 hX hr h).done hh hr
 | extract x k => exact (Ao2 hr h).done hh hr
 | makeFunc fn first caps =>
  cases fn with
  | func f => exact (AH5 hr h).done hh hr
  | _ => simp [wtOp] at h
 | call c =>
  obtain ⟨callee, args, ts⟩ := c
  cases callee with
  | builtin bi =>
   cases bi with
   | append => exact Av5 hX hh hr h
   | len => exact (AJ7 hX hr hh.toM h).done hh hr
   | min => exact (AJ5 hr h).done hh hr
   | max => exact (AJ3 hr h).done hh hr
   | _ => simp [wtOp] at h
  | value f =>
   simp only [wtOp] at h
   split at h
   ·rename_i g caps hf
    have hc := Ay hr f
    rw [hf] at hc
    obtain ⟨us, hfv, hcs⟩ := Ag8 hc
    obtain ⟨x, hp', cls, y, hv', h1, h2, h3, h4, h5⟩ := Ap7 hE hh hr (RC.append (Gp hr args.toList) (hcs.mono fun _ _ _ h => h.to1.to2)) h
    refine ⟨x, hp', cls, y, hv', h1, h2, h3, h4, fun KV hk => ?_⟩
    show (match opnd m f with | .cl g caps => weInv R cf g (args.toList.map (opnd m) ++ caps) hv b KV | _ => False)
    rw [hfv]
    exact h5 KV hk
   ·cases h
  | _ => simp [wtOp] at h
 | _ => simp [wtOp] at h
theorem Av7 {b : Nat} : ∀ (hp : THp) (id : Nat), getB (maskT b hp) id = if id < b then getB hp id else none
 | [], id => by simp [maskT, getB]
 | (k, x) :: l, id => by
  have ih := Av7 (b := b) l id
  unfold maskT at ih ⊢
  rw [List.filter_cons]
  by_cases hk : k < b
  ·have : Nat.blt k b = true := Nat.ble_eq_true_of_le hk
   simp only [this, if_true]
   rw [Ao, Ao]
   by_cases hi : id = k
   ·subst hi; rw [if_pos rfl, if_pos rfl, if_pos hk]
   ·rw [if_neg hi, if_neg hi]; exact ih
  ·have : Nat.blt k b = false := by
    cases hb : Nat.blt k b with
    | false => rfl
    | true => exact absurd (Nat.lt_of_succ_le (Nat.le_of_ble_eq_true hb)) hk
   simp only [this, Bool.false_eq_true, if_false]
   rw [Ao]
   by_cases hi : id = k
   ·subst hi; rw [if_neg hk] at ih ⊢; exact ih
   ·rw [if_neg hi]; exact ih
theorem AA1 {α : Type} {draw : Bool} {op : Op} {b : Nat} {tm : TTm} {m : Tm} {hp : THp} {hv : Hp} {K : SV → THp → Cls → Option α} {z : α} (hX : XOK P X) (hE : EntsOK R cf X) (hh : RH hp hv) (hr : RT hp tm m) (h : wtAt X draw op b tm hp K = some z) :
  ∃ x hp' cls y hv', K x hp' cls = some z ∧ RV2 hp' x y ∧ RH hp' hv' ∧ RT hp' tm m ∧ ∀ KV : Cont, KV y hv' cls → opAt P R cf draw op b (opnd m) hv KV := by
 unfold wtAt at h
 cases hd : draw && isR op with
 | true =>
  rw [hd] at h
  have hi : isR op = true := by simp only [Bool.and_eq_true] at hd; exact hd.2
  obtain ⟨x, y, cls, h1, h2, h3⟩ := As6 (R := R) (cf := cf) (hp := hp) (hpm := maskT b hp) (hvm := mask b hv) hX hi hr (fun id bb hb => by
   rw [Av7] at hb
   split at hb
   ·rename_i hlt
    obtain ⟨k, hk, hrb⟩ := hh id bb hb
    exact ⟨hb, k, by simp only [mask, if_pos hlt, hk], hrb⟩
   ·cases hb) h
  refine ⟨x, hp, cls, y, hv, h1, h2, hh, hr, fun KV hk => ?_⟩
  unfold opAt
  rw [hd]
  exact h3 (fun x _ cls => KV x hv cls) hk
 | false =>
  rw [hd] at h
  obtain ⟨x, hp', cls, y, hv', h1, h2, h3, h4, h5⟩ := AA5 hX hE hh hr h
  refine ⟨x, hp', cls, y, hv', h1, h2, h3, h4, fun KV hk => ?_⟩
  unfold opAt
  rw [hd]
  exact h5 KV hk
theorem Ag9 {hp : THp} {tm : TTm} {m : Tm} {x : SV} {y : V} (h : RT hp tm m) (hx : RV2 hp x y) (dst : Option Tmp) : RT hp (putTm tm dst x) (put m dst y) := by
 cases dst with
 | none => exact h
 | some d =>
  intro t
  simp only [putTm, put]
  rw [El]
  unfold upd
  split
  ·exact hx
  ·exact h t
theorem Au5 {hp : THp} {tm : TTm} {m : Tm} {op : Op} (hr : RT hp tm m) (h : sureOp tm op = true) : opIds m op = idsOp tm op := by
 unfold opIds idsOp
 unfold sureOp at h
 generalize op.operands.toList = l at h ⊢
 induction l with
 | nil => rfl
 | cons y l ih =>
  simp only [List.map_cons, List.all_cons, Bool.and_eq_true] at h
  simp only [List.flatMap_cons, List.map_cons]
  rw [ih h.2, (Fi h.1 (Ay hr y)).2.2.1]
theorem MM {α β : Type} {f g : α → List β} : ∀ {l : List α}, (∀ x ∈ l, f x = g x) → l.flatMap f = l.flatMap g
 | [], _ => rfl
 | x :: l, h => by
  rw [List.flatMap_cons, List.flatMap_cons, h x (List.mem_cons_self ..), MM fun y hy => h y (List.mem_cons_of_mem _ hy)]
theorem X8 {hp : THp} {hv : Hp} {tm : TTm} {m : Tm} {op : Op} {ids : List Nat} (hE : EntsOK R cf X) (hh : RH hp hv) (hr : RT hp tm m) (h : touchedT X op tm hp = some ids) : touched cf op (opnd m) hv = some ids := by
 unfold touchedT at h
 split at h
 ·rename_i t a x
  split at h
  ·rename_i hc
   cases h
   simp only [Bool.and_eq_true] at hc
   simp only [touched]
   rw [(Fi hc.1 (Ay hr a)).2.2.1, (Fi hc.2 (Ay hr x)).2.2.1]
  ·cases h
 ·rename_i f args tys
  split at h
  case h_2 => cases h
  rename_i g caps hf
  split at h
  case h_2 => cases h
  rename_i E hfe
  obtain ⟨_, _, hbr⟩ := hE g E hfe
  split at h
  case h_2 => cases h
  rename_i args' hargs'
  split at h
  case isFalse => cases h
  rename_i s1
  split at h
  case h_2 => cases h
  rename_i o ho
  cases h
  have hc := Ay hr f
  rw [hf] at hc
  obtain ⟨us, hfv, hcs⟩ := Ag8 hc
  obtain ⟨ys', hV, hargs2, hlent⟩ := LX hh hargs' (RC.append (Gp hr args.toList) (hcs.mono fun _ _ _ h => h.to1.to2))
  obtain ⟨a1, a2, a3, a4⟩ := RC.all1 s1 hargs2
  rw [← hbr] at hV hlent
  have hclose : close hv 64 (ys'.flatMap refs1) [] = some o := by rw [a2]; exact EZ hh _ _ _ ho
  have hcloseC : closeC hv (ys'.flatMap refs1) = some o := by
   unfold closeC
   rw [hclose]
   simp only
   rw [if_pos (by rw [a2]; exact Mw hh ho)]
  simp only [touched, hfv, hV, hcloseC, hlent]
 ·rename_i t n parts
  split at h
  ·rename_i hc
   cases h
   simp only [touched]
   congr 1
   refine MM fun p hp => ?_
   exact (Fi (List.all_eq_true.1 hc p hp) (Ay hr p.2)).2.2.1
  ·cases h
 ·cases h
theorem AA9 {hp : THp} {hv : Hp} {tm : TTm} {m : Tm} {all : List Oper} {i : Nat} (hE : EntsOK R cf X) (hh : RH hp hv) (hr : RT hp tm m) (h : farT X all tm hp i = true) : farOK cf all m hv i = true := by
 unfold farT at h
 unfold farOK
 cases ha : all[i]? with
 | none => rw [ha] at h; cases h
 | some a =>
  rw [ha] at h
  simp only [Bool.and_eq_true] at h ⊢
  refine ⟨h.1, ?_⟩
  replace h := h.2
  cases ht : touchedT X a.op tm hp with
  | none => rw [ht] at h; cases h
  | some ids =>
   rw [ht] at h
   rw [X8 hE hh hr ht]
   simp only at h ⊢
   refine List.all_eq_true.2 fun j hj => ?_
   have h4 := List.all_eq_true.1 h j hj
   cases ho : all[j]? with
   | none => simp
   | some o =>
    rw [ho] at h4
    simp only [Bool.or_eq_true, Bool.and_eq_true] at h4 ⊢
    rcases h4 with h4 | h4 | ⟨h4, h5, h6⟩
    ·exact .inl h4
    ·exact .inr (.inl h4)
    ·exact .inr (.inr ⟨h4, by rw [Au5 hr h5]; exact h6⟩)
theorem AG1 {hp : THp} {hv : Hp} {tm : TTm} {m : Tm} {all : List Oper} {i : Nat} (hE : EntsOK R cf X) (hh : RH hp hv) (hr : RT hp tm m) (h : (eOK all i || farT X all tm hp i) = true) : (eOK all i || farOK cf all m hv i) = true := by
 simp only [Bool.or_eq_true] at h ⊢
 exact h.imp (fun h => h) (AA9 hE hh hr)
theorem Ax2 {α : Type} {draw ok ok' : Bool} {cls : Cls} {A : Option α} {z : α} (hok : ok = true → ok' = true) (h : drawnT draw ok cls A = some z) : A = some z ∧ ∀ B : Prop, B → drawn draw ok' cls B := by
 cases draw <;> cases cls <;> first | exact ⟨h, fun B hb => hb⟩ | (obtain ⟨h1, h2⟩ := BR h; exact ⟨h2, fun B hb => ⟨hok h1, hb⟩⟩)
theorem Tq {α : Type} {all : List Oper} {draw : Bool} (hX : XOK P X) (hE : EntsOK R cf X) : ∀ (l : List Oper) (i : Nat) {st : TSt} {s : St} {K : TSt → Option α} {z : α}, RS st s → wtOps X all draw l i st K = some z →
  ∃ st' s', K st' = some z ∧ RS st' s' ∧ st'.c = st.c ∧ ∀ KV : St → Prop, KV s' → weOps P R cf all draw l i s KV
 | [], i, st, s, K, z, hs, h => ⟨st, s, h, hs, rfl, fun KV hk => hk⟩
 | o :: l, i, st, s, K, z, hs, h => by
  have go : ∀ (tm : TTm), RT st.hp tm s.tm → (wtAt X draw o.op (16 * (st.c + i)) tm st.hp fun x hp cls => drawnT draw (eOK all i || farT X all tm st.hp i) cls (wtOps X all draw l (i + 1) { tm := putTm tm o.dst x, hp := hp, c := st.c } K)) = some z →
    ∃ st' s', K st' = some z ∧ RS st' s' ∧ st'.c = st.c ∧ ∀ KV : St → Prop, KV s' → opAt P R cf draw o.op (16 * (s.c + i)) (opnd s.tm) s.hp fun x hp cls => drawn draw (eOK all i || farOK cf all s.tm s.hp i) cls (weOps P R cf all draw l (i + 1) { tm := put s.tm o.dst x, hp := hp, c := s.c } KV) := by
   intro tm hr h
   obtain ⟨x, hp', cls, y, hv', h1, h2, h3, h4, h5⟩ := AA1 (R := R) (cf := cf) hX hE hs.hp hr h
   obtain ⟨h6, h7⟩ := Ax2 (AG1 hE hs.hp hr) h1
   obtain ⟨st', s', q1, q2, q3, q4⟩ := Tq hX hE l (i + 1) (st := { tm := putTm tm o.dst x, hp := hp', c := st.c }) (s := { tm := put s.tm o.dst y, hp := hv', c := s.c }) ⟨Ag9 h4 h2 o.dst, h3, hs.c⟩ h6
   exact ⟨st', s', q1, q2, q3, fun KV hk => by rw [hs.c]; exact h5 _ (by have := h7 _ (q4 KV hk); rw [hs.c] at this; exact this)⟩
  have no : ∀ (tm : TTm), RT st.hp tm s.tm → wtOps X all draw l (i + 1) { tm := putTm tm o.dst (.tup []), hp := st.hp, c := st.c } K = some z →
    ∃ st' s', K st' = some z ∧ RS st' s' ∧ st'.c = st.c ∧ ∀ KV : St → Prop, KV s' → weOps P R cf all draw l (i + 1) { tm := put s.tm o.dst (.tup []), hp := s.hp, c := s.c } KV := by
   intro tm hr h
   exact Tq hX hE l (i + 1) (st := { tm := putTm tm o.dst (.tup []), hp := st.hp, c := st.c }) (s := { tm := put s.tm o.dst (.tup []), hp := s.hp, c := s.c }) ⟨Ag9 (x := .tup []) (y := .tup []) hr ⟨[], rfl, trivial⟩ o.dst, hs.hp, hs.c⟩ h
  simp only [wtOps] at h
  cases hg : o.guard with
  | none =>
   rw [hg] at h
   obtain ⟨st', s', q1, q2, q3, q4⟩ := go st.tm hs.tm h
   exact ⟨st', s', q1, q2, q3, fun KV hk => by unfold weOps; rw [hg]; exact q4 KV hk⟩
  | some jw =>
   obtain ⟨j, want⟩ := jw
   rw [hg] at h
   simp only at h
   cases hd : (all[j]?).bind (·.dst) with
   | none => rw [hd] at h; cases h
   | some d =>
    rw [hd] at h
    simp only at h
    have htd := hs.tm d
    have fin : ∀ w : Bool, guardC (s.tm d) want = some w → (∃ st' s', K st' = some z ∧ RS st' s' ∧ st'.c = st.c ∧ ∀ KV : St → Prop, KV s' → (if w = true then opAt P R cf draw o.op (16 * (s.c + i)) (opnd s.tm) s.hp fun x hp cls => drawn draw (eOK all i || farOK cf all s.tm s.hp i) cls (weOps P R cf all draw l (i + 1) { tm := put s.tm o.dst x, hp := hp, c := s.c } KV) else weOps P R cf all draw l (i + 1) { tm := put s.tm o.dst (.tup []), hp := s.hp, c := s.c } KV)) →
      ∃ st' s', K st' = some z ∧ RS st' s' ∧ st'.c = st.c ∧ ∀ KV : St → Prop, KV s' → weOps P R cf all draw (o :: l) i s KV := by
     intro w hw ⟨st', s', q1, q2, q3, q4⟩
     refine ⟨st', s', q1, q2, q3, fun KV hk => ?_⟩
     unfold weOps
     rw [hg]
     simp only [hd, Option.map_some, Ai, hw]
     exact q4 KV hk
    have same : ∀ t : Bool, s.tm d = .v (.bool t) → RT st.hp ((d, .bool t) :: st.tm) s.tm := by
     intro t ht t'
     rw [El]
     split
     ·rename_i he; rw [he, ht]; rfl
     ·exact hs.tm t'
    split at h
    ·rename_i t hv
     rw [hv] at htd
     have htd := Kw htd
     cases want with
     | true =>
      simp only at h
      cases t with
      | true =>
       obtain ⟨st', s', q1, q2, q3, q4⟩ := go _ (same true htd) h
       exact fin true (by rw [htd]; rfl) ⟨st', s', q1, q2, q3, fun KV hk => by rw [if_pos rfl]; exact q4 KV hk⟩
      | false =>
       obtain ⟨st', s', q1, q2, q3, q4⟩ := no _ (same false htd) h
       exact fin false (by rw [htd]; rfl) ⟨st', s', q1, q2, q3, fun KV hk => by rw [if_neg (by simp)]; exact q4 KV hk⟩
     | false =>
      simp only at h
      cases t with
      | true =>
       obtain ⟨st', s', q1, q2, q3, q4⟩ := no _ (same true htd) h
       exact fin false (by rw [htd]; rfl) ⟨st', s', q1, q2, q3, fun KV hk => by rw [if_neg (by simp)]; exact q4 KV hk⟩
      | false =>
       obtain ⟨st', s', q1, q2, q3, q4⟩ := go _ (same false htd) h
       exact fin true (by rw [htd]; rfl) ⟨st', s', q1, q2, q3, fun KV hk => by rw [if_pos rfl]; exact q4 KV hk⟩
    ·rename_i hv
     rw [hv] at htd
     obtain ⟨us, hus, hc⟩ := (show ∃ us, s.tm d = .tup us ∧ RC (RV1 st.hp) [] us from htd)
     cases us with
     | cons a l => exact hc.elim
     | nil =>
      obtain ⟨st', s', q1, q2, q3, q4⟩ := no _ hs.tm h
      exact fin false (by rw [hus]; rfl) ⟨st', s', q1, q2, q3, fun KV hk => by rw [if_neg (by simp)]; exact q4 KV hk⟩
    ·cases h
structure CfOK (cf : Cfg) (g : FuncId) (X : TX) : Prop where
 live : ∀ r an, findN X.ann.heads r = some an → cf.live g r = keepI an
 out : ∀ r outs ex an, findN X.ann.outs r = some outs → findE outs ex = some an → cf.out g r ex = keepI an
 join : ∀ r an, findN X.ann.joins r = some an → cf.join g r = some (keepI an)
 nojoin : ∀ r, findN X.ann.joins r = none → cf.join g r = none
 res : cf.res g = (keepI X.ann.res).map (·.2)
 par : cf.par g = keepI X.ann.params
 rts : cf.rts g = mdsL (rtsT (blksI X.ann.res) X.ann.e 0 (blksI X.ann.res))
theorem Vi {a b : Ex} (h : exEq a b = true) : a = b := by
 cases a <;> cases b <;> simp [exEq] at h
 ·rfl
 ·rw [h]
 ·rfl
theorem Ab9 {α : Type} {e : Nat} {Q : TPost α} {ex : Ex} {st : TSt} {z : α} : ∀ {l : List (Ex × List Item)} {d : denX l}, injX e l ex st = some d → elimX Q l d = some z → ∃ an dd, findE l ex = some an ∧ decSt e an st = some dd ∧ Q ex (encSt an dd) = some z
 | [], d, h, _ => by cases h
 | [a], d, h, hz => by
  simp only [injX] at h
  obtain ⟨h1, h2⟩ := BR h
  have := Vi h1
  subst this
  refine ⟨a.2, d, ?_, h2, hz⟩
  show cond (exEq a.1 a.1) (some a.2) _ = _
  rw [h1]; rfl
 | a :: b :: l, d, h, hz => by
  simp only [injX] at h
  cases hc : exEq a.1 ex with
  | true =>
   rw [hc] at h
   simp only [cond_true, Option.map_eq_some_iff] at h
   obtain ⟨dd, h1, rfl⟩ := h
   have := Vi hc
   subst this
   refine ⟨a.2, dd, ?_, h1, hz⟩
   show cond (exEq a.1 a.1) (some a.2) _ = _
   rw [hc]; rfl
  | false =>
   rw [hc] at h
   simp only [cond_false, Option.map_eq_some_iff] at h
   obtain ⟨dd, h1, rfl⟩ := h
   obtain ⟨an, d2, q1, q2, q3⟩ := Ab9 (l := b :: l) h1 hz
   refine ⟨an, d2, ?_, q2, q3⟩
   show cond (exEq a.1 ex) (some a.2) (findE (b :: l) ex) = _
   rw [hc]; exact q1
theorem Dt (hX : XOK P X) (hE : EntsOK R cf X) (hcf : CfOK cf g X) : ∀ (c : Code) {α : Type} {st : TSt} {s : St} {Q : TPost α} {z : α}, RS st s → wtC X c st Q = some z →
  ∃ ex st' s', Q ex st' = some z ∧ RS st' s' ∧ ∀ QV : Post, QV ex s' → we P R cf g X.e c s QV
 | .skip, α, st, s, Q, z, hs, h => ⟨.normal, st, s, h, hs, fun QV hq => hq⟩
 | .exit id, α, st, s, Q, z, hs, h => ⟨.exit id, st, s, h, hs, fun QV hq => hq⟩
 | .ret, α, st, s, Q, z, hs, h => ⟨.ret, st, s, h, hs, fun QV hq => hq⟩
 | .region id ops draw, α, st, s, Q, z, hs, h => by
  obtain ⟨st', s', h1, h2, h3, h4⟩ := Tq (R := R) (cf := cf) hX hE _ 0 hs h
  refine ⟨.normal, _, { s' with c := s'.c + ops.size }, h1, ⟨h2.tm, h2.hp, by show s'.c + _ = st'.c + _; rw [h2.c]⟩, fun QV hq => ?_⟩
  unfold we
  exact h4 _ hq
 | .seq a b, α, st, s, Q, z, hs, h => by
  unfold wtC at h
  cases hj : findN X.ann.joins (rid b) with
  | none =>
   rw [hj] at h
   simp only at h
   obtain ⟨ex, st1, s1, h1, h2, h3⟩ := Dt hX hE hcf a hs h
   cases ex with
   | normal =>
    obtain ⟨ex, st2, s2, q1, q2, q3⟩ := Dt hX hE hcf b h2 h1
    exact ⟨ex, st2, s2, q1, q2, fun QV hq => by unfold we; exact h3 _ (by show meet _ _ _ _; rw [hcf.nojoin _ hj]; exact q3 QV hq)⟩
   | exit id => exact ⟨.exit id, st1, s1, h1, h2, fun QV hq => by unfold we; exact h3 _ hq⟩
   | ret => exact ⟨.ret, st1, s1, h1, h2, fun QV hq => by unfold we; exact h3 _ hq⟩
  | some an =>
   rw [hj] at h
   simp only at h
   obtain ⟨w, hw, hz⟩ := AM h
   obtain ⟨ex, st1, s1, h1, h2, h3⟩ := Dt hX hE hcf a hs hw
   have other : ∀ ex', ex' ≠ .normal → ex = ex' → (Q ex' st1).map Sum.inl = some w → ∃ ex st' s', Q ex st' = some z ∧ RS st' s' ∧ ∀ QV : Post, QV ex s' → we P R cf g X.e (a.seq b) s QV := by
    intro ex' hne he h1
    subst he
    simp only [Option.map_eq_some_iff] at h1
    obtain ⟨r, hr, rfl⟩ := h1
    simp only [Sum.elim_inl, Option.some.injEq] at hz
    subst hz
    refine ⟨ex, st1, s1, hr, h2, fun QV hq => ?_⟩
    unfold we
    refine h3 _ ?_
    cases ex with
    | normal => exact absurd rfl hne
    | exit id => exact hq
    | ret => exact hq
   cases ex with
   | normal =>
    simp only [Option.map_eq_some_iff] at h1
    obtain ⟨d, hd, rfl⟩ := h1
    simp only [Sum.elim_inr] at hz
    obtain ⟨s2, c1, c2⟩ := HC h2 hd
    obtain ⟨ex, st3, s3, q1, q2, q3⟩ := Dt hX hE hcf b c2 hz
    exact ⟨ex, st3, s3, q1, q2, fun QV hq => by unfold we; exact h3 _ (by show meet _ _ _ _; rw [hcf.join _ _ hj]; exact c1 _ (q3 QV hq))⟩
   | exit id => exact other (.exit id) (by simp) rfl h1
   | ret => exact other .ret (by simp) rfl h1
 | .cond c x y, α, st, s, Q, z, hs, h => by
  unfold wtC at h
  have hc := Ay hs.tm c
  split at h
  ·rename_i t ht
   rw [ht] at hc
   have hc := Kw hc
   cases t with
   | true =>
    obtain ⟨ex, st1, s1, h1, h2, h3⟩ := Dt hX hE hcf x hs h
    exact ⟨ex, st1, s1, h1, h2, fun QV hq => by unfold we; rw [hc]; exact h3 QV hq⟩
   | false =>
    obtain ⟨ex, st1, s1, h1, h2, h3⟩ := Dt hX hE hcf y hs h
    exact ⟨ex, st1, s1, h1, h2, fun QV hq => by unfold we; rw [hc]; exact h3 QV hq⟩
  ·cases h
 | .block id c, α, st, s, Q, z, hs, h => by
  unfold wtC at h
  obtain ⟨ex, st1, s1, h1, h2, h3⟩ := Dt hX hE hcf c hs h
  cases ex with
  | normal => exact ⟨.normal, st1, s1, h1, h2, fun QV hq => by unfold we; exact h3 _ hq⟩
  | ret => exact ⟨.ret, st1, s1, h1, h2, fun QV hq => by unfold we; exact h3 _ hq⟩
  | exit j =>
   simp only at h1
   cases hj : Nat.beq j id with
   | true =>
    rw [hj] at h1
    have hji := Nat.eq_of_beq_eq_true hj
    exact ⟨.normal, st1, s1, h1, h2, fun QV hq => by unfold we; exact h3 _ (by show (if j = id then _ else _); rw [if_pos hji]; exact hq)⟩
   | false =>
    rw [hj] at h1
    have hji : j ≠ id := fun he => by subst he; rw [Nat.beq_refl] at hj; cases hj
    exact ⟨.exit j, st1, s1, h1, h2, fun QV hq => by unfold we; exact h3 _ (by show (if j = id then _ else _); rw [if_neg hji]; exact hq)⟩
 | .loop c, α, st, s, Q, z, hs, h => by
  unfold wtC at h
  split at h
  ·rename_i an outs ha ho
   obtain ⟨d0, hd0, h⟩ := AM h
   obtain ⟨w, hw, hz⟩ := AM h
   obtain ⟨n, hn⟩ := IF hw
   obtain ⟨s0, c1, c2⟩ := HC hs hd0
   have key : ∀ (n : Nat) (d : denI an) (s0 : St), loopF (fun d => wtC X c (encSt an d) fun ex s => match ex with | .normal => (decSt X.e an s).map .inl | ex => (injX X.e outs ex s).map .inr) n d = some w → RS (encSt an d) s0 →
     ∃ ex st' s', Q ex st' = some z ∧ RS st' s' ∧ ∀ QV : Post, QV ex s' → loopAt P R cf g X.e c s0 QV := by
    intro n
    induction n with
    | zero => intro d s0 h _; cases h
    | succ n ih =>
     intro d s0 h hs0
     simp only [loopF] at h
     obtain ⟨o, hb, h⟩ := AM h
     obtain ⟨ex, st1, s1, h1, h2, h3⟩ := Dt hX hE hcf c hs0 hb
     have other : ∀ ex', ex' ≠ .normal → ex = ex' → (injX X.e outs ex' st1).map Sum.inr = some o → ∃ ex st' s', Q ex st' = some z ∧ RS st' s' ∧ ∀ QV : Post, QV ex s' → loopAt P R cf g X.e c s0 QV := by
      intro ex' hne he h1
      subst he
      simp only [Option.map_eq_some_iff] at h1
      obtain ⟨w', hw', rfl⟩ := h1
      simp only [Sum.elim_inr, Option.some.injEq] at h
      subst h
      obtain ⟨an2, dd, q1, q2, q3⟩ := Ab9 hw' hz
      obtain ⟨s2, e1, e2⟩ := HC h2 q2
      refine ⟨ex, _, s2, q3, e2, fun QV hq => ?_⟩
      rw [SK]
      refine h3 _ ?_
      cases ex with
      | normal => exact absurd rfl hne
      | exit id => show canon _ _ _ _; rw [hcf.out _ _ _ _ ho q1]; exact e1 _ hq
      | ret => show canon _ _ _ _; rw [hcf.out _ _ _ _ ho q1]; exact e1 _ hq
     cases ex with
     | normal =>
      simp only [Option.map_eq_some_iff] at h1
      obtain ⟨d', hd', rfl⟩ := h1
      simp only [Sum.elim_inl] at h
      obtain ⟨s2, e1, e2⟩ := HC h2 hd'
      obtain ⟨ex, st3, s3, q1, q2, q3⟩ := ih d' s2 h e2
      refine ⟨ex, st3, s3, q1, q2, fun QV hq => ?_⟩
      rw [SK]
      refine h3 _ ?_
      show canon _ _ _ _
      rw [hcf.live _ _ ha]
      exact e1 _ (q3 QV hq)
     | exit id => exact other (.exit id) (by simp) rfl h1
     | ret => exact other .ret (by simp) rfl h1
   obtain ⟨ex, st', s', q1, q2, q3⟩ := key n d0 s0 hn c2
   exact ⟨ex, st', s', q1, q2, fun QV hq => by rw [AA0, hcf.live _ _ ha]; exact c1 _ (q3 QV hq)⟩
  ·cases h
 | .scope c, α, st, s, Q, z, hs, h => by simp [wtC] at h
 | .label l, α, st, s, Q, z, hs, h => by simp [wtC] at h
 | .goto l, α, st, s, Q, z, hs, h => by simp [wtC] at h
 | .rangeFunc .., α, st, s, Q, z, hs, h => by simp [wtC] at h
 | .refuse _, α, st, s, Q, z, hs, h => by simp [wtC] at h
end
end Go.Proofs.YtgfchmagglhohaaGreat.Ev

end
section
namespace Go.Proofs.YtgfchmagglhohaaGreat.Ev
open Go
section
variable {P : Program} {X : TX} {g : FuncId}
structure FnOK (P : Program) (cf : Cfg) (X : TX) (fn : Func) (c : Code) : Prop where
 get : P.funcs[X.ann.g]? = some fn
 body : fn.body = some c
 ok : bodyOK fn c (slotsI X.ann.params).length = true
 ext : cf.isExt X.ann.g = false
theorem Ab {cf : Cfg} {ext : Rel} {fn : Func} {c : Code} {F : denI X.ann.params → Option (denI X.ann.res)} (hX : XOK P X) (hE : EntsOK (Runs P cf ext) cf X) (hcf : CfOK cf X.ann.g X) (hf : FnOK P cf X fn c)
  (hF : ∀ x, wtF X fn x = F x) : EntOK (Runs P cf ext) ⟨X.ann, F⟩ := by
 intro x y args blks st0 hy hs0 hd hid hl he _
 have hy : wtF X fn x = some y := by rw [hF]; exact hy
 unfold wtF at hy
 rw [hf.body] at hy
 simp only at hy
 have he : (args.flatMap refs1).eraseDups.length = X.e := he
 obtain ⟨s0, k1, hs⟩ := HC hs0 hd
 obtain ⟨ex, st', s', h1, h2, h3⟩ := Dt hX hE hcf c hs hy
 have main : ∀ ex', ex = ex' → (∀ i, ex' ≠ .exit i) → (tRes X st'.tm st'.hp fn.results.toList fun xs => outT X.ann.res X.e st' xs) = some y →
   ∃ r blks', Runs P cf ext X.ann.g args blks r blks' ∧ ResRel X.ann.res y r blks' := by
  intro ex' hex hno h1
  obtain ⟨r, blks', q1, q2⟩ := As4 (e := X.e) (res := X.ann.res) (rs := fn.results.toList) (y := y) hX h2 h1
  refine ⟨r, blks', Runs.intro hf.ext hf.get hf.body (by rw [hl]; exact hf.ok) hid ?_, q2⟩
  rw [he, hcf.par]
  refine k1 _ (h3 _ ?_)
  rw [hcf.res, hcf.rts]
  subst hex
  cases ex with
  | exit i => exact absurd rfl (hno i)
  | normal => exact q1
  | ret => exact q1
 cases ex with
 | exit i => cases h1
 | normal => exact main .normal rfl (by simp) h1
 | ret => exact main .ret rfl (by simp) h1
theorem Av0 {R : Rel} {cf : Cfg} {X : TX} (h : X.ents = []) : EntsOK R cf X := by
 intro g E hE
 rw [h] at hE
 cases hE
def AllEnt (R : Rel) (cf : Cfg) : List Ent → Prop
 | [] => True
 | E :: l => (EntOK R E ∧ cf.byref E.a.g = (slotsA E.a.params).map refA) ∧ AllEnt R cf l
theorem Ad {R : Rel} {cf : Cfg} {X : TX} (h : AllEnt R cf X.ents) : EntsOK R cf X := by
 intro g E hE
 generalize X.ents = l at h hE
 induction l with
 | nil => cases hE
 | cons a l ih =>
  simp only [findF] at hE
  cases hg : Nat.beq a.a.g g with
  | true =>
   rw [hg] at hE
   simp only [cond_true, Option.some.injEq] at hE
   subst hE
   have := Nat.eq_of_beq_eq_true hg
   subst this
   exact ⟨h.1.1, rfl, h.1.2⟩
  | false =>
   rw [hg] at hE
   exact ih h.2 hE
theorem Ae {tab : List FAnn} {ext : FuncId → Bool} {X : TX} (h : findA tab X.ann.g = some X.ann) : CfOK (cfOf tab ext) X.ann.g X where
 live r an hr := by simp only [cfOf, h, Option.bind_some, hr]
 out r outs ex an hr he := by simp only [cfOf, h, Option.bind_some, hr, he]
 join r an hr := by simp only [cfOf, h, Option.bind_some, hr]
 nojoin r hr := by simp only [cfOf, h, Option.bind_some, hr]
 res := by simp only [cfOf, h]
 par := by simp only [cfOf, h]
 rts := by simp only [cfOf, h]
end
end Go.Proofs.YtgfchmagglhohaaGreat.Ev

end
section
namespace Go.Proofs.YtgfchmagglhohaaGreat.Ev
open Go Go.RowKit
def shT : Sh → Ty
 | .int k => .int k
 | .str => .str
 | .bool => .bool
 | .sl _ e => .sl (shT e)
 | .pair a b => .pair (shT a) (shT b)
def WFS : (s : Sh) → (shT s).den → Prop
 | .int k, n => (Lit.int k n).wf = true
 | .str, s => s.length ≤ maxBytes
 | .bool, _ => True
 | .sl bytes e, l => (∀ a ∈ (show List (shT e).den from l), WFS e a) ∧ (show List (shT e).den from l).length * bytes ≤ maxBytes
 | .pair a b, x => WFS a (show (shT a).den × (shT b).den from x).1 ∧ WFS b (show (shT a).den × (shT b).den from x).2
theorem Ae5 : ∀ {s : Sh} {xs : List V}, DV s xs → ∃ x, RE (shT s) x xs ∧ WFS s x
 | .int k, xs, h => by obtain ⟨n, rfl, hn⟩ := h; exact ⟨n, rfl, hn⟩
 | .str, xs, h => by obtain ⟨s, rfl, hs⟩ := h; exact ⟨s.data.toList, by simp [RE, shT], by show s.data.toList.length ≤ maxBytes; rw [Array.length_toList]; exact hs⟩
 | .bool, xs, h => by obtain ⟨b, rfl⟩ := h; exact ⟨b, rfl, trivial⟩
 | .sl bytes e, xs, h => by
  obtain ⟨rows, rfl, hr, hb⟩ := h
  have key : ∀ rows : List (List V), (∀ r ∈ rows, DV e r) → ∃ l : List (shT e).den, RLx (RE (shT e)) l rows ∧ ∀ a ∈ l, WFS e a := by
   intro rows
   induction rows with
   | nil => intro _; exact ⟨[], RLx.nil, by simp⟩
   | cons r rows ih =>
    intro h
    obtain ⟨a, h1, h2⟩ := Ae5 (h r (by simp))
    obtain ⟨l, h3, h4⟩ := ih fun r' hr' => h r' (by simp [hr'])
    refine ⟨a :: l, RLx.cons h1 h3, fun b hb => ?_⟩
    rcases List.mem_cons.1 hb with rfl | hb
    ·exact h2
    ·exact h4 b hb
  obtain ⟨l, h1, h2⟩ := key rows hr
  exact ⟨l, .inr ⟨rows, rfl, h1⟩, h2, by rw [← h1.1]; exact hb⟩
 | .pair a b, xs, h => by
  obtain ⟨l, r, rfl, h1, h2⟩ := h
  obtain ⟨x, q1, q2⟩ := Ae5 h1
  obtain ⟨y, q3, q4⟩ := Ae5 h2
  exact ⟨(x, y), ⟨l, r, rfl, q1, q3⟩, q2, q4⟩
def acOf : Sh → AC
 | .int k => .int k
 | .str => .str
 | .bool => .bool
 | .sl _ e => .im (shT e)
 | .pair _ _ => .bool
def oneS : Sh → Bool
 | .pair _ _ => false
 | _ => true
def WFC : (s : Sh) → (acOf s).den → Prop
 | .int k, n => WFS (.int k) n
 | .str, s => WFS .str s
 | .bool, b => True
 | .sl n e, l => WFS (.sl n e) l
 | .pair _ _, _ => True
theorem AB7 {s : Sh} {x : V} (ho : oneS s = true) (h : DV s [x]) : ∃ d : (acOf s).den, WFC s d ∧ ∀ hp, RV2 hp (encC (acOf s) d) x := by
 obtain ⟨d, h1, h2⟩ := Ae5 h
 cases s with
 | int k =>
  have h1 : [x] = [V.v (.int k d)] := h1
  cases h1
  exact ⟨d, h2, fun hp => rfl⟩
 | str =>
  have h1 : [x] = [V.v (.string ⟨Array.mk d⟩)] := h1
  cases h1
  exact ⟨d, h2, fun hp => rfl⟩
 | bool =>
  have h1 : [x] = [V.v (.bool d)] := h1
  cases h1
  exact ⟨d, trivial, fun hp => rfl⟩
 | sl n e =>
  refine ⟨d, h2, fun hp => ?_⟩
  rcases h1 with ⟨e1, e2⟩ | ⟨rows, e2, e3⟩
  ·cases e2; exact .inl ⟨e1, rfl⟩
  ·cases e2; exact .inr ⟨rows, rfl, e3⟩
 | pair a b => cases ho
def parI : Nat → List Sh → List Item
 | _, [] => []
 | i, s :: l => .slot i (.cell (acOf s)) :: parI (i + 1) l
def WFP : (i : Nat) → (l : List Sh) → denI (parI i l) → Prop
 | _, [], _ => True
 | i, s :: l, d => WFC s (hdI (.slot i (.cell (acOf s))) (parI (i + 1) l) d) ∧ WFP (i + 1) l (tlI (.slot i (.cell (acOf s))) (parI (i + 1) l) d)
def DVs : List Sh → List V → Prop
 | [], [] => True
 | s :: l, x :: xs => DV s [x] ∧ DVs l xs
 | _, _ => False
theorem DVs.length : ∀ {l : List Sh} {xs : List V}, DVs l xs → xs.length = l.length
 | [], [], _ => rfl
 | _ :: l, _ :: xs, h => by simp [DVs.length h.2]
 | [], _ :: _, h => h.elim
 | _ :: _, [], h => h.elim
theorem Ac1 : ∀ (l : List Sh) (i : Nat) {xs : List V}, l.all oneS = true → DVs l xs → ∃ d : denI (parI i l), WFP i l d ∧ (∀ k, (encI k (parI i l) d).2 = []) ∧ ∀ k hp, RT hp (encI k (parI i l) d).1 (lk .any (enum i xs))
 | [], i, [], _, _ => ⟨(), trivial, fun _ => rfl, fun k hp t => trivial⟩
 | s :: l, i, x :: xs, ho, h => by
  simp only [List.all_cons, Bool.and_eq_true] at ho
  obtain ⟨a, h1, h2⟩ := AB7 ho.1 h.1
  obtain ⟨d, h3, h4, h5⟩ := Ac1 l (i + 1) ho.2 h.2
  refine ⟨consI (.slot i (.cell (acOf s))) (parI (i + 1) l) a d, ⟨?_, ?_⟩, fun k => ?_, fun k hp => ?_⟩
  ·rw [QN (.slot i (.cell (acOf s)))]; exact h1
  ·rw [Mu (.slot i (.cell (acOf s)))]; exact h3
  ·simp only [parI, encI]
   rw [Mu (.slot i (.cell (acOf s)))]
   exact h4 k
  ·simp only [parI, encI]
   rw [Mu (.slot i (.cell (acOf s))), QN (.slot i (.cell (acOf s)))]
   intro t
   show RV2 hp (getV ((i, encSV (.cell (acOf s)) a) :: _) t) (if t = i then x else lk .any (enum (i + 1) xs) t)
   rw [El]
   split
   ·exact h2 hp
   ·exact h5 k hp t
 | [], _, _ :: _, _, h => h.elim
 | _ :: _, _, [], _, h => h.elim
section
variable {P : Program}
def FitsL (P : Program) : List TypeId → List Sh → Prop
 | [], [] => True
 | t :: ts, s :: l => Fits P t s ∧ FitsL P ts l
 | _, _ => False
theorem UY {H : Type} {enc : TypeId × Value → H} {W : World} : ∀ {ts : List TypeId} {l : List Sh} {vs : List Value} {ds : List (DataW H)} {p : List MemPlace}, FitsL P ts l → l.all oneS = true → DataW.TrodAll enc P W 0 (fun _ => true) true ts vs ds p →
  (∀ (j : Nat) t v, ts[j]? = some t → vs[j]? = some v → ∃ base, Value.okWide P W .any base t v) → (∀ n ∈ DataW.weightsEach P ts ds, n ≤ reachBytes) → ∃ xs, DVs l xs ∧ Told W xs vs
 | [], [], vs, ds, p, _, _, h, _, _ => by
  obtain ⟨rfl, rfl, rfl⟩ := ChangeShapes.trodAll_nil h
  exact ⟨[], trivial, trivial⟩
 | t :: ts, s :: l, vs, ds, p, hf, ho, h, hv, hw => by
  obtain ⟨v, vs', d, ds', p1, q, rfl, rfl, rfl, ⟨fuel, h1⟩, h2⟩ := ChangeShapes.trodAll_cons h
  simp only [List.all_cons, Bool.and_eq_true] at ho
  obtain ⟨xs, q1, q2, q3⟩ := KE fuel t s _ _ hf.1 h1 fun n hn => hw n (by simp [DataW.weightsEach, hn])
  obtain ⟨ys, q4, q5⟩ := UY hf.2 ho.2 h2 (fun j t v h1 h2 => hv (j + 1) t v (by simpa using h1) (by simpa using h2)) fun n hn => hw n (by simp [DataW.weightsEach, hn])
  have hs1 : s.size = 1 := by cases s <;> first | rfl | (cases ho.1)
  obtain ⟨x, rfl⟩ := List.length_eq_one_iff.1 (by rw [q2, hs1])
  refine ⟨x :: ys, ⟨q1, q4⟩, ?_, q5⟩
  obtain ⟨base, hok⟩ := hv 0 t v rfl rfl
  have hc : v.cells.toList = [v] := by
   cases hf.1 with
   | int ht => simp only [Value.okWide, ht, Cell.okWide] at hok; cases v <;> simp_all [Cell.ok, Value.cells]
   | str ht => simp only [Value.okWide, ht, Cell.okWide] at hok; cases v <;> simp_all [Cell.ok, Value.cells]
   | bool ht => simp only [Value.okWide, ht, Cell.okWide] at hok; cases v <;> simp_all [Cell.ok, Value.cells]
   | sl ht => obtain ⟨a, n, c, rfl⟩ := WideShapes.okWide_slice ht hok; rfl
   | st => cases ho.1
  rw [hc] at q3
  exact q3.1
 | [], _ :: _, _, _, _, h, _, _, _, _ => h.elim
 | _ :: _, [], _, _, _, h, _, _, _, _ => h.elim
theorem Rh {H : Type} {enc : TypeId × Value → H} {W W' : World} (hl : laidOutB P = true) (hb : Below W.heap.size W W') : ∀ {ts : List TypeId} {vs : List Value} {ds : List (DataW H)} {p : List MemPlace}, (∀ t ∈ ts, P.readableRec t = true ∧ t < P.types.size) → DataW.TrodAll enc P W 0 (fun _ => true) true ts vs ds p →
  ∃ q, DataW.TrodAll enc P W' 0 (fun b => decide (b < W.heap.size)) true ts vs ds q
 | [], vs, ds, p, _, h => by
  obtain ⟨rfl, rfl, rfl⟩ := ChangeShapes.trodAll_nil h
  exact ⟨[], ChangeShapes.trodAll_mk0⟩
 | t :: ts, vs, ds, p, hr, h => by
  obtain ⟨v, vs', d, ds', p1, q, rfl, rfl, rfl, h1, h2⟩ := ChangeShapes.trodAll_cons h
  obtain ⟨q', h3⟩ := Rh hl hb (fun t ht => hr t (by simp [ht])) h2
  have hlt : ∀ x ∈ p1, x.block < W.heap.size := by obtain ⟨m, hm⟩ := h1; exact DataW.trod_lt m _ _ _ hm
  obtain ⟨r1, r2⟩ := hr t (by simp)
  exact ⟨_, trodAll_cons_mk (Below.trod hl r1 r2 h1 hb hlt) h3⟩
end
end Go.Proofs.YtgfchmagglhohaaGreat.Ev

end
section
namespace Go.Proofs.YtgfchmagglhohaaGreat.Ev
open Go Go.RowKit
theorem Vk : ∀ (l : List Sh) (i : Nat), (slotsI (parI i l)).length = l.length
 | [], _ => rfl
 | s :: l, i => by simp [parI, slotsI, Vk l (i + 1)]
section
variable {P : Program} {J : Tabs}
def TabOK (P : Program) : List (Nat × TyD) → Prop
 | [] => True
 | x :: l => tyOf P x.1 = some x.2 ∧ TabOK P l
theorem AI3 {l : List (Nat × TyD)} (h : TabOK P l) : ∀ t d, getD l t = some d → tyOf P t = some d := by
 intro t d hd
 induction l with
 | nil => cases hd
 | cons x l ih =>
  obtain ⟨k, y⟩ := x
  simp only [getD] at hd
  cases hk : Nat.beq t k with
  | true =>
   rw [hk] at hd
   simp only [cond_true, Option.some.injEq] at hd
   have := Nat.eq_of_beq_eq_true hk
   subst this
   subst hd
   exact h.1
  | false =>
   rw [hk] at hd
   exact ih h.2 hd
theorem At8 {cf : Cfg} {ext : Rel} {g : FuncId} {shs : List Sh} {heads joins : List (Nat × List Item)} {outs : List (Nat × List (Ex × List Item))} {F : denI (parI 0 shs) → Option Bool}
  (hm : P.follows .mixedOrders = true) (hext : ∀ g args blks r blks', ext g args blks r blks' → CSpec P J g args blks r blks')
  (hE : EntOK (Runs P cf ext) ⟨⟨g, 0, parI 0 shs, [.slot 0 (.cell .bool)], heads, outs, joins⟩, F⟩) (hD : ∀ d, decSt 0 (parI 0 shs) (encSt (parI 0 shs) d) = some d) (hF : ∀ d, WFP 0 shs d → F d = some true) (ho : shs.all oneS = true)
  {w : World} (hJ : ∀ x ∈ J, w.heap[x.1]? = some x.2) {xs : List V} {vals : Array Value} (hx : DVs shs xs) (hv : Told w xs vals.toList) : Calls P g vals w fun e w' => e = .returned (.bool true) ∧ Below w.heap.size w w' := by
 obtain ⟨d, h1, h2, h3⟩ := Ac1 shs 0 ho hx
 have hrefs := UC hv
 obtain ⟨r, blks', q1, q2⟩ := hE d true xs [] (encSt (parI 0 shs) d) (hF d h1) ⟨h3 0 _, (fun id b hb => by
  rw [show (encSt (parI 0 shs) d).hp = (encI 0 (parI 0 shs) d).2 from rfl, h2] at hb
  exact absurd hb (by simp [getB])), rfl⟩ (hD d) (YW hv) (by rw [hx.length]; exact (Vk shs 0).symm) (by rw [hrefs]; rfl) (fun _ => rfl)
 have hr : r = .v (.bool true) := q2.val
 have hb : blks' = [] := List.eq_nil_of_length_eq_zero q2.len
 subst hr
 subst hb
 exact Aj0 hm hext hJ hv q1
theorem Wm {H : Type} {enc : TypeId × Value → H} {cf : Cfg} {ext : Rel} {g : FuncId} {shs : List Sh} {heads joins : List (Nat × List Item)} {outs : List (Nat × List (Ex × List Item))} {F : denI (parI 0 shs) → Option Bool} {fn : Func} {s : ChangeSpec} {ts : List TypeId} {rt : TypeId}
  (hm : P.follows .mixedOrders = true) (hext : ∀ g args blks r blks', ext g args blks r blks' → CSpec P J g args blks r blks')
  (hE : EntOK (Runs P cf ext) ⟨⟨g, 0, parI 0 shs, [.slot 0 (.cell .bool)], heads, outs, joins⟩, F⟩) (hD : ∀ d, decSt 0 (parI 0 shs) (encSt (parI 0 shs) d) = some d) (hF : ∀ d, WFP 0 shs d → F d = some true) (ho : shs.all oneS = true)
  (hp : fn.params.toList = ts) (hr : fn.resultTypes.toList = [rt]) (hrt : P.underlying rt = some .bool) (hf : FitsL P ts shs) (hl : laidOutB P = true) (hread : ∀ t ∈ ts, P.readableRec t = true ∧ t < P.types.size) (hvars : s.vars = [])
  (hs : ∀ ds : List (DataW H), ds.length = ts.length → s.fn H (ds ++ []) = { results := [.lit (.bool true)], args := ds, vars := [] })
  {W : World} (hJ : ∀ x ∈ J, W.heap[x.1]? = some x.2) {base : Nat} {args : Array Value} {ds gs : List (DataW H)} {before : List MemPlace}
  (hval : ∀ (j : Nat) t v, fn.params[j]? = some t → args[j]? = some v → Value.okWide P W .any base t v) (hW : DataW.Whole enc P fn.params.toList s.vars false W args.toList ds gs before)
  (hsz : (DataW.weightsEach P (fn.params.toList ++ s.plain.varTypes P) (ds ++ gs)).all (· ≤ reachBytes) = true) :
  Calls P g args W fun e W' => ∃ v, e = .returned v ∧ s.post enc P fn false true false false W args v W' := by
 have hW' := hW
 obtain ⟨p, q, hA, hV, rfl, hfz, hnd⟩ := hW
 rw [hvars] at hV
 obtain ⟨rfl, rfl⟩ := ChangeShapes.trodVars_none hV
 rw [hp] at hA
 have hlen : ∀ {ts : List TypeId} {vs : List Value} {ds : List (DataW H)} {p : List MemPlace}, DataW.TrodAll enc P W 0 (fun _ => true) true ts vs ds p → ds.length = ts.length := by
  intro ts
  induction ts with
  | nil => intro vs ds p h; obtain ⟨_, rfl, _⟩ := ChangeShapes.trodAll_nil h; rfl
  | cons t ts ih => intro vs ds p h; obtain ⟨v, vs', d, ds', p1, q, rfl, rfl, rfl, h1, h2⟩ := ChangeShapes.trodAll_cons h; simp [ih h2]
 have hdl := hlen hA
 have hwt : ∀ n ∈ DataW.weightsEach P ts ds, n ≤ reachBytes := by
  intro n hn
  have hmem : ∀ (a b : List TypeId) (c d : List (DataW H)), ∀ n ∈ DataW.weightsEach P a c, c.length = a.length → n ∈ DataW.weightsEach P (a ++ b) (c ++ d) := by
   intro a
   induction a with
   | nil => intro b c d n hn hl; cases c <;> simp [DataW.weightsEach] at hn hl
   | cons t a ih =>
    intro b c d n hn hl
    cases c with
    | nil => simp [DataW.weightsEach] at hn
    | cons x c =>
     simp only [DataW.weightsEach, List.mem_append, List.cons_append] at hn ⊢
     rcases hn with hn | hn
     ·exact .inl hn
     ·exact .inr (ih b c d n hn (by simpa using hl))
  rw [hp] at hsz
  have := List.all_eq_true.1 hsz n (hmem ts _ ds _ n hn hdl)
  simpa using this
 obtain ⟨xs, h1, h2⟩ := UY hf ho hA (fun j t v h1 h2 => ⟨base, hval j t v (by rw [← hp] at h1; simpa using h1) (by simpa using h2)⟩) hwt
 refine (At8 hm hext hE hD hF ho hJ h1 h2).mono fun e W' ⟨he, bel⟩ => ?_
 subst he
 obtain ⟨q', hq⟩ := Rh hl bel hread hA
 refine ⟨_, rfl, ds, [], _, [], q', [], hW', ?_, ?_, ?_, bel.frame _, fun h => by cases h⟩
 ·rw [hs ds hdl, hr]
  have : ((Value.bool true).resultList fn.resultTypes.size) = [.bool true] := by
   have : fn.resultTypes.size = 1 := by rw [← Array.length_toList, hr]; rfl
   rw [this]; rfl
  rw [this]
  exact ChangeShapes.trodAll_mk1 (shut_bool hrt true)
 ·rw [hs ds hdl, hp]
  exact hq
 ·rw [hs ds hdl, hvars]
  rfl
end
end Go.Proofs.YtgfchmagglhohaaGreat.Ev

end
section
namespace Go.Proofs.YtgfchmagglhohaaGreat.Ev
open Go
theorem wrapI {n : Int} (h1 : -9223372036854775808 ≤ n) (h2 : n ≤ 9223372036854775807) : IntKind.wrap .i64 n = n := by rw [IntKind.wrap_i64]; omega
section
variable {σ τ ρ ρ' : Type} {f : σ → Option (σ ⊕ ρ)} {g : τ → Option (τ ⊕ ρ')}
theorem Bc {s s' : σ} (h : f s = some (.inl s')) : loopM f s = loopM f s' := by rw [W6, h]; rfl
theorem Ar {s : σ} {r : ρ} (h : f s = some (.inr r)) : loopM f s = some r := by rw [W6, h]; rfl
theorem Es {I : σ → Prop} {R : ρ → Prop} (m : σ → Nat) (h : ∀ s, I s → (∃ s', f s = some (.inl s') ∧ I s' ∧ m s' < m s) ∨ ∃ r, f s = some (.inr r) ∧ R r) : ∀ s, I s → ∃ r, loopM f s = some r ∧ R r := by
 have : ∀ n s, m s < n → I s → ∃ r, loopM f s = some r ∧ R r := by
  intro n
  induction n with
  | zero => intro s h; omega
  | succ n ih =>
   intro s hn hs
   rcases h s hs with ⟨s', h1, h2, h3⟩ | ⟨r, h1, h2⟩
   ·obtain ⟨r, h4, h5⟩ := ih s' (by omega) h2
    exact ⟨r, by rw [Bc h1, h4], h5⟩
   ·exact ⟨r, Ar h1, h2⟩
 exact fun s hs => this (m s + 1) s (by omega) hs
end
section
variable {α β γ : Type}
theorem An (l : List α) (i : Nat) : getI l (i : Int) = l[i]? := by
 unfold getI
 rw [if_pos (by omega)]
 simp
theorem Ag3 {l : List α} {i : Int} (h0 : 0 ≤ i) (h1 : i < l.length) : ∃ a, getI l i = some a ∧ l[i.toNat]? = some a := by
 unfold getI
 rw [if_pos h0]
 have : i.toNat < l.length := by omega
 exact ⟨l[i.toNat], List.getElem?_eq_getElem this, List.getElem?_eq_getElem this⟩
theorem AJ {i n : Nat} (h : i < n) : idxI (i : Int) n = some i := by
 unfold idxI
 rw [if_pos (by omega)]
 simp
theorem Ft {n b s : Nat} (h1 : n * b ≤ maxBytes) (h2 : n * s ≤ maxBytes) : lenI (n : Int) b s = some n := by
 unfold lenI
 rw [if_pos (by simp; omega)]
 simp
end
section
variable {α σ ρ : Type} {body : σ → Option (σ ⊕ ρ)}
theorem JM {l : List α} {st : Nat → σ} {p : α → Bool} {fin : ρ} {bad : Nat → ρ} (hgo : ∀ k a, l[k]? = some a → p a = true → body (st k) = some (.inl (st (k + 1)))) (hbad : ∀ k a, l[k]? = some a → p a = false → body (st k) = some (.inr (bad k))) (hend : body (st l.length) = some (.inr fin)) :
  (l.all p = true → loopM body (st 0) = some fin) ∧ (l.all p = false → ∃ k, k < l.length ∧ loopM body (st 0) = some (bad k)) := by
 have key : ∀ (n k : Nat), k + n = l.length → ((l.drop k).all p = true → loopM body (st k) = some fin) ∧ ((l.drop k).all p = false → ∃ j, j < l.length ∧ loopM body (st k) = some (bad j)) := by
  intro n
  induction n with
  | zero =>
   intro k hk
   have : k = l.length := by omega
   subst this
   rw [List.drop_length]
   exact ⟨fun _ => Ar hend, (fun h => by cases h)⟩
  | succ n ih =>
   intro k hk
   have hlt : k < l.length := by omega
   have hd : l.drop k = l[k] :: l.drop (k + 1) := List.drop_eq_getElem_cons hlt
   have he : l[k]? = some l[k] := List.getElem?_eq_getElem hlt
   rw [hd, List.all_cons]
   cases hp : p l[k] with
   | true =>
    have h1 := hgo k _ he hp
    obtain ⟨q1, q2⟩ := ih (k + 1) (by omega)
    rw [Bool.true_and, Bc h1]
    exact ⟨q1, q2⟩
   | false =>
    rw [Bool.false_and]
    exact ⟨(fun h => by cases h), fun _ => ⟨k, hlt, Ar (hbad k _ he hp)⟩⟩
 have := key l.length 0 (by omega)
 rwa [List.drop_zero] at this
end
section
theorem wrap1 {k : Nat} (h : k < 4611686018427387904) : IntKind.wrap .i64 ((k : Int) + 1) = ((k + 1 : Nat) : Int) := by rw [wrapI (by omega) (by omega)]; omega
end
theorem QL {β : Type} {b s : Nat} {l m : List β} (h1 : (l.length + m.length) * b ≤ maxBytes) (h2 : (l.length + m.length) * s ≤ maxBytes) : appL b s l m = some (l ++ m) := by
 unfold appL
 rw [if_pos ⟨h1, h2⟩]
end Go.Proofs.YtgfchmagglhohaaGreat.Ev

end
section
namespace Go.Proofs.YtgfchmagglhohaaGreat.Ev
open Go
variable {P : Program} {J : Tabs}
def nilS : Value := .slice none 0 0
def cloneBody (t tb : TypeId) : Code :=
 .seq (.region 0 #[⟨some 2, .assign (.const nilS), t, "slices.go:355", #[], none⟩] false)
  (.seq (.seq (.region 1 #[⟨some 3, .move (.tmp 0), t, "slices.go:357", #[], none⟩, ⟨some 4, .binOp .eql t (.tmp 3) (.const nilS) t, tb, "slices.go:357", #[⟨0, .data⟩], none⟩] false)
    (.cond (.tmp 4) (.seq (.region 2 #[⟨some 2, .assign (.const nilS), t, "slices.go:358", #[], none⟩] false) .ret) .skip))
   (.seq (.region 3 #[⟨some 5, .buildSlice t 0 #[], t, "slices.go:362", #[], none⟩, ⟨some 6, .move (.tmp 0), t, "slices.go:362", #[], none⟩,
     ⟨some 7, .call ⟨.builtin .append, #[.tmp 5, .tmp 6], #[t, t]⟩, t, "slices.go:362", #[⟨0, .data⟩, ⟨1, .data⟩], none⟩,
     ⟨some 2, .assign (.tmp 7), t, "slices.go:362", #[⟨2, .data⟩, ⟨2, .chain⟩, ⟨0, .phase⟩, ⟨1, .phase⟩, ⟨2, .phase⟩], none⟩] false) .ret))
def cfN (e size : Nat) (deep : Bool) : Cfg := { live := fun _ _ => [], out := fun _ _ _ => [], join := fun _ _ => none, res := fun _ => [.one (.own e size deep)], par := fun _ => [(0, .one .keep)], rts := fun _ => [], byref := fun _ => [], isExt := fun _ => false }
theorem Am6 {g : FuncId} {fn : Func} {t tb e : TypeId} {d de : TyD} (hfn : P.funcs[g]? = some fn) (hb : fn.body = some (cloneBody t tb)) (hok : bodyOK fn (cloneBody t tb) 1 = true) (hr : fn.results.toList = [.tmp 2])
  (hd : tyOf P t = some d) (he : d.elem = some e) (hde : tyOf P e = some de) (hst : isStr P t = false) (a : Option Addr) (c : Nat) :
  Runs P (cfN e de.size (de.zero.all isVB)) (fun _ _ _ _ _ => False) g [.v (.slice a 0 c)] [] (.ar 0 0 0) [arrOf e de.size (de.zero.all isVB) []] := by
 refine Runs.intro rfl hfn hb hok rfl ?_
 rw [hr]
 have hsl : isSl P t = true := by unfold isSl; rw [hd]; simp [he]
 cases a with
 | none =>
  simp [canon, normS, normV, normC, caseO, entry, enum, lk, upd, canon0, close, refs2, refs1, refs0, ren2, ren1, ren0, lkB, blksOf, cloneBody, we, reo, weOps, opAt, isR, weOp, nevT, nilEq, opnd, Ev.put, drawn, ofConst, ofCell, nilS, hsl, meet, caseB, toVal, cfN, outs, rootsOK, resVs, resV, normR, rootVs, outL, out1, idx, renB, arrOf, refsB]
 | some a =>
  simp [canon, normS, normV, normC, caseO, entry, enum, lk, upd, canon0, close, refs2, refs1, refs0, ren2, ren1, ren0, lkB, blksOf, cloneBody, we, reo, weOps, opAt, isR, weOp, nevT, nilEq, opnd, Ev.put, drawn, ofConst, ofCell, nilS, hsl, meet, caseB, toVal, cfN, outs, rootsOK, resVs, resV, normR, rootVs, outL, out1, idx, renB, arrOf, refsB, weBuildSlice, hd, he, hde, weAppend, srcRows, nodupB]
structure CloneOK (P : Program) (x : FuncId × TypeId × Nat × Bool) : Prop where
 ok : ∃ (fn : Func) (t tb : TypeId) (d de : TyD), P.funcs[x.1]? = some fn ∧ fn.body = some (cloneBody t tb) ∧ bodyOK fn (cloneBody t tb) 1 = true ∧ fn.results.toList = [.tmp 2] ∧
  tyOf P t = some d ∧ d.elem = some x.2.1 ∧ tyOf P x.2.1 = some de ∧ isStr P t = false ∧ de.size = x.2.2.1 ∧ de.zero.all isVB = x.2.2.2
theorem O8 (hm : P.follows .mixedOrders = true) {x : FuncId × TypeId × Nat × Bool} (h : CloneOK P x) {v : V} (hv : v = .em ∨ v = .im []) : CSpec P J x.1 [v] [] (.ar 0 0 0) [arrOf x.2.1 x.2.2.1 x.2.2.2 []] := by
 obtain ⟨fn, t, tb, d, de, h1, h2, h3, h4, h5, h6, h7, h8, h9, h10⟩ := h.ok
 have key : ∀ (a : Option Addr) (c : Nat), CSpec P J x.1 [.v (.slice a 0 c)] [] (.ar 0 0 0) [arrOf x.2.1 x.2.2.1 x.2.2.2 []] := by
  intro a c
  obtain ⟨k, hk⟩ := Am6 h1 h2 h3 h4 h5 h6 h7 h8 a c
  rw [← h9, ← h10]
  exact KK hm (fun _ _ _ _ _ h => h.elim) k _ _ _ _ _ hk
 refine ⟨(key none 0).enter, fun _ w A E vals hT hI hvl => ?_⟩
 obtain ⟨y, hy⟩ : ∃ y, vals.toList = [y] := by
  match hl : vals.toList with
  | [] => rw [hl] at hvl; exact hvl.elim
  | [y] => exact ⟨y, rfl⟩
  | _ :: _ :: _ => rw [hl] at hvl; exact hvl.2.elim
 rw [hy] at hvl
 have hv1 := hvl.1
 obtain ⟨a, c, hyc⟩ : ∃ a c, y = .slice a 0 c := by
  rcases hv with rfl | rfl
  ·have hv1 : Rep w A .em y := hv1
   cases hv1 with
   | em a => exact ⟨a, 0, rfl⟩
  ·have hv1 : Rep w A (.im []) y := hv1
   cases hv1 with
   | im0 a c => exact ⟨a, c, rfl⟩
   | im b off cap => exact ⟨some ⟨b, off, none⟩, cap, rfl⟩
 subst hyc
 have hk := (key a c).calls rfl w A E vals hT hI (by rw [hy]; exact ⟨.v _ rfl, trivial⟩)
 refine hk.mono fun e w' he => ?_
 obtain ⟨y', E', G', q1, q2, q3, q4⟩ := he
 refine ⟨y', E', G', q1, q2, q3, fun j hj => ?_⟩
 rcases hv with rfl | rfl <;> simp [refs1, refs0] at hj
def cloneRel (Rc : Rel) (tab : List (FuncId × TypeId × Nat × Bool)) : Rel := fun g args blks r blks' =>
 Rc g args blks r blks' ∨ ∃ x ∈ tab, g = x.1 ∧ (args = [.em] ∨ args = [.im []]) ∧ blks = [] ∧ r = .ar 0 0 0 ∧ blks' = [arrOf x.2.1 x.2.2.1 x.2.2.2 []]
theorem TS {cf : Cfg} {tab : List (FuncId × TypeId × Nat × Bool)} (hm : P.follows .mixedOrders = true) (ht : ∀ x ∈ tab, CloneOK P x) :
  ∀ g args blks r blks', cloneRel (Runs P cf fun _ _ _ _ _ => False) tab g args blks r blks' → CSpec P J g args blks r blks' := by
 intro g args blks r blks' h
 rcases h with ⟨k, hk⟩ | ⟨x, hx, rfl, ha, rfl, rfl, rfl⟩
 ·exact KK hm (fun _ _ _ _ _ h => h.elim) k _ _ _ _ _ hk
 ·rcases ha with rfl | rfl
  ·exact O8 hm (ht x hx) (.inl rfl)
  ·exact O8 hm (ht x hx) (.inr rfl)
theorem AI6 {t : Ty} {st : TSt} {x : denI [.slot 0 (.cell (.im t))]} (h : decSt 0 [.slot 0 (.cell (.im t))] st = some x) : asLh st.hp t (getV st.tm 0) = some (show List t.den from x) := by
 unfold decSt at h
 split at h
 case isFalse => cases h
 simp only [keepT, blksI, tmS, tmC, tnS, tnV, tnC] at h
 cases ha : asLh st.hp t (getV st.tm 0) with
 | none => rw [ha] at h; cases h
 | some l =>
  rw [ha] at h
  simp only [Nat.zero_le, Nat.ble_eq, if_true] at h
  have hc : ∀ c, canonT 0 (slotsI [.slot 0 (.cell (.im t))]) { tm := (0, .im t l) :: st.tm, hp := freezeT st.hp (frV (getV st.tm 0)), c := c } = some { tm := [(0, .im t l)], hp := [], c := 1 } := fun c => rfl
  rw [hc] at h
  simp only [rdI, rdS, rdC, Nat.beq_refl, if_true, dite_true] at h
  rw [← Option.some.inj h]
  rfl
def orNil {α β : Type} (F : List α → Option (List β)) (l : List α) : Option (List β) := match l with | [] => some [] | a :: l => F (a :: l)
theorem Z7 {ext : Rel} {cf : Cfg} {Rc : Rel} {tab : List (FuncId × TypeId × Nat × Bool)} {g : FuncId} {e : TypeId} {deep : Bool} {t : Ty} {heads joins : List (Nat × List Item)} {outs : List (Nat × List (Ex × List Item))} {F : List t.den → Option (List t.den)}
  (h : EntOK Rc ⟨⟨g, 0, [.slot 0 (.cell (.im t))], [.blk (.arr e deep t), .slot 0 (.ref 0 false)], heads, outs, joins⟩, F⟩) (hmem : (g, e, t.size, deep) ∈ tab) (hext : ∀ g args blks r blks', cloneRel Rc tab g args blks r blks' → ext g args blks r blks') :
  EntOK (Runs P cf ext) ⟨⟨g, 0, [.slot 0 (.cell (.im t))], [.blk (.arr e deep t), .slot 0 (.ref 0 false)], heads, outs, joins⟩, fun l => orNil F l⟩ := by
 intro x y args blks st hF hs hd hid hlen href hb0
 have ha := AI6 hd
 cases hx : (show List t.den from x) with
 | cons a l =>
  have hx' : x = (show denI [.slot 0 (.cell (.im t))] from (a :: l : List t.den)) := hx
  subst hx'
  obtain ⟨r, blks', q1, q2⟩ := h _ y args blks st hF hs hd hid hlen href hb0
  exact ⟨r, blks', Runs.ext (hext _ _ _ _ _ (.inl q1)), q2⟩
 | nil =>
  have hx' : x = (show denI [.slot 0 (.cell (.im t))] from ([] : List t.den)) := hx
  subst hx'
  have hy : y = (show denI [.blk (.arr e deep t), .slot 0 (.ref 0 false)] from ([] : List t.den)) := (Option.some.inj hF).symm
  subst hy
  obtain ⟨v, rfl⟩ : ∃ v, args = [v] := by
   match args, hlen with
   | [v], _ => exact ⟨v, rfl⟩
  have hrefs : ([v] : List V).flatMap refs1 = [] := by
   cases hr : ([v] : List V).flatMap refs1 with
   | nil => rfl
   | cons i l => rw [hr] at href; simp [List.eraseDups_cons] at href
  have hv := hs.tm 0
  have hv : RV2 st.hp (getV st.tm 0) v := hv
  have hcase : v = .em ∨ v = .im [] := by
   generalize getV st.tm 0 = u at ha hv
   cases u with
   | em => exact .inl hv
   | im t' l =>
    simp only [asLh, asL] at ha
    rcases hv with ⟨_, hv⟩ | ⟨rows, hv, hl⟩
    ·exact .inl hv
    ·split at ha
     ·rename_i ht
      subst ht
      have h0 : l = [] := by have := Option.some.inj ha; exact this
      subst h0
      have : rows = [] := List.eq_nil_of_length_eq_zero (by have := hl.1; simpa using this)
      subst this
      exact .inr hv
     ·cases ha
   | ow id =>
    obtain ⟨n, rfl, _⟩ := hv
    simp [refs1, refs0] at hrefs
   | ar id lo n =>
    have hv : v = .ar id lo n := hv
    subst hv
    simp [refs1, refs0] at hrefs
   | _ => simp [asLh, asL] at ha
  have hblks : blks = [] := hb0 rfl
  subst hblks
  refine ⟨.ar 0 0 0, [arrOf e t.size deep []], Runs.ext (hext _ _ _ _ _ (.inr ⟨_, hmem, rfl, ?_, rfl, rfl, rfl⟩)), ?_, ?_, rfl⟩
  ·rcases hcase with rfl | rfl
   ·exact .inl rfl
   ·exact .inr rfl
  ·exact ⟨0, rfl, fun b hb => by cases hb; rfl⟩
  ·intro id b hb
   have hb : getB [(0, some (TB.arr e deep t []))] id = some b := hb
   simp only [getB] at hb
   cases hi : Nat.beq id 0 with
   | false => rw [hi] at hb; cases hb
   | true =>
    rw [hi] at hb
    have hb : some (TB.arr e deep t []) = some b := hb
    cases hb
    have : id = 0 := Nat.eq_of_beq_eq_true hi
    subst this
    exact ⟨_, rfl, rfl, rfl, rfl, rfl, RLx.nil⟩
theorem Ak2 {cf : Cfg} {Rc : Rel} {tab : List (FuncId × TypeId × Nat × Bool)} {g : FuncId} {e : TypeId} {deep : Bool} {t : Ty} {heads joins : List (Nat × List Item)} {outs : List (Nat × List (Ex × List Item))} {F : List t.den → Option (List t.den)}
  (h : EntOK Rc ⟨⟨g, 0, [.slot 0 (.cell (.im t))], [.blk (.arr e deep t), .slot 0 (.ref 0 false)], heads, outs, joins⟩, F⟩) (hmem : (g, e, t.size, deep) ∈ tab) :
  EntOK (Runs P cf (cloneRel Rc tab)) ⟨⟨g, 0, [.slot 0 (.cell (.im t))], [.blk (.arr e deep t), .slot 0 (.ref 0 false)], heads, outs, joins⟩, fun l => orNil F l⟩ := Z7 h hmem fun _ _ _ _ _ h => h
end Go.Proofs.YtgfchmagglhohaaGreat.Ev

end
section
namespace Go.Proofs.YtgfchmagglhohaaGreat.Ev
open Go
set_option maxRecDepth 100000
def tyD3 : TyD := ⟨1, 8, false, [(.v (.int .i64 0))], none, false, (some .i64), [], false⟩
def tyD4 : TyD := ⟨1, 1, false, [(.v (.bool false))], none, false, none, [], false⟩
def tyD5 : TyD := ⟨1, 1, false, [(.v (.int .u8 0))], none, false, (some .u8), [], false⟩
def tyD22 : TyD := ⟨1, 24, false, [.em], (some 5), false, none, [], false⟩
def tyD23 : TyD := ⟨1, 24, false, [.em], (some 3), false, none, [], false⟩
def tyD25 : TyD := ⟨2, 32, true, [(.v (.bool false)), .em], none, false, none, [⟨0, 4, 1, false⟩, ⟨1, 23, 1, false⟩], false⟩
def tyD27 : TyD := ⟨4, 64, true, [(.v (.bool false)), .em, (.v (.bool false)), .em], none, false, none, [⟨0, 25, 2, true⟩, ⟨2, 25, 2, true⟩], false⟩
def tyD29 : TyD := ⟨1, 24, false, [.em], (some 25), false, none, [], false⟩
def tyD57 : TyD := ⟨1, 24, false, [.em], (some 27), false, none, [], false⟩
def tyD68 : TyD := ⟨1, 8, false, [(.v (.int .u64 0))], none, false, (some .u64), [], false⟩
def tyD92 : TyD := ⟨1, 24, false, [.em], (some 105), false, none, [], false⟩
def tyD105 : TyD := ⟨8, 128, true, [(.v (.bool false)), .em, (.v (.bool false)), .em, (.v (.bool false)), .em, (.v (.bool false)), .em], none, false, none, [⟨0, 27, 4, true⟩, ⟨4, 27, 4, true⟩], false⟩
def tyD128 : TyD := ⟨1, 8, false, [(.v (.int .u64 0))], none, false, (some .u64), [], false⟩
def tyD131 : TyD := ⟨3, 40, true, [.em, (.v (.int .i64 0)), (.v (.int .u64 0))], none, false, none, [⟨0, 22, 1, false⟩, ⟨1, 3, 1, false⟩, ⟨2, 128, 1, false⟩], false⟩
def tyD189 : TyD := ⟨2, 16, true, [(.v (.int .i64 0)), (.v (.int .i64 0))], none, false, none, [⟨0, 3, 1, false⟩, ⟨1, 3, 1, false⟩], false⟩
def tyD192 : TyD := ⟨1, 24, false, [.em], (some 189), false, none, [], false⟩
theorem ty3 : tyOf Tryz.prog 3 = some tyD3 := by kernel_rfl
theorem ty4 : tyOf Tryz.prog 4 = some tyD4 := by kernel_rfl
theorem ty5 : tyOf Tryz.prog 5 = some tyD5 := by kernel_rfl
theorem ty22 : tyOf Tryz.prog 22 = some tyD22 := by kernel_rfl
theorem ty23 : tyOf Tryz.prog 23 = some tyD23 := by kernel_rfl
theorem ty25 : tyOf Tryz.prog 25 = some tyD25 := by kernel_rfl
theorem ty27 : tyOf Tryz.prog 27 = some tyD27 := by kernel_rfl
theorem ty29 : tyOf Tryz.prog 29 = some tyD29 := by kernel_rfl
theorem ty57 : tyOf Tryz.prog 57 = some tyD57 := by kernel_rfl
theorem ty68 : tyOf Tryz.prog 68 = some tyD68 := by kernel_rfl
theorem ty92 : tyOf Tryz.prog 92 = some tyD92 := by kernel_rfl
theorem ty105 : tyOf Tryz.prog 105 = some tyD105 := by kernel_rfl
theorem ty128 : tyOf Tryz.prog 128 = some tyD128 := by kernel_rfl
theorem ty131 : tyOf Tryz.prog 131 = some tyD131 := by kernel_rfl
theorem ty189 : tyOf Tryz.prog 189 = some tyD189 := by kernel_rfl
theorem ty192 : tyOf Tryz.prog 192 = some tyD192 := by kernel_rfl
def tyTab : List (Nat × TyD) := [(3, tyD3), (4, tyD4), (5, tyD5), (22, tyD22), (23, tyD23), (25, tyD25), (27, tyD27), (29, tyD29), (57, tyD57), (68, tyD68), (92, tyD92), (105, tyD105), (128, tyD128), (131, tyD131), (189, tyD189), (192, tyD192)]
def codTab : List (Nat × Ty) := [(3, .int .i64), (5, .int .u8), (25, .pair (.bool) (.sl (.int .i64))), (27, .pair (.pair (.bool) (.sl (.int .i64))) (.pair (.bool) (.sl (.int .i64)))), (105, .pair (.pair (.pair (.bool) (.sl (.int .i64))) (.pair (.bool) (.sl (.int .i64)))) (.pair (.pair (.bool) (.sl (.int .i64))) (.pair (.bool) (.sl (.int .i64))))), (189, .pair (.int .i64) (.int .i64))]
theorem tyOK : ∀ t d, getD tyTab t = some d → tyOf Tryz.prog t = some d := AI3 (by unfold tyTab; exact ⟨ty3, ⟨ty4, ⟨ty5, ⟨ty22, ⟨ty23, ⟨ty25, ⟨ty27, ⟨ty29, ⟨ty57, ⟨ty68, ⟨ty92, ⟨ty105, ⟨ty128, ⟨ty131, ⟨ty189, ⟨ty192, trivial⟩⟩⟩⟩⟩⟩⟩⟩⟩⟩⟩⟩⟩⟩⟩⟩)
theorem bool4 : Tryz.prog.underlying 4 = some .bool := by kernel_rfl
theorem boolOK : ∀ t, ([4] : List Nat).contains t = true → Tryz.prog.underlying t = some .bool := by
 intro t h
 simp at h
 rcases h with rfl
 all_goals first | exact bool4
theorem eqOK : ∀ t, ([] : List Nat).contains t = true → EqOK Tryz.prog t := by
 intro t h
 simp at h
 try exact h.elim
def GR : FAnn := ⟨240, 1, [.blk (.box 131 [.im (.int .u8), .int .i64, .int .u64]), .slot 0 (.ref 0 true)], [.blk (.box 131 [.im (.int .u8), .int .i64, .int .u64]), .slot 0 (.cell (.int .i64))],
 [],
 [],
 [(4, [.blk (.box 131 [.im (.int .u8), .int .i64, .int .u64]), .slot 0 (.ref 0 true), .slot 3 (.cell (.int .i64))])]⟩
def Gj : FAnn := ⟨141, 1, [.blk (.box 131 [.im (.int .u8), .int .i64, .int .u64]), .slot 0 (.ref 0 true), .slot 1 (.cell (.int .i64))], [.blk (.box 131 [.im (.int .u8), .int .i64, .int .u64]), .slot 0 (.cell (.int .i64))],
 [],
 [],
 []⟩
def Hi : FAnn := ⟨142, 1, [.blk (.box 131 [.im (.int .u8), .int .i64, .int .u64]), .slot 0 (.ref 0 true), .slot 1 (.cell (.int .i64))], [.blk (.box 131 [.im (.int .u8), .int .i64, .int .u64]), .slot 0 (.cell (.bool))],
 [],
 [],
 []⟩
def FQ : FAnn := ⟨157, 1, [.blk (.box 131 [.im (.int .u8), .int .i64, .int .u64]), .slot 0 (.ref 0 true), .slot 1 (.cell (.im (.int .i64)))], [.blk (.box 131 [.im (.int .u8), .int .i64, .int .u64]), .slot 0 (.cell (.int .i64))],
 [],
 [],
 []⟩
def H7 : FAnn := ⟨293, 1, [.blk (.box 131 [.im (.int .u8), .int .i64, .int .u64]), .slot 0 (.ref 0 true)], [.blk (.box 131 [.im (.int .u8), .int .i64, .int .u64]), .slot 0 (.agg [.int .i64, .int .i64])],
 [],
 [],
 []⟩
def Hm : FAnn := ⟨263, 1, [.blk (.box 131 [.im (.int .u8), .int .i64, .int .u64]), .slot 0 (.ref 0 true)], [.blk (.box 131 [.im (.int .u8), .int .i64, .int .u64]), .blk (.arr 189 true (.pair (.int .i64) (.int .i64))), .slot 0 (.ref 1 false)],
 [(8, [.blk (.box 131 [.im (.int .u8), .int .i64, .int .u64]), .blk (.arr 189 true (.pair (.int .i64) (.int .i64))), .slot 0 (.ref 0 true), .slot 3 (.ref 1 false), .slot 4 (.cell (.int .i64))]), (12, [.blk (.box 131 [.im (.int .u8), .int .i64, .int .u64]), .blk (.arr 189 true (.pair (.int .i64) (.int .i64))), .slot 0 (.ref 0 true), .slot 3 (.ref 1 false)])],
 [(8, [(.exit 1, [.blk (.box 131 [.im (.int .u8), .int .i64, .int .u64]), .blk (.arr 189 true (.pair (.int .i64) (.int .i64))), .slot 0 (.ref 0 true), .slot 3 (.ref 1 false)])]), (12, [(.exit 3, [.blk (.box 131 [.im (.int .u8), .int .i64, .int .u64]), .blk (.arr 189 true (.pair (.int .i64) (.int .i64))), .slot 3 (.ref 1 false)])])],
 []⟩
def S9 : FAnn := ⟨144, 0, [.slot 0 (.cell (.int .i64)), .slot 1 (.cell (.int .i64)), .slot 2 (.cell (.int .i64))], [.slot 0 (.cell (.bool))],
 [],
 [],
 []⟩
def LV : FAnn := ⟨309, 0, [.slot 0 (.agg [.int .i64, .int .i64])], [.slot 0 (.cell (.bool))],
 [],
 [],
 []⟩
def OS : FAnn := ⟨307, 0, [.slot 0 (.cell (.im (.pair (.int .i64) (.int .i64))))], [.slot 0 (.cell (.bool))],
 [(2, [.slot 5 (.cell (.im (.pair (.int .i64) (.int .i64)))), .slot 6 (.cell (.int .i64)), .slot 7 (.cell (.int .i64))])],
 [(2, [(.exit 0, []), (.ret, [.slot 2 (.cell (.bool))])])],
 []⟩
def Oq : FAnn := ⟨292, 0, [.slot 0 (.cell (.im (.pair (.int .i64) (.int .i64))))], [.slot 0 (.cell (.bool))],
 [],
 [],
 []⟩
def NO : FAnn := ⟨280, 0, [.slot 0 (.cell (.im (.int .i64)))], [.blk (.arr 3 true (.int .i64)), .slot 0 (.ref 0 false)],
 [(1, [.slot 0 (.cell (.im (.int .i64)))])],
 [(1, [(.exit 0, [.slot 0 (.cell (.im (.int .i64)))])])],
 []⟩
def LI : FAnn := ⟨229, 0, [.slot 0 (.cell (.bool)), .slot 1 (.cell (.im (.int .i64)))], [.blk (.arr 3 true (.int .i64)), .slot 0 (.agg [.bool, .at 0])],
 [],
 [],
 []⟩
def Ox : FAnn := ⟨116, 0, [.slot 0 (.cell (.int .i64))], [.slot 0 (.agg [.bool, .im (.int .i64)])],
 [(3, [.blk (.box 25 [.bool, .im (.int .i64)]), .blk (.arr 3 true (.int .i64)), .slot 0 (.cell (.int .i64)), .slot 2 (.ref 0 true), .slot 3 (.ref 1 false), .slot 4 (.cell (.int .i64))])],
 [(3, [(.exit 0, [.blk (.box 25 [.bool, .im (.int .i64)]), .blk (.arr 3 true (.int .i64)), .slot 0 (.cell (.int .i64)), .slot 2 (.ref 0 true), .slot 3 (.ref 1 false)])])],
 []⟩
def Oc : FAnn := ⟨119, 0, [.slot 0 (.cell (.int .i64))], [.slot 0 (.agg [.bool, .im (.int .i64), .bool, .im (.int .i64)])],
 [],
 [],
 []⟩
def OE : FAnn := ⟨257, 0, [.slot 0 (.agg [.int .i64, .int .i64])], [.slot 0 (.agg [.bool, .im (.int .i64), .bool, .im (.int .i64), .bool, .im (.int .i64), .bool, .im (.int .i64)])],
 [],
 [],
 []⟩
def LN : FAnn := ⟨262, 0, [.slot 0 (.cell (.im (.pair (.int .i64) (.int .i64))))], [.blk (.arr 105 false (.pair (.pair (.pair (.bool) (.sl (.int .i64))) (.pair (.bool) (.sl (.int .i64)))) (.pair (.pair (.bool) (.sl (.int .i64))) (.pair (.bool) (.sl (.int .i64)))))), .slot 0 (.ref 0 false), .slot 1 (.cell (.bool))],
 [(5, [.blk (.arr 105 false (.pair (.pair (.pair (.bool) (.sl (.int .i64))) (.pair (.bool) (.sl (.int .i64)))) (.pair (.pair (.bool) (.sl (.int .i64))) (.pair (.bool) (.sl (.int .i64)))))), .slot 4 (.ref 0 false), .slot 10 (.cell (.im (.pair (.int .i64) (.int .i64)))), .slot 11 (.cell (.int .i64)), .slot 12 (.cell (.int .i64))])],
 [(5, [(.exit 0, [.blk (.arr 105 false (.pair (.pair (.pair (.bool) (.sl (.int .i64))) (.pair (.bool) (.sl (.int .i64)))) (.pair (.pair (.bool) (.sl (.int .i64))) (.pair (.bool) (.sl (.int .i64)))))), .slot 4 (.ref 0 false)])])],
 []⟩
def Hl : FAnn := ⟨246, 1, [.blk (.box 131 [.im (.int .u8), .int .i64, .int .u64]), .slot 0 (.ref 0 true)], [.blk (.box 131 [.im (.int .u8), .int .i64, .int .u64]), .slot 0 (.agg [.bool, .im (.int .i64)])],
 [(5, [.blk (.box 131 [.im (.int .u8), .int .i64, .int .u64]), .blk (.box 25 [.bool, .im (.int .i64)]), .blk (.arr 3 true (.int .i64)), .slot 0 (.ref 0 true), .slot 2 (.ref 1 true), .slot 3 (.cell (.int .i64)), .slot 4 (.ref 2 false)])],
 [(5, [(.exit 0, [.blk (.box 131 [.im (.int .u8), .int .i64, .int .u64]), .blk (.box 25 [.bool, .im (.int .i64)]), .blk (.arr 3 true (.int .i64)), .slot 0 (.ref 0 true), .slot 2 (.ref 1 true), .slot 4 (.ref 2 false)])])],
 [(4, [.blk (.box 131 [.im (.int .u8), .int .i64, .int .u64]), .blk (.box 25 [.bool, .im (.int .i64)]), .slot 0 (.ref 0 true), .slot 2 (.ref 1 true), .slot 3 (.cell (.int .i64))])]⟩
def Kc : FAnn := ⟨143, 0, [.slot 0 (.agg [.bool, .im (.int .i64)])], [.slot 0 (.cell (.bool))],
 [(2, [.blk (.box 25 [.bool, .im (.int .i64)]), .slot 1 (.ref 0 true), .slot 7 (.cell (.im (.int .i64))), .slot 8 (.cell (.int .i64)), .slot 9 (.cell (.int .i64))])],
 [(2, [(.exit 0, [.blk (.box 25 [.bool, .im (.int .i64)]), .slot 1 (.ref 0 true)]), (.ret, [.slot 2 (.cell (.bool))])])],
 []⟩
def N1 : FAnn := ⟨225, 0, [.slot 0 (.cell (.im (.int .i64))), .slot 1 (.cell (.im (.int .i64)))], [.slot 0 (.cell (.int .i64))],
 [(6, [.slot 0 (.cell (.im (.int .i64))), .slot 1 (.cell (.im (.int .i64))), .slot 5 (.cell (.int .i64))])],
 [(6, [(.exit 0, []), (.ret, [.slot 4 (.cell (.int .i64))])])],
 []⟩
def Jc : FAnn := ⟨297, 0, [.slot 0 (.cell (.im (.int .i64))), .slot 1 (.cell (.int .i64))], [.blk (.arr 3 true (.int .i64)), .blk (.arr 3 true (.int .i64)), .slot 0 (.ref 0 false), .slot 1 (.ref 1 false)],
 [(4, [.blk (.arr 3 true (.int .i64)), .slot 0 (.cell (.im (.int .i64))), .slot 1 (.cell (.int .i64)), .slot 6 (.ref 0 false), .slot 7 (.cell (.int .i64)), .slot 8 (.cell (.int .i64))])],
 [(4, [(.exit 0, [.blk (.arr 3 true (.int .i64)), .slot 6 (.ref 0 false), .slot 7 (.cell (.int .i64))])])],
 []⟩
def Tn : FAnn := ⟨298, 0, [.slot 0 (.cell (.im (.int .i64))), .slot 1 (.cell (.int .i64))], [.blk (.arr 3 true (.int .i64)), .slot 0 (.ref 0 false)],
 [(3, [.blk (.arr 3 true (.int .i64)), .slot 1 (.cell (.int .i64)), .slot 5 (.ref 0 false), .slot 13 (.cell (.im (.int .i64))), .slot 14 (.cell (.int .i64)), .slot 15 (.cell (.int .i64))])],
 [(3, [(.exit 0, [.blk (.arr 3 true (.int .i64)), .slot 5 (.ref 0 false)])])],
 []⟩
def JX : FAnn := ⟨299, 0, [.slot 0 (.cell (.im (.int .i64))), .slot 1 (.cell (.im (.int .i64))), .slot 2 (.cell (.int .i64))], [.slot 0 (.cell (.int .i64))],
 [(5, [.slot 0 (.cell (.im (.int .i64))), .slot 1 (.cell (.im (.int .i64))), .slot 2 (.cell (.int .i64)), .slot 7 (.cell (.int .i64)), .slot 9 (.cell (.int .i64)), .slot 10 (.cell (.int .i64))])],
 [(5, [(.exit 0, [.slot 9 (.cell (.int .i64))])])],
 [(6, [.slot 0 (.cell (.im (.int .i64))), .slot 1 (.cell (.im (.int .i64))), .slot 2 (.cell (.int .i64)), .slot 7 (.cell (.int .i64)), .slot 9 (.cell (.int .i64)), .slot 10 (.cell (.int .i64))])]⟩
def LG : FAnn := ⟨282, 0, [.slot 0 (.cell (.im (.int .i64))), .slot 1 (.cell (.int .i64))], [.slot 0 (.cell (.int .i64))],
 [],
 [],
 []⟩
def L6 : FAnn := ⟨300, 1, [.blk (.arr 3 true (.int .i64)), .slot 0 (.ref 0 false), .slot 1 (.cell (.im (.int .i64))), .slot 2 (.cell (.int .i64)), .slot 3 (.cell (.int .i64))], [.blk (.arr 3 true (.int .i64)), .slot 0 (.cell (.int .i64))],
 [(3, [.blk (.arr 3 true (.int .i64)), .slot 0 (.ref 0 false), .slot 1 (.cell (.im (.int .i64))), .slot 2 (.cell (.int .i64)), .slot 3 (.cell (.int .i64)), .slot 9 (.cell (.int .i64)), .slot 10 (.cell (.int .i64))])],
 [(3, [(.exit 0, [.blk (.arr 3 true (.int .i64)), .slot 9 (.cell (.int .i64))])])],
 [(10, [.blk (.arr 3 true (.int .i64)), .slot 0 (.ref 0 false), .slot 1 (.cell (.im (.int .i64))), .slot 2 (.cell (.int .i64)), .slot 3 (.cell (.int .i64)), .slot 9 (.cell (.int .i64)), .slot 10 (.cell (.int .i64)), .slot 11 (.cell (.int .i64))])]⟩
def LY : FAnn := ⟨301, 1, [.blk (.arr 3 true (.int .i64)), .slot 0 (.ref 0 false), .slot 1 (.cell (.im (.int .i64))), .slot 2 (.cell (.int .i64))], [.blk (.arr 3 true (.int .i64))],
 [(2, [.blk (.arr 3 true (.int .i64)), .slot 0 (.ref 0 false), .slot 1 (.cell (.im (.int .i64))), .slot 2 (.cell (.int .i64)), .slot 6 (.cell (.int .i64)), .slot 7 (.cell (.int .i64))])],
 [(2, [(.exit 0, [.blk (.arr 3 true (.int .i64))])])],
 []⟩
def L9 : FAnn := ⟨302, 0, [.slot 0 (.cell (.im (.int .i64))), .slot 1 (.cell (.int .i64))], [.blk (.arr 3 true (.int .i64)), .slot 0 (.ref 0 false)],
 [(3, [.blk (.arr 3 true (.int .i64)), .slot 0 (.cell (.im (.int .i64))), .slot 1 (.cell (.int .i64)), .slot 5 (.ref 0 false), .slot 11 (.cell (.int .i64)), .slot 12 (.cell (.int .i64))])],
 [(3, [(.exit 0, [.blk (.arr 3 true (.int .i64)), .slot 5 (.ref 0 false)])])],
 []⟩
def Gn : FAnn := ⟨279, 0, [.slot 0 (.cell (.im (.int .i64))), .slot 1 (.cell (.im (.int .i64)))], [.blk (.arr 3 true (.int .i64)), .blk (.arr 3 true (.int .i64)), .slot 0 (.ref 0 false), .slot 1 (.ref 1 false)],
 [(7, [.blk (.arr 3 true (.int .i64)), .slot 0 (.ref 0 false), .slot 1 (.cell (.im (.int .i64))), .slot 6 (.cell (.int .i64))]), (13, [.blk (.arr 3 true (.int .i64)), .blk (.arr 3 true (.int .i64)), .blk (.arr 3 true (.int .i64)), .slot 6 (.cell (.int .i64)), .slot 7 (.ref 0 false), .slot 8 (.ref 1 false), .slot 9 (.ref 2 false), .slot 10 (.cell (.int .i64))])],
 [(7, [(.exit 0, [.blk (.arr 3 true (.int .i64)), .slot 0 (.ref 0 false), .slot 1 (.cell (.im (.int .i64))), .slot 6 (.cell (.int .i64))])]), (13, [(.exit 2, [.blk (.arr 3 true (.int .i64)), .blk (.arr 3 true (.int .i64)), .slot 6 (.cell (.int .i64)), .slot 7 (.ref 0 false), .slot 9 (.ref 1 false)])])],
 []⟩
def Ow : FAnn := ⟨226, 0, [.slot 0 (.cell (.im (.int .i64))), .slot 1 (.cell (.im (.int .i64)))], [.blk (.arr 3 true (.int .i64)), .slot 0 (.ref 0 false)],
 [(1, [.slot 0 (.cell (.im (.int .i64))), .slot 1 (.cell (.im (.int .i64)))])],
 [(1, [(.exit 0, [.slot 0 (.cell (.im (.int .i64)))])])],
 []⟩
def Ok : FAnn := ⟨227, 0, [.slot 0 (.agg [.bool, .im (.int .i64)]), .slot 1 (.agg [.bool, .im (.int .i64)])], [.slot 0 (.agg [.bool, .im (.int .i64)]), .slot 1 (.agg [.bool, .im (.int .i64)])],
 [],
 [],
 []⟩
def OW : FAnn := ⟨162, 0, [.slot 0 (.agg [.bool, .im (.int .i64)])], [.slot 0 (.agg [.bool, .im (.int .i64)])],
 [],
 [],
 []⟩
def L7 : FAnn := ⟨164, 0, [.slot 0 (.agg [.bool, .im (.int .i64)]), .slot 1 (.agg [.bool, .im (.int .i64)])], [.slot 0 (.agg [.bool, .im (.int .i64), .bool, .im (.int .i64)])],
 [],
 [],
 []⟩
def NQ : FAnn := ⟨247, 0, [.slot 0 (.cell (.int .i64)), .slot 1 (.cell (.int .i64))], [.slot 0 (.agg [.bool, .im (.int .i64), .bool, .im (.int .i64)]), .slot 1 (.cell (.bool))],
 [],
 [],
 []⟩
def Hq : FAnn := ⟨165, 1, [.blk (.box 131 [.im (.int .u8), .int .i64, .int .u64]), .slot 0 (.ref 0 true)], [.blk (.box 131 [.im (.int .u8), .int .i64, .int .u64]), .slot 0 (.agg [.bool, .im (.int .i64), .bool, .im (.int .i64)])],
 [],
 [],
 []⟩
def Hd : FAnn := ⟨264, 1, [.blk (.box 131 [.im (.int .u8), .int .i64, .int .u64]), .slot 0 (.ref 0 true)], [.blk (.box 131 [.im (.int .u8), .int .i64, .int .u64]), .slot 0 (.agg [.bool, .im (.int .i64), .bool, .im (.int .i64), .bool, .im (.int .i64), .bool, .im (.int .i64)])],
 [],
 [],
 []⟩
def Gq : FAnn := ⟨201, 1, [.blk (.box 131 [.im (.int .u8), .int .i64, .int .u64]), .slot 0 (.ref 0 true)], [.blk (.box 131 [.im (.int .u8), .int .i64, .int .u64]), .blk (.arr 105 false (.pair (.pair (.pair (.bool) (.sl (.int .i64))) (.pair (.bool) (.sl (.int .i64)))) (.pair (.pair (.bool) (.sl (.int .i64))) (.pair (.bool) (.sl (.int .i64)))))), .slot 0 (.ref 1 false)],
 [(8, [.blk (.box 131 [.im (.int .u8), .int .i64, .int .u64]), .blk (.arr 105 false (.pair (.pair (.pair (.bool) (.sl (.int .i64))) (.pair (.bool) (.sl (.int .i64)))) (.pair (.pair (.bool) (.sl (.int .i64))) (.pair (.bool) (.sl (.int .i64)))))), .slot 0 (.ref 0 true), .slot 5 (.ref 1 false), .slot 6 (.cell (.int .i64))])],
 [(8, [(.exit 0, [.blk (.box 131 [.im (.int .u8), .int .i64, .int .u64]), .blk (.arr 105 false (.pair (.pair (.pair (.bool) (.sl (.int .i64))) (.pair (.bool) (.sl (.int .i64)))) (.pair (.pair (.bool) (.sl (.int .i64))) (.pair (.bool) (.sl (.int .i64)))))), .slot 5 (.ref 1 false)])])],
 [(8, [.blk (.box 131 [.im (.int .u8), .int .i64, .int .u64]), .blk (.arr 105 false (.pair (.pair (.pair (.bool) (.sl (.int .i64))) (.pair (.bool) (.sl (.int .i64)))) (.pair (.pair (.bool) (.sl (.int .i64))) (.pair (.bool) (.sl (.int .i64)))))), .slot 0 (.ref 0 true), .slot 5 (.ref 1 false), .slot 6 (.cell (.int .i64))])]⟩
def FL : FAnn := ⟨202, 1, [.blk (.box 131 [.im (.int .u8), .int .i64, .int .u64]), .slot 0 (.ref 0 true)], [.blk (.box 131 [.im (.int .u8), .int .i64, .int .u64]), .slot 0 (.agg [.bool, .im (.int .i64), .bool, .im (.int .i64)])],
 [],
 [],
 []⟩
def FJ : FAnn := ⟨90, 0, [.slot 0 (.cell (.im (.int .u8)))], [.blk (.arr 105 false (.pair (.pair (.pair (.bool) (.sl (.int .i64))) (.pair (.bool) (.sl (.int .i64)))) (.pair (.pair (.bool) (.sl (.int .i64))) (.pair (.bool) (.sl (.int .i64)))))), .slot 0 (.ref 0 false), .slot 1 (.cell (.bool)), .slot 2 (.agg [.bool, .im (.int .i64), .bool, .im (.int .i64)])],
 [],
 [],
 []⟩
def Lx : FAnn := ⟨123, 0, [.slot 0 (.cell (.int .i64)), .slot 1 (.cell (.int .i64)), .slot 2 (.cell (.int .i64))], [.slot 0 (.cell (.bool))],
 [],
 [],
 []⟩
def Hn : FAnn := ⟨222, 0, [.slot 0 (.cell (.int .i64))], [.slot 0 (.cell (.bool))],
 [],
 [],
 []⟩
def BA : FAnn := ⟨254, 0, [.slot 0 (.cell (.im (.int .i64))), .slot 1 (.clo 222)], [.slot 0 (.cell (.int .i64))],
 [(2, [.slot 0 (.cell (.im (.int .i64))), .slot 1 (.clo 222), .slot 7 (.cell (.int .i64)), .slot 8 (.cell (.int .i64))])],
 [(2, [(.exit 0, []), (.ret, [.slot 4 (.cell (.int .i64))])])],
 []⟩
def Bk : FAnn := ⟨187, 0, [.slot 0 (.cell (.im (.int .i64))), .slot 1 (.clo 222)], [.slot 0 (.cell (.bool))],
 [],
 [],
 []⟩
def Jy : FAnn := ⟨107, 0, [.slot 0 (.agg [.bool, .im (.int .i64)])], [.slot 0 (.cell (.bool))],
 [],
 [],
 []⟩
def H4 : FAnn := ⟨231, 0, [.slot 0 (.agg [.bool, .im (.int .i64)])], [.slot 0 (.cell (.bool))],
 [],
 [],
 []⟩
def Bh : FAnn := ⟨281, 0, [.slot 0 (.cell (.im (.pair (.bool) (.sl (.int .i64))))), .slot 1 (.clo 231)], [.slot 0 (.cell (.int .i64))],
 [(2, [.slot 0 (.cell (.im (.pair (.bool) (.sl (.int .i64))))), .slot 1 (.clo 231), .slot 7 (.cell (.int .i64)), .slot 8 (.cell (.int .i64))])],
 [(2, [(.exit 0, []), (.ret, [.slot 4 (.cell (.int .i64))])])],
 []⟩
def A4 : FAnn := ⟨230, 0, [.slot 0 (.cell (.im (.pair (.bool) (.sl (.int .i64))))), .slot 1 (.clo 231)], [.slot 0 (.cell (.bool))],
 [],
 [],
 []⟩
def Lq : FAnn := ⟨124, 0, [.slot 0 (.cell (.im (.pair (.bool) (.sl (.int .i64)))))], [.slot 0 (.cell (.bool))],
 [],
 [],
 []⟩
def Io : FAnn := ⟨125, 0, [.slot 0 (.agg [.bool, .im (.int .i64)])], [.slot 0 (.cell (.int .i64))],
 [],
 [],
 []⟩
def FE : FAnn := ⟨283, 0, [.slot 0 (.cell (.int .i64))], [.slot 0 (.cell (.bool))],
 [],
 [],
 []⟩
def Ez : FAnn := ⟨239, 0, [.slot 0 (.cell (.int .i64)), .slot 1 (.cell (.int .i64))], [.slot 0 (.cell (.int .i64))],
 [],
 [],
 []⟩
def ES : FAnn := ⟨139, 0, [.slot 0 (.cell (.im (.int .i64))), .slot 1 (.cell (.im (.int .i64)))], [.slot 0 (.cell (.int .i64))],
 [(4, [.slot 0 (.cell (.im (.int .i64))), .slot 1 (.cell (.im (.int .i64))), .slot 5 (.cell (.int .i64))])],
 [(4, [(.exit 0, []), (.ret, [.slot 4 (.cell (.int .i64))])])],
 []⟩
def Wd : FAnn := ⟨278, 0, [.slot 0 (.cell (.im (.int .i64)))], [.slot 0 (.cell (.im (.int .i64)))],
 [(2, [.slot 0 (.cell (.im (.int .i64))), .slot 3 (.cell (.int .i64))])],
 [(2, [(.exit 0, [.slot 0 (.cell (.im (.int .i64))), .slot 3 (.cell (.int .i64))])])],
 []⟩
def H3 : FAnn := ⟨296, 0, [.slot 0 (.cell (.im (.int .i64))), .slot 1 (.cell (.int .i64))], [.slot 0 (.cell (.im (.int .i64))), .slot 1 (.cell (.int .i64))],
 [(4, [.blk (.arr 3 true (.int .i64)), .slot 0 (.cell (.im (.int .i64))), .slot 1 (.cell (.int .i64)), .slot 6 (.ref 0 false), .slot 7 (.cell (.int .i64)), .slot 8 (.cell (.int .i64))])],
 [(4, [(.exit 0, [.blk (.arr 3 true (.int .i64)), .slot 6 (.ref 0 false), .slot 7 (.cell (.int .i64))])])],
 []⟩
def A9 : FAnn := ⟨277, 0, [.slot 0 (.cell (.im (.int .i64)))], [.blk (.arr 3 true (.int .i64)), .slot 0 (.ref 0 false)],
 [],
 [],
 []⟩
def Oy : FAnn := ⟨223, 0, [.slot 0 (.cell (.bool)), .slot 1 (.cell (.im (.int .i64)))], [.blk (.arr 3 true (.int .i64)), .slot 0 (.agg [.bool, .at 0])],
 [],
 [],
 []⟩
def Om : FAnn := ⟨25, 0, [.slot 0 (.cell (.int .i64))], [.slot 0 (.agg [.bool, .im (.int .i64)])],
 [(6, [.blk (.box 25 [.bool, .im (.int .i64)]), .blk (.arr 3 true (.int .i64)), .slot 2 (.ref 0 true), .slot 3 (.cell (.bool)), .slot 4 (.cell (.int .u64)), .slot 5 (.ref 1 false)])],
 [(6, [(.exit 0, [.blk (.box 25 [.bool, .im (.int .i64)]), .blk (.arr 3 true (.int .i64)), .slot 2 (.ref 0 true), .slot 3 (.cell (.bool)), .slot 5 (.ref 1 false)])])],
 [(5, [.blk (.box 25 [.bool, .im (.int .i64)]), .slot 2 (.ref 0 true), .slot 3 (.cell (.bool)), .slot 4 (.cell (.int .u64))])]⟩
def J5 : FAnn := ⟨224, 0, [.slot 0 (.agg [.bool, .im (.int .i64)]), .slot 1 (.agg [.bool, .im (.int .i64)])], [.blk (.arr 3 true (.int .i64)), .slot 0 (.agg [.bool, .at 0])],
 [(3, [.blk (.box 25 [.bool, .im (.int .i64)]), .blk (.box 25 [.bool, .im (.int .i64)]), .blk (.box 25 [.bool, .im (.int .i64)]), .blk (.arr 3 true (.int .i64)), .slot 2 (.ref 0 true), .slot 3 (.ref 1 true), .slot 4 (.ref 2 true), .slot 5 (.ref 3 false), .slot 20 (.cell (.im (.int .i64))), .slot 21 (.cell (.int .i64)), .slot 22 (.cell (.int .i64))]), (7, [.blk (.box 25 [.bool, .im (.int .i64)]), .blk (.box 25 [.bool, .im (.int .i64)]), .blk (.box 25 [.bool, .im (.int .i64)]), .blk (.arr 3 true (.int .i64)), .slot 2 (.ref 0 true), .slot 3 (.ref 1 true), .slot 4 (.ref 2 true), .slot 5 (.ref 3 false), .slot 6 (.cell (.int .i64)), .slot 7 (.cell (.int .i64)), .slot 8 (.cell (.int .i64)), .slot 20 (.cell (.im (.int .i64))), .slot 21 (.cell (.int .i64)), .slot 22 (.cell (.int .i64)), .slot 28 (.cell (.im (.int .i64))), .slot 29 (.cell (.int .i64)), .slot 30 (.cell (.int .i64))])],
 [(3, [(.exit 0, [.blk (.box 25 [.bool, .im (.int .i64)]), .blk (.box 25 [.bool, .im (.int .i64)]), .blk (.box 25 [.bool, .im (.int .i64)]), .blk (.arr 3 true (.int .i64)), .slot 2 (.ref 0 true), .slot 3 (.ref 1 true), .slot 4 (.ref 2 true), .slot 5 (.ref 3 false)])]), (7, [(.exit 2, [.blk (.box 25 [.bool, .im (.int .i64)]), .blk (.box 25 [.bool, .im (.int .i64)]), .blk (.box 25 [.bool, .im (.int .i64)]), .blk (.arr 3 true (.int .i64)), .slot 2 (.ref 0 true), .slot 3 (.ref 1 true), .slot 4 (.ref 2 true), .slot 5 (.ref 3 false), .slot 6 (.cell (.int .i64)), .slot 8 (.cell (.int .i64)), .slot 20 (.cell (.im (.int .i64))), .slot 21 (.cell (.int .i64)), .slot 22 (.cell (.int .i64))])])],
 []⟩
def IA : FAnn := ⟨275, 0, [.slot 0 (.cell (.im (.int .i64))), .slot 1 (.cell (.im (.int .i64)))], [.slot 0 (.cell (.im (.int .i64))), .slot 1 (.cell (.im (.int .i64)))],
 [(10, [.blk (.arr 3 true (.int .i64)), .blk (.arr 3 true (.int .i64)), .slot 0 (.cell (.im (.int .i64))), .slot 6 (.cell (.int .i64)), .slot 9 (.cell (.int .i64)), .slot 10 (.ref 0 false), .slot 11 (.ref 1 false)]), (14, [.blk (.arr 3 true (.int .i64)), .blk (.arr 3 true (.int .i64)), .blk (.arr 3 true (.int .i64)), .slot 6 (.cell (.int .i64)), .slot 9 (.cell (.int .i64)), .slot 10 (.ref 0 false), .slot 11 (.ref 1 false), .slot 12 (.ref 2 false), .slot 13 (.cell (.int .i64))]), (18, [.blk (.arr 3 true (.int .i64)), .blk (.arr 3 true (.int .i64)), .blk (.arr 3 true (.int .i64)), .slot 6 (.cell (.int .i64)), .slot 9 (.cell (.int .i64)), .slot 10 (.ref 0 false), .slot 11 (.ref 1 false), .slot 12 (.ref 2 false), .slot 13 (.cell (.int .i64)), .slot 15 (.cell (.int .i64)), .slot 16 (.cell (.int .i64))]), (23, [.blk (.arr 3 true (.int .i64)), .blk (.arr 3 true (.int .i64)), .blk (.arr 3 true (.int .i64)), .slot 6 (.cell (.int .i64)), .slot 9 (.cell (.int .i64)), .slot 10 (.ref 0 false), .slot 11 (.ref 1 false), .slot 12 (.ref 2 false), .slot 13 (.cell (.int .i64)), .slot 15 (.cell (.int .i64)), .slot 17 (.cell (.int .i64)), .slot 153 (.cell (.int .i64)), .slot 154 (.cell (.int .i64))]), (37, [.blk (.arr 3 true (.int .i64)), .blk (.arr 3 true (.int .i64)), .blk (.arr 3 true (.int .i64)), .slot 6 (.cell (.int .i64)), .slot 9 (.cell (.int .i64)), .slot 10 (.ref 0 false), .slot 11 (.ref 1 false), .slot 12 (.ref 2 false), .slot 13 (.cell (.int .i64)), .slot 15 (.cell (.int .i64)), .slot 20 (.cell (.int .i64)), .slot 208 (.cell (.int .i64)), .slot 209 (.cell (.int .i64))])],
 [(10, [(.exit 0, [.blk (.arr 3 true (.int .i64)), .blk (.arr 3 true (.int .i64)), .slot 6 (.cell (.int .i64)), .slot 9 (.cell (.int .i64)), .slot 10 (.ref 0 false), .slot 11 (.ref 1 false)])]), (14, [(.exit 2, [.blk (.arr 3 true (.int .i64)), .blk (.arr 3 true (.int .i64)), .slot 6 (.cell (.int .i64)), .slot 9 (.cell (.int .i64)), .slot 10 (.ref 0 false), .slot 12 (.ref 1 false)])]), (18, [(.exit 4, [.blk (.arr 3 true (.int .i64)), .blk (.arr 3 true (.int .i64)), .blk (.arr 3 true (.int .i64)), .slot 6 (.cell (.int .i64)), .slot 9 (.cell (.int .i64)), .slot 10 (.ref 0 false), .slot 11 (.ref 1 false), .slot 12 (.ref 2 false), .slot 13 (.cell (.int .i64)), .slot 15 (.cell (.int .i64))])]), (23, [(.exit 6, [.blk (.arr 3 true (.int .i64)), .blk (.arr 3 true (.int .i64)), .blk (.arr 3 true (.int .i64)), .slot 6 (.cell (.int .i64)), .slot 9 (.cell (.int .i64)), .slot 10 (.ref 0 false), .slot 11 (.ref 1 false), .slot 12 (.ref 2 false), .slot 13 (.cell (.int .i64)), .slot 15 (.cell (.int .i64)), .slot 17 (.cell (.int .i64))])]), (37, [(.exit 8, [.blk (.arr 3 true (.int .i64)), .blk (.arr 3 true (.int .i64)), .blk (.arr 3 true (.int .i64)), .slot 6 (.cell (.int .i64)), .slot 9 (.cell (.int .i64)), .slot 10 (.ref 0 false), .slot 11 (.ref 1 false), .slot 12 (.ref 2 false), .slot 13 (.cell (.int .i64)), .slot 15 (.cell (.int .i64)), .slot 20 (.cell (.int .i64))])])],
 [(19, [.blk (.arr 3 true (.int .i64)), .blk (.arr 3 true (.int .i64)), .blk (.arr 3 true (.int .i64)), .slot 6 (.cell (.int .i64)), .slot 9 (.cell (.int .i64)), .slot 10 (.ref 0 false), .slot 11 (.ref 1 false), .slot 12 (.ref 2 false), .slot 13 (.cell (.int .i64)), .slot 15 (.cell (.int .i64)), .slot 16 (.cell (.int .i64))]), (30, [.blk (.arr 3 true (.int .i64)), .blk (.arr 3 true (.int .i64)), .blk (.arr 3 true (.int .i64)), .slot 6 (.cell (.int .i64)), .slot 9 (.cell (.int .i64)), .slot 10 (.ref 0 false), .slot 11 (.ref 1 false), .slot 12 (.ref 2 false), .slot 13 (.cell (.int .i64)), .slot 15 (.cell (.int .i64)), .slot 17 (.cell (.int .i64)), .slot 18 (.cell (.int .i64)), .slot 19 (.cell (.int .i64)), .slot 153 (.cell (.int .i64)), .slot 154 (.cell (.int .i64))])]⟩
def Ke : FAnn := ⟨220, 0, [.slot 0 (.agg [.bool, .im (.int .i64)]), .slot 1 (.agg [.bool, .im (.int .i64)])], [.slot 0 (.agg [.bool, .im (.int .i64)])],
 [(2, [.blk (.box 25 [.bool, .im (.int .i64)]), .slot 4 (.ref 0 true), .slot 5 (.cell (.im (.int .i64))), .slot 6 (.cell (.im (.int .i64)))])],
 [(2, [(.exit 0, [.blk (.box 25 [.bool, .im (.int .i64)]), .slot 4 (.ref 0 true), .slot 5 (.cell (.im (.int .i64)))])])],
 []⟩
def Gs : FAnn := ⟨219, 0, [.slot 0 (.agg [.bool, .im (.int .i64)]), .slot 1 (.agg [.bool, .im (.int .i64)])], [.slot 0 (.cell (.int .i64))],
 [],
 [],
 []⟩
def JS : FAnn := ⟨105, 0, [.slot 0 (.agg [.bool, .im (.int .i64), .bool, .im (.int .i64)])], [.slot 0 (.cell (.bool))],
 [],
 [],
 []⟩
def Kq : FAnn := ⟨129, 0, [.slot 0 (.cell (.im (.pair (.pair (.bool) (.sl (.int .i64))) (.pair (.bool) (.sl (.int .i64))))))], [.slot 0 (.cell (.bool))],
 [(2, [.slot 5 (.cell (.im (.pair (.pair (.bool) (.sl (.int .i64))) (.pair (.bool) (.sl (.int .i64)))))), .slot 6 (.cell (.int .i64)), .slot 7 (.cell (.int .i64))])],
 [(2, [(.exit 0, []), (.ret, [.slot 2 (.cell (.bool))])])],
 []⟩
def FO : FAnn := ⟨232, 0, [.slot 0 (.agg [.bool, .im (.int .i64), .bool, .im (.int .i64)]), .slot 1 (.cell (.int .i64))], [.slot 0 (.cell (.bool))],
 [],
 [],
 []⟩
def OK : FAnn := ⟨213, 0, [.slot 0 (.agg [.bool, .im (.int .i64), .bool, .im (.int .i64), .bool, .im (.int .i64), .bool, .im (.int .i64)]), .slot 1 (.cell (.int .i64))], [.slot 0 (.cell (.bool))],
 [],
 [],
 []⟩
def GV : FAnn := ⟨212, 0, [.slot 0 (.agg [.bool, .im (.int .i64), .bool, .im (.int .i64), .bool, .im (.int .i64), .bool, .im (.int .i64)])], [.slot 0 (.cell (.bool))],
 [],
 [],
 []⟩
def Bi : FAnn := ⟨272, 0, [.slot 0 (.cell (.im (.pair (.pair (.pair (.bool) (.sl (.int .i64))) (.pair (.bool) (.sl (.int .i64)))) (.pair (.pair (.bool) (.sl (.int .i64))) (.pair (.bool) (.sl (.int .i64))))))), .slot 1 (.clo 212)], [.slot 0 (.cell (.int .i64))],
 [(2, [.slot 0 (.cell (.im (.pair (.pair (.pair (.bool) (.sl (.int .i64))) (.pair (.bool) (.sl (.int .i64)))) (.pair (.pair (.bool) (.sl (.int .i64))) (.pair (.bool) (.sl (.int .i64))))))), .slot 1 (.clo 212), .slot 7 (.cell (.int .i64)), .slot 8 (.cell (.int .i64))])],
 [(2, [(.exit 0, []), (.ret, [.slot 4 (.cell (.int .i64))])])],
 []⟩
def A3 : FAnn := ⟨211, 0, [.slot 0 (.cell (.im (.pair (.pair (.pair (.bool) (.sl (.int .i64))) (.pair (.bool) (.sl (.int .i64)))) (.pair (.pair (.bool) (.sl (.int .i64))) (.pair (.bool) (.sl (.int .i64))))))), .slot 1 (.clo 212)], [.slot 0 (.cell (.bool))],
 [],
 [],
 []⟩
def Ip : FAnn := ⟨98, 0, [.slot 0 (.cell (.im (.pair (.pair (.pair (.bool) (.sl (.int .i64))) (.pair (.bool) (.sl (.int .i64)))) (.pair (.pair (.bool) (.sl (.int .i64))) (.pair (.bool) (.sl (.int .i64)))))))], [.slot 0 (.cell (.bool))],
 [],
 [],
 []⟩
def Ju : FAnn := ⟨203, 0, [.slot 0 (.agg [.bool, .im (.int .i64), .bool, .im (.int .i64)])], [.slot 0 (.cell (.bool))],
 [],
 [],
 []⟩
def DW : FAnn := ⟨266, 0, [.slot 0 (.agg [.bool, .im (.int .i64), .bool, .im (.int .i64), .bool, .im (.int .i64), .bool, .im (.int .i64)]), .slot 1 (.cell (.bool))], [.slot 0 (.agg [.bool, .im (.int .i64), .bool, .im (.int .i64)])],
 [],
 [],
 []⟩
def Gm : FAnn := ⟨138, 0, [.slot 0 (.agg [.bool, .im (.int .i64), .bool, .im (.int .i64)]), .slot 1 (.agg [.bool, .im (.int .i64), .bool, .im (.int .i64)])], [.slot 0 (.cell (.int .i64))],
 [],
 [],
 []⟩
def H8 : FAnn := ⟨130, 0, [.slot 0 (.agg [.bool, .im (.int .i64), .bool, .im (.int .i64)]), .slot 1 (.agg [.bool, .im (.int .i64), .bool, .im (.int .i64)])], [.slot 0 (.cell (.bool))],
 [],
 [],
 []⟩
def LK : FAnn := ⟨265, 3, [.blk (.box 4 [.bool]), .blk (.box 4 [.bool]), .blk (.box 27 [.bool, .im (.int .i64), .bool, .im (.int .i64)]), .slot 0 (.agg [.bool, .im (.int .i64), .bool, .im (.int .i64), .bool, .im (.int .i64), .bool, .im (.int .i64)]), .slot 1 (.ref 0 true), .slot 2 (.ref 1 true), .slot 3 (.ref 2 true)], [.blk (.box 4 [.bool]), .blk (.box 4 [.bool]), .blk (.box 27 [.bool, .im (.int .i64), .bool, .im (.int .i64)]), .slot 0 (.cell (.bool))],
 [],
 [],
 []⟩
def JJ : FAnn := ⟨233, 0, [.slot 0 (.agg [.bool, .im (.int .i64)])], [.slot 0 (.agg [.bool, .im (.int .i64)])],
 [],
 [],
 []⟩
def Kv : FAnn := ⟨159, 0, [.slot 0 (.agg [.bool, .im (.int .i64), .bool, .im (.int .i64)])], [.slot 0 (.agg [.bool, .im (.int .i64), .bool, .im (.int .i64)])],
 [],
 [],
 []⟩
def Ib : FAnn := ⟨235, 0, [.slot 0 (.cell (.im (.int .i64))), .slot 1 (.cell (.im (.int .i64)))], [.blk (.arr 3 true (.int .i64)), .slot 0 (.ref 0 false)],
 [(4, [.blk (.arr 3 true (.int .i64)), .slot 0 (.cell (.im (.int .i64))), .slot 1 (.cell (.im (.int .i64))), .slot 5 (.ref 0 false), .slot 6 (.cell (.int .i64)), .slot 7 (.cell (.int .i64))])],
 [(4, [(.exit 0, [.blk (.arr 3 true (.int .i64)), .slot 5 (.ref 0 false)])])],
 [(6, [.blk (.arr 3 true (.int .i64)), .slot 0 (.cell (.im (.int .i64))), .slot 1 (.cell (.im (.int .i64))), .slot 5 (.ref 0 false), .slot 6 (.cell (.int .i64)), .slot 7 (.cell (.int .i64))]), (8, [.blk (.arr 3 true (.int .i64)), .slot 0 (.cell (.im (.int .i64))), .slot 1 (.cell (.im (.int .i64))), .slot 5 (.ref 0 false), .slot 6 (.cell (.int .i64)), .slot 7 (.cell (.int .i64))]), (10, [.blk (.arr 3 true (.int .i64)), .slot 0 (.cell (.im (.int .i64))), .slot 1 (.cell (.im (.int .i64))), .slot 5 (.ref 0 false), .slot 6 (.cell (.int .i64)), .slot 7 (.cell (.int .i64))])]⟩
def ID : FAnn := ⟨236, 0, [.slot 0 (.cell (.im (.int .i64))), .slot 1 (.cell (.im (.int .i64)))], [.slot 0 (.cell (.im (.int .i64)))],
 [(4, [.blk (.arr 3 true (.int .i64)), .slot 1 (.cell (.im (.int .i64))), .slot 5 (.ref 0 false), .slot 6 (.cell (.int .i64)), .slot 11 (.cell (.int .i64)), .slot 12 (.cell (.int .i64))])],
 [(4, [(.exit 0, [.blk (.arr 3 true (.int .i64)), .slot 5 (.ref 0 false)])])],
 [(9, [.blk (.arr 3 true (.int .i64)), .slot 1 (.cell (.im (.int .i64))), .slot 5 (.ref 0 false), .slot 7 (.cell (.int .i64)), .slot 11 (.cell (.int .i64)), .slot 12 (.cell (.int .i64))])]⟩
def JH : FAnn := ⟨132, 0, [.slot 0 (.agg [.bool, .im (.int .i64)]), .slot 1 (.agg [.bool, .im (.int .i64)])], [.slot 0 (.agg [.bool, .im (.int .i64)])],
 [],
 [],
 []⟩
def J7 : FAnn := ⟨234, 0, [.slot 0 (.agg [.bool, .im (.int .i64)]), .slot 1 (.agg [.bool, .im (.int .i64)])], [.slot 0 (.agg [.bool, .im (.int .i64)]), .slot 1 (.agg [.bool, .im (.int .i64)])],
 [],
 [],
 []⟩
def N9 : FAnn := ⟨131, 0, [.slot 0 (.agg [.bool, .im (.int .i64)]), .slot 1 (.agg [.bool, .im (.int .i64)])], [.slot 0 (.agg [.bool, .im (.int .i64), .bool, .im (.int .i64)])],
 [],
 [],
 [(4, [.blk (.box 25 [.bool, .im (.int .i64)]), .blk (.box 25 [.bool, .im (.int .i64)]), .blk (.box 27 [.bool, .im (.int .i64), .bool, .im (.int .i64)]), .blk (.box 25 [.bool, .im (.int .i64)]), .slot 2 (.ref 0 true), .slot 3 (.ref 1 true), .slot 4 (.ref 2 true), .slot 5 (.ref 3 true)])]⟩
def Kh : FAnn := ⟨126, 0, [.slot 0 (.agg [.bool, .im (.int .i64), .bool, .im (.int .i64)]), .slot 1 (.agg [.bool, .im (.int .i64), .bool, .im (.int .i64)])], [.slot 0 (.agg [.bool, .im (.int .i64), .bool, .im (.int .i64)])],
 [],
 [],
 []⟩
def JZ : FAnn := ⟨108, 0, [.slot 0 (.agg [.bool, .im (.int .i64), .bool, .im (.int .i64)]), .slot 1 (.agg [.bool, .im (.int .i64), .bool, .im (.int .i64)])], [.slot 0 (.agg [.bool, .im (.int .i64), .bool, .im (.int .i64)])],
 [],
 [],
 []⟩
def Kp : FAnn := ⟨112, 0, [.slot 0 (.agg [.bool, .im (.int .i64), .bool, .im (.int .i64)]), .slot 1 (.agg [.bool, .im (.int .i64), .bool, .im (.int .i64)])], [.slot 0 (.agg [.bool, .im (.int .i64), .bool, .im (.int .i64)])],
 [],
 [],
 []⟩
def OQ : FAnn := ⟨111, 0, [.slot 0 (.cell (.int .i64))], [.slot 0 (.agg [.bool, .im (.int .i64), .bool, .im (.int .i64)])],
 [],
 [],
 []⟩
def JO : FAnn := ⟨140, 0, [.slot 0 (.agg [.bool, .im (.int .i64), .bool, .im (.int .i64)]), .slot 1 (.agg [.bool, .im (.int .i64), .bool, .im (.int .i64)])], [.slot 0 (.agg [.bool, .im (.int .i64), .bool, .im (.int .i64)])],
 [],
 [],
 []⟩
def WN : FAnn := ⟨267, 0, [.slot 0 (.agg [.bool, .im (.int .i64), .bool, .im (.int .i64), .bool, .im (.int .i64), .bool, .im (.int .i64)]), .slot 1 (.agg [.bool, .im (.int .i64), .bool, .im (.int .i64), .bool, .im (.int .i64), .bool, .im (.int .i64)]), .slot 2 (.agg [.bool, .im (.int .i64), .bool, .im (.int .i64)])], [.slot 0 (.agg [.bool, .im (.int .i64), .bool, .im (.int .i64), .bool, .im (.int .i64), .bool, .im (.int .i64)])],
 [],
 [],
 []⟩
def QY : FAnn := ⟨205, 0, [.slot 0 (.cell (.im (.pair (.pair (.pair (.bool) (.sl (.int .i64))) (.pair (.bool) (.sl (.int .i64)))) (.pair (.pair (.bool) (.sl (.int .i64))) (.pair (.bool) (.sl (.int .i64))))))), .slot 1 (.cell (.bool)), .slot 2 (.cell (.bool)), .slot 3 (.agg [.bool, .im (.int .i64), .bool, .im (.int .i64)])], [.blk (.arr 105 false (.pair (.pair (.pair (.bool) (.sl (.int .i64))) (.pair (.bool) (.sl (.int .i64)))) (.pair (.pair (.bool) (.sl (.int .i64))) (.pair (.bool) (.sl (.int .i64)))))), .slot 0 (.ref 0 false)],
 [(4, [.blk (.box 4 [.bool]), .blk (.box 27 [.bool, .im (.int .i64), .bool, .im (.int .i64)]), .blk (.box 4 [.bool]), .blk (.arr 105 false (.pair (.pair (.pair (.bool) (.sl (.int .i64))) (.pair (.bool) (.sl (.int .i64)))) (.pair (.pair (.bool) (.sl (.int .i64))) (.pair (.bool) (.sl (.int .i64)))))), .slot 0 (.cell (.im (.pair (.pair (.pair (.bool) (.sl (.int .i64))) (.pair (.bool) (.sl (.int .i64)))) (.pair (.pair (.bool) (.sl (.int .i64))) (.pair (.bool) (.sl (.int .i64))))))), .slot 5 (.ref 0 true), .slot 7 (.ref 1 true), .slot 9 (.cap 265 [2, 0, 1]), .slot 10 (.ref 3 false), .slot 17 (.cell (.im (.pair (.pair (.pair (.bool) (.sl (.int .i64))) (.pair (.bool) (.sl (.int .i64)))) (.pair (.pair (.bool) (.sl (.int .i64))) (.pair (.bool) (.sl (.int .i64))))))), .slot 18 (.cell (.int .i64)), .slot 19 (.cell (.int .i64))])],
 [(4, [(.exit 0, [.blk (.arr 105 false (.pair (.pair (.pair (.bool) (.sl (.int .i64))) (.pair (.bool) (.sl (.int .i64)))) (.pair (.pair (.bool) (.sl (.int .i64))) (.pair (.bool) (.sl (.int .i64)))))), .slot 10 (.ref 0 false)])])],
 [(10, [.blk (.box 4 [.bool]), .blk (.box 27 [.bool, .im (.int .i64), .bool, .im (.int .i64)]), .blk (.box 4 [.bool]), .blk (.arr 105 false (.pair (.pair (.pair (.bool) (.sl (.int .i64))) (.pair (.bool) (.sl (.int .i64)))) (.pair (.pair (.bool) (.sl (.int .i64))) (.pair (.bool) (.sl (.int .i64)))))), .blk (.box 105 [.bool, .im (.int .i64), .bool, .im (.int .i64), .bool, .im (.int .i64), .bool, .im (.int .i64)]), .slot 0 (.cell (.im (.pair (.pair (.pair (.bool) (.sl (.int .i64))) (.pair (.bool) (.sl (.int .i64)))) (.pair (.pair (.bool) (.sl (.int .i64))) (.pair (.bool) (.sl (.int .i64))))))), .slot 5 (.ref 0 true), .slot 7 (.ref 1 true), .slot 9 (.cap 265 [2, 0, 1]), .slot 10 (.ref 3 false), .slot 12 (.ref 4 true), .slot 17 (.cell (.im (.pair (.pair (.pair (.bool) (.sl (.int .i64))) (.pair (.bool) (.sl (.int .i64)))) (.pair (.pair (.bool) (.sl (.int .i64))) (.pair (.bool) (.sl (.int .i64))))))), .slot 18 (.cell (.int .i64)), .slot 19 (.cell (.int .i64))])]⟩
def LO : FAnn := ⟨243, 0, [.slot 0 (.agg [.bool, .im (.int .i64), .bool, .im (.int .i64)])], [.slot 0 (.agg [.bool, .im (.int .i64), .bool, .im (.int .i64)])],
 [],
 [],
 []⟩
def L5 : FAnn := ⟨273, 0, [.slot 0 (.agg [.bool, .im (.int .i64), .bool, .im (.int .i64), .bool, .im (.int .i64), .bool, .im (.int .i64)])], [.slot 0 (.agg [.bool, .im (.int .i64), .bool, .im (.int .i64), .bool, .im (.int .i64), .bool, .im (.int .i64)])],
 [],
 [],
 []⟩
def JK : FAnn := ⟨216, 0, [.slot 0 (.cell (.im (.pair (.pair (.pair (.bool) (.sl (.int .i64))) (.pair (.bool) (.sl (.int .i64)))) (.pair (.pair (.bool) (.sl (.int .i64))) (.pair (.bool) (.sl (.int .i64)))))))], [.blk (.arr 105 false (.pair (.pair (.pair (.bool) (.sl (.int .i64))) (.pair (.bool) (.sl (.int .i64)))) (.pair (.pair (.bool) (.sl (.int .i64))) (.pair (.bool) (.sl (.int .i64)))))), .slot 0 (.ref 0 false)],
 [(3, [.blk (.arr 105 false (.pair (.pair (.pair (.bool) (.sl (.int .i64))) (.pair (.bool) (.sl (.int .i64)))) (.pair (.pair (.bool) (.sl (.int .i64))) (.pair (.bool) (.sl (.int .i64)))))), .slot 3 (.ref 0 false), .slot 7 (.cell (.im (.pair (.pair (.pair (.bool) (.sl (.int .i64))) (.pair (.bool) (.sl (.int .i64)))) (.pair (.pair (.bool) (.sl (.int .i64))) (.pair (.bool) (.sl (.int .i64))))))), .slot 8 (.cell (.int .i64)), .slot 9 (.cell (.int .i64))])],
 [(3, [(.exit 0, [.blk (.arr 105 false (.pair (.pair (.pair (.bool) (.sl (.int .i64))) (.pair (.bool) (.sl (.int .i64)))) (.pair (.pair (.bool) (.sl (.int .i64))) (.pair (.bool) (.sl (.int .i64)))))), .slot 3 (.ref 0 false)])])],
 []⟩
def FH : FAnn := ⟨204, 0, [.slot 0 (.cell (.im (.pair (.pair (.pair (.bool) (.sl (.int .i64))) (.pair (.bool) (.sl (.int .i64)))) (.pair (.pair (.bool) (.sl (.int .i64))) (.pair (.bool) (.sl (.int .i64)))))))], [.blk (.arr 105 false (.pair (.pair (.pair (.bool) (.sl (.int .i64))) (.pair (.bool) (.sl (.int .i64)))) (.pair (.pair (.bool) (.sl (.int .i64))) (.pair (.bool) (.sl (.int .i64)))))), .slot 0 (.ref 0 false), .slot 1 (.cell (.bool))],
 [],
 [],
 []⟩
def Jf : FAnn := ⟨91, 0, [.slot 0 (.cell (.im (.pair (.pair (.pair (.bool) (.sl (.int .i64))) (.pair (.bool) (.sl (.int .i64)))) (.pair (.pair (.bool) (.sl (.int .i64))) (.pair (.bool) (.sl (.int .i64))))))), .slot 1 (.cell (.bool)), .slot 2 (.agg [.bool, .im (.int .i64), .bool, .im (.int .i64)])], [.blk (.arr 105 false (.pair (.pair (.pair (.bool) (.sl (.int .i64))) (.pair (.bool) (.sl (.int .i64)))) (.pair (.pair (.bool) (.sl (.int .i64))) (.pair (.bool) (.sl (.int .i64)))))), .slot 0 (.ref 0 false), .slot 1 (.cell (.bool))],
 [],
 [],
 []⟩
def I1 : FAnn := ⟨113, 0, [.slot 0 (.agg [.bool, .im (.int .i64), .bool, .im (.int .i64)])], [.slot 0 (.cell (.bool))],
 [],
 [],
 []⟩
def Kr : FAnn := ⟨214, 0, [.slot 0 (.agg [.bool, .im (.int .i64), .bool, .im (.int .i64)])], [.slot 0 (.cell (.bool))],
 [],
 [],
 []⟩
def H6 : FAnn := ⟨99, 0, [.slot 0 (.cell (.im (.pair (.pair (.pair (.bool) (.sl (.int .i64))) (.pair (.bool) (.sl (.int .i64)))) (.pair (.pair (.bool) (.sl (.int .i64))) (.pair (.bool) (.sl (.int .i64)))))))], [.slot 0 (.cell (.bool))],
 [(2, [.slot 0 (.cell (.im (.pair (.pair (.pair (.bool) (.sl (.int .i64))) (.pair (.bool) (.sl (.int .i64)))) (.pair (.pair (.bool) (.sl (.int .i64))) (.pair (.bool) (.sl (.int .i64))))))), .slot 5 (.cell (.im (.pair (.pair (.pair (.bool) (.sl (.int .i64))) (.pair (.bool) (.sl (.int .i64)))) (.pair (.pair (.bool) (.sl (.int .i64))) (.pair (.bool) (.sl (.int .i64))))))), .slot 6 (.cell (.int .i64)), .slot 7 (.cell (.int .i64))])],
 [(2, [(.exit 0, [.slot 0 (.cell (.im (.pair (.pair (.pair (.bool) (.sl (.int .i64))) (.pair (.bool) (.sl (.int .i64)))) (.pair (.pair (.bool) (.sl (.int .i64))) (.pair (.bool) (.sl (.int .i64)))))))]), (.ret, [.slot 2 (.cell (.bool))])])],
 []⟩
def H9 : FAnn := ⟨268, 0, [.slot 0 (.agg [.bool, .im (.int .i64), .bool, .im (.int .i64)])], [.slot 0 (.cell (.bool))],
 [],
 [],
 []⟩
def JE : FAnn := ⟨206, 0, [.slot 0 (.cell (.im (.pair (.pair (.pair (.bool) (.sl (.int .i64))) (.pair (.bool) (.sl (.int .i64)))) (.pair (.pair (.bool) (.sl (.int .i64))) (.pair (.bool) (.sl (.int .i64))))))), .slot 1 (.agg [.bool, .im (.int .i64), .bool, .im (.int .i64)])], [.slot 0 (.cell (.bool))],
 [],
 [],
 []⟩
def Iv : FAnn := ⟨294, 0, [.slot 0 (.agg [.bool, .im (.int .i64), .bool, .im (.int .i64), .bool, .im (.int .i64), .bool, .im (.int .i64)]), .slot 1 (.cell (.bool))], [.slot 0 (.agg [.bool, .im (.int .i64), .bool, .im (.int .i64)])],
 [],
 [],
 []⟩
def Gr : FAnn := ⟨248, 0, [.slot 0 (.cell (.im (.int .i64))), .slot 1 (.cell (.im (.int .i64)))], [.blk (.arr 3 true (.int .i64)), .slot 0 (.ref 0 false)],
 [(3, [.blk (.arr 3 true (.int .i64)), .slot 1 (.cell (.im (.int .i64))), .slot 5 (.ref 0 false), .slot 18 (.cell (.im (.int .i64))), .slot 19 (.cell (.int .i64)), .slot 20 (.cell (.int .i64))]), (7, [.blk (.arr 3 true (.int .i64)), .slot 1 (.cell (.im (.int .i64))), .slot 5 (.ref 0 false), .slot 6 (.cell (.int .i64)), .slot 7 (.cell (.int .i64)), .slot 8 (.cell (.int .i64)), .slot 9 (.cell (.int .i64)), .slot 18 (.cell (.im (.int .i64))), .slot 19 (.cell (.int .i64)), .slot 20 (.cell (.int .i64))])],
 [(3, [(.exit 0, [.blk (.arr 3 true (.int .i64)), .slot 5 (.ref 0 false)])]), (7, [(.exit 2, [.blk (.arr 3 true (.int .i64)), .slot 1 (.cell (.im (.int .i64))), .slot 5 (.ref 0 false), .slot 18 (.cell (.im (.int .i64))), .slot 19 (.cell (.int .i64)), .slot 20 (.cell (.int .i64))])])],
 [(9, [.blk (.arr 3 true (.int .i64)), .slot 1 (.cell (.im (.int .i64))), .slot 5 (.ref 0 false), .slot 6 (.cell (.int .i64)), .slot 7 (.cell (.int .i64)), .slot 8 (.cell (.int .i64)), .slot 9 (.cell (.int .i64)), .slot 18 (.cell (.im (.int .i64))), .slot 19 (.cell (.int .i64)), .slot 20 (.cell (.int .i64))])]⟩
def Ov : FAnn := ⟨168, 0, [.slot 0 (.agg [.bool, .im (.int .i64)]), .slot 1 (.agg [.bool, .im (.int .i64)])], [.slot 0 (.agg [.bool, .im (.int .i64)])],
 [],
 [],
 []⟩
def Iu : FAnn := ⟨169, 0, [.slot 0 (.agg [.bool, .im (.int .i64)]), .slot 1 (.agg [.bool, .im (.int .i64)])], [.slot 0 (.cell (.int .i64))],
 [],
 [],
 []⟩
def NP : FAnn := ⟨134, 0, [.slot 0 (.agg [.bool, .im (.int .i64), .bool, .im (.int .i64)]), .slot 1 (.agg [.bool, .im (.int .i64), .bool, .im (.int .i64)])], [.slot 0 (.cell (.int .i64))],
 [],
 [],
 []⟩
def J6 : FAnn := ⟨269, 0, [.slot 0 (.agg [.bool, .im (.int .i64), .bool, .im (.int .i64), .bool, .im (.int .i64), .bool, .im (.int .i64)]), .slot 1 (.cell (.bool)), .slot 2 (.agg [.bool, .im (.int .i64), .bool, .im (.int .i64)]), .slot 3 (.cell (.bool))], [.slot 0 (.cell (.int .i64))],
 [],
 [],
 []⟩
def Ot : FAnn := ⟨163, 0, [.slot 0 (.agg [.bool, .im (.int .i64), .bool, .im (.int .i64)])], [.slot 0 (.agg [.bool, .im (.int .i64), .bool, .im (.int .i64)])],
 [],
 [],
 []⟩
def Gb : FAnn := ⟨237, 0, [.slot 0 (.cell (.im (.int .i64))), .slot 1 (.cell (.im (.int .i64)))], [.blk (.arr 3 true (.int .i64)), .slot 0 (.ref 0 false)],
 [(4, [.blk (.arr 3 true (.int .i64)), .slot 0 (.cell (.im (.int .i64))), .slot 1 (.cell (.im (.int .i64))), .slot 5 (.ref 0 false), .slot 6 (.cell (.int .i64)), .slot 7 (.cell (.int .i64))])],
 [(4, [(.exit 0, [.blk (.arr 3 true (.int .i64)), .slot 5 (.ref 0 false)])])],
 [(6, [.blk (.arr 3 true (.int .i64)), .slot 0 (.cell (.im (.int .i64))), .slot 1 (.cell (.im (.int .i64))), .slot 5 (.ref 0 false), .slot 6 (.cell (.int .i64)), .slot 7 (.cell (.int .i64))])]⟩
def GO : FAnn := ⟨238, 0, [.slot 0 (.cell (.im (.int .i64))), .slot 1 (.cell (.im (.int .i64)))], [.blk (.arr 3 true (.int .i64)), .slot 0 (.ref 0 false)],
 [(4, [.blk (.arr 3 true (.int .i64)), .slot 0 (.cell (.im (.int .i64))), .slot 1 (.cell (.im (.int .i64))), .slot 5 (.ref 0 false), .slot 6 (.cell (.int .i64)), .slot 10 (.cell (.int .i64)), .slot 11 (.cell (.int .i64))])],
 [(4, [(.exit 0, [.blk (.arr 3 true (.int .i64)), .slot 5 (.ref 0 false)])])],
 []⟩
def OU : FAnn := ⟨137, 0, [.slot 0 (.agg [.bool, .im (.int .i64)]), .slot 1 (.agg [.bool, .im (.int .i64)])], [.slot 0 (.agg [.bool, .im (.int .i64)])],
 [],
 [],
 []⟩
def Od : FAnn := ⟨135, 0, [.slot 0 (.agg [.bool, .im (.int .i64), .bool, .im (.int .i64)]), .slot 1 (.agg [.bool, .im (.int .i64), .bool, .im (.int .i64)])], [.slot 0 (.agg [.bool, .im (.int .i64), .bool, .im (.int .i64)])],
 [],
 [],
 []⟩
def N4 : FAnn := ⟨115, 0, [.slot 0 (.agg [.bool, .im (.int .i64), .bool, .im (.int .i64)]), .slot 1 (.agg [.bool, .im (.int .i64), .bool, .im (.int .i64)])], [.slot 0 (.agg [.bool, .im (.int .i64), .bool, .im (.int .i64)])],
 [],
 [],
 []⟩
def OO : FAnn := ⟨118, 0, [.slot 0 (.agg [.bool, .im (.int .i64), .bool, .im (.int .i64)]), .slot 1 (.agg [.bool, .im (.int .i64), .bool, .im (.int .i64)])], [.slot 0 (.agg [.bool, .im (.int .i64), .bool, .im (.int .i64)])],
 [],
 [],
 []⟩
def Oi : FAnn := ⟨152, 0, [.slot 0 (.agg [.bool, .im (.int .i64), .bool, .im (.int .i64)]), .slot 1 (.agg [.bool, .im (.int .i64), .bool, .im (.int .i64)])], [.slot 0 (.agg [.bool, .im (.int .i64), .bool, .im (.int .i64)])],
 [],
 [],
 []⟩
def JN : FAnn := ⟨308, 0, [.slot 0 (.agg [.bool, .im (.int .i64), .bool, .im (.int .i64)]), .slot 1 (.agg [.bool, .im (.int .i64), .bool, .im (.int .i64)]), .slot 2 (.agg [.bool, .im (.int .i64), .bool, .im (.int .i64)])], [.slot 0 (.agg [.bool, .im (.int .i64), .bool, .im (.int .i64)])],
 [],
 [],
 []⟩
def LS : FAnn := ⟨295, 0, [.slot 0 (.agg [.bool, .im (.int .i64), .bool, .im (.int .i64), .bool, .im (.int .i64), .bool, .im (.int .i64)]), .slot 1 (.agg [.bool, .im (.int .i64), .bool, .im (.int .i64), .bool, .im (.int .i64), .bool, .im (.int .i64)]), .slot 2 (.agg [.bool, .im (.int .i64), .bool, .im (.int .i64)])], [.slot 0 (.agg [.bool, .im (.int .i64), .bool, .im (.int .i64), .bool, .im (.int .i64), .bool, .im (.int .i64)])],
 [],
 [],
 []⟩
def L2 : FAnn := ⟨270, 0, [.slot 0 (.agg [.bool, .im (.int .i64), .bool, .im (.int .i64), .bool, .im (.int .i64), .bool, .im (.int .i64)]), .slot 1 (.agg [.bool, .im (.int .i64), .bool, .im (.int .i64), .bool, .im (.int .i64), .bool, .im (.int .i64)]), .slot 2 (.cell (.bool)), .slot 3 (.agg [.bool, .im (.int .i64), .bool, .im (.int .i64)])], [.slot 0 (.agg [.bool, .im (.int .i64), .bool, .im (.int .i64), .bool, .im (.int .i64), .bool, .im (.int .i64)])],
 [],
 [],
 []⟩
def JY : FAnn := ⟨208, 0, [.slot 0 (.cell (.im (.pair (.pair (.pair (.bool) (.sl (.int .i64))) (.pair (.bool) (.sl (.int .i64)))) (.pair (.pair (.bool) (.sl (.int .i64))) (.pair (.bool) (.sl (.int .i64))))))), .slot 1 (.cell (.bool)), .slot 2 (.agg [.bool, .im (.int .i64), .bool, .im (.int .i64)]), .slot 3 (.cell (.bool))], [.blk (.arr 105 false (.pair (.pair (.pair (.bool) (.sl (.int .i64))) (.pair (.bool) (.sl (.int .i64)))) (.pair (.pair (.bool) (.sl (.int .i64))) (.pair (.bool) (.sl (.int .i64)))))), .slot 0 (.ref 0 false)],
 [(3, [.blk (.box 27 [.bool, .im (.int .i64), .bool, .im (.int .i64)]), .blk (.arr 105 false (.pair (.pair (.pair (.bool) (.sl (.int .i64))) (.pair (.bool) (.sl (.int .i64)))) (.pair (.pair (.bool) (.sl (.int .i64))) (.pair (.bool) (.sl (.int .i64)))))), .slot 0 (.cell (.im (.pair (.pair (.pair (.bool) (.sl (.int .i64))) (.pair (.bool) (.sl (.int .i64)))) (.pair (.pair (.bool) (.sl (.int .i64))) (.pair (.bool) (.sl (.int .i64))))))), .slot 1 (.cell (.bool)), .slot 3 (.cell (.bool)), .slot 6 (.ref 0 true), .slot 9 (.ref 1 false), .slot 15 (.cell (.im (.pair (.pair (.pair (.bool) (.sl (.int .i64))) (.pair (.bool) (.sl (.int .i64)))) (.pair (.pair (.bool) (.sl (.int .i64))) (.pair (.bool) (.sl (.int .i64))))))), .slot 16 (.cell (.int .i64)), .slot 17 (.cell (.int .i64))])],
 [(3, [(.exit 0, [.blk (.arr 105 false (.pair (.pair (.pair (.bool) (.sl (.int .i64))) (.pair (.bool) (.sl (.int .i64)))) (.pair (.pair (.bool) (.sl (.int .i64))) (.pair (.bool) (.sl (.int .i64)))))), .slot 9 (.ref 0 false)])])],
 []⟩
def LR : FAnn := ⟨136, 0, [.slot 0 (.agg [.bool, .im (.int .i64), .bool, .im (.int .i64)])], [.slot 0 (.agg [.bool, .im (.int .i64), .bool, .im (.int .i64)]), .slot 1 (.cell (.bool))],
 [],
 [],
 []⟩
def JD : FAnn := ⟨274, 0, [.slot 0 (.agg [.bool, .im (.int .i64), .bool, .im (.int .i64), .bool, .im (.int .i64), .bool, .im (.int .i64)])], [.slot 0 (.agg [.bool, .im (.int .i64), .bool, .im (.int .i64), .bool, .im (.int .i64), .bool, .im (.int .i64)]), .slot 1 (.cell (.bool))],
 [],
 [],
 []⟩
def LH : FAnn := ⟨218, 0, [.slot 0 (.cell (.im (.pair (.pair (.pair (.bool) (.sl (.int .i64))) (.pair (.bool) (.sl (.int .i64)))) (.pair (.pair (.bool) (.sl (.int .i64))) (.pair (.bool) (.sl (.int .i64)))))))], [.slot 0 (.cell (.im (.pair (.pair (.pair (.bool) (.sl (.int .i64))) (.pair (.bool) (.sl (.int .i64)))) (.pair (.pair (.bool) (.sl (.int .i64))) (.pair (.bool) (.sl (.int .i64))))))), .slot 1 (.cell (.bool))],
 [(3, [.blk (.arr 105 false (.pair (.pair (.pair (.bool) (.sl (.int .i64))) (.pair (.bool) (.sl (.int .i64)))) (.pair (.pair (.bool) (.sl (.int .i64))) (.pair (.bool) (.sl (.int .i64)))))), .slot 4 (.ref 0 false), .slot 9 (.cell (.im (.pair (.pair (.pair (.bool) (.sl (.int .i64))) (.pair (.bool) (.sl (.int .i64)))) (.pair (.pair (.bool) (.sl (.int .i64))) (.pair (.bool) (.sl (.int .i64))))))), .slot 10 (.cell (.int .i64)), .slot 11 (.cell (.int .i64))])],
 [(3, [(.exit 0, [.blk (.arr 105 false (.pair (.pair (.pair (.bool) (.sl (.int .i64))) (.pair (.bool) (.sl (.int .i64)))) (.pair (.pair (.bool) (.sl (.int .i64))) (.pair (.bool) (.sl (.int .i64)))))), .slot 4 (.ref 0 false)]), (.ret, [.slot 2 (.cell (.im (.pair (.pair (.pair (.bool) (.sl (.int .i64))) (.pair (.bool) (.sl (.int .i64)))) (.pair (.pair (.bool) (.sl (.int .i64))) (.pair (.bool) (.sl (.int .i64))))))), .slot 3 (.cell (.bool))])])],
 []⟩
def Kl : FAnn := ⟨207, 0, [.slot 0 (.cell (.im (.pair (.pair (.pair (.bool) (.sl (.int .i64))) (.pair (.bool) (.sl (.int .i64)))) (.pair (.pair (.bool) (.sl (.int .i64))) (.pair (.bool) (.sl (.int .i64)))))))], [.slot 0 (.cell (.im (.pair (.pair (.pair (.bool) (.sl (.int .i64))) (.pair (.bool) (.sl (.int .i64)))) (.pair (.pair (.bool) (.sl (.int .i64))) (.pair (.bool) (.sl (.int .i64))))))), .slot 1 (.cell (.bool))],
 [],
 [],
 []⟩
def JR : FAnn := ⟨92, 0, [.slot 0 (.cell (.im (.pair (.pair (.pair (.bool) (.sl (.int .i64))) (.pair (.bool) (.sl (.int .i64)))) (.pair (.pair (.bool) (.sl (.int .i64))) (.pair (.bool) (.sl (.int .i64))))))), .slot 1 (.cell (.bool)), .slot 2 (.agg [.bool, .im (.int .i64), .bool, .im (.int .i64)])], [.slot 0 (.cell (.im (.pair (.pair (.pair (.bool) (.sl (.int .i64))) (.pair (.bool) (.sl (.int .i64)))) (.pair (.pair (.bool) (.sl (.int .i64))) (.pair (.bool) (.sl (.int .i64))))))), .slot 1 (.cell (.bool))],
 [],
 [],
 []⟩
def Iy : FAnn := ⟨93, 0, [.slot 0 (.cell (.im (.pair (.pair (.pair (.bool) (.sl (.int .i64))) (.pair (.bool) (.sl (.int .i64)))) (.pair (.pair (.bool) (.sl (.int .i64))) (.pair (.bool) (.sl (.int .i64))))))), .slot 1 (.cell (.bool)), .slot 2 (.agg [.bool, .im (.int .i64), .bool, .im (.int .i64)])], [.blk (.arr 105 false (.pair (.pair (.pair (.bool) (.sl (.int .i64))) (.pair (.bool) (.sl (.int .i64)))) (.pair (.pair (.bool) (.sl (.int .i64))) (.pair (.bool) (.sl (.int .i64)))))), .slot 0 (.ref 0 false), .slot 1 (.cell (.bool))],
 [],
 [],
 []⟩
def It : FAnn := ⟨94, 0, [.slot 0 (.cell (.im (.pair (.pair (.pair (.bool) (.sl (.int .i64))) (.pair (.bool) (.sl (.int .i64)))) (.pair (.pair (.bool) (.sl (.int .i64))) (.pair (.bool) (.sl (.int .i64))))))), .slot 1 (.cell (.bool)), .slot 2 (.agg [.bool, .im (.int .i64), .bool, .im (.int .i64)])], [.slot 0 (.cell (.im (.pair (.pair (.pair (.bool) (.sl (.int .i64))) (.pair (.bool) (.sl (.int .i64)))) (.pair (.pair (.bool) (.sl (.int .i64))) (.pair (.bool) (.sl (.int .i64))))))), .slot 1 (.cell (.bool))],
 [],
 [],
 []⟩
def Ig : FAnn := ⟨271, 0, [.slot 0 (.agg [.bool, .im (.int .i64), .bool, .im (.int .i64)])], [.slot 0 (.agg [.bool, .im (.int .i64), .bool, .im (.int .i64)])],
 [],
 [],
 []⟩
def IC : FAnn := ⟨209, 0, [.slot 0 (.cell (.im (.pair (.pair (.pair (.bool) (.sl (.int .i64))) (.pair (.bool) (.sl (.int .i64)))) (.pair (.pair (.bool) (.sl (.int .i64))) (.pair (.bool) (.sl (.int .i64)))))))], [.slot 0 (.agg [.bool, .im (.int .i64), .bool, .im (.int .i64)])],
 [(3, [.blk (.box 27 [.bool, .im (.int .i64), .bool, .im (.int .i64)]), .blk (.box 27 [.bool, .im (.int .i64), .bool, .im (.int .i64)]), .slot 0 (.cell (.im (.pair (.pair (.pair (.bool) (.sl (.int .i64))) (.pair (.bool) (.sl (.int .i64)))) (.pair (.pair (.bool) (.sl (.int .i64))) (.pair (.bool) (.sl (.int .i64))))))), .slot 2 (.ref 0 true), .slot 3 (.ref 1 true), .slot 8 (.cell (.im (.pair (.pair (.pair (.bool) (.sl (.int .i64))) (.pair (.bool) (.sl (.int .i64)))) (.pair (.pair (.bool) (.sl (.int .i64))) (.pair (.bool) (.sl (.int .i64))))))), .slot 9 (.cell (.int .i64)), .slot 10 (.cell (.int .i64))])],
 [(3, [(.exit 0, [.blk (.box 27 [.bool, .im (.int .i64), .bool, .im (.int .i64)]), .blk (.box 27 [.bool, .im (.int .i64), .bool, .im (.int .i64)]), .slot 2 (.ref 0 true), .slot 3 (.ref 1 true)])])],
 []⟩
def GD : FAnn := ⟨127, 0, [.slot 0 (.agg [.bool, .im (.int .i64), .bool, .im (.int .i64)])], [.slot 0 (.agg [.bool, .im (.int .i64), .bool, .im (.int .i64)]), .slot 1 (.cell (.bool))],
 [],
 [],
 []⟩
def IE : FAnn := ⟨95, 0, [.slot 0 (.cell (.im (.pair (.pair (.pair (.bool) (.sl (.int .i64))) (.pair (.bool) (.sl (.int .i64)))) (.pair (.pair (.bool) (.sl (.int .i64))) (.pair (.bool) (.sl (.int .i64)))))))], [.slot 0 (.agg [.bool, .im (.int .i64), .bool, .im (.int .i64)]), .slot 1 (.cell (.bool))],
 [],
 [],
 []⟩
def J0 : FAnn := ⟨210, 0, [.slot 0 (.cell (.im (.pair (.pair (.pair (.bool) (.sl (.int .i64))) (.pair (.bool) (.sl (.int .i64)))) (.pair (.pair (.bool) (.sl (.int .i64))) (.pair (.bool) (.sl (.int .i64)))))))], [.slot 0 (.agg [.bool, .im (.int .i64), .bool, .im (.int .i64)])],
 [(3, [.blk (.box 27 [.bool, .im (.int .i64), .bool, .im (.int .i64)]), .blk (.box 27 [.bool, .im (.int .i64), .bool, .im (.int .i64)]), .slot 0 (.cell (.im (.pair (.pair (.pair (.bool) (.sl (.int .i64))) (.pair (.bool) (.sl (.int .i64)))) (.pair (.pair (.bool) (.sl (.int .i64))) (.pair (.bool) (.sl (.int .i64))))))), .slot 2 (.ref 0 true), .slot 3 (.ref 1 true), .slot 8 (.cell (.im (.pair (.pair (.pair (.bool) (.sl (.int .i64))) (.pair (.bool) (.sl (.int .i64)))) (.pair (.pair (.bool) (.sl (.int .i64))) (.pair (.bool) (.sl (.int .i64))))))), .slot 9 (.cell (.int .i64)), .slot 10 (.cell (.int .i64))])],
 [(3, [(.exit 0, [.blk (.box 27 [.bool, .im (.int .i64), .bool, .im (.int .i64)]), .blk (.box 27 [.bool, .im (.int .i64), .bool, .im (.int .i64)]), .slot 2 (.ref 0 true), .slot 3 (.ref 1 true)])])],
 []⟩
def IB : FAnn := ⟨96, 0, [.slot 0 (.cell (.im (.pair (.pair (.pair (.bool) (.sl (.int .i64))) (.pair (.bool) (.sl (.int .i64)))) (.pair (.pair (.bool) (.sl (.int .i64))) (.pair (.bool) (.sl (.int .i64)))))))], [.slot 0 (.agg [.bool, .im (.int .i64), .bool, .im (.int .i64)]), .slot 1 (.cell (.bool))],
 [],
 [],
 []⟩
def Ia : FAnn := ⟨122, 0, [.slot 0 (.cell (.im (.int .i64))), .slot 1 (.cell (.im (.int .i64)))], [.slot 0 (.cell (.bool))],
 [(4, [.slot 0 (.cell (.im (.int .i64))), .slot 1 (.cell (.im (.int .i64))), .slot 12 (.cell (.int .i64)), .slot 13 (.cell (.int .i64))])],
 [(4, [(.exit 0, []), (.ret, [.slot 4 (.cell (.bool))])])],
 []⟩
def Jd : FAnn := ⟨14, 0, [.slot 0 (.agg [.bool, .im (.int .i64)]), .slot 1 (.agg [.bool, .im (.int .i64)])], [.slot 0 (.cell (.bool))],
 [],
 [],
 []⟩
def Kg : FAnn := ⟨16, 0, [.slot 0 (.agg [.bool, .im (.int .i64), .bool, .im (.int .i64)]), .slot 1 (.agg [.bool, .im (.int .i64), .bool, .im (.int .i64)])], [.slot 0 (.cell (.bool))],
 [],
 [],
 []⟩
def Hf : FAnn := ⟨97, 0, [.slot 0 (.cell (.im (.pair (.pair (.pair (.bool) (.sl (.int .i64))) (.pair (.bool) (.sl (.int .i64)))) (.pair (.pair (.bool) (.sl (.int .i64))) (.pair (.bool) (.sl (.int .i64))))))), .slot 1 (.cell (.im (.pair (.pair (.pair (.bool) (.sl (.int .i64))) (.pair (.bool) (.sl (.int .i64)))) (.pair (.pair (.bool) (.sl (.int .i64))) (.pair (.bool) (.sl (.int .i64)))))))], [.slot 0 (.cell (.bool))],
 [(4, [.slot 0 (.cell (.im (.pair (.pair (.pair (.bool) (.sl (.int .i64))) (.pair (.bool) (.sl (.int .i64)))) (.pair (.pair (.bool) (.sl (.int .i64))) (.pair (.bool) (.sl (.int .i64))))))), .slot 1 (.cell (.im (.pair (.pair (.pair (.bool) (.sl (.int .i64))) (.pair (.bool) (.sl (.int .i64)))) (.pair (.pair (.bool) (.sl (.int .i64))) (.pair (.bool) (.sl (.int .i64))))))), .slot 12 (.cell (.int .i64)), .slot 13 (.cell (.int .i64))])],
 [(4, [(.exit 0, []), (.ret, [.slot 4 (.cell (.bool))])])],
 []⟩
def GS : FAnn := ⟨20, 0, [.slot 0 (.agg [.bool, .im (.int .i64), .bool, .im (.int .i64)]), .slot 1 (.agg [.bool, .im (.int .i64), .bool, .im (.int .i64)])], [.slot 0 (.cell (.int .i64)), .slot 1 (.cell (.bool))],
 [],
 [],
 []⟩
def LE : FAnn := ⟨42, 0, [.slot 0 (.agg [.bool, .im (.int .i64), .bool, .im (.int .i64)]), .slot 1 (.agg [.bool, .im (.int .i64), .bool, .im (.int .i64)])], [.slot 0 (.agg [.bool, .im (.int .i64), .bool, .im (.int .i64)]), .slot 1 (.cell (.bool))],
 [],
 [],
 []⟩
def EQ : FAnn := ⟨215, 0, [.slot 0 (.cell (.im (.int .u8)))], [.blk (.arr 105 false (.pair (.pair (.pair (.bool) (.sl (.int .i64))) (.pair (.bool) (.sl (.int .i64)))) (.pair (.pair (.bool) (.sl (.int .i64))) (.pair (.bool) (.sl (.int .i64)))))), .slot 0 (.ref 0 false)],
 [],
 [],
 []⟩
def Fc : FAnn := ⟨100, 0, [.slot 0 (.cell (.im (.int .u8)))], [.blk (.arr 105 false (.pair (.pair (.pair (.bool) (.sl (.int .i64))) (.pair (.bool) (.sl (.int .i64)))) (.pair (.pair (.bool) (.sl (.int .i64))) (.pair (.bool) (.sl (.int .i64)))))), .slot 0 (.ref 0 false)],
 [],
 [],
 []⟩
def Bs : FAnn := ⟨217, 1, [.blk (.arr 105 false (.pair (.pair (.pair (.bool) (.sl (.int .i64))) (.pair (.bool) (.sl (.int .i64)))) (.pair (.pair (.bool) (.sl (.int .i64))) (.pair (.bool) (.sl (.int .i64)))))), .slot 0 (.sub 0)], [.blk (.arr 105 false (.pair (.pair (.pair (.bool) (.sl (.int .i64))) (.pair (.bool) (.sl (.int .i64)))) (.pair (.pair (.bool) (.sl (.int .i64))) (.pair (.bool) (.sl (.int .i64))))))],
 [(1, [.blk (.arr 105 false (.pair (.pair (.pair (.bool) (.sl (.int .i64))) (.pair (.bool) (.sl (.int .i64)))) (.pair (.pair (.bool) (.sl (.int .i64))) (.pair (.bool) (.sl (.int .i64)))))), .slot 0 (.sub 0), .slot 2 (.cell (.int .i64)), .slot 3 (.cell (.int .i64))])],
 [(1, [(.exit 0, [.blk (.arr 105 false (.pair (.pair (.pair (.bool) (.sl (.int .i64))) (.pair (.bool) (.sl (.int .i64)))) (.pair (.pair (.bool) (.sl (.int .i64))) (.pair (.bool) (.sl (.int .i64))))))])])],
 []⟩
def Ik : FAnn := ⟨101, 0, [.slot 0 (.cell (.im (.pair (.pair (.pair (.bool) (.sl (.int .i64))) (.pair (.bool) (.sl (.int .i64)))) (.pair (.pair (.bool) (.sl (.int .i64))) (.pair (.bool) (.sl (.int .i64)))))))], [.blk (.arr 105 false (.pair (.pair (.pair (.bool) (.sl (.int .i64))) (.pair (.bool) (.sl (.int .i64)))) (.pair (.pair (.bool) (.sl (.int .i64))) (.pair (.bool) (.sl (.int .i64)))))), .slot 0 (.ref 0 false), .slot 1 (.cell (.bool))],
 [],
 [],
 []⟩
def Ih : FAnn := ⟨102, 0, [.slot 0 (.cell (.im (.pair (.pair (.pair (.bool) (.sl (.int .i64))) (.pair (.bool) (.sl (.int .i64)))) (.pair (.pair (.bool) (.sl (.int .i64))) (.pair (.bool) (.sl (.int .i64)))))))], [.slot 0 (.cell (.im (.pair (.pair (.pair (.bool) (.sl (.int .i64))) (.pair (.bool) (.sl (.int .i64)))) (.pair (.pair (.bool) (.sl (.int .i64))) (.pair (.bool) (.sl (.int .i64))))))), .slot 1 (.cell (.bool))],
 [(5, [.blk (.arr 105 false (.pair (.pair (.pair (.bool) (.sl (.int .i64))) (.pair (.bool) (.sl (.int .i64)))) (.pair (.pair (.bool) (.sl (.int .i64))) (.pair (.bool) (.sl (.int .i64)))))), .slot 0 (.cell (.im (.pair (.pair (.pair (.bool) (.sl (.int .i64))) (.pair (.bool) (.sl (.int .i64)))) (.pair (.pair (.bool) (.sl (.int .i64))) (.pair (.bool) (.sl (.int .i64))))))), .slot 4 (.ref 0 false), .slot 5 (.cell (.int .i64))])],
 [(5, [(.exit 0, [.blk (.arr 105 false (.pair (.pair (.pair (.bool) (.sl (.int .i64))) (.pair (.bool) (.sl (.int .i64)))) (.pair (.pair (.bool) (.sl (.int .i64))) (.pair (.bool) (.sl (.int .i64)))))), .slot 4 (.ref 0 false)])])],
 []⟩
def JP : FAnn := ⟨57, 0, [.slot 0 (.agg [.bool, .im (.int .i64)])], [.slot 0 (.cell (.bool))],
 [],
 [],
 []⟩
def J2 : FAnn := ⟨103, 0, [.slot 0 (.agg [.bool, .im (.int .i64), .bool, .im (.int .i64)])], [.slot 0 (.cell (.bool))],
 [],
 [],
 []⟩
def Jo : FAnn := ⟨8, 0, [.slot 0 (.cell (.im (.int .u8))), .slot 1 (.cell (.im (.int .u8)))], [.slot 0 (.cell (.bool))],
 [(17, [.blk (.box 27 [.bool, .im (.int .i64), .bool, .im (.int .i64)]), .blk (.arr 105 false (.pair (.pair (.pair (.bool) (.sl (.int .i64))) (.pair (.bool) (.sl (.int .i64)))) (.pair (.pair (.bool) (.sl (.int .i64))) (.pair (.bool) (.sl (.int .i64)))))), .blk (.box 27 [.bool, .im (.int .i64), .bool, .im (.int .i64)]), .slot 1 (.cell (.im (.int .u8))), .slot 6 (.cell (.bool)), .slot 7 (.ref 0 true), .slot 8 (.cell (.im (.pair (.pair (.pair (.bool) (.sl (.int .i64))) (.pair (.bool) (.sl (.int .i64)))) (.pair (.pair (.bool) (.sl (.int .i64))) (.pair (.bool) (.sl (.int .i64))))))), .slot 9 (.cell (.bool)), .slot 12 (.ref 1 false), .slot 13 (.cell (.bool)), .slot 16 (.ref 2 true), .slot 17 (.cell (.bool)), .slot 152 (.cell (.im (.pair (.pair (.pair (.bool) (.sl (.int .i64))) (.pair (.bool) (.sl (.int .i64)))) (.pair (.pair (.bool) (.sl (.int .i64))) (.pair (.bool) (.sl (.int .i64))))))), .slot 153 (.cell (.int .i64)), .slot 154 (.cell (.int .i64))])],
 [(17, [(.exit 0, [.blk (.arr 105 false (.pair (.pair (.pair (.bool) (.sl (.int .i64))) (.pair (.bool) (.sl (.int .i64)))) (.pair (.pair (.bool) (.sl (.int .i64))) (.pair (.bool) (.sl (.int .i64)))))), .blk (.box 27 [.bool, .im (.int .i64), .bool, .im (.int .i64)]), .slot 1 (.cell (.im (.int .u8))), .slot 8 (.cell (.im (.pair (.pair (.pair (.bool) (.sl (.int .i64))) (.pair (.bool) (.sl (.int .i64)))) (.pair (.pair (.bool) (.sl (.int .i64))) (.pair (.bool) (.sl (.int .i64))))))), .slot 9 (.cell (.bool)), .slot 12 (.ref 0 false), .slot 13 (.cell (.bool)), .slot 16 (.ref 1 true), .slot 17 (.cell (.bool))]), (.ret, [.slot 4 (.cell (.bool))])])],
 [(16, [.blk (.box 27 [.bool, .im (.int .i64), .bool, .im (.int .i64)]), .blk (.arr 105 false (.pair (.pair (.pair (.bool) (.sl (.int .i64))) (.pair (.bool) (.sl (.int .i64)))) (.pair (.pair (.bool) (.sl (.int .i64))) (.pair (.bool) (.sl (.int .i64)))))), .blk (.box 27 [.bool, .im (.int .i64), .bool, .im (.int .i64)]), .slot 1 (.cell (.im (.int .u8))), .slot 6 (.cell (.bool)), .slot 7 (.ref 0 true), .slot 8 (.cell (.im (.pair (.pair (.pair (.bool) (.sl (.int .i64))) (.pair (.bool) (.sl (.int .i64)))) (.pair (.pair (.bool) (.sl (.int .i64))) (.pair (.bool) (.sl (.int .i64))))))), .slot 9 (.cell (.bool)), .slot 12 (.ref 1 false), .slot 13 (.cell (.bool)), .slot 16 (.ref 2 true), .slot 17 (.cell (.bool))]), (22, [.blk (.box 27 [.bool, .im (.int .i64), .bool, .im (.int .i64)]), .blk (.arr 105 false (.pair (.pair (.pair (.bool) (.sl (.int .i64))) (.pair (.bool) (.sl (.int .i64)))) (.pair (.pair (.bool) (.sl (.int .i64))) (.pair (.bool) (.sl (.int .i64)))))), .blk (.box 27 [.bool, .im (.int .i64), .bool, .im (.int .i64)]), .blk (.box 27 [.bool, .im (.int .i64), .bool, .im (.int .i64)]), .slot 1 (.cell (.im (.int .u8))), .slot 6 (.cell (.bool)), .slot 7 (.ref 0 true), .slot 8 (.cell (.im (.pair (.pair (.pair (.bool) (.sl (.int .i64))) (.pair (.bool) (.sl (.int .i64)))) (.pair (.pair (.bool) (.sl (.int .i64))) (.pair (.bool) (.sl (.int .i64))))))), .slot 9 (.cell (.bool)), .slot 12 (.ref 1 false), .slot 13 (.cell (.bool)), .slot 16 (.ref 2 true), .slot 17 (.cell (.bool)), .slot 24 (.ref 3 true), .slot 152 (.cell (.im (.pair (.pair (.pair (.bool) (.sl (.int .i64))) (.pair (.bool) (.sl (.int .i64)))) (.pair (.pair (.bool) (.sl (.int .i64))) (.pair (.bool) (.sl (.int .i64))))))), .slot 153 (.cell (.int .i64)), .slot 154 (.cell (.int .i64))]), (26, [.blk (.arr 105 false (.pair (.pair (.pair (.bool) (.sl (.int .i64))) (.pair (.bool) (.sl (.int .i64)))) (.pair (.pair (.bool) (.sl (.int .i64))) (.pair (.bool) (.sl (.int .i64)))))), .blk (.box 27 [.bool, .im (.int .i64), .bool, .im (.int .i64)]), .slot 1 (.cell (.im (.int .u8))), .slot 8 (.cell (.im (.pair (.pair (.pair (.bool) (.sl (.int .i64))) (.pair (.bool) (.sl (.int .i64)))) (.pair (.pair (.bool) (.sl (.int .i64))) (.pair (.bool) (.sl (.int .i64))))))), .slot 9 (.cell (.bool)), .slot 12 (.ref 0 false), .slot 13 (.cell (.bool)), .slot 16 (.ref 1 true), .slot 17 (.cell (.bool))]), (32, [.slot 1 (.cell (.im (.int .u8)))])]⟩
def annTab : List FAnn := [GR, Gj, Hi, FQ, H7, Hm, S9, LV, OS, Oq, NO, LI, Ox, Oc, OE, LN, Hl, Kc, N1, Jc, Tn, JX, LG, L6, LY, L9, Gn, Ow, Ok, OW, L7, NQ, Hq, Hd, Gq, FL, FJ, Lx, Hn, BA, Bk, Jy, H4, Bh, A4, Lq, Io, FE, Ez, ES, Wd, H3, A9, Oy, Om, J5, IA, Ke, Gs, JS, Kq, FO, OK, GV, Bi, A3, Ip, Ju, DW, Gm, H8, LK, JJ, Kv, Ib, ID, JH, J7, N9, Kh, JZ, Kp, OQ, JO, WN, QY, LO, L5, JK, FH, Jf, I1, Kr, H6, H9, JE, Iv, Gr, Ov, Iu, NP, J6, Ot, Gb, GO, OU, Od, N4, OO, Oi, JN, LS, L2, JY, LR, JD, LH, Kl, JR, Iy, It, Ig, IC, GD, IE, J0, IB, Ia, Jd, Kg, Hf, GS, LE, EQ, Fc, Bs, Ik, Ih, JP, J2, Jo]
def noExt : Rel := fun _ _ _ _ _ => False
def cfC : Cfg := cfOf [A9] fun _ => false
def cloneTab : List (FuncId × TypeId × Nat × Bool) := [(277, 3, Ty.size (.int .i64), true)]
theorem He : CloneOK Tryz.prog (277, 3, Ty.size (.int .i64), true) := ⟨Tryz.f277, 23, 4, tyD23, tyD3, Tryz.func277, by kernel_rfl, by kernel_rfl, rfl, ty23, rfl, ty3, by kernel_rfl, rfl, rfl⟩
theorem An9 : ∀ x ∈ cloneTab, CloneOK Tryz.prog x := by
 intro x hx
 simp only [cloneTab, List.mem_cons, List.not_mem_nil, or_false] at hx
 rcases hx with rfl
 exact He
def ext0 : Rel := cloneRel (Runs Tryz.prog cfC noExt) cloneTab
theorem Ax6 {J : Tabs} : ∀ g args blks r blks', ext0 g args blks r blks' → CSpec Tryz.prog J g args blks r blks' := TS (by kernel_rfl) An9
def cf0 : Cfg := cfOf annTab fun g => ([277] : List Nat).contains g
abbrev RR : Rel := Runs Tryz.prog cf0 ext0
noncomputable def Ch (a0 : ((List Int) × (Int × Int))) : Option ((List (Int) × Int × Int) × Int) :=
 (bif decide (a0.2.1 < (((List.length a0.1) : Nat) : Int)) then
   ((getI a0.1 a0.2.1)).bind fun x0 =>
   some (Sum.inr ((a0.1, (a0.2.1, a0.2.2)), (Go.IntKind.wrap Go.IntKind.i64 x0)))
  else
  some (Sum.inr ((a0.1, (a0.2.1, a0.2.2)), (0 : Int)))).bind fun x1 =>
 Sum.elim
  (fun x2 =>
  some x2)
  (fun x3 =>
  bif decide ((Go.IntKind.wrap Go.IntKind.i64 (x3.1.2.1 + (1 : Int))) ≤ (((List.length x3.1.1) : Nat) : Int)) then
   some ((x3.1.1, ((Go.IntKind.wrap Go.IntKind.i64 (x3.1.2.1 + (1 : Int))), (Go.IntKind.wrap Go.IntKind.u64 ((Go.IntKind.wrap Go.IntKind.u64 ((Go.IntKind.wrap Go.IntKind.u64 (x3.1.2.2 * (6364136223846793005 : Int))) + (Go.IntKind.wrap Go.IntKind.u64 x3.2))) + (1442695040888963407 : Int))))), x3.2)
  else
  some ((x3.1.1, ((Go.IntKind.wrap Go.IntKind.i64 (x3.1.2.1 + (1 : Int))), (Go.IntKind.wrap Go.IntKind.u64 ((Go.IntKind.wrap Go.IntKind.u64 ((Go.IntKind.wrap Go.IntKind.u64 (x3.1.2.2 * (6364136223846793005 : Int))) + (Go.IntKind.wrap Go.IntKind.u64 x3.2))) + (1442695040888963407 : Int))))), (Go.IntKind.wrap Go.IntKind.i64 (andI Go.IntKind.u64 (shrI Go.IntKind.u64 (Go.IntKind.wrap Go.IntKind.u64 ((Go.IntKind.wrap Go.IntKind.u64 ((Go.IntKind.wrap Go.IntKind.u64 (x3.1.2.2 * (6364136223846793005 : Int))) + (Go.IntKind.wrap Go.IntKind.u64 x3.2))) + (1442695040888963407 : Int))) (40 : Int)) (255 : Int)))))
  x1
noncomputable def JG : Ent := ⟨GR, fun x => Ch x⟩
noncomputable def Kf : TX := ⟨tyTab, codTab, [], [4], [], GR⟩
set_option maxHeartbeats 2000000 in
theorem RZ (a0 : (List (Int) × Int × Int)) : wtF Kf Tryz.f240 (a0) = Ch a0 := by kernel_rfl
theorem Qq : EntOK RR JG := Ab (X := Kf) ⟨tyOK, boolOK, eqOK⟩ (Ad (by exact trivial)) (Ae (by kernel_rfl)) ⟨Tryz.func240, rfl, by kernel_rfl, rfl⟩ (fun x => by exact RZ x)
noncomputable def Af (a0 : ((List Int) × (Int × Int))) (a1 : Int) : Option ((List (Int) × Int × Int) × Int) :=
 bif decide (a1 ≤ (1 : Int)) then
  some ((a0.1, (a0.2.1, a0.2.2)), (0 : Int))
 else
 ((Ch (a0.1, (a0.2.1, a0.2.2)))).bind fun x0 =>
 bif decide (a1 > (200 : Int)) then
  ((Ch (x0.1.1, (x0.1.2.1, x0.1.2.2)))).bind fun x1 =>
  bif (a1 == (0 : Int)) then
   none
  else
  some ((x1.1.1, (x1.1.2.1, x1.1.2.2)), (Int.tmod (Go.IntKind.wrap Go.IntKind.i64 ((Go.IntKind.wrap Go.IntKind.i64 (x0.2 * (256 : Int))) + x1.2)) a1))
 else
 bif (a1 == (0 : Int)) then
  none
 else
 some ((x0.1.1, (x0.1.2.1, x0.1.2.2)), (Int.tmod x0.2 a1))
noncomputable def AY : Ent := ⟨Gj, fun x => Af x.1 x.2⟩
noncomputable def J1 : TX := ⟨tyTab, codTab, [], [4], [JG], Gj⟩
set_option maxHeartbeats 2000000 in
theorem Ts (a0 : (List (Int) × Int × Int)) (a1 : Int) : wtF J1 Tryz.f141 (a0, a1) = Af a0 a1 := by kernel_rfl
theorem A2 : EntOK RR AY := Ab (X := J1) ⟨tyOK, boolOK, eqOK⟩ (Ad (by exact ⟨⟨Qq, rfl⟩, trivial⟩)) (Ae (by kernel_rfl)) ⟨Tryz.func141, rfl, by kernel_rfl, rfl⟩ (fun x => by exact Ts x.1 x.2)
noncomputable def Au (a0 : ((List Int) × (Int × Int))) (a1 : Int) : Option ((List (Int) × Int × Int) × Bool) :=
 ((Af (a0.1, (a0.2.1, a0.2.2)) a1)).bind fun x0 =>
 some ((x0.1.1, (x0.1.2.1, x0.1.2.2)), (x0.2 == (0 : Int)))
noncomputable def BH : Ent := ⟨Hi, fun x => Au x.1 x.2⟩
noncomputable def K9 : TX := ⟨tyTab, codTab, [], [4], [AY], Hi⟩
set_option maxHeartbeats 2000000 in
theorem Tw (a0 : (List (Int) × Int × Int)) (a1 : Int) : wtF K9 Tryz.f142 (a0, a1) = Au a0 a1 := by kernel_rfl
theorem BP : EntOK RR BH := Ab (X := K9) ⟨tyOK, boolOK, eqOK⟩ (Ad (by exact ⟨⟨A2, rfl⟩, trivial⟩)) (Ae (by kernel_rfl)) ⟨Tryz.func142, rfl, by kernel_rfl, rfl⟩ (fun x => by exact Tw x.1 x.2)
noncomputable def A0 (a0 : ((List Int) × (Int × Int))) (a1 : (List Int)) : Option ((List (Int) × Int × Int) × Int) :=
 ((Af (a0.1, (a0.2.1, a0.2.2)) (((List.length a1) : Nat) : Int))).bind fun x0 =>
 ((getI a1 x0.2)).bind fun x1 =>
 some ((x0.1.1, (x0.1.2.1, x0.1.2.2)), x1)
noncomputable def FP : Ent := ⟨FQ, fun x => A0 x.1 x.2⟩
noncomputable def IW : TX := ⟨tyTab, codTab, [], [4], [AY], FQ⟩
set_option maxHeartbeats 2000000 in
theorem Qp (a0 : (List (Int) × Int × Int)) (a1 : List (Int)) : wtF IW Tryz.f157 (a0, a1) = A0 a0 a1 := by kernel_rfl
theorem HA : EntOK RR FP := Ab (X := IW) ⟨tyOK, boolOK, eqOK⟩ (Ad (by exact ⟨⟨A2, rfl⟩, trivial⟩)) (Ae (by kernel_rfl)) ⟨Tryz.func157, rfl, by kernel_rfl, rfl⟩ (fun x => by exact Qp x.1 x.2)
noncomputable def Dc (a0 : ((List Int) × (Int × Int))) : Option ((List (Int) × Int × Int) × (Int × Int)) :=
 ((Au (a0.1, (a0.2.1, a0.2.2)) (40 : Int))).bind fun x0 =>
 bif x0.2 then
  ((A0 (x0.1.1, (x0.1.2.1, x0.1.2.2)) (List.cons (-(1000 : Int)) (List.cons (1000 : Int) (List.cons (1001 : Int) (List.nil : List Int)))))).bind fun x1 =>
  ((Af (x1.1.1, (x1.1.2.1, x1.1.2.2)) (5 : Int))).bind fun x2 =>
  some ((x2.1.1, (x2.1.2.1, x2.1.2.2)), (x1.2, x2.2))
 else
 ((Af (x0.1.1, (x0.1.2.1, x0.1.2.2)) (9 : Int))).bind fun x3 =>
 ((Af (x3.1.1, (x3.1.2.1, x3.1.2.2)) (9 : Int))).bind fun x4 =>
 some ((x4.1.1, (x4.1.2.1, x4.1.2.2)), ((Go.IntKind.wrap Go.IntKind.i64 (x3.2 - (2 : Int))), (Go.IntKind.wrap Go.IntKind.i64 (x4.2 - (2 : Int)))))
noncomputable def MQ : Ent := ⟨H7, fun x => Dc x⟩
noncomputable def MK : TX := ⟨tyTab, codTab, [], [4], [BH, FP, AY], H7⟩
set_option maxHeartbeats 2000000 in
theorem WD (a0 : (List (Int) × Int × Int)) : wtF MK Tryz.f293 (a0) = Dc a0 := by kernel_rfl
theorem TF : EntOK RR MQ := Ab (X := MK) ⟨tyOK, boolOK, eqOK⟩ (Ad (by exact ⟨⟨BP, rfl⟩, ⟨⟨HA, rfl⟩, ⟨⟨A2, rfl⟩, trivial⟩⟩⟩)) (Ae (by kernel_rfl)) ⟨Tryz.func293, rfl, by kernel_rfl, rfl⟩ (fun x => by exact WD x)
noncomputable def DK (s0 : ((List Int) × (Int × Int))) (s1 : (List (Int × Int))) (s2 : Int) : Option ((((List Int) × (Int × Int)) × ((List (Int × Int)) × Int)) ⊕ (((List Int) × (Int × Int)) × (List (Int × Int)))) :=
 bif decide (s2 > (0 : Int)) then
  ((Dc (s0.1, (s0.2.1, s0.2.2)))).bind fun x0 =>
  ((appL 16 2 s1 (List.cons (x0.2.1, x0.2.2) (List.nil : List (Int × Int))))).bind fun x1 =>
  some (Sum.inl ((x0.1.1, (x0.1.2.1, x0.1.2.2)), (x1, (Go.IntKind.wrap Go.IntKind.i64 (s2 - (1 : Int))))))
 else
 some (Sum.inr ((s0.1, (s0.2.1, s0.2.2)), s1))
noncomputable def FM (s0 : ((List Int) × (Int × Int))) (s1 : (List (Int × Int))) : Option ((((List Int) × (Int × Int)) × (List (Int × Int))) ⊕ (((List Int) × (Int × Int)) × (List (Int × Int)))) :=
 ((Af (s0.1, (s0.2.1, s0.2.2)) (2 : Int))).bind fun x0 =>
 bif decide ((((List.length s1) : Nat) : Int) < (Go.IntKind.wrap Go.IntKind.i64 ((12 : Int) + x0.2))) then
  ((Dc (x0.1.1, (x0.1.2.1, x0.1.2.2)))).bind fun x1 =>
  ((appL 16 2 s1 (List.cons (x1.2.1, x1.2.2) (List.nil : List (Int × Int))))).bind fun x2 =>
  some (Sum.inl ((x1.1.1, (x1.1.2.1, x1.1.2.2)), x2))
 else
 some (Sum.inr ((x0.1.1, (x0.1.2.1, x0.1.2.2)), s1))
noncomputable def DD (a0 : ((List Int) × (Int × Int))) : Option ((List (Int) × Int × Int) × List ((Int × Int))) :=
 ((Af (a0.1, (a0.2.1, a0.2.2)) (4 : Int))).bind fun x0 =>
 bif (x0.2 == (0 : Int)) then
  ((Af (x0.1.1, (x0.1.2.1, x0.1.2.2)) (6 : Int))).bind fun x1 =>
  ((Af (x1.1.1, (x1.1.2.1, x1.1.2.2)) (2 : Int))).bind fun x2 =>
  ((Af (x2.1.1, (x2.1.2.1, x2.1.2.2)) (3 : Int))).bind fun x3 =>
  ((Af (x3.1.1, (x3.1.2.1, x3.1.2.2)) (5 : Int))).bind fun x4 =>
  ((Af (x4.1.1, (x4.1.2.1, x4.1.2.2)) (2 : Int))).bind fun x5 =>
  ((Af (x5.1.1, (x5.1.2.1, x5.1.2.2)) (5 : Int))).bind fun x6 =>
  some ((x6.1.1, (x6.1.2.1, x6.1.2.2)), (List.cons ((0 : Int), (0 : Int)) (List.cons ((Go.IntKind.wrap Go.IntKind.i64 ((2 : Int) + x1.2)), x2.2) (List.cons ((Go.IntKind.wrap Go.IntKind.i64 ((3 : Int) + x3.2)), (Go.IntKind.wrap Go.IntKind.i64 ((3 : Int) + x4.2))) (List.cons (x5.2, (Go.IntKind.wrap Go.IntKind.i64 ((2 : Int) + x6.2))) (List.nil : List (Int × Int)))))))
 else
 bif (x0.2 == (1 : Int)) then
  ((Af (x0.1.1, (x0.1.2.1, x0.1.2.2)) (4 : Int))).bind fun x7 =>
  ((Af (x7.1.1, (x7.1.2.1, x7.1.2.2)) (4 : Int))).bind fun x8 =>
  some ((x8.1.1, (x8.1.2.1, x8.1.2.2)), (List.cons ((0 : Int), (0 : Int)) (List.cons ((6 : Int), (0 : Int)) (List.cons ((6 : Int), (6 : Int)) (List.cons ((4 : Int), (6 : Int)) (List.cons ((4 : Int), (Go.IntKind.wrap Go.IntKind.i64 ((1 : Int) + x7.2))) (List.cons ((2 : Int), (Go.IntKind.wrap Go.IntKind.i64 ((1 : Int) + x8.2))) (List.cons ((2 : Int), (6 : Int)) (List.cons ((0 : Int), (6 : Int)) (List.nil : List (Int × Int)))))))))))
 else
 ((Af (x0.1.1, (x0.1.2.1, x0.1.2.2)) (4 : Int))).bind fun x9 =>
 (loopM (fun (s : (((List Int) × (Int × Int)) × ((List (Int × Int)) × Int))) => DK s.1 s.2.1 s.2.2) ((x9.1.1, (x9.1.2.1, x9.1.2.2)), ((List.nil : List (Int × Int)), (Go.IntKind.wrap Go.IntKind.i64 ((3 : Int) + x9.2))))).bind fun x10 =>
 ((Au (x10.1.1, (x10.1.2.1, x10.1.2.2)) (20 : Int))).bind fun x11 =>
 bif x11.2 then
  (loopM (fun (s : (((List Int) × (Int × Int)) × (List (Int × Int)))) => FM s.1 s.2) ((x11.1.1, (x11.1.2.1, x11.1.2.2)), x10.2)).bind fun x12 =>
  some ((x12.1.1, (x12.1.2.1, x12.1.2.2)), x12.2)
 else
 some ((x11.1.1, (x11.1.2.1, x11.1.2.2)), x10.2)
noncomputable def La : Ent := ⟨Hm, fun x => DD x⟩
noncomputable def Ll : TX := ⟨tyTab, codTab, [], [4], [AY, MQ, BH], Hm⟩
set_option maxHeartbeats 2000000 in
theorem TD (a0 : (List (Int) × Int × Int)) : wtF Ll Tryz.f263 (a0) = DD a0 := by kernel_rfl
theorem RD : EntOK RR La := Ab (X := Ll) ⟨tyOK, boolOK, eqOK⟩ (Ad (by exact ⟨⟨A2, rfl⟩, ⟨⟨TF, rfl⟩, ⟨⟨BP, rfl⟩, trivial⟩⟩⟩)) (Ae (by kernel_rfl)) ⟨Tryz.func263, rfl, by kernel_rfl, rfl⟩ (fun x => by exact TD x)
noncomputable def Dx (a0 : Int) (a1 : Int) (a2 : Int) : Option (Bool) :=
 bif decide (a0 ≥ a1) then
  some (decide (a0 ≤ a2))
 else
 some false
noncomputable def JV : Ent := ⟨S9, fun x => Dx x.1 x.2.1 x.2.2⟩
noncomputable def Yc : TX := ⟨tyTab, codTab, [], [4], [], S9⟩
set_option maxHeartbeats 2000000 in
theorem Av8 (a0 : Int) (a1 : Int) (a2 : Int) : wtF Yc Tryz.f144 (a0, a1, a2) = Dx a0 a1 a2 := by kernel_rfl
theorem K3 : EntOK RR JV := Ab (X := Yc) ⟨tyOK, boolOK, eqOK⟩ (Ad (by exact trivial)) (Ae (by kernel_rfl)) ⟨Tryz.func144, rfl, by kernel_rfl, rfl⟩ (fun x => by exact Av8 x.1 x.2.1 x.2.2)
noncomputable def F9 (a0 : (Int × Int)) : Option (Bool) :=
 ((Dx a0.1 (-(1000 : Int)) (1000 : Int))).bind fun x0 =>
 bif x0 then
  ((Dx a0.2 (-(1000 : Int)) (1000 : Int))).bind fun x1 =>
  some x1
 else
 some false
noncomputable def SH : Ent := ⟨LV, fun x => F9 x⟩
noncomputable def Sj : TX := ⟨tyTab, codTab, [], [4], [JV], LV⟩
set_option maxHeartbeats 2000000 in
theorem Ab4 (a0 : (Int × Int)) : wtF Sj Tryz.f309 (a0) = F9 a0 := by kernel_rfl
theorem Yi : EntOK RR SH := Ab (X := Sj) ⟨tyOK, boolOK, eqOK⟩ (Ad (by exact ⟨⟨K3, rfl⟩, trivial⟩)) (Ae (by kernel_rfl)) ⟨Tryz.func309, rfl, by kernel_rfl, rfl⟩ (fun x => by exact Ab4 x)
noncomputable def Cw (s0 : (List (Int × Int))) (s1 : Int) (s2 : Int) : Option (((List (Int × Int)) × (Int × Int)) ⊕ (Unit ⊕ Bool)) :=
 bif decide (s2 < s1) then
  ((getI s0 s2)).bind fun x0 =>
  ((F9 (x0.1, x0.2))).bind fun x1 =>
  bif (!x1) then
   some (Sum.inr (Sum.inr false))
  else
  some (Sum.inl (s0, (s1, (Go.IntKind.wrap Go.IntKind.i64 (s2 + (1 : Int))))))
 else
 some (Sum.inr (Sum.inl ()))
noncomputable def HL (a0 : (List (Int × Int))) : Option (Bool) :=
 (loopM (fun (s : ((List (Int × Int)) × (Int × Int))) => Cw s.1 s.2.1 s.2.2) (a0, ((((List.length a0) : Nat) : Int), (0 : Int)))).bind fun x0 =>
 Sum.elim
  (fun x1 =>
  some true)
  (fun x2 =>
  some x2)
  x0
noncomputable def Vc : Ent := ⟨OS, fun x => HL x⟩
noncomputable def UF : TX := ⟨tyTab, codTab, [], [4], [SH], OS⟩
set_option maxHeartbeats 2000000 in
theorem Ai3 (a0 : List ((Int × Int))) : wtF UF Tryz.f307 (a0) = HL a0 := by kernel_rfl
theorem Zs : EntOK RR Vc := Ab (X := UF) ⟨tyOK, boolOK, eqOK⟩ (Ad (by exact ⟨⟨Yi, rfl⟩, trivial⟩)) (Ae (by kernel_rfl)) ⟨Tryz.func307, rfl, by kernel_rfl, rfl⟩ (fun x => by exact Ai3 x)
noncomputable def HF (a0 : (List (Int × Int))) : Option (Bool) :=
 ((Dx (((List.length a0) : Nat) : Int) (3 : Int) (12 : Int))).bind fun x0 =>
 bif x0 then
  ((HL a0)).bind fun x1 =>
  some x1
 else
 some false
noncomputable def Vm : Ent := ⟨Oq, fun x => HF x⟩
noncomputable def UG : TX := ⟨tyTab, codTab, [], [4], [JV, Vc], Oq⟩
set_option maxHeartbeats 2000000 in
theorem An0 (a0 : List ((Int × Int))) : wtF UG Tryz.f292 (a0) = HF a0 := by kernel_rfl
theorem Zj : EntOK RR Vm := Ab (X := UG) ⟨tyOK, boolOK, eqOK⟩ (Ad (by exact ⟨⟨K3, rfl⟩, ⟨⟨Zs, rfl⟩, trivial⟩⟩)) (Ae (by kernel_rfl)) ⟨Tryz.func292, rfl, by kernel_rfl, rfl⟩ (fun x => by exact An0 x)
noncomputable def G8 (s0 : (List Int)) : Option ((List Int) ⊕ (List Int)) :=
 bif decide ((((List.length s0) : Nat) : Int) > (0 : Int)) then
  ((getI s0 (Go.IntKind.wrap Go.IntKind.i64 ((((List.length s0) : Nat) : Int) - (1 : Int))))).bind fun x0 =>
  bif (x0 == (0 : Int)) then
   ((subI (0 : Int) (Go.IntKind.wrap Go.IntKind.i64 ((((List.length s0) : Nat) : Int) - (1 : Int))) (List.length s0))).bind fun x1 =>
   some (Sum.inl (List.drop x1.1 (List.take x1.2 s0)))
  else
  some (Sum.inr s0)
 else
 some (Sum.inr s0)
noncomputable def Bm (a0 : (List Int)) : Option (List (Int)) :=
 (loopM (fun (s : (List Int)) => G8 s) a0).bind fun x0 =>
 bif (roomI (List.length x0) 8 1) then
  some x0
 else
 none
noncomputable def D3 : Ent := ⟨NO, fun x => Bm x⟩
noncomputable def UT : TX := ⟨tyTab, codTab, [], [4], [], NO⟩
set_option maxHeartbeats 2000000 in
theorem An3 (a0 : List (Int)) : wtF UT Tryz.f280 (a0) = Bm a0 := by kernel_rfl
theorem DT : EntOK RR D3 := Ab (X := UT) ⟨tyOK, boolOK, eqOK⟩ (Ad (by exact trivial)) (Ae (by kernel_rfl)) ⟨Tryz.func280, rfl, by kernel_rfl, rfl⟩ (fun x => by exact An3 x)
noncomputable def AF (a0 : Bool) (a1 : (List Int)) : Option (List (Int) × (Bool)) :=
 ((Bm a1)).bind fun x0 =>
 bif a0 then
  some (x0, decide ((((List.length x0) : Nat) : Int) > (0 : Int)))
 else
 some (x0, false)
noncomputable def CD : Ent := ⟨LI, fun x => AF x.1 x.2⟩
noncomputable def Se : TX := ⟨tyTab, codTab, [], [4], [D3], LI⟩
set_option maxHeartbeats 2000000 in
theorem ZZ (a0 : Bool) (a1 : List (Int)) : wtF Se Tryz.f229 (a0, a1) = AF a0 a1 := by kernel_rfl
theorem Cs : EntOK RR CD := Ab (X := Se) ⟨tyOK, boolOK, eqOK⟩ (Ad (by exact ⟨⟨DT, rfl⟩, trivial⟩)) (Ae (by kernel_rfl)) ⟨Tryz.func229, rfl, by kernel_rfl, rfl⟩ (fun x => by exact ZZ x.1 x.2)
noncomputable def G7 (s0 : (Bool × (List Int))) (s1 : (List Int)) (s2 : Int) (s3 : Int) : Option (((Bool × (List Int)) × ((List Int) × (Int × Int))) ⊕ ((Bool × (List Int)) × ((List Int) × Int))) :=
 bif (s3 != (0 : Int)) then
  bif decide ((Int.tmod s3 (65536 : Int)) < (0 : Int)) then
   ((appL 8 1 s1 (List.cons (Go.IntKind.wrap Go.IntKind.i64 ((0 : Int) - (Int.tmod s3 (65536 : Int)))) (List.nil : List Int)))).bind fun x0 =>
   some (Sum.inl ((s0.1, s0.2), (x0, (s2, (Go.IntKind.wrap Go.IntKind.i64 (Int.tdiv s3 (65536 : Int)))))))
  else
  ((appL 8 1 s1 (List.cons (Int.tmod s3 (65536 : Int)) (List.nil : List Int)))).bind fun x1 =>
  some (Sum.inl ((s0.1, s0.2), (x1, (s2, (Go.IntKind.wrap Go.IntKind.i64 (Int.tdiv s3 (65536 : Int)))))))
 else
 some (Sum.inr ((s0.1, s0.2), (s1, s2)))
noncomputable def Dg (a0 : Int) : Option ((Bool × List (Int))) :=
 (loopM (fun (s : ((Bool × (List Int)) × ((List Int) × (Int × Int)))) => G7 s.1 s.2.1 s.2.2.1 s.2.2.2) ((false, (List.nil : List Int)), ((List.nil : List Int), (a0, a0)))).bind fun x0 =>
 ((AF (decide (x0.2.2 < (0 : Int))) x0.2.1)).bind fun x1 =>
 some (x1.2, x1.1)
noncomputable def ON : Ent := ⟨Ox, fun x => Dg x⟩
noncomputable def UP : TX := ⟨tyTab, codTab, [], [4], [CD], Ox⟩
set_option maxHeartbeats 2000000 in
theorem Am5 (a0 : Int) : wtF UP Tryz.f116 (a0) = Dg a0 := by kernel_rfl
theorem R4 : EntOK RR ON := Ab (X := UP) ⟨tyOK, boolOK, eqOK⟩ (Ad (by exact ⟨⟨Cs, rfl⟩, trivial⟩)) (Ae (by kernel_rfl)) ⟨Tryz.func116, rfl, by kernel_rfl, rfl⟩ (fun x => by exact Am5 x)
noncomputable def CP (a0 : Int) : Option ((Bool × List (Int) × Bool × List (Int))) :=
 ((Dg a0)).bind fun x0 =>
 ((Dg (1 : Int))).bind fun x1 =>
 some (x0.1, (x0.2, (x1.1, x1.2)))
noncomputable def NY : Ent := ⟨Oc, fun x => CP x⟩
noncomputable def Vq : TX := ⟨tyTab, codTab, [], [4], [ON], Oc⟩
set_option maxHeartbeats 2000000 in
theorem Am2 (a0 : Int) : wtF Vq Tryz.f119 (a0) = CP a0 := by kernel_rfl
theorem R8 : EntOK RR NY := Ab (X := Vq) ⟨tyOK, boolOK, eqOK⟩ (Ad (by exact ⟨⟨R4, rfl⟩, trivial⟩)) (Ae (by kernel_rfl)) ⟨Tryz.func119, rfl, by kernel_rfl, rfl⟩ (fun x => by exact Am2 x)
noncomputable def Ht (a0 : (Int × Int)) : Option ((Bool × List (Int) × Bool × List (Int) × Bool × List (Int) × Bool × List (Int))) :=
 ((CP a0.1)).bind fun x0 =>
 ((CP a0.2)).bind fun x1 =>
 some (x0.1, (x0.2.1, (x0.2.2.1, (x0.2.2.2, (x1.1, (x1.2.1, (x1.2.2.1, x1.2.2.2)))))))
noncomputable def Ub : Ent := ⟨OE, fun x => Ht x⟩
noncomputable def Uq : TX := ⟨tyTab, codTab, [], [4], [NY], OE⟩
set_option maxHeartbeats 2000000 in
theorem Aj5 (a0 : (Int × Int)) : wtF Uq Tryz.f257 (a0) = Ht a0 := by kernel_rfl
theorem ZV : EntOK RR Ub := Ab (X := Uq) ⟨tyOK, boolOK, eqOK⟩ (Ad (by exact ⟨⟨R8, rfl⟩, trivial⟩)) (Ae (by kernel_rfl)) ⟨Tryz.func257, rfl, by kernel_rfl, rfl⟩ (fun x => by exact Aj5 x)
noncomputable def B5 (s0 : (List (((Bool × (List Int)) × (Bool × (List Int))) × ((Bool × (List Int)) × (Bool × (List Int)))))) (s1 : (List (Int × Int))) (s2 : Int) (s3 : Int) : Option (((List (((Bool × (List Int)) × (Bool × (List Int))) × ((Bool × (List Int)) × (Bool × (List Int))))) × ((List (Int × Int)) × (Int × Int))) ⊕ (List (((Bool × (List Int)) × (Bool × (List Int))) × ((Bool × (List Int)) × (Bool × (List Int)))))) :=
 bif decide (s3 < s2) then
  ((getI s1 s3)).bind fun x0 =>
  ((Ht (x0.1, x0.2))).bind fun x1 =>
  ((appL 128 8 s0 (List.cons (((x1.1, x1.2.1), (x1.2.2.1, x1.2.2.2.1)), ((x1.2.2.2.2.1, x1.2.2.2.2.2.1), (x1.2.2.2.2.2.2.1, x1.2.2.2.2.2.2.2))) (List.nil : List (((Bool × (List Int)) × (Bool × (List Int))) × ((Bool × (List Int)) × (Bool × (List Int)))))))).bind fun x2 =>
  some (Sum.inl (x2, (s1, (s2, (Go.IntKind.wrap Go.IntKind.i64 (s3 + (1 : Int)))))))
 else
 some (Sum.inr s0)
noncomputable def GN (a0 : (List (Int × Int))) : Option (List ((((Bool × List (Int)) × (Bool × List (Int))) × ((Bool × List (Int)) × (Bool × List (Int))))) × Bool) :=
 ((HF a0)).bind fun x0 =>
 bif (!x0) then
  some ((List.nil : List (((Bool × (List Int)) × (Bool × (List Int))) × ((Bool × (List Int)) × (Bool × (List Int))))), false)
 else
 (loopM (fun (s : ((List (((Bool × (List Int)) × (Bool × (List Int))) × ((Bool × (List Int)) × (Bool × (List Int))))) × ((List (Int × Int)) × (Int × Int)))) => B5 s.1 s.2.1 s.2.2.1 s.2.2.2) ((List.nil : List (((Bool × (List Int)) × (Bool × (List Int))) × ((Bool × (List Int)) × (Bool × (List Int))))), (a0, ((((List.length a0) : Nat) : Int), (0 : Int))))).bind fun x1 =>
 some (x1, true)
noncomputable def Q4 : Ent := ⟨LN, fun x => GN x⟩
noncomputable def Rb : TX := ⟨tyTab, codTab, [], [4], [Vm, Ub], LN⟩
set_option maxHeartbeats 2000000 in
theorem Zv (a0 : List ((Int × Int))) : wtF Rb Tryz.f262 (a0) = GN a0 := by kernel_rfl
theorem Xv : EntOK RR Q4 := Ab (X := Rb) ⟨tyOK, boolOK, eqOK⟩ (Ad (by exact ⟨⟨Zj, rfl⟩, ⟨⟨ZV, rfl⟩, trivial⟩⟩)) (Ae (by kernel_rfl)) ⟨Tryz.func262, rfl, by kernel_rfl, rfl⟩ (fun x => by exact Zv x)
noncomputable def CG (s0 : ((List Int) × (Int × Int))) (s1 : (Bool × (List Int))) (s2 : (List Int)) (s3 : Int) : Option ((((List Int) × (Int × Int)) × ((Bool × (List Int)) × ((List Int) × Int))) ⊕ (((List Int) × (Int × Int)) × ((Bool × (List Int)) × (List Int)))) :=
 bif decide (s3 > (0 : Int)) then
  ((Af (s0.1, (s0.2.1, s0.2.2)) (256 : Int))).bind fun x0 =>
  ((Af (x0.1.1, (x0.1.2.1, x0.1.2.2)) (256 : Int))).bind fun x1 =>
  ((A0 (x1.1.1, (x1.1.2.1, x1.1.2.2)) (List.cons (0 : Int) (List.cons (1 : Int) (List.cons (65535 : Int) (List.cons (32768 : Int) (List.cons (Go.IntKind.wrap Go.IntKind.i64 ((Go.IntKind.wrap Go.IntKind.i64 ((256 : Int) * x0.2)) + x1.2)) (List.cons (7 : Int) (List.nil : List Int))))))))).bind fun x2 =>
  ((appL 8 1 s2 (List.cons x2.2 (List.nil : List Int)))).bind fun x3 =>
  some (Sum.inl ((x2.1.1, (x2.1.2.1, x2.1.2.2)), ((s1.1, s1.2), (x3, (Go.IntKind.wrap Go.IntKind.i64 (s3 - (1 : Int)))))))
 else
 some (Sum.inr ((s0.1, (s0.2.1, s0.2.2)), ((s1.1, s1.2), s2)))
noncomputable def CR (a0 : ((List Int) × (Int × Int))) : Option ((List (Int) × Int × Int) × (Bool × List (Int))) :=
 ((Af (a0.1, (a0.2.1, a0.2.2)) (6 : Int))).bind fun x0 =>
 (((Au (x0.1.1, (x0.1.2.1, x0.1.2.2)) (12 : Int))).bind fun x1 =>
  bif x1.2 then
   ((A0 (x1.1.1, (x1.1.2.1, x1.1.2.2)) (List.cons (20 : Int) (List.cons (39 : Int) (List.cons (40 : Int) (List.cons (41 : Int) (List.nil : List Int))))))).bind fun x2 =>
   some (Sum.inr ((x2.1.1, (x2.1.2.1, x2.1.2.2)), ((false, (List.nil : List Int)), x2.2)))
  else
  some (Sum.inr ((x1.1.1, (x1.1.2.1, x1.1.2.2)), ((false, (List.nil : List Int)), x0.2)))).bind fun x3 =>
 Sum.elim
  (fun x4 =>
  some x4)
  (fun x5 =>
  (loopM (fun (s : (((List Int) × (Int × Int)) × ((Bool × (List Int)) × ((List Int) × Int)))) => CG s.1 s.2.1 s.2.2.1 s.2.2.2) ((x5.1.1, (x5.1.2.1, x5.1.2.2)), ((x5.2.1.1, x5.2.1.2), ((List.nil : List Int), x5.2.2)))).bind fun x6 =>
  ((Au (x6.1.1, (x6.1.2.1, x6.1.2.2)) (3 : Int))).bind fun x7 =>
  ((AF x7.2 x6.2.2)).bind fun x8 =>
  ((Au (x7.1.1, (x7.1.2.1, x7.1.2.2)) (40 : Int))).bind fun x9 =>
  bif x9.2 then
   ((A0 (x9.1.1, (x9.1.2.1, x9.1.2.2)) (List.cons (0 : Int) (List.cons (-(1 : Int)) (List.cons (65536 : Int) (List.nil : List Int)))))).bind fun x10 =>
   ((appL 8 1 x8.1 (List.cons x10.2 (List.nil : List Int)))).bind fun x11 =>
   some ((x10.1.1, (x10.1.2.1, x10.1.2.2)), (x8.2, x11))
  else
  some ((x9.1.1, (x9.1.2.1, x9.1.2.2)), (x8.2, x8.1)))
  x3
noncomputable def Lo : Ent := ⟨Hl, fun x => CR x⟩
noncomputable def Lk : TX := ⟨tyTab, codTab, [], [4], [AY, BH, FP, CD], Hl⟩
set_option maxHeartbeats 2000000 in
theorem T5 (a0 : (List (Int) × Int × Int)) : wtF Lk Tryz.f246 (a0) = CR a0 := by kernel_rfl
theorem QS : EntOK RR Lo := Ab (X := Lk) ⟨tyOK, boolOK, eqOK⟩ (Ad (by exact ⟨⟨A2, rfl⟩, ⟨⟨BP, rfl⟩, ⟨⟨HA, rfl⟩, ⟨⟨Cs, rfl⟩, trivial⟩⟩⟩⟩)) (Ae (by kernel_rfl)) ⟨Tryz.func246, rfl, by kernel_rfl, rfl⟩ (fun x => by exact T5 x)
noncomputable def Dw (s0 : (Bool × (List Int))) (s1 : (List Int)) (s2 : Int) (s3 : Int) : Option (((Bool × (List Int)) × ((List Int) × (Int × Int))) ⊕ ((Bool × (List Int)) ⊕ Bool)) :=
 bif decide (s3 < s2) then
  ((getI s1 s3)).bind fun x0 =>
  ((Dx x0 (0 : Int) (65535 : Int))).bind fun x1 =>
  bif (!x1) then
   some (Sum.inr (Sum.inr false))
  else
  some (Sum.inl ((s0.1, s0.2), (s1, (s2, (Go.IntKind.wrap Go.IntKind.i64 (s3 + (1 : Int)))))))
 else
 some (Sum.inr (Sum.inl (s0.1, s0.2)))
noncomputable def Cu (a0 : (Bool × (List Int))) : Option (Bool) :=
 (loopM (fun (s : ((Bool × (List Int)) × ((List Int) × (Int × Int)))) => Dw s.1 s.2.1 s.2.2.1 s.2.2.2) ((a0.1, a0.2), (a0.2, ((((List.length a0.2) : Nat) : Int), (0 : Int))))).bind fun x0 =>
 Sum.elim
  (fun x1 =>
  bif ((((List.length x1.2) : Nat) : Int) == (0 : Int)) then
   some (!x1.1)
  else
  bif decide ((((List.length x1.2) : Nat) : Int) ≤ (40 : Int)) then
   ((getI x1.2 (Go.IntKind.wrap Go.IntKind.i64 ((((List.length x1.2) : Nat) : Int) - (1 : Int))))).bind fun x2 =>
   some (x2 != (0 : Int))
  else
  some false)
  (fun x3 =>
  some x3)
  x0
noncomputable def JA : Ent := ⟨Kc, fun x => Cu x⟩
noncomputable def PA : TX := ⟨tyTab, codTab, [], [4], [JV], Kc⟩
set_option maxHeartbeats 2000000 in
theorem Xd (a0 : (Bool × List (Int))) : wtF PA Tryz.f143 (a0) = Cu a0 := by kernel_rfl
theorem My : EntOK RR JA := Ab (X := PA) ⟨tyOK, boolOK, eqOK⟩ (Ad (by exact ⟨⟨K3, rfl⟩, trivial⟩)) (Ae (by kernel_rfl)) ⟨Tryz.func143, rfl, by kernel_rfl, rfl⟩ (fun x => by exact Xd x)
noncomputable def B6 (s0 : (List Int)) (s1 : (List Int)) (s2 : Int) : Option (((List Int) × ((List Int) × Int)) ⊕ (Unit ⊕ Int)) :=
 bif decide (s2 ≥ (0 : Int)) then
  ((getI s0 s2)).bind fun x0 =>
  ((getI s1 s2)).bind fun x1 =>
  bif decide (x0 < x1) then
   some (Sum.inr (Sum.inr (-(1 : Int))))
  else
  ((getI s0 s2)).bind fun x2 =>
  ((getI s1 s2)).bind fun x3 =>
  bif decide (x2 > x3) then
   some (Sum.inr (Sum.inr (1 : Int)))
  else
  some (Sum.inl (s0, (s1, (Go.IntKind.wrap Go.IntKind.i64 (s2 - (1 : Int))))))
 else
 some (Sum.inr (Sum.inl ()))
noncomputable def Bo (a0 : (List Int)) (a1 : (List Int)) : Option (Int) :=
 bif ((((List.length a0) : Nat) : Int) != (((List.length a1) : Nat) : Int)) then
  bif decide ((((List.length a0) : Nat) : Int) < (((List.length a1) : Nat) : Int)) then
   some (-(1 : Int))
  else
  some (1 : Int)
 else
 (loopM (fun (s : ((List Int) × ((List Int) × Int))) => B6 s.1 s.2.1 s.2.2) (a0, (a1, (Go.IntKind.wrap Go.IntKind.i64 ((((List.length a0) : Nat) : Int) - (1 : Int)))))).bind fun x0 =>
 Sum.elim
  (fun x1 =>
  some (0 : Int))
  (fun x2 =>
  some x2)
  x0
noncomputable def HO : Ent := ⟨N1, fun x => Bo x.1 x.2⟩
noncomputable def UU : TX := ⟨tyTab, codTab, [], [4], [], N1⟩
set_option maxHeartbeats 2000000 in
theorem Ao5 (a0 : List (Int)) (a1 : List (Int)) : wtF UU Tryz.f225 (a0, a1) = Bo a0 a1 := by kernel_rfl
theorem H1 : EntOK RR HO := Ab (X := UU) ⟨tyOK, boolOK, eqOK⟩ (Ad (by exact trivial)) (Ae (by kernel_rfl)) ⟨Tryz.func225, rfl, by kernel_rfl, rfl⟩ (fun x => by exact Ao5 x.1 x.2)
noncomputable def Dy (s0 : (List Int)) (s1 : (List Int)) (s2 : Int) (s3 : Int) (s4 : Int) : Option (((List Int) × ((List Int) × (Int × (Int × Int)))) ⊕ ((List Int) × Int)) :=
 bif decide (s4 ≥ (0 : Int)) then
  ((getI s1 s4)).bind fun x0 =>
  bif (s2 == (0 : Int)) then
   none
  else
  ((idxI s4 (List.length s0))).bind fun x1 =>
  ((getN s0 x1)).bind fun x2 =>
  bif (s2 == (0 : Int)) then
   none
  else
  some (Sum.inl ((List.set s0 x1 (Go.IntKind.wrap Go.IntKind.i64 (Int.tdiv (Go.IntKind.wrap Go.IntKind.i64 ((Go.IntKind.wrap Go.IntKind.i64 (s3 * (65536 : Int))) + x0)) s2))), (s1, (s2, ((Int.tmod (Go.IntKind.wrap Go.IntKind.i64 ((Go.IntKind.wrap Go.IntKind.i64 (s3 * (65536 : Int))) + x0)) s2), (Go.IntKind.wrap Go.IntKind.i64 (s4 - (1 : Int))))))))
 else
 some (Sum.inr (s0, s3))
noncomputable def Fn (a0 : (List Int)) (a1 : Int) : Option (List (Int) × List (Int)) :=
 ((lenI (((List.length a0) : Nat) : Int) 8 1)).bind fun x0 =>
 (loopM (fun (s : ((List Int) × ((List Int) × (Int × (Int × Int))))) => Dy s.1 s.2.1 s.2.2.1 s.2.2.2.1 s.2.2.2.2) ((List.replicate x0 (0 : Int)), (a0, (a1, ((0 : Int), (Go.IntKind.wrap Go.IntKind.i64 ((((List.length a0) : Nat) : Int) - (1 : Int)))))))).bind fun x1 =>
 ((Bm x1.1)).bind fun x2 =>
 ((Bm (List.cons x1.2 (List.nil : List Int)))).bind fun x3 =>
 some (x2, x3)
noncomputable def P7 : Ent := ⟨Jc, fun x => Fn x.1 x.2⟩
noncomputable def Pq : TX := ⟨tyTab, codTab, [], [4], [D3], Jc⟩
set_option maxHeartbeats 2000000 in
theorem YP (a0 : List (Int)) (a1 : Int) : wtF Pq Tryz.f297 (a0, a1) = Fn a0 a1 := by kernel_rfl
theorem VO : EntOK RR P7 := Ab (X := Pq) ⟨tyOK, boolOK, eqOK⟩ (Ad (by exact ⟨⟨DT, rfl⟩, trivial⟩)) (Ae (by kernel_rfl)) ⟨Tryz.func297, rfl, by kernel_rfl, rfl⟩ (fun x => by exact YP x.1 x.2)
noncomputable def Ir (s0 : (List Int)) (s1 : Int) (s2 : (List Int)) (s3 : Int) (s4 : Int) : Option (((List Int) × (Int × ((List Int) × (Int × Int)))) ⊕ (List Int)) :=
 bif decide (s4 < s3) then
  ((getI s2 s4)).bind fun x0 =>
  bif decide ((Go.IntKind.wrap Go.IntKind.u64 s1) < (0 : Int)) then
   none
  else
  ((idxI s4 (List.length s0))).bind fun x1 =>
  ((getN s0 x1)).bind fun x2 =>
  ((idxI s4 (List.length s0))).bind fun x3 =>
  ((getN s0 x3)).bind fun x4 =>
  ((idxI (Go.IntKind.wrap Go.IntKind.i64 (s4 + (1 : Int))) (List.length (List.set s0 x3 (orI Go.IntKind.i64 x2 (Int.tmod (shlI Go.IntKind.i64 x0 (Go.IntKind.wrap Go.IntKind.u64 s1)) (65536 : Int))))))).bind fun x5 =>
  ((getN (List.set s0 x3 (orI Go.IntKind.i64 x2 (Int.tmod (shlI Go.IntKind.i64 x0 (Go.IntKind.wrap Go.IntKind.u64 s1)) (65536 : Int)))) x5)).bind fun x6 =>
  some (Sum.inl ((List.set (List.set s0 x3 (orI Go.IntKind.i64 x2 (Int.tmod (shlI Go.IntKind.i64 x0 (Go.IntKind.wrap Go.IntKind.u64 s1)) (65536 : Int)))) x5 (Go.IntKind.wrap Go.IntKind.i64 (Int.tdiv (shlI Go.IntKind.i64 x0 (Go.IntKind.wrap Go.IntKind.u64 s1)) (65536 : Int)))), (s1, (s2, (s3, (Go.IntKind.wrap Go.IntKind.i64 (s4 + (1 : Int))))))))
 else
 some (Sum.inr s0)
noncomputable def HR (a0 : (List Int)) (a1 : Int) : Option (List (Int)) :=
 ((lenI (Go.IntKind.wrap Go.IntKind.i64 ((((List.length a0) : Nat) : Int) + (1 : Int))) 8 1)).bind fun x0 =>
 (loopM (fun (s : ((List Int) × (Int × ((List Int) × (Int × Int))))) => Ir s.1 s.2.1 s.2.2.1 s.2.2.2.1 s.2.2.2.2) ((List.replicate x0 (0 : Int)), (a1, (a0, ((((List.length a0) : Nat) : Int), (0 : Int)))))).bind fun x1 =>
 some x1
noncomputable def Yv : Ent := ⟨Tn, fun x => HR x.1 x.2⟩
noncomputable def YK : TX := ⟨tyTab, codTab, [], [4], [], Tn⟩
set_option maxHeartbeats 2000000 in
theorem Ay8 (a0 : List (Int)) (a1 : Int) : wtF YK Tryz.f298 (a0, a1) = HR a0 a1 := by kernel_rfl
theorem Ak1 : EntOK RR Yv := Ab (X := YK) ⟨tyOK, boolOK, eqOK⟩ (Ad (by exact trivial)) (Ae (by kernel_rfl)) ⟨Tryz.func298, rfl, by kernel_rfl, rfl⟩ (fun x => by exact Ay8 x.1 x.2)
noncomputable def CK (s0 : (List Int)) (s1 : (List Int)) (s2 : Int) (s3 : Int) (s4 : Int) (s5 : Int) : Option (((List Int) × ((List Int) × (Int × (Int × (Int × Int))))) ⊕ Int) :=
 (bif decide (s5 < (65536 : Int)) then
   bif decide (s4 ≥ (65536 : Int)) then
    some (Sum.inr (s0, (s1, (s2, (s3, (s4, s5))))))
   else
   ((getI s1 (Go.IntKind.wrap Go.IntKind.i64 (s3 - (2 : Int))))).bind fun x0 =>
   ((getI s0 (Go.IntKind.wrap Go.IntKind.i64 ((Go.IntKind.wrap Go.IntKind.i64 (s2 + s3)) - (2 : Int))))).bind fun x1 =>
   bif decide ((Go.IntKind.wrap Go.IntKind.i64 (s4 * x0)) > (Go.IntKind.wrap Go.IntKind.i64 ((Go.IntKind.wrap Go.IntKind.i64 (s5 * (65536 : Int))) + x1))) then
    some (Sum.inr (s0, (s1, (s2, (s3, (s4, s5))))))
   else
   some (Sum.inl (Sum.inr s4))
  else
  some (Sum.inl (Sum.inr s4))).bind fun x2 =>
 Sum.elim
  (fun x3 =>
  some x3)
  (fun x4 =>
  ((getI x4.2.1 (Go.IntKind.wrap Go.IntKind.i64 (x4.2.2.2.1 - (1 : Int))))).bind fun x5 =>
  some (Sum.inl (x4.1, (x4.2.1, (x4.2.2.1, (x4.2.2.2.1, ((Go.IntKind.wrap Go.IntKind.i64 (x4.2.2.2.2.1 - (1 : Int))), (Go.IntKind.wrap Go.IntKind.i64 (x4.2.2.2.2.2 + x5)))))))))
  x2
noncomputable def Fp (a0 : (List Int)) (a1 : (List Int)) (a2 : Int) : Option (Int) :=
 ((getI a0 (Go.IntKind.wrap Go.IntKind.i64 (a2 + (((List.length a1) : Nat) : Int))))).bind fun x0 =>
 ((getI a0 (Go.IntKind.wrap Go.IntKind.i64 ((Go.IntKind.wrap Go.IntKind.i64 (a2 + (((List.length a1) : Nat) : Int))) - (1 : Int))))).bind fun x1 =>
 ((getI a1 (Go.IntKind.wrap Go.IntKind.i64 ((((List.length a1) : Nat) : Int) - (1 : Int))))).bind fun x2 =>
 bif (x2 == (0 : Int)) then
  none
 else
 ((getI a1 (Go.IntKind.wrap Go.IntKind.i64 ((((List.length a1) : Nat) : Int) - (1 : Int))))).bind fun x3 =>
 bif (x3 == (0 : Int)) then
  none
 else
 (loopM (fun (s : ((List Int) × ((List Int) × (Int × (Int × (Int × Int)))))) => CK s.1 s.2.1 s.2.2.1 s.2.2.2.1 s.2.2.2.2.1 s.2.2.2.2.2) (a0, (a1, (a2, ((((List.length a1) : Nat) : Int), ((Go.IntKind.wrap Go.IntKind.i64 (Int.tdiv (Go.IntKind.wrap Go.IntKind.i64 ((Go.IntKind.wrap Go.IntKind.i64 (x0 * (65536 : Int))) + x1)) x2)), (Int.tmod (Go.IntKind.wrap Go.IntKind.i64 ((Go.IntKind.wrap Go.IntKind.i64 (x0 * (65536 : Int))) + x1)) x3))))))).bind fun x4 =>
 some x4
noncomputable def O1 : Ent := ⟨JX, fun x => Fp x.1 x.2.1 x.2.2⟩
noncomputable def PU : TX := ⟨tyTab, codTab, [], [4], [], JX⟩
set_option maxHeartbeats 2000000 in
theorem XV (a0 : List (Int)) (a1 : List (Int)) (a2 : Int) : wtF PU Tryz.f299 (a0, a1, a2) = Fp a0 a1 a2 := by kernel_rfl
theorem Ww : EntOK RR O1 := Ab (X := PU) ⟨tyOK, boolOK, eqOK⟩ (Ad (by exact trivial)) (Ae (by kernel_rfl)) ⟨Tryz.func299, rfl, by kernel_rfl, rfl⟩ (fun x => by exact XV x.1 x.2.1 x.2.2)
noncomputable def BW (a0 : (List Int)) (a1 : Int) : Option (Int) :=
 bif decide (a1 < (((List.length a0) : Nat) : Int)) then
  ((getI a0 a1)).bind fun x0 =>
  some x0
 else
 some (0 : Int)
noncomputable def DO : Ent := ⟨LG, fun x => BW x.1 x.2⟩
noncomputable def S3 : TX := ⟨tyTab, codTab, [], [4], [], LG⟩
set_option maxHeartbeats 2000000 in
theorem ZC (a0 : List (Int)) (a1 : Int) : wtF S3 Tryz.f282 (a0, a1) = BW a0 a1 := by kernel_rfl
theorem D4 : EntOK RR DO := Ab (X := S3) ⟨tyOK, boolOK, eqOK⟩ (Ad (by exact trivial)) (Ae (by kernel_rfl)) ⟨Tryz.func282, rfl, by kernel_rfl, rfl⟩ (fun x => by exact ZC x.1 x.2)
noncomputable def FS (s0 : (List Int)) (s1 : (List Int)) (s2 : Int) (s3 : Int) (s4 : Int) (s5 : Int) : Option (((List Int) × ((List Int) × (Int × (Int × (Int × Int))))) ⊕ ((List Int) × Int)) :=
 bif decide (s5 ≤ (((List.length s1) : Nat) : Int)) then
  ((idxI (Go.IntKind.wrap Go.IntKind.i64 (s2 + s5)) (List.length s0))).bind fun x0 =>
  ((getN s0 x0)).bind fun x1 =>
  ((BW s1 s5)).bind fun x2 =>
  (bif decide ((Go.IntKind.wrap Go.IntKind.i64 ((Go.IntKind.wrap Go.IntKind.i64 (x1 - (Go.IntKind.wrap Go.IntKind.i64 (s3 * x2)))) - s4)) < (0 : Int)) then
    some (Sum.inr (s0, (s1, (s2, (s3, ((Go.IntKind.wrap Go.IntKind.i64 (Int.tdiv (Go.IntKind.wrap Go.IntKind.i64 ((Go.IntKind.wrap Go.IntKind.i64 ((Go.IntKind.wrap Go.IntKind.i64 ((0 : Int) - (Go.IntKind.wrap Go.IntKind.i64 ((Go.IntKind.wrap Go.IntKind.i64 (x1 - (Go.IntKind.wrap Go.IntKind.i64 (s3 * x2)))) - s4)))) + (65536 : Int))) - (1 : Int))) (65536 : Int))), (s5, (Go.IntKind.wrap Go.IntKind.i64 ((Go.IntKind.wrap Go.IntKind.i64 ((Go.IntKind.wrap Go.IntKind.i64 (x1 - (Go.IntKind.wrap Go.IntKind.i64 (s3 * x2)))) - s4)) + (Go.IntKind.wrap Go.IntKind.i64 ((Go.IntKind.wrap Go.IntKind.i64 (Int.tdiv (Go.IntKind.wrap Go.IntKind.i64 ((Go.IntKind.wrap Go.IntKind.i64 ((Go.IntKind.wrap Go.IntKind.i64 ((0 : Int) - (Go.IntKind.wrap Go.IntKind.i64 ((Go.IntKind.wrap Go.IntKind.i64 (x1 - (Go.IntKind.wrap Go.IntKind.i64 (s3 * x2)))) - s4)))) + (65536 : Int))) - (1 : Int))) (65536 : Int))) * (65536 : Int))))))))))))
   else
   some (Sum.inr (s0, (s1, (s2, (s3, ((0 : Int), (s5, (Go.IntKind.wrap Go.IntKind.i64 ((Go.IntKind.wrap Go.IntKind.i64 (x1 - (Go.IntKind.wrap Go.IntKind.i64 (s3 * x2)))) - s4)))))))))).bind fun x3 =>
  Sum.elim
   (fun x4 =>
   some x4)
   (fun x5 =>
   ((idxI (Go.IntKind.wrap Go.IntKind.i64 (x5.2.2.1 + x5.2.2.2.2.2.1)) (List.length x5.1))).bind fun x6 =>
   ((getN x5.1 x6)).bind fun x7 =>
   some (Sum.inl ((List.set x5.1 x6 x5.2.2.2.2.2.2), (x5.2.1, (x5.2.2.1, (x5.2.2.2.1, (x5.2.2.2.2.1, (Go.IntKind.wrap Go.IntKind.i64 (x5.2.2.2.2.2.1 + (1 : Int))))))))))
   x3
 else
 some (Sum.inr (s0, s4))
noncomputable def GA (a0 : (List Int)) (a1 : (List Int)) (a2 : Int) (a3 : Int) : Option (List (Int) × Int) :=
 (loopM (fun (s : ((List Int) × ((List Int) × (Int × (Int × (Int × Int)))))) => FS s.1 s.2.1 s.2.2.1 s.2.2.2.1 s.2.2.2.2.1 s.2.2.2.2.2) (a0, (a1, (a2, (a3, ((0 : Int), (0 : Int))))))).bind fun x0 =>
 some (x0.1, x0.2)
noncomputable def S5 : Ent := ⟨L6, fun x => GA x.1 x.2.1 x.2.2.1 x.2.2.2⟩
noncomputable def Sv : TX := ⟨tyTab, codTab, [], [4], [DO], L6⟩
set_option maxHeartbeats 2000000 in
theorem ZT (a0 : List (Int)) (a1 : List (Int)) (a2 : Int) (a3 : Int) : wtF Sv Tryz.f300 (a0, a1, a2, a3) = GA a0 a1 a2 a3 := by kernel_rfl
theorem Ye : EntOK RR S5 := Ab (X := Sv) ⟨tyOK, boolOK, eqOK⟩ (Ad (by exact ⟨⟨D4, rfl⟩, trivial⟩)) (Ae (by kernel_rfl)) ⟨Tryz.func300, rfl, by kernel_rfl, rfl⟩ (fun x => by exact ZT x.1 x.2.1 x.2.2.1 x.2.2.2)
noncomputable def FX (s0 : (List Int)) (s1 : (List Int)) (s2 : Int) (s3 : Int) (s4 : Int) : Option (((List Int) × ((List Int) × (Int × (Int × Int)))) ⊕ (List Int)) :=
 bif decide (s4 ≤ (((List.length s1) : Nat) : Int)) then
  ((idxI (Go.IntKind.wrap Go.IntKind.i64 (s2 + s4)) (List.length s0))).bind fun x0 =>
  ((getN s0 x0)).bind fun x1 =>
  ((BW s1 s4)).bind fun x2 =>
  ((idxI (Go.IntKind.wrap Go.IntKind.i64 (s2 + s4)) (List.length s0))).bind fun x3 =>
  ((getN s0 x3)).bind fun x4 =>
  some (Sum.inl ((List.set s0 x3 (Int.tmod (Go.IntKind.wrap Go.IntKind.i64 ((Go.IntKind.wrap Go.IntKind.i64 (x1 + x2)) + s3)) (65536 : Int))), (s1, (s2, ((Go.IntKind.wrap Go.IntKind.i64 (Int.tdiv (Go.IntKind.wrap Go.IntKind.i64 ((Go.IntKind.wrap Go.IntKind.i64 (x1 + x2)) + s3)) (65536 : Int))), (Go.IntKind.wrap Go.IntKind.i64 (s4 + (1 : Int))))))))
 else
 some (Sum.inr s0)
noncomputable def GI (a0 : (List Int)) (a1 : (List Int)) (a2 : Int) : Option (List (Int)) :=
 (loopM (fun (s : ((List Int) × ((List Int) × (Int × (Int × Int))))) => FX s.1 s.2.1 s.2.2.1 s.2.2.2.1 s.2.2.2.2) (a0, (a1, (a2, ((0 : Int), (0 : Int)))))).bind fun x0 =>
 some x0
noncomputable def Rv : Ent := ⟨LY, fun x => GI x.1 x.2.1 x.2.2⟩
noncomputable def Q3 : TX := ⟨tyTab, codTab, [], [4], [DO], LY⟩
set_option maxHeartbeats 2000000 in
theorem Z4 (a0 : List (Int)) (a1 : List (Int)) (a2 : Int) : wtF Q3 Tryz.f301 (a0, a1, a2) = GI a0 a1 a2 := by kernel_rfl
theorem Xh : EntOK RR Rv := Ab (X := Q3) ⟨tyOK, boolOK, eqOK⟩ (Ad (by exact ⟨⟨D4, rfl⟩, trivial⟩)) (Ae (by kernel_rfl)) ⟨Tryz.func301, rfl, by kernel_rfl, rfl⟩ (fun x => by exact Z4 x.1 x.2.1 x.2.2)
noncomputable def FW (s0 : (List Int)) (s1 : (List Int)) (s2 : Int) (s3 : Int) (s4 : Int) : Option (((List Int) × ((List Int) × (Int × (Int × Int)))) ⊕ (List Int)) :=
 bif decide (s4 < s3) then
  ((getI s1 s4)).bind fun x0 =>
  ((BW s1 (Go.IntKind.wrap Go.IntKind.i64 (s4 + (1 : Int))))).bind fun x1 =>
  bif decide ((Go.IntKind.wrap Go.IntKind.u64 s2) < (0 : Int)) then
   none
  else
  ((idxI s4 (List.length s0))).bind fun x2 =>
  ((getN s0 x2)).bind fun x3 =>
  some (Sum.inl ((List.set s0 x2 (Int.tmod (shrI Go.IntKind.i64 (orI Go.IntKind.i64 x0 (shlI Go.IntKind.i64 x1 (16 : Int))) (Go.IntKind.wrap Go.IntKind.u64 s2)) (65536 : Int))), (s1, (s2, (s3, (Go.IntKind.wrap Go.IntKind.i64 (s4 + (1 : Int))))))))
 else
 some (Sum.inr s0)
noncomputable def Gd (a0 : (List Int)) (a1 : Int) : Option (List (Int)) :=
 ((lenI (((List.length a0) : Nat) : Int) 8 1)).bind fun x0 =>
 (loopM (fun (s : ((List Int) × ((List Int) × (Int × (Int × Int))))) => FW s.1 s.2.1 s.2.2.1 s.2.2.2.1 s.2.2.2.2) ((List.replicate x0 (0 : Int)), (a0, (a1, ((((List.length a0) : Nat) : Int), (0 : Int)))))).bind fun x1 =>
 ((Bm x1)).bind fun x2 =>
 some x2
noncomputable def SQ : Ent := ⟨L9, fun x => Gd x.1 x.2⟩
noncomputable def Sk : TX := ⟨tyTab, codTab, [], [4], [DO, D3], L9⟩
set_option maxHeartbeats 2000000 in
theorem Aa1 (a0 : List (Int)) (a1 : Int) : wtF Sk Tryz.f302 (a0, a1) = Gd a0 a1 := by kernel_rfl
theorem Xz : EntOK RR SQ := Ab (X := Sk) ⟨tyOK, boolOK, eqOK⟩ (Ad (by exact ⟨⟨D4, rfl⟩, ⟨⟨DT, rfl⟩, trivial⟩⟩)) (Ae (by kernel_rfl)) ⟨Tryz.func302, rfl, by kernel_rfl, rfl⟩ (fun x => by exact Aa1 x.1 x.2)
noncomputable def Co (s0 : (List Int)) (s1 : (List Int)) (s2 : Int) : Option (((List Int) × ((List Int) × Int)) ⊕ ((List Int) × ((List Int) × Int))) :=
 ((getI s1 (Go.IntKind.wrap Go.IntKind.i64 ((((List.length s1) : Nat) : Int) - (1 : Int))))).bind fun x0 =>
 bif decide ((Go.IntKind.wrap Go.IntKind.u64 s2) < (0 : Int)) then
  none
 else
 bif decide ((shlI Go.IntKind.i64 x0 (Go.IntKind.wrap Go.IntKind.u64 s2)) < (32768 : Int)) then
  some (Sum.inl (s0, (s1, (Go.IntKind.wrap Go.IntKind.i64 (s2 + (1 : Int))))))
 else
 some (Sum.inr (s0, (s1, s2)))
noncomputable def Bq (s0 : (List Int)) (s1 : (List Int)) (s2 : (List Int)) (s3 : Int) (s4 : Int) : Option (((List Int) × ((List Int) × ((List Int) × (Int × Int)))) ⊕ ((List Int) × ((List Int) × Int))) :=
 bif decide (s4 ≥ (0 : Int)) then
  ((Fp s0 s1 s4)).bind fun x0 =>
  ((GA s0 s1 s4 x0)).bind fun x1 =>
  bif decide ((List.length x1.1) = (List.length s0)) then
   bif decide (x1.2 > (0 : Int)) then
    ((GI x1.1 s1 s4)).bind fun x2 =>
    bif decide ((List.length x2) = (List.length x1.1)) then
     ((idxI s4 (List.length s2))).bind fun x3 =>
     ((getN s2 x3)).bind fun x4 =>
     some (Sum.inl (x2, (s1, ((List.set s2 x3 (Go.IntKind.wrap Go.IntKind.i64 (x0 - (1 : Int)))), (s3, (Go.IntKind.wrap Go.IntKind.i64 (s4 - (1 : Int))))))))
    else
    none
   else
   ((idxI s4 (List.length s2))).bind fun x5 =>
   ((getN s2 x5)).bind fun x6 =>
   some (Sum.inl (x1.1, (s1, ((List.set s2 x5 x0), (s3, (Go.IntKind.wrap Go.IntKind.i64 (s4 - (1 : Int))))))))
  else
  none
 else
 some (Sum.inr (s0, (s2, s3)))
noncomputable def Ce (a0 : (List Int)) (a1 : (List Int)) : Option (List (Int) × List (Int)) :=
 ((Bm a0)).bind fun x0 =>
 ((Bo x0 a1)).bind fun x1 =>
 bif decide (x1 < (0 : Int)) then
  some ((List.nil : List Int), x0)
 else
 bif ((((List.length a1) : Nat) : Int) == (1 : Int)) then
  ((getI a1 (0 : Int))).bind fun x2 =>
  ((Fn x0 x2)).bind fun x3 =>
  some (x3.1, x3.2)
 else
 (loopM (fun (s : ((List Int) × ((List Int) × Int))) => Co s.1 s.2.1 s.2.2) (x0, (a1, (0 : Int)))).bind fun x4 =>
 ((HR x4.1 x4.2.2)).bind fun x5 =>
 ((HR x4.2.1 x4.2.2)).bind fun x6 =>
 ((Bm x6)).bind fun x7 =>
 ((lenI (Go.IntKind.wrap Go.IntKind.i64 ((Go.IntKind.wrap Go.IntKind.i64 ((((List.length x4.1) : Nat) : Int) - (((List.length x4.2.1) : Nat) : Int))) + (1 : Int))) 8 1)).bind fun x8 =>
 (loopM (fun (s : ((List Int) × ((List Int) × ((List Int) × (Int × Int))))) => Bq s.1 s.2.1 s.2.2.1 s.2.2.2.1 s.2.2.2.2) (x5, (x7, ((List.replicate x8 (0 : Int)), (x4.2.2, (Go.IntKind.wrap Go.IntKind.i64 ((((List.length x4.1) : Nat) : Int) - (((List.length x4.2.1) : Nat) : Int)))))))).bind fun x9 =>
 ((Bm x9.2.1)).bind fun x10 =>
 ((Bm x9.1)).bind fun x11 =>
 ((Gd x11 x9.2.2)).bind fun x12 =>
 some (x10, x12)
noncomputable def GX : Ent := ⟨Gn, fun x => Ce x.1 x.2⟩
noncomputable def Kk : TX := ⟨tyTab, codTab, [], [4], [D3, HO, P7, Yv, O1, S5, Rv, SQ], Gn⟩
set_option maxHeartbeats 2000000 in
theorem Sm (a0 : List (Int)) (a1 : List (Int)) : wtF Kk Tryz.f279 (a0, a1) = Ce a0 a1 := by kernel_rfl
theorem IX : EntOK RR GX := Ab (X := Kk) ⟨tyOK, boolOK, eqOK⟩ (Ad (by exact ⟨⟨DT, rfl⟩, ⟨⟨H1, rfl⟩, ⟨⟨VO, rfl⟩, ⟨⟨Ak1, rfl⟩, ⟨⟨Ww, rfl⟩, ⟨⟨Ye, rfl⟩, ⟨⟨Xh, rfl⟩, ⟨⟨Xz, rfl⟩, trivial⟩⟩⟩⟩⟩⟩⟩⟩)) (Ae (by kernel_rfl)) ⟨Tryz.func279, rfl, by kernel_rfl, rfl⟩ (fun x => by exact Sm x.1 x.2)
noncomputable def G4 (s0 : (List Int)) (s1 : (List Int)) : Option (((List Int) × (List Int)) ⊕ (List Int)) :=
 bif decide ((((List.length s1) : Nat) : Int) > (0 : Int)) then
  ((Ce s0 s1)).bind fun x0 =>
  some (Sum.inl (s1, x0.2))
 else
 some (Sum.inr s0)
noncomputable def F7 (a0 : (List Int)) (a1 : (List Int)) : Option (List (Int)) :=
 (loopM (fun (s : ((List Int) × (List Int))) => G4 s.1 s.2) (a0, a1)).bind fun x0 =>
 ((Bm x0)).bind fun x1 =>
 some x1
noncomputable def Oa : Ent := ⟨Ow, fun x => F7 x.1 x.2⟩
noncomputable def Uw : TX := ⟨tyTab, codTab, [], [4], [GX, D3], Ow⟩
set_option maxHeartbeats 2000000 in
theorem Aj3 (a0 : List (Int)) (a1 : List (Int)) : wtF Uw Tryz.f226 (a0, a1) = F7 a0 a1 := by kernel_rfl
theorem QT : EntOK RR Oa := Ab (X := Uw) ⟨tyOK, boolOK, eqOK⟩ (Ad (by exact ⟨⟨IX, rfl⟩, ⟨⟨DT, rfl⟩, trivial⟩⟩)) (Ae (by kernel_rfl)) ⟨Tryz.func226, rfl, by kernel_rfl, rfl⟩ (fun x => by exact Aj3 x.1 x.2)
noncomputable def F2 (a0 : (Bool × (List Int))) (a1 : (Bool × (List Int))) : Option ((Bool × List (Int)) × (Bool × List (Int))) :=
 ((Ce a0.2 a1.2)).bind fun x0 =>
 ((AF (!(a0.1 == a1.1)) x0.1)).bind fun x1 =>
 ((AF a0.1 x0.2)).bind fun x2 =>
 some ((x1.2, x1.1), (x2.2, x2.1))
noncomputable def Vx : Ent := ⟨Ok, fun x => F2 x.1 x.2⟩
noncomputable def Vz : TX := ⟨tyTab, codTab, [], [4], [GX, CD], Ok⟩
set_option maxHeartbeats 2000000 in
theorem Ak5 (a0 : (Bool × List (Int))) (a1 : (Bool × List (Int))) : wtF Vz Tryz.f227 (a0, a1) = F2 a0 a1 := by kernel_rfl
theorem Ab3 : EntOK RR Vx := Ab (X := Vz) ⟨tyOK, boolOK, eqOK⟩ (Ad (by exact ⟨⟨IX, rfl⟩, ⟨⟨Cs, rfl⟩, trivial⟩⟩)) (Ae (by kernel_rfl)) ⟨Tryz.func227, rfl, by kernel_rfl, rfl⟩ (fun x => by exact Ak5 x.1 x.2)
noncomputable def EU (a0 : (Bool × (List Int))) : Option ((Bool × List (Int))) :=
 ((AF (!a0.1) a0.2)).bind fun x0 =>
 some (x0.2, x0.1)
noncomputable def OJ : Ent := ⟨OW, fun x => EU x⟩
noncomputable def UA : TX := ⟨tyTab, codTab, [], [4], [CD], OW⟩
set_option maxHeartbeats 2000000 in
theorem Aj1 (a0 : (Bool × List (Int))) : wtF UA Tryz.f162 (a0) = EU a0 := by kernel_rfl
theorem SP : EntOK RR OJ := Ab (X := UA) ⟨tyOK, boolOK, eqOK⟩ (Ad (by exact ⟨⟨Cs, rfl⟩, trivial⟩)) (Ae (by kernel_rfl)) ⟨Tryz.func162, rfl, by kernel_rfl, rfl⟩ (fun x => by exact Aj1 x)
noncomputable def CF (a0 : (Bool × (List Int))) (a1 : (Bool × (List Int))) : Option ((Bool × List (Int) × Bool × List (Int))) :=
 ((F7 a0.2 a1.2)).bind fun x0 =>
 ((AF false x0)).bind fun x1 =>
 ((F2 (a0.1, a0.2) (x1.2, x1.1))).bind fun x2 =>
 ((F2 (a1.1, a1.2) (x1.2, x1.1))).bind fun x3 =>
 bif x3.1.1 then
  ((EU (x2.1.1, x2.1.2))).bind fun x4 =>
  ((EU (x3.1.1, x3.1.2))).bind fun x5 =>
  some (x4.1, (x4.2, (x5.1, x5.2)))
 else
 some (x2.1.1, (x2.1.2, (x3.1.1, x3.1.2)))
noncomputable def E9 : Ent := ⟨L7, fun x => CF x.1 x.2⟩
noncomputable def QU : TX := ⟨tyTab, codTab, [], [4], [Oa, CD, Vx, OJ], L7⟩
set_option maxHeartbeats 2000000 in
theorem ZU (a0 : (Bool × List (Int))) (a1 : (Bool × List (Int))) : wtF QU Tryz.f164 (a0, a1) = CF a0 a1 := by kernel_rfl
theorem Fo : EntOK RR E9 := Ab (X := QU) ⟨tyOK, boolOK, eqOK⟩ (Ad (by exact ⟨⟨QT, rfl⟩, ⟨⟨Cs, rfl⟩, ⟨⟨Ab3, rfl⟩, ⟨⟨SP, rfl⟩, trivial⟩⟩⟩⟩)) (Ae (by kernel_rfl)) ⟨Tryz.func164, rfl, by kernel_rfl, rfl⟩ (fun x => by exact ZU x.1 x.2)
noncomputable def Ek (a0 : Int) (a1 : Int) : Option ((Bool × List (Int) × Bool × List (Int)) × Bool) :=
 ((Dx a0 (-(4611686018427387904 : Int)) (4611686018427387904 : Int))).bind fun x0 =>
 bif (!x0) then
  some ((false, ((List.nil : List Int), (false, (List.nil : List Int)))), false)
 else
 ((Dx a1 (-(4611686018427387904 : Int)) (4611686018427387904 : Int))).bind fun x1 =>
 bif (!x1) then
  some ((false, ((List.nil : List Int), (false, (List.nil : List Int)))), false)
 else
 bif (a1 == (0 : Int)) then
  some ((false, ((List.nil : List Int), (false, (List.nil : List Int)))), false)
 else
 ((Dg a0)).bind fun x2 =>
 ((Dg a1)).bind fun x3 =>
 ((CF (x2.1, x2.2) (x3.1, x3.2))).bind fun x4 =>
 some ((x4.1, (x4.2.1, (x4.2.2.1, x4.2.2.2))), true)
noncomputable def KO : Ent := ⟨NQ, fun x => Ek x.1 x.2⟩
noncomputable def U4 : TX := ⟨tyTab, codTab, [], [4], [JV, ON, E9], NQ⟩
set_option maxHeartbeats 2000000 in
theorem Aj9 (a0 : Int) (a1 : Int) : wtF U4 Tryz.f247 (a0, a1) = Ek a0 a1 := by kernel_rfl
theorem Mc : EntOK RR KO := Ab (X := U4) ⟨tyOK, boolOK, eqOK⟩ (Ad (by exact ⟨⟨K3, rfl⟩, ⟨⟨R4, rfl⟩, ⟨⟨Fo, rfl⟩, trivial⟩⟩⟩)) (Ae (by kernel_rfl)) ⟨Tryz.func247, rfl, by kernel_rfl, rfl⟩ (fun x => by exact Aj9 x.1 x.2)
noncomputable def CJ (a0 : ((List Int) × (Int × Int))) : Option ((List (Int) × Int × Int) × (Bool × List (Int) × Bool × List (Int))) :=
 ((Au (a0.1, (a0.2.1, a0.2.2)) (12 : Int))).bind fun x0 =>
 bif x0.2 then
  ((CR (x0.1.1, (x0.1.2.1, x0.1.2.2)))).bind fun x1 =>
  ((CR (x1.1.1, (x1.1.2.1, x1.1.2.2)))).bind fun x2 =>
  ((Cu (x1.2.1, x1.2.2))).bind fun x3 =>
  bif x3 then
   ((Cu (x2.2.1, x2.2.2))).bind fun x4 =>
   bif x4 then
    bif decide ((((List.length x2.2.2) : Nat) : Int) > (0 : Int)) then
     ((CF (x1.2.1, x1.2.2) (x2.2.1, x2.2.2))).bind fun x5 =>
     some ((x2.1.1, (x2.1.2.1, x2.1.2.2)), (x5.1, (x5.2.1, (x5.2.2.1, x5.2.2.2))))
    else
    some ((x2.1.1, (x2.1.2.1, x2.1.2.2)), (x1.2.1, (x1.2.2, (x2.2.1, x2.2.2))))
   else
   some ((x2.1.1, (x2.1.2.1, x2.1.2.2)), (x1.2.1, (x1.2.2, (x2.2.1, x2.2.2))))
  else
  some ((x2.1.1, (x2.1.2.1, x2.1.2.2)), (x1.2.1, (x1.2.2, (x2.2.1, x2.2.2))))
 else
 ((Af (x0.1.1, (x0.1.2.1, x0.1.2.2)) (41 : Int))).bind fun x6 =>
 ((Af (x6.1.1, (x6.1.2.1, x6.1.2.2)) (12 : Int))).bind fun x7 =>
 ((Ek (Go.IntKind.wrap Go.IntKind.i64 (x6.2 - (20 : Int))) (Go.IntKind.wrap Go.IntKind.i64 ((1 : Int) + x7.2)))).bind fun x8 =>
 some ((x7.1.1, (x7.1.2.1, x7.1.2.2)), (x8.1.1, (x8.1.2.1, (x8.1.2.2.1, x8.1.2.2.2))))
noncomputable def Lc : Ent := ⟨Hq, fun x => CJ x⟩
noncomputable def Li : TX := ⟨tyTab, codTab, [], [4], [BH, Lo, JA, E9, AY, KO], Hq⟩
set_option maxHeartbeats 2000000 in
theorem TY (a0 : (List (Int) × Int × Int)) : wtF Li Tryz.f165 (a0) = CJ a0 := by kernel_rfl
theorem Ri : EntOK RR Lc := Ab (X := Li) ⟨tyOK, boolOK, eqOK⟩ (Ad (by exact ⟨⟨BP, rfl⟩, ⟨⟨QS, rfl⟩, ⟨⟨My, rfl⟩, ⟨⟨Fo, rfl⟩, ⟨⟨A2, rfl⟩, ⟨⟨Mc, rfl⟩, trivial⟩⟩⟩⟩⟩⟩)) (Ae (by kernel_rfl)) ⟨Tryz.func165, rfl, by kernel_rfl, rfl⟩ (fun x => by exact TY x)
noncomputable def Dv (a0 : ((List Int) × (Int × Int))) : Option ((List (Int) × Int × Int) × (Bool × List (Int) × Bool × List (Int) × Bool × List (Int) × Bool × List (Int))) :=
 ((Au (a0.1, (a0.2.1, a0.2.2)) (40 : Int))).bind fun x0 =>
 bif x0.2 then
  ((CJ (x0.1.1, (x0.1.2.1, x0.1.2.2)))).bind fun x1 =>
  ((CJ (x1.1.1, (x1.1.2.1, x1.1.2.2)))).bind fun x2 =>
  some ((x2.1.1, (x2.1.2.1, x2.1.2.2)), (x1.2.1, (x1.2.2.1, (x1.2.2.2.1, (x1.2.2.2.2, (x2.2.1, (x2.2.2.1, (x2.2.2.2.1, x2.2.2.2.2))))))))
 else
 ((Af (x0.1.1, (x0.1.2.1, x0.1.2.2)) (17 : Int))).bind fun x3 =>
 ((Af (x3.1.1, (x3.1.2.1, x3.1.2.2)) (3 : Int))).bind fun x4 =>
 ((Ek (Go.IntKind.wrap Go.IntKind.i64 (x3.2 - (4 : Int))) (Go.IntKind.wrap Go.IntKind.i64 ((1 : Int) + x4.2)))).bind fun x5 =>
 ((Af (x4.1.1, (x4.1.2.1, x4.1.2.2)) (17 : Int))).bind fun x6 =>
 ((Af (x6.1.1, (x6.1.2.1, x6.1.2.2)) (3 : Int))).bind fun x7 =>
 ((Ek (Go.IntKind.wrap Go.IntKind.i64 (x6.2 - (4 : Int))) (Go.IntKind.wrap Go.IntKind.i64 ((1 : Int) + x7.2)))).bind fun x8 =>
 some ((x7.1.1, (x7.1.2.1, x7.1.2.2)), (x5.1.1, (x5.1.2.1, (x5.1.2.2.1, (x5.1.2.2.2, (x8.1.1, (x8.1.2.1, (x8.1.2.2.1, x8.1.2.2.2))))))))
noncomputable def Ln : Ent := ⟨Hd, fun x => Dv x⟩
noncomputable def Ld : TX := ⟨tyTab, codTab, [], [4], [BH, Lc, AY, KO], Hd⟩
set_option maxHeartbeats 2000000 in
theorem TG (a0 : (List (Int) × Int × Int)) : wtF Ld Tryz.f264 (a0) = Dv a0 := by kernel_rfl
theorem Rf : EntOK RR Ln := Ab (X := Ld) ⟨tyOK, boolOK, eqOK⟩ (Ad (by exact ⟨⟨BP, rfl⟩, ⟨⟨Ri, rfl⟩, ⟨⟨A2, rfl⟩, ⟨⟨Mc, rfl⟩, trivial⟩⟩⟩⟩)) (Ae (by kernel_rfl)) ⟨Tryz.func264, rfl, by kernel_rfl, rfl⟩ (fun x => by exact TG x)
noncomputable def A6 (s0 : ((List Int) × (Int × Int))) (s1 : (List (((Bool × (List Int)) × (Bool × (List Int))) × ((Bool × (List Int)) × (Bool × (List Int)))))) (s2 : Int) : Option ((((List Int) × (Int × Int)) × ((List (((Bool × (List Int)) × (Bool × (List Int))) × ((Bool × (List Int)) × (Bool × (List Int))))) × Int)) ⊕ (((List Int) × (Int × Int)) × (List (((Bool × (List Int)) × (Bool × (List Int))) × ((Bool × (List Int)) × (Bool × (List Int))))))) :=
 bif decide (s2 > (0 : Int)) then
  ((Dv (s0.1, (s0.2.1, s0.2.2)))).bind fun x0 =>
  ((appL 128 8 s1 (List.cons (((x0.2.1, x0.2.2.1), (x0.2.2.2.1, x0.2.2.2.2.1)), ((x0.2.2.2.2.2.1, x0.2.2.2.2.2.2.1), (x0.2.2.2.2.2.2.2.1, x0.2.2.2.2.2.2.2.2))) (List.nil : List (((Bool × (List Int)) × (Bool × (List Int))) × ((Bool × (List Int)) × (Bool × (List Int)))))))).bind fun x1 =>
  some (Sum.inl ((x0.1.1, (x0.1.2.1, x0.1.2.2)), (x1, (Go.IntKind.wrap Go.IntKind.i64 (s2 - (1 : Int))))))
 else
 some (Sum.inr ((s0.1, (s0.2.1, s0.2.2)), s1))
noncomputable def Cd (a0 : ((List Int) × (Int × Int))) : Option ((List (Int) × Int × Int) × List ((((Bool × List (Int)) × (Bool × List (Int))) × ((Bool × List (Int)) × (Bool × List (Int)))))) :=
 ((Au (a0.1, (a0.2.1, a0.2.2)) (2 : Int))).bind fun x0 =>
 bif x0.2 then
  ((DD (x0.1.1, (x0.1.2.1, x0.1.2.2)))).bind fun x1 =>
  ((GN x1.2)).bind fun x2 =>
  some ((x1.1.1, (x1.1.2.1, x1.1.2.2)), x2.1)
 else
 ((Af (x0.1.1, (x0.1.2.1, x0.1.2.2)) (7 : Int))).bind fun x3 =>
 (((Au (x3.1.1, (x3.1.2.1, x3.1.2.2)) (20 : Int))).bind fun x4 =>
  bif x4.2 then
   ((Af (x4.1.1, (x4.1.2.1, x4.1.2.2)) (3 : Int))).bind fun x5 =>
   some (Sum.inr ((x5.1.1, (x5.1.2.1, x5.1.2.2)), ((List.nil : List (((Bool × (List Int)) × (Bool × (List Int))) × ((Bool × (List Int)) × (Bool × (List Int))))), (Go.IntKind.wrap Go.IntKind.i64 ((39 : Int) + x5.2)))))
  else
  some (Sum.inr ((x4.1.1, (x4.1.2.1, x4.1.2.2)), ((List.nil : List (((Bool × (List Int)) × (Bool × (List Int))) × ((Bool × (List Int)) × (Bool × (List Int))))), x3.2)))).bind fun x6 =>
 Sum.elim
  (fun x7 =>
  some x7)
  (fun x8 =>
  (loopM (fun (s : (((List Int) × (Int × Int)) × ((List (((Bool × (List Int)) × (Bool × (List Int))) × ((Bool × (List Int)) × (Bool × (List Int))))) × Int))) => A6 s.1 s.2.1 s.2.2) ((x8.1.1, (x8.1.2.1, x8.1.2.2)), (x8.2.1, x8.2.2))).bind fun x9 =>
  some ((x9.1.1, (x9.1.2.1, x9.1.2.2)), x9.2))
  x6
noncomputable def Gu : Ent := ⟨Gq, fun x => Cd x⟩
noncomputable def JB : TX := ⟨tyTab, codTab, [], [4], [BH, La, Q4, AY, Ln], Gq⟩
set_option maxHeartbeats 2000000 in
theorem Sr (a0 : (List (Int) × Int × Int)) : wtF JB Tryz.f201 (a0) = Cd a0 := by kernel_rfl
theorem IT : EntOK RR Gu := Ab (X := JB) ⟨tyOK, boolOK, eqOK⟩ (Ad (by exact ⟨⟨BP, rfl⟩, ⟨⟨RD, rfl⟩, ⟨⟨Xv, rfl⟩, ⟨⟨A2, rfl⟩, ⟨⟨Rf, rfl⟩, trivial⟩⟩⟩⟩⟩)) (Ae (by kernel_rfl)) ⟨Tryz.func201, rfl, by kernel_rfl, rfl⟩ (fun x => by exact Sr x)
noncomputable def CH (a0 : ((List Int) × (Int × Int))) : Option ((List (Int) × Int × Int) × (Bool × List (Int) × Bool × List (Int))) :=
 ((Af (a0.1, (a0.2.1, a0.2.2)) (17 : Int))).bind fun x0 =>
 ((Af (x0.1.1, (x0.1.2.1, x0.1.2.2)) (2 : Int))).bind fun x1 =>
 ((Ek (Go.IntKind.wrap Go.IntKind.i64 (x0.2 - (3 : Int))) (Go.IntKind.wrap Go.IntKind.i64 ((1 : Int) + x1.2)))).bind fun x2 =>
 some ((x1.1.1, (x1.1.2.1, x1.1.2.2)), (x2.1.1, (x2.1.2.1, (x2.1.2.2.1, x2.1.2.2.2))))
noncomputable def IU : Ent := ⟨FL, fun x => CH x⟩
noncomputable def IM : TX := ⟨tyTab, codTab, [], [4], [AY, KO], FL⟩
set_option maxHeartbeats 2000000 in
theorem Qz (a0 : (List (Int) × Int × Int)) : wtF IM Tryz.f202 (a0) = CH a0 := by kernel_rfl
theorem OV : EntOK RR IU := Ab (X := IM) ⟨tyOK, boolOK, eqOK⟩ (Ad (by exact ⟨⟨A2, rfl⟩, ⟨⟨Mc, rfl⟩, trivial⟩⟩)) (Ae (by kernel_rfl)) ⟨Tryz.func202, rfl, by kernel_rfl, rfl⟩ (fun x => by exact Qz x)
noncomputable def BX (a0 : (List Int)) : Option (List ((((Bool × List (Int)) × (Bool × List (Int))) × ((Bool × List (Int)) × (Bool × List (Int))))) × Bool × (Bool × List (Int) × Bool × List (Int))) :=
 ((Cd (a0, ((0 : Int), (0 : Int))))).bind fun x0 =>
 ((Au (x0.1.1, (x0.1.2.1, x0.1.2.2)) (2 : Int))).bind fun x1 =>
 ((CH (x1.1.1, (x1.1.2.1, x1.1.2.2)))).bind fun x2 =>
 some (x0.2, (x1.2, (x2.2.1, (x2.2.2.1, (x2.2.2.2.1, x2.2.2.2.2)))))
noncomputable def IZ : Ent := ⟨FJ, fun x => BX x⟩
noncomputable def IY : TX := ⟨tyTab, codTab, [], [4], [Gu, BH, IU], FJ⟩
set_option maxHeartbeats 2000000 in
theorem Qx (a0 : List (Int)) : wtF IY Tryz.f90 (a0) = BX a0 := by kernel_rfl
theorem NX : EntOK RR IZ := Ab (X := IY) ⟨tyOK, boolOK, eqOK⟩ (Ad (by exact ⟨⟨IT, rfl⟩, ⟨⟨BP, rfl⟩, ⟨⟨OV, rfl⟩, trivial⟩⟩⟩)) (Ae (by kernel_rfl)) ⟨Tryz.func90, rfl, by kernel_rfl, rfl⟩ (fun x => by exact Qx x)
noncomputable def Gz (a0 : Int) (a1 : Int) (a2 : Int) : Option (Bool) :=
 bif decide (a0 ≥ a1) then
  some (decide (a0 ≤ a2))
 else
 some false
noncomputable def S7 : Ent := ⟨Lx, fun x => Gz x.1 x.2.1 x.2.2⟩
noncomputable def SZ : TX := ⟨tyTab, codTab, [], [4], [], Lx⟩
set_option maxHeartbeats 2000000 in
theorem Z6 (a0 : Int) (a1 : Int) (a2 : Int) : wtF SZ Tryz.f123 (a0, a1, a2) = Gz a0 a1 a2 := by kernel_rfl
theorem WX : EntOK RR S7 := Ab (X := SZ) ⟨tyOK, boolOK, eqOK⟩ (Ad (by exact trivial)) (Ae (by kernel_rfl)) ⟨Tryz.func123, rfl, by kernel_rfl, rfl⟩ (fun x => by exact Z6 x.1 x.2.1 x.2.2)
noncomputable def DG (a0 : Int) : Option (Bool) :=
 ((Gz a0 (0 : Int) (65535 : Int))).bind fun x0 =>
 some (!x0)
noncomputable def Lh : Ent := ⟨Hn, fun x => DG x⟩
noncomputable def Lj : TX := ⟨tyTab, codTab, [], [4], [S7], Hn⟩
set_option maxHeartbeats 2000000 in
theorem T2 (a0 : Int) : wtF Lj Tryz.f222 (a0) = DG a0 := by kernel_rfl
theorem SE : EntOK RR Lh := Ab (X := Lj) ⟨tyOK, boolOK, eqOK⟩ (Ad (by exact ⟨⟨WX, rfl⟩, trivial⟩)) (Ae (by kernel_rfl)) ⟨Tryz.func222, rfl, by kernel_rfl, rfl⟩ (fun x => by exact T2 x)
noncomputable def AD (s0 : (List Int)) (s1 : Int) (s2 : Int) : Option (((List Int) × (Int × Int)) ⊕ (Unit ⊕ Int)) :=
 bif decide (s2 < s1) then
  ((getI s0 s2)).bind fun x0 =>
  ((DG x0)).bind fun x1 =>
  bif x1 then
   some (Sum.inr (Sum.inr s2))
  else
  some (Sum.inl (s0, (s1, (Go.IntKind.wrap Go.IntKind.i64 (s2 + (1 : Int))))))
 else
 some (Sum.inr (Sum.inl ()))
noncomputable def Bb (a0 : (List Int)) : Option (Int) :=
 (loopM (fun (s : ((List Int) × (Int × Int))) => AD s.1 s.2.1 s.2.2) (a0, ((((List.length a0) : Nat) : Int), (0 : Int)))).bind fun x0 =>
 Sum.elim
  (fun x1 =>
  some (-(1 : Int)))
  (fun x2 =>
  some x2)
  x0
noncomputable def CT : Ent := ⟨BA, fun x => Bb x⟩
noncomputable def CU : TX := ⟨tyTab, codTab, [], [4], [Lh], BA⟩
set_option maxHeartbeats 2000000 in
theorem FV (a0 : List (Int)) : wtF CU Tryz.f254 (a0) = Bb a0 := by kernel_rfl
theorem FK : EntOK RR CT := Ab (X := CU) ⟨tyOK, boolOK, eqOK⟩ (Ad (by exact ⟨⟨SE, rfl⟩, trivial⟩)) (Ae (by kernel_rfl)) ⟨Tryz.func254, rfl, by kernel_rfl, rfl⟩ (fun x => by exact FV x)
noncomputable def Al (a0 : (List Int)) : Option (Bool) :=
 ((Bb a0)).bind fun x0 =>
 some (decide (x0 ≥ (0 : Int)))
noncomputable def Cl : Ent := ⟨Bk, fun x => Al x⟩
noncomputable def Cp : TX := ⟨tyTab, codTab, [], [4], [CT], Bk⟩
set_option maxHeartbeats 2000000 in
theorem Fb (a0 : List (Int)) : wtF Cp Tryz.f187 (a0) = Al a0 := by kernel_rfl
theorem EP : EntOK RR Cl := Ab (X := Cp) ⟨tyOK, boolOK, eqOK⟩ (Ad (by exact ⟨⟨FK, rfl⟩, trivial⟩)) (Ae (by kernel_rfl)) ⟨Tryz.func187, rfl, by kernel_rfl, rfl⟩ (fun x => by exact Fb x)
noncomputable def Fv (a0 : (Bool × (List Int))) : Option (Bool) :=
 bif decide ((((List.length a0.2) : Nat) : Int) > (40 : Int)) then
  some false
 else
 bif ((((List.length a0.2) : Nat) : Int) == (0 : Int)) then
  bif a0.1 then
   some false
  else
  bif decide ((((List.length a0.2) : Nat) : Int) > (0 : Int)) then
   ((getI a0.2 (Go.IntKind.wrap Go.IntKind.i64 ((((List.length a0.2) : Nat) : Int) - (1 : Int))))).bind fun x0 =>
   bif (x0 == (0 : Int)) then
    some false
   else
   ((Al a0.2)).bind fun x1 =>
   some (!x1)
  else
  ((Al a0.2)).bind fun x2 =>
  some (!x2)
 else
 bif decide ((((List.length a0.2) : Nat) : Int) > (0 : Int)) then
  ((getI a0.2 (Go.IntKind.wrap Go.IntKind.i64 ((((List.length a0.2) : Nat) : Int) - (1 : Int))))).bind fun x3 =>
  bif (x3 == (0 : Int)) then
   some false
  else
  ((Al a0.2)).bind fun x4 =>
  some (!x4)
 else
 ((Al a0.2)).bind fun x5 =>
 some (!x5)
noncomputable def O9 : Ent := ⟨Jy, fun x => Fv x⟩
noncomputable def O7 : TX := ⟨tyTab, codTab, [], [4], [Cl], Jy⟩
set_option maxHeartbeats 2000000 in
theorem XE (a0 : (Bool × List (Int))) : wtF O7 Tryz.f107 (a0) = Fv a0 := by kernel_rfl
theorem Wc : EntOK RR O9 := Ab (X := O7) ⟨tyOK, boolOK, eqOK⟩ (Ad (by exact ⟨⟨EP, rfl⟩, trivial⟩)) (Ae (by kernel_rfl)) ⟨Tryz.func107, rfl, by kernel_rfl, rfl⟩ (fun x => by exact XE x)
noncomputable def EJ (a0 : (Bool × (List Int))) : Option (Bool) :=
 ((Fv (a0.1, a0.2))).bind fun x0 =>
 some (!x0)
noncomputable def NA : Ent := ⟨H4, fun x => EJ x⟩
noncomputable def MW : TX := ⟨tyTab, codTab, [], [4], [O9], H4⟩
set_option maxHeartbeats 2000000 in
theorem V1 (a0 : (Bool × List (Int))) : wtF MW Tryz.f231 (a0) = EJ a0 := by kernel_rfl
theorem TU : EntOK RR NA := Ab (X := MW) ⟨tyOK, boolOK, eqOK⟩ (Ad (by exact ⟨⟨Wc, rfl⟩, trivial⟩)) (Ae (by kernel_rfl)) ⟨Tryz.func231, rfl, by kernel_rfl, rfl⟩ (fun x => by exact V1 x)
noncomputable def Av (s0 : (List (Bool × (List Int)))) (s1 : Int) (s2 : Int) : Option (((List (Bool × (List Int))) × (Int × Int)) ⊕ (Unit ⊕ Int)) :=
 bif decide (s2 < s1) then
  ((getI s0 s2)).bind fun x0 =>
  ((EJ (x0.1, x0.2))).bind fun x1 =>
  bif x1 then
   some (Sum.inr (Sum.inr s2))
  else
  some (Sum.inl (s0, (s1, (Go.IntKind.wrap Go.IntKind.i64 (s2 + (1 : Int))))))
 else
 some (Sum.inr (Sum.inl ()))
noncomputable def AQ (a0 : (List (Bool × (List Int)))) : Option (Int) :=
 (loopM (fun (s : ((List (Bool × (List Int))) × (Int × Int))) => Av s.1 s.2.1 s.2.2) (a0, ((((List.length a0) : Nat) : Int), (0 : Int)))).bind fun x0 =>
 Sum.elim
  (fun x1 =>
  some (-(1 : Int)))
  (fun x2 =>
  some x2)
  x0
noncomputable def Cb : Ent := ⟨Bh, fun x => AQ x⟩
noncomputable def B9 : TX := ⟨tyTab, codTab, [], [4], [NA], Bh⟩
set_option maxHeartbeats 2000000 in
theorem EO (a0 : List ((Bool × List (Int)))) : wtF B9 Tryz.f281 (a0) = AQ a0 := by kernel_rfl
theorem EF : EntOK RR Cb := Ab (X := B9) ⟨tyOK, boolOK, eqOK⟩ (Ad (by exact ⟨⟨TU, rfl⟩, trivial⟩)) (Ae (by kernel_rfl)) ⟨Tryz.func281, rfl, by kernel_rfl, rfl⟩ (fun x => by exact EO x)
noncomputable def AG (a0 : (List (Bool × (List Int)))) : Option (Bool) :=
 ((AQ a0)).bind fun x0 =>
 some (decide (x0 ≥ (0 : Int)))
noncomputable def BL : Ent := ⟨A4, fun x => AG x⟩
noncomputable def BM : TX := ⟨tyTab, codTab, [], [4], [Cb], A4⟩
set_option maxHeartbeats 2000000 in
theorem DS (a0 : List ((Bool × List (Int)))) : wtF BM Tryz.f230 (a0) = AG a0 := by kernel_rfl
theorem DA : EntOK RR BL := Ab (X := BM) ⟨tyOK, boolOK, eqOK⟩ (Ad (by exact ⟨⟨EF, rfl⟩, trivial⟩)) (Ae (by kernel_rfl)) ⟨Tryz.func230, rfl, by kernel_rfl, rfl⟩ (fun x => by exact DS x)
noncomputable def ER (a0 : (List (Bool × (List Int)))) : Option (Bool) :=
 ((AG a0)).bind fun x0 =>
 some (!x0)
noncomputable def Q1 : Ent := ⟨Lq, fun x => ER x⟩
noncomputable def Tc : TX := ⟨tyTab, codTab, [], [4], [BL], Lq⟩
set_option maxHeartbeats 2000000 in
theorem Ab1 (a0 : List ((Bool × List (Int)))) : wtF Tc Tryz.f124 (a0) = ER a0 := by kernel_rfl
theorem Yo : EntOK RR Q1 := Ab (X := Tc) ⟨tyOK, boolOK, eqOK⟩ (Ad (by exact ⟨⟨DA, rfl⟩, trivial⟩)) (Ae (by kernel_rfl)) ⟨Tryz.func124, rfl, by kernel_rfl, rfl⟩ (fun x => by exact Ab1 x)
noncomputable def A1 (a0 : (Bool × (List Int))) : Option (Int) :=
 bif ((((List.length a0.2) : Nat) : Int) == (0 : Int)) then
  some (0 : Int)
 else
 bif a0.1 then
  some (-(1 : Int))
 else
 some (1 : Int)
noncomputable def Ic : Ent := ⟨Io, fun x => A1 x⟩
noncomputable def NF : TX := ⟨tyTab, codTab, [], [4], [], Io⟩
set_option maxHeartbeats 2000000 in
theorem V5 (a0 : (Bool × List (Int))) : wtF NF Tryz.f125 (a0) = A1 a0 := by kernel_rfl
theorem Lg : EntOK RR Ic := Ab (X := NF) ⟨tyOK, boolOK, eqOK⟩ (Ad (by exact trivial)) (Ae (by kernel_rfl)) ⟨Tryz.func125, rfl, by kernel_rfl, rfl⟩ (fun x => by exact V5 x)
noncomputable def CI (a0 : Int) : Option (Bool) :=
 some (a0 != a0)
noncomputable def IV : Ent := ⟨FE, fun x => CI x⟩
noncomputable def IR : TX := ⟨tyTab, codTab, [], [4], [], FE⟩
set_option maxHeartbeats 2000000 in
theorem Qr (a0 : Int) : wtF IR Tryz.f283 (a0) = CI a0 := by kernel_rfl
theorem OT : EntOK RR IV := Ab (X := IR) ⟨tyOK, boolOK, eqOK⟩ (Ad (by exact trivial)) (Ae (by kernel_rfl)) ⟨Tryz.func283, rfl, by kernel_rfl, rfl⟩ (fun x => by exact Qr x)
noncomputable def Be (a0 : Int) (a1 : Int) : Option (Int) :=
 ((CI a0)).bind fun x0 =>
 ((CI a1)).bind fun x1 =>
 bif x0 then
  bif x1 then
   some (0 : Int)
  else
  some (-(1 : Int))
 else
 bif x1 then
  some (1 : Int)
 else
 bif decide (a0 < a1) then
  some (-(1 : Int))
 else
 bif decide (a0 > a1) then
  some (1 : Int)
 else
 some (0 : Int)
noncomputable def En : Ent := ⟨Ez, fun x => Be x.1 x.2⟩
noncomputable def G6 : TX := ⟨tyTab, codTab, [], [4], [IV], Ez⟩
set_option maxHeartbeats 2000000 in
theorem M6 (a0 : Int) (a1 : Int) : wtF G6 Tryz.f239 (a0, a1) = Be a0 a1 := by kernel_rfl
theorem GT : EntOK RR En := Ab (X := G6) ⟨tyOK, boolOK, eqOK⟩ (Ad (by exact ⟨⟨OT, rfl⟩, trivial⟩)) (Ae (by kernel_rfl)) ⟨Tryz.func239, rfl, by kernel_rfl, rfl⟩ (fun x => by exact M6 x.1 x.2)
noncomputable def AH (s0 : (List Int)) (s1 : (List Int)) (s2 : Int) : Option (((List Int) × ((List Int) × Int)) ⊕ (Unit ⊕ Int)) :=
 bif decide (s2 ≥ (0 : Int)) then
  ((getI s0 s2)).bind fun x0 =>
  ((getI s1 s2)).bind fun x1 =>
  bif (x0 != x1) then
   ((getI s0 s2)).bind fun x2 =>
   ((getI s1 s2)).bind fun x3 =>
   ((Be x2 x3)).bind fun x4 =>
   some (Sum.inr (Sum.inr x4))
  else
  some (Sum.inl (s0, (s1, (Go.IntKind.wrap Go.IntKind.i64 (s2 - (1 : Int))))))
 else
 some (Sum.inr (Sum.inl ()))
noncomputable def A7 (a0 : (List Int)) (a1 : (List Int)) : Option (Int) :=
 bif ((((List.length a0) : Nat) : Int) != (((List.length a1) : Nat) : Int)) then
  ((Be (((List.length a0) : Nat) : Int) (((List.length a1) : Nat) : Int))).bind fun x0 =>
  some x0
 else
 (loopM (fun (s : ((List Int) × ((List Int) × Int))) => AH s.1 s.2.1 s.2.2) (a0, (a1, (Go.IntKind.wrap Go.IntKind.i64 ((((List.length a0) : Nat) : Int) - (1 : Int)))))).bind fun x1 =>
 Sum.elim
  (fun x2 =>
  some (0 : Int))
  (fun x3 =>
  some x3)
  x1
noncomputable def Dd : Ent := ⟨ES, fun x => A7 x.1 x.2⟩
noncomputable def HG : TX := ⟨tyTab, codTab, [], [4], [En], ES⟩
set_option maxHeartbeats 2000000 in
theorem Ou (a0 : List (Int)) (a1 : List (Int)) : wtF HG Tryz.f139 (a0, a1) = A7 a0 a1 := by kernel_rfl
theorem Ew : EntOK RR Dd := Ab (X := HG) ⟨tyOK, boolOK, eqOK⟩ (Ad (by exact ⟨⟨GT, rfl⟩, trivial⟩)) (Ae (by kernel_rfl)) ⟨Tryz.func139, rfl, by kernel_rfl, rfl⟩ (fun x => by exact Ou x.1 x.2)
noncomputable def K6 (s0 : (List Int)) (s1 : Int) : Option (((List Int) × Int) ⊕ ((List Int) × Int)) :=
 bif decide (s1 > (0 : Int)) then
  ((getI s0 (Go.IntKind.wrap Go.IntKind.i64 (s1 - (1 : Int))))).bind fun x0 =>
  bif (x0 == (0 : Int)) then
   some (Sum.inl (s0, (Go.IntKind.wrap Go.IntKind.i64 (s1 - (1 : Int)))))
  else
  some (Sum.inr (s0, s1))
 else
 some (Sum.inr (s0, s1))
noncomputable def Fd (a0 : (List Int)) : Option (List (Int)) :=
 (loopM (fun (s : ((List Int) × Int)) => K6 s.1 s.2) (a0, (((List.length a0) : Nat) : Int))).bind fun x0 =>
 ((subI (0 : Int) x0.2 (List.length x0.1))).bind fun x1 =>
 some (List.drop x1.1 (List.take x1.2 x0.1))
noncomputable def MZ : Ent := ⟨Wd, fun x => Fd x⟩
noncomputable def Ag5 : TX := ⟨tyTab, codTab, [], [4], [], Wd⟩
set_option maxHeartbeats 2000000 in
theorem AB8 (a0 : List (Int)) : wtF Ag5 Tryz.f278 (a0) = Fd a0 := by kernel_rfl
theorem Nz : EntOK RR MZ := Ab (X := Ag5) ⟨tyOK, boolOK, eqOK⟩ (Ad (by exact trivial)) (Ae (by kernel_rfl)) ⟨Tryz.func278, rfl, by kernel_rfl, rfl⟩ (fun x => by exact AB8 x)
noncomputable def CZ (s0 : (List Int)) (s1 : (List Int)) (s2 : Int) (s3 : Int) (s4 : Int) : Option (((List Int) × ((List Int) × (Int × (Int × Int)))) ⊕ ((List Int) × Int)) :=
 bif decide (s4 ≥ (0 : Int)) then
  ((getI s1 s4)).bind fun x0 =>
  bif (s2 == (0 : Int)) then
   none
  else
  ((idxI s4 (List.length s0))).bind fun x1 =>
  ((getN s0 x1)).bind fun x2 =>
  bif (s2 == (0 : Int)) then
   none
  else
  some (Sum.inl ((List.set s0 x1 (Go.IntKind.wrap Go.IntKind.i64 (Int.tdiv (Go.IntKind.wrap Go.IntKind.i64 ((Go.IntKind.wrap Go.IntKind.i64 (s3 * (65536 : Int))) + x0)) s2))), (s1, (s2, ((Int.tmod (Go.IntKind.wrap Go.IntKind.i64 ((Go.IntKind.wrap Go.IntKind.i64 (s3 * (65536 : Int))) + x0)) s2), (Go.IntKind.wrap Go.IntKind.i64 (s4 - (1 : Int))))))))
 else
 some (Sum.inr (s0, s3))
noncomputable def Df (a0 : (List Int)) (a1 : Int) : Option (List (Int) × Int) :=
 ((lenI (((List.length a0) : Nat) : Int) 8 1)).bind fun x0 =>
 (loopM (fun (s : ((List Int) × ((List Int) × (Int × (Int × Int))))) => CZ s.1 s.2.1 s.2.2.1 s.2.2.2.1 s.2.2.2.2) ((List.replicate x0 (0 : Int)), (a0, (a1, ((0 : Int), (Go.IntKind.wrap Go.IntKind.i64 ((((List.length a0) : Nat) : Int) - (1 : Int)))))))).bind fun x1 =>
 ((Fd x1.1)).bind fun x2 =>
 some (x2, x1.2)
noncomputable def Mk : Ent := ⟨H3, fun x => Df x.1 x.2⟩
noncomputable def Mr : TX := ⟨tyTab, codTab, [], [4], [MZ], H3⟩
set_option maxHeartbeats 2000000 in
theorem WS (a0 : List (Int)) (a1 : Int) : wtF Mr Tryz.f296 (a0, a1) = Df a0 a1 := by kernel_rfl
theorem Tx : EntOK RR Mk := Ab (X := Mr) ⟨tyOK, boolOK, eqOK⟩ (Ad (by exact ⟨⟨Nz, rfl⟩, trivial⟩)) (Ae (by kernel_rfl)) ⟨Tryz.func296, rfl, by kernel_rfl, rfl⟩ (fun x => by exact WS x.1 x.2)
noncomputable def Bd (a0 : (List Int)) : Option (List (Int)) :=
 ((neL a0)).bind fun x0 =>
 bif (roomI (List.length a0) 8 1) then
  some a0
 else
 none
noncomputable def Gw : Ent := ⟨A9, fun x => Bd x⟩
noncomputable def Em : TX := ⟨tyTab, codTab, [], [4], [], A9⟩
set_option maxHeartbeats 2000000 in
theorem HY (a0 : List (Int)) : wtF Em Tryz.f277 a0 = Bd a0 := by kernel_rfl
theorem GY : EntOK (Runs Tryz.prog cfC noExt) Gw := Ab (X := Em) ⟨tyOK, boolOK, eqOK⟩ (Av0 rfl) (Ae (by kernel_rfl)) ⟨Tryz.func277, rfl, by kernel_rfl, rfl⟩ (fun x => by exact HY x)
noncomputable def A8 (a0 : List (Int)) : Option (List (Int)) := orNil Bd a0
noncomputable def Cj : Ent := ⟨A9, fun x => A8 x⟩
theorem DB : EntOK RR Cj := Ak2 GY (.head _)
noncomputable def AO (a0 : Bool) (a1 : (List Int)) : Option (List (Int) × (Bool)) :=
 ((Fd a1)).bind fun x0 =>
 ((A8 x0)).bind fun x1 =>
 bif a0 then
  some (x1, decide ((((List.length x1) : Nat) : Int) > (0 : Int)))
 else
 some (x1, false)
noncomputable def Di : Ent := ⟨Oy, fun x => AO x.1 x.2⟩
noncomputable def UK : TX := ⟨tyTab, codTab, [], [4], [MZ, Cj], Oy⟩
set_option maxHeartbeats 2000000 in
theorem Ap5 (a0 : Bool) (a1 : List (Int)) : wtF UK Tryz.f223 (a0, a1) = AO a0 a1 := by kernel_rfl
theorem C0 : EntOK RR Di := Ab (X := UK) ⟨tyOK, boolOK, eqOK⟩ (Ad (by exact ⟨⟨Nz, rfl⟩, ⟨⟨DB, rfl⟩, trivial⟩⟩)) (Ae (by kernel_rfl)) ⟨Tryz.func223, rfl, by kernel_rfl, rfl⟩ (fun x => by exact Ap5 x.1 x.2)
noncomputable def Ha (s0 : (Bool × (List Int))) (s1 : (List Int)) (s2 : Bool) (s3 : Int) : Option (((Bool × (List Int)) × ((List Int) × (Bool × Int))) ⊕ ((Bool × (List Int)) × ((List Int) × Bool))) :=
 bif decide (s3 > (0 : Int)) then
  ((appL 8 1 s1 (List.cons (Go.IntKind.wrap Go.IntKind.i64 (Int.tmod s3 (65536 : Int))) (List.nil : List Int)))).bind fun x0 =>
  some (Sum.inl ((s0.1, s0.2), (x0, (s2, (Go.IntKind.wrap Go.IntKind.u64 (Int.tdiv s3 (65536 : Int)))))))
 else
 some (Sum.inr ((s0.1, s0.2), (s1, s2)))
noncomputable def CL (a0 : Int) : Option ((Bool × List (Int))) :=
 (bif decide (a0 < (0 : Int)) then
   some (Sum.inr ((false, (List.nil : List Int)), (decide (a0 < (0 : Int)), (Go.IntKind.wrap Go.IntKind.u64 ((0 : Int) - (Go.IntKind.wrap Go.IntKind.u64 a0))))))
  else
  some (Sum.inr ((false, (List.nil : List Int)), (decide (a0 < (0 : Int)), (Go.IntKind.wrap Go.IntKind.u64 a0))))).bind fun x0 =>
 Sum.elim
  (fun x1 =>
  some x1)
  (fun x2 =>
  (loopM (fun (s : ((Bool × (List Int)) × ((List Int) × (Bool × Int)))) => Ha s.1 s.2.1 s.2.2.1 s.2.2.2) ((x2.1.1, x2.1.2), ((List.nil : List Int), (x2.2.1, x2.2.2)))).bind fun x3 =>
  some (x3.2.2, x3.2.1))
  x0
noncomputable def K4 : Ent := ⟨Om, fun x => CL x⟩
noncomputable def U8 : TX := ⟨tyTab, codTab, [], [4], [], Om⟩
set_option maxHeartbeats 2000000 in
theorem Aj4 (a0 : Int) : wtF U8 Tryz.f25 (a0) = CL a0 := by kernel_rfl
theorem Lt : EntOK RR K4 := Ab (X := U8) ⟨tyOK, boolOK, eqOK⟩ (Ad (by exact trivial)) (Ae (by kernel_rfl)) ⟨Tryz.func25, rfl, by kernel_rfl, rfl⟩ (fun x => by exact Aj4 x)
noncomputable def DF (s0 : (Bool × (List Int))) (s1 : (Bool × (List Int))) (s2 : (Bool × (List Int))) (s3 : (List Int)) (s4 : Int) (s5 : Int) (s6 : Int) (s7 : (List Int)) (s8 : Int) (s9 : Int) (s10 : (List Int)) (s11 : Int) (s12 : Int) : Option (((Bool × (List Int)) × ((Bool × (List Int)) × ((Bool × (List Int)) × ((List Int) × (Int × (Int × (Int × ((List Int) × (Int × (Int × ((List Int) × (Int × Int)))))))))))) ⊕ ((Bool × (List Int)) × ((Bool × (List Int)) × ((Bool × (List Int)) × ((List Int) × (Int × (Int × ((List Int) × (Int × Int))))))))) :=
 bif decide (s12 < s11) then
  ((getI s10 s12)).bind fun x0 =>
  ((idxI (Go.IntKind.wrap Go.IntKind.i64 (s4 + s12)) (List.length s3))).bind fun x1 =>
  ((getN s3 x1)).bind fun x2 =>
  ((idxI (Go.IntKind.wrap Go.IntKind.i64 (s4 + s12)) (List.length s3))).bind fun x3 =>
  ((getN s3 x3)).bind fun x4 =>
  some (Sum.inl ((s0.1, s0.2), ((s1.1, s1.2), ((s2.1, s2.2), ((List.set s3 x3 (Int.tmod (Go.IntKind.wrap Go.IntKind.i64 (s6 + (Go.IntKind.wrap Go.IntKind.i64 (x2 + (Go.IntKind.wrap Go.IntKind.i64 (s5 * x0)))))) (65536 : Int))), (s4, (s5, ((Go.IntKind.wrap Go.IntKind.i64 (Int.tdiv (Go.IntKind.wrap Go.IntKind.i64 (s6 + (Go.IntKind.wrap Go.IntKind.i64 (x2 + (Go.IntKind.wrap Go.IntKind.i64 (s5 * x0)))))) (65536 : Int))), (s7, (s8, (s9, (s10, (s11, (Go.IntKind.wrap Go.IntKind.i64 (s12 + (1 : Int))))))))))))))))
 else
 some (Sum.inr ((s0.1, s0.2), ((s1.1, s1.2), ((s2.1, s2.2), (s3, (s4, (s6, (s7, (s8, s9)))))))))
noncomputable def Fl (s0 : (Bool × (List Int))) (s1 : (Bool × (List Int))) (s2 : (Bool × (List Int))) (s3 : (List Int)) (s4 : (List Int)) (s5 : Int) (s6 : Int) : Option (((Bool × (List Int)) × ((Bool × (List Int)) × ((Bool × (List Int)) × ((List Int) × ((List Int) × (Int × Int)))))) ⊕ ((Bool × (List Int)) × ((Bool × (List Int)) × ((Bool × (List Int)) × (List Int))))) :=
 bif decide (s6 < s5) then
  ((getI s4 s6)).bind fun x0 =>
  (loopM (fun (s : ((Bool × (List Int)) × ((Bool × (List Int)) × ((Bool × (List Int)) × ((List Int) × (Int × (Int × (Int × ((List Int) × (Int × (Int × ((List Int) × (Int × Int))))))))))))) => DF s.1 s.2.1 s.2.2.1 s.2.2.2.1 s.2.2.2.2.1 s.2.2.2.2.2.1 s.2.2.2.2.2.2.1 s.2.2.2.2.2.2.2.1 s.2.2.2.2.2.2.2.2.1 s.2.2.2.2.2.2.2.2.2.1 s.2.2.2.2.2.2.2.2.2.2.1 s.2.2.2.2.2.2.2.2.2.2.2.1 s.2.2.2.2.2.2.2.2.2.2.2.2) ((s0.1, s0.2), ((s1.1, s1.2), ((s2.1, s2.2), (s3, (s6, (x0, ((0 : Int), (s4, (s5, (s6, (s1.2, ((((List.length s1.2) : Nat) : Int), (0 : Int)))))))))))))).bind fun x1 =>
  ((idxI (Go.IntKind.wrap Go.IntKind.i64 (x1.2.2.2.2.1 + (((List.length x1.2.1.2) : Nat) : Int))) (List.length x1.2.2.2.1))).bind fun x2 =>
  ((getN x1.2.2.2.1 x2)).bind fun x3 =>
  ((idxI (Go.IntKind.wrap Go.IntKind.i64 (x1.2.2.2.2.1 + (((List.length x1.2.1.2) : Nat) : Int))) (List.length x1.2.2.2.1))).bind fun x4 =>
  ((getN x1.2.2.2.1 x4)).bind fun x5 =>
  some (Sum.inl ((x1.1.1, x1.1.2), ((x1.2.1.1, x1.2.1.2), ((x1.2.2.1.1, x1.2.2.1.2), ((List.set x1.2.2.2.1 x4 (Go.IntKind.wrap Go.IntKind.i64 (x3 + x1.2.2.2.2.2.1))), (x1.2.2.2.2.2.2.1, (x1.2.2.2.2.2.2.2.1, (Go.IntKind.wrap Go.IntKind.i64 (x1.2.2.2.2.2.2.2.2 + (1 : Int))))))))))
 else
 some (Sum.inr ((s0.1, s0.2), ((s1.1, s1.2), ((s2.1, s2.2), s3))))
noncomputable def AU (a0 : (Bool × (List Int))) (a1 : (Bool × (List Int))) : Option (List (Int) × (Bool)) :=
 ((lenI (Go.IntKind.wrap Go.IntKind.i64 ((((List.length a0.2) : Nat) : Int) + (((List.length a1.2) : Nat) : Int))) 8 1)).bind fun x0 =>
 (loopM (fun (s : ((Bool × (List Int)) × ((Bool × (List Int)) × ((Bool × (List Int)) × ((List Int) × ((List Int) × (Int × Int))))))) => Fl s.1 s.2.1 s.2.2.1 s.2.2.2.1 s.2.2.2.2.1 s.2.2.2.2.2.1 s.2.2.2.2.2.2) ((a0.1, a0.2), ((a1.1, a1.2), ((false, (List.nil : List Int)), ((List.replicate x0 (0 : Int)), (a0.2, ((((List.length a0.2) : Nat) : Int), (0 : Int)))))))).bind fun x1 =>
 ((AO (!(x1.1.1 == x1.2.1.1)) x1.2.2.2)).bind fun x2 =>
 some (x2.1, x2.2)
noncomputable def DY : Ent := ⟨J5, fun x => AU x.1 x.2⟩
noncomputable def PV : TX := ⟨tyTab, codTab, [], [4], [Di], J5⟩
set_option maxHeartbeats 2000000 in
theorem W2 (a0 : (Bool × List (Int))) (a1 : (Bool × List (Int))) : wtF PV Tryz.f224 (a0, a1) = AU a0 a1 := by kernel_rfl
theorem Er : EntOK RR DY := Ab (X := PV) ⟨tyOK, boolOK, eqOK⟩ (Ad (by exact ⟨⟨C0, rfl⟩, trivial⟩)) (Ae (by kernel_rfl)) ⟨Tryz.func224, rfl, by kernel_rfl, rfl⟩ (fun x => by exact W2 x.1 x.2)
noncomputable def Jv (s0 : (List Int)) (s1 : (List Int)) (s2 : (List Int)) (s3 : Int) (s4 : Int) : Option (((List Int) × ((List Int) × ((List Int) × (Int × Int)))) ⊕ ((List Int) × ((List Int) × (Int × Int)))) :=
 bif decide ((((List.length s0) : Nat) : Int) < (Go.IntKind.wrap Go.IntKind.i64 ((((List.length s2) : Nat) : Int) + (1 : Int)))) then
  ((appL 8 1 s0 (List.cons (0 : Int) (List.nil : List Int)))).bind fun x0 =>
  some (Sum.inl (x0, (s1, (s2, (s3, s4)))))
 else
 some (Sum.inr (s0, (s1, (s3, s4))))
noncomputable def BS (s0 : (List Int)) (s1 : (List Int)) (s2 : (List Int)) (s3 : Int) (s4 : Int) (s5 : Int) (s6 : Int) (s7 : Int) : Option (((List Int) × ((List Int) × ((List Int) × (Int × (Int × (Int × (Int × Int))))))) ⊕ ((List Int) × ((List Int) × ((List Int) × (Int × (Int × (Int × Int))))))) :=
 (bif decide (s6 ≥ (65536 : Int)) then
   some (Sum.inr (s0, (s1, (s2, (s3, (s4, (s5, (s6, s7))))))))
  else
  bif decide (s7 < (65536 : Int)) then
   ((idxI (Go.IntKind.wrap Go.IntKind.i64 (s3 - (2 : Int))) (List.length s1))).bind fun x0 =>
   ((getN s1 x0)).bind fun x1 =>
   ((idxI (Go.IntKind.wrap Go.IntKind.i64 ((Go.IntKind.wrap Go.IntKind.i64 (s5 + s3)) - (2 : Int))) (List.length s0))).bind fun x2 =>
   ((getN s0 x2)).bind fun x3 =>
   bif decide ((Go.IntKind.wrap Go.IntKind.i64 (s6 * x1)) > (Go.IntKind.wrap Go.IntKind.i64 ((Go.IntKind.wrap Go.IntKind.i64 (s7 * (65536 : Int))) + x3))) then
    some (Sum.inr (s0, (s1, (s2, (s3, (s4, (s5, (s6, s7))))))))
   else
   some (Sum.inl (Sum.inr (s0, (s1, (s2, (s3, (s4, (s5, s6))))))))
  else
  some (Sum.inl (Sum.inr (s0, (s1, (s2, (s3, (s4, (s5, s6))))))))).bind fun x4 =>
 Sum.elim
  (fun x5 =>
  some x5)
  (fun x6 =>
  ((idxI (Go.IntKind.wrap Go.IntKind.i64 (x6.2.2.2.1 - (1 : Int))) (List.length x6.2.1))).bind fun x7 =>
  ((getN x6.2.1 x7)).bind fun x8 =>
  some (Sum.inl (x6.1, (x6.2.1, (x6.2.2.1, (x6.2.2.2.1, (x6.2.2.2.2.1, (x6.2.2.2.2.2.1, ((Go.IntKind.wrap Go.IntKind.i64 (x6.2.2.2.2.2.2.1 - (1 : Int))), (Go.IntKind.wrap Go.IntKind.i64 (x6.2.2.2.2.2.2.2 + x8)))))))))))
  x4
noncomputable def C9 (s0 : (List Int)) (s1 : (List Int)) (s2 : (List Int)) (s3 : Int) (s4 : Int) (s5 : Int) (s6 : Int) (s7 : Int) (s8 : Int) (s9 : Int) : Option (((List Int) × ((List Int) × ((List Int) × (Int × (Int × (Int × (Int × (Int × (Int × Int))))))))) ⊕ ((List Int) × ((List Int) × ((List Int) × (Int × (Int × (Int × (Int × Int)))))))) :=
 bif decide (s9 < s8) then
  ((idxI (Go.IntKind.wrap Go.IntKind.i64 (s5 + s9)) (List.length s0))).bind fun x0 =>
  ((getN s0 x0)).bind fun x1 =>
  ((idxI s9 (List.length s1))).bind fun x2 =>
  ((getN s1 x2)).bind fun x3 =>
  (bif decide ((Go.IntKind.wrap Go.IntKind.i64 ((Go.IntKind.wrap Go.IntKind.i64 (x1 - (Go.IntKind.wrap Go.IntKind.i64 (s6 * x3)))) - s7)) < (0 : Int)) then
    some (Sum.inr (s0, (s1, (s2, (s3, (s4, (s5, (s6, ((Go.IntKind.wrap Go.IntKind.i64 (Int.tdiv (Go.IntKind.wrap Go.IntKind.i64 ((Go.IntKind.wrap Go.IntKind.i64 ((Go.IntKind.wrap Go.IntKind.i64 ((0 : Int) - (Go.IntKind.wrap Go.IntKind.i64 ((Go.IntKind.wrap Go.IntKind.i64 (x1 - (Go.IntKind.wrap Go.IntKind.i64 (s6 * x3)))) - s7)))) + (65536 : Int))) - (1 : Int))) (65536 : Int))), (s9, ((Go.IntKind.wrap Go.IntKind.i64 ((Go.IntKind.wrap Go.IntKind.i64 ((Go.IntKind.wrap Go.IntKind.i64 (x1 - (Go.IntKind.wrap Go.IntKind.i64 (s6 * x3)))) - s7)) + (Go.IntKind.wrap Go.IntKind.i64 ((Go.IntKind.wrap Go.IntKind.i64 (Int.tdiv (Go.IntKind.wrap Go.IntKind.i64 ((Go.IntKind.wrap Go.IntKind.i64 ((Go.IntKind.wrap Go.IntKind.i64 ((0 : Int) - (Go.IntKind.wrap Go.IntKind.i64 ((Go.IntKind.wrap Go.IntKind.i64 (x1 - (Go.IntKind.wrap Go.IntKind.i64 (s6 * x3)))) - s7)))) + (65536 : Int))) - (1 : Int))) (65536 : Int))) * (65536 : Int))))), (s8, s9))))))))))))
   else
   some (Sum.inr (s0, (s1, (s2, (s3, (s4, (s5, (s6, ((0 : Int), (s9, ((Go.IntKind.wrap Go.IntKind.i64 ((Go.IntKind.wrap Go.IntKind.i64 (x1 - (Go.IntKind.wrap Go.IntKind.i64 (s6 * x3)))) - s7)), (s8, s9))))))))))))).bind fun x4 =>
  Sum.elim
   (fun x5 =>
   some x5)
   (fun x6 =>
   ((idxI (Go.IntKind.wrap Go.IntKind.i64 (x6.2.2.2.2.2.1 + x6.2.2.2.2.2.2.2.2.1)) (List.length x6.1))).bind fun x7 =>
   ((getN x6.1 x7)).bind fun x8 =>
   some (Sum.inl ((List.set x6.1 x7 x6.2.2.2.2.2.2.2.2.2.1), (x6.2.1, (x6.2.2.1, (x6.2.2.2.1, (x6.2.2.2.2.1, (x6.2.2.2.2.2.1, (x6.2.2.2.2.2.2.1, (x6.2.2.2.2.2.2.2.1, (x6.2.2.2.2.2.2.2.2.2.2.1, (Go.IntKind.wrap Go.IntKind.i64 (x6.2.2.2.2.2.2.2.2.2.2.2 + (1 : Int))))))))))))))
   x4
 else
 some (Sum.inr (s0, (s1, (s2, (s3, (s4, (s5, (s6, s7))))))))
noncomputable def CW (s0 : (List Int)) (s1 : (List Int)) (s2 : (List Int)) (s3 : Int) (s4 : Int) (s5 : Int) (s6 : Int) (s7 : Int) (s8 : Int) (s9 : Int) : Option (((List Int) × ((List Int) × ((List Int) × (Int × (Int × (Int × (Int × (Int × (Int × Int))))))))) ⊕ ((List Int) × ((List Int) × ((List Int) × (Int × (Int × (Int × (Int × Int)))))))) :=
 bif decide (s9 < s8) then
  ((idxI (Go.IntKind.wrap Go.IntKind.i64 (s5 + s9)) (List.length s0))).bind fun x0 =>
  ((getN s0 x0)).bind fun x1 =>
  ((idxI s9 (List.length s1))).bind fun x2 =>
  ((getN s1 x2)).bind fun x3 =>
  ((idxI (Go.IntKind.wrap Go.IntKind.i64 (s5 + s9)) (List.length s0))).bind fun x4 =>
  ((getN s0 x4)).bind fun x5 =>
  some (Sum.inl ((List.set s0 x4 (Int.tmod (Go.IntKind.wrap Go.IntKind.i64 (s7 + (Go.IntKind.wrap Go.IntKind.i64 (x1 + x3)))) (65536 : Int))), (s1, (s2, (s3, (s4, (s5, (s6, ((Go.IntKind.wrap Go.IntKind.i64 (Int.tdiv (Go.IntKind.wrap Go.IntKind.i64 (s7 + (Go.IntKind.wrap Go.IntKind.i64 (x1 + x3)))) (65536 : Int))), (s8, (Go.IntKind.wrap Go.IntKind.i64 (s9 + (1 : Int)))))))))))))
 else
 some (Sum.inr (s0, (s1, (s2, (s3, (s4, (s5, (s6, s7))))))))
noncomputable def BN (s0 : (List Int)) (s1 : (List Int)) (s2 : (List Int)) (s3 : Int) (s4 : Int) (s5 : Int) : Option (((List Int) × ((List Int) × ((List Int) × (Int × (Int × Int))))) ⊕ ((List Int) × ((List Int) × (Int × Int)))) :=
 bif decide (s5 ≥ (0 : Int)) then
  ((idxI (Go.IntKind.wrap Go.IntKind.i64 (s5 + s3)) (List.length s0))).bind fun x0 =>
  ((getN s0 x0)).bind fun x1 =>
  ((idxI (Go.IntKind.wrap Go.IntKind.i64 ((Go.IntKind.wrap Go.IntKind.i64 (s5 + s3)) - (1 : Int))) (List.length s0))).bind fun x2 =>
  ((getN s0 x2)).bind fun x3 =>
  ((idxI (Go.IntKind.wrap Go.IntKind.i64 (s3 - (1 : Int))) (List.length s1))).bind fun x4 =>
  ((getN s1 x4)).bind fun x5 =>
  bif (x5 == (0 : Int)) then
   none
  else
  ((idxI (Go.IntKind.wrap Go.IntKind.i64 (s3 - (1 : Int))) (List.length s1))).bind fun x6 =>
  ((getN s1 x6)).bind fun x7 =>
  bif (x7 == (0 : Int)) then
   none
  else
  (loopM (fun (s : ((List Int) × ((List Int) × ((List Int) × (Int × (Int × (Int × (Int × Int)))))))) => BS s.1 s.2.1 s.2.2.1 s.2.2.2.1 s.2.2.2.2.1 s.2.2.2.2.2.1 s.2.2.2.2.2.2.1 s.2.2.2.2.2.2.2) (s0, (s1, (s2, (s3, (s4, (s5, ((Go.IntKind.wrap Go.IntKind.i64 (Int.tdiv (Go.IntKind.wrap Go.IntKind.i64 ((Go.IntKind.wrap Go.IntKind.i64 (x1 * (65536 : Int))) + x3)) x5)), (Int.tmod (Go.IntKind.wrap Go.IntKind.i64 ((Go.IntKind.wrap Go.IntKind.i64 (x1 * (65536 : Int))) + x3)) x7))))))))).bind fun x8 =>
  (loopM (fun (s : ((List Int) × ((List Int) × ((List Int) × (Int × (Int × (Int × (Int × (Int × (Int × Int)))))))))) => C9 s.1 s.2.1 s.2.2.1 s.2.2.2.1 s.2.2.2.2.1 s.2.2.2.2.2.1 s.2.2.2.2.2.2.1 s.2.2.2.2.2.2.2.1 s.2.2.2.2.2.2.2.2.1 s.2.2.2.2.2.2.2.2.2) (x8.1, (x8.2.1, (x8.2.2.1, (x8.2.2.2.1, (x8.2.2.2.2.1, (x8.2.2.2.2.2.1, (x8.2.2.2.2.2.2, ((0 : Int), (x8.2.2.2.1, (0 : Int))))))))))).bind fun x9 =>
  ((idxI (Go.IntKind.wrap Go.IntKind.i64 (x9.2.2.2.2.2.1 + x9.2.2.2.1)) (List.length x9.1))).bind fun x10 =>
  ((getN x9.1 x10)).bind fun x11 =>
  ((idxI (Go.IntKind.wrap Go.IntKind.i64 (x9.2.2.2.2.2.1 + x9.2.2.2.1)) (List.length x9.1))).bind fun x12 =>
  ((getN x9.1 x12)).bind fun x13 =>
  ((idxI (Go.IntKind.wrap Go.IntKind.i64 (x9.2.2.2.2.2.1 + x9.2.2.2.1)) (List.length (List.set x9.1 x12 (Go.IntKind.wrap Go.IntKind.i64 (x11 - x9.2.2.2.2.2.2.2)))))).bind fun x14 =>
  ((getN (List.set x9.1 x12 (Go.IntKind.wrap Go.IntKind.i64 (x11 - x9.2.2.2.2.2.2.2))) x14)).bind fun x15 =>
  bif decide (x15 < (0 : Int)) then
   (loopM (fun (s : ((List Int) × ((List Int) × ((List Int) × (Int × (Int × (Int × (Int × (Int × (Int × Int)))))))))) => CW s.1 s.2.1 s.2.2.1 s.2.2.2.1 s.2.2.2.2.1 s.2.2.2.2.2.1 s.2.2.2.2.2.2.1 s.2.2.2.2.2.2.2.1 s.2.2.2.2.2.2.2.2.1 s.2.2.2.2.2.2.2.2.2) ((List.set x9.1 x12 (Go.IntKind.wrap Go.IntKind.i64 (x11 - x9.2.2.2.2.2.2.2))), (x9.2.1, (x9.2.2.1, (x9.2.2.2.1, (x9.2.2.2.2.1, (x9.2.2.2.2.2.1, ((Go.IntKind.wrap Go.IntKind.i64 (x9.2.2.2.2.2.2.1 - (1 : Int))), ((0 : Int), (x9.2.2.2.1, (0 : Int))))))))))).bind fun x16 =>
   ((idxI (Go.IntKind.wrap Go.IntKind.i64 (x16.2.2.2.2.2.1 + x16.2.2.2.1)) (List.length x16.1))).bind fun x17 =>
   ((getN x16.1 x17)).bind fun x18 =>
   ((idxI (Go.IntKind.wrap Go.IntKind.i64 (x16.2.2.2.2.2.1 + x16.2.2.2.1)) (List.length x16.1))).bind fun x19 =>
   ((getN x16.1 x19)).bind fun x20 =>
   ((idxI x16.2.2.2.2.2.1 (List.length x16.2.2.1))).bind fun x21 =>
   ((getN x16.2.2.1 x21)).bind fun x22 =>
   some (Sum.inl ((List.set x16.1 x19 (Go.IntKind.wrap Go.IntKind.i64 (x18 + x16.2.2.2.2.2.2.2))), (x16.2.1, ((List.set x16.2.2.1 x21 x16.2.2.2.2.2.2.1), (x16.2.2.2.1, (x16.2.2.2.2.1, (Go.IntKind.wrap Go.IntKind.i64 (x16.2.2.2.2.2.1 - (1 : Int)))))))))
  else
  ((idxI x9.2.2.2.2.2.1 (List.length x9.2.2.1))).bind fun x23 =>
  ((getN x9.2.2.1 x23)).bind fun x24 =>
  some (Sum.inl ((List.set x9.1 x12 (Go.IntKind.wrap Go.IntKind.i64 (x11 - x9.2.2.2.2.2.2.2))), (x9.2.1, ((List.set x9.2.2.1 x23 x9.2.2.2.2.2.2.1), (x9.2.2.2.1, (x9.2.2.2.2.1, (Go.IntKind.wrap Go.IntKind.i64 (x9.2.2.2.2.2.1 - (1 : Int)))))))))
 else
 some (Sum.inr (s0, (s2, (s3, s4))))
noncomputable def Dj (a0 : (List Int)) (a1 : (List Int)) : Option (List (Int) × List (Int)) :=
 ((A7 a0 a1)).bind fun x0 =>
 bif decide (x0 < (0 : Int)) then
  some ((List.nil : List Int), a0)
 else
 bif ((((List.length a1) : Nat) : Int) == (1 : Int)) then
  ((getI a1 (0 : Int))).bind fun x1 =>
  ((Df a0 x1)).bind fun x2 =>
  ((Fd (List.cons x2.2 (List.nil : List Int)))).bind fun x3 =>
  some (x2.1, x3)
 else
 ((getI a1 (Go.IntKind.wrap Go.IntKind.i64 ((((List.length a1) : Nat) : Int) - (1 : Int))))).bind fun x4 =>
 bif ((Go.IntKind.wrap Go.IntKind.i64 (x4 + (1 : Int))) == (0 : Int)) then
  none
 else
 ((AO false a0)).bind fun x5 =>
 ((CL (Go.IntKind.wrap Go.IntKind.i64 (Int.tdiv (65536 : Int) (Go.IntKind.wrap Go.IntKind.i64 (x4 + (1 : Int))))))).bind fun x6 =>
 ((AU (x5.2, x5.1) (x6.1, x6.2))).bind fun x7 =>
 ((appL 8 1 x7.1 (List.cons (0 : Int) (List.nil : List Int)))).bind fun x8 =>
 ((AO false a1)).bind fun x9 =>
 ((CL (Go.IntKind.wrap Go.IntKind.i64 (Int.tdiv (65536 : Int) (Go.IntKind.wrap Go.IntKind.i64 (x4 + (1 : Int))))))).bind fun x10 =>
 ((AU (x9.2, x9.1) (x10.1, x10.2))).bind fun x11 =>
 (loopM (fun (s : ((List Int) × ((List Int) × ((List Int) × (Int × Int))))) => Jv s.1 s.2.1 s.2.2.1 s.2.2.2.1 s.2.2.2.2) (x8, (x11.1, (a0, ((((List.length a1) : Nat) : Int), (Go.IntKind.wrap Go.IntKind.i64 (Int.tdiv (65536 : Int) (Go.IntKind.wrap Go.IntKind.i64 (x4 + (1 : Int)))))))))).bind fun x12 =>
 ((lenI (Go.IntKind.wrap Go.IntKind.i64 ((((List.length x12.1) : Nat) : Int) - x12.2.2.1)) 8 1)).bind fun x13 =>
 (loopM (fun (s : ((List Int) × ((List Int) × ((List Int) × (Int × (Int × Int)))))) => BN s.1 s.2.1 s.2.2.1 s.2.2.2.1 s.2.2.2.2.1 s.2.2.2.2.2) (x12.1, (x12.2.1, ((List.replicate x13 (0 : Int)), (x12.2.2.1, (x12.2.2.2, (Go.IntKind.wrap Go.IntKind.i64 ((Go.IntKind.wrap Go.IntKind.i64 ((((List.length x12.1) : Nat) : Int) - x12.2.2.1)) - (1 : Int))))))))).bind fun x14 =>
 ((subI (0 : Int) x14.2.2.1 (List.length x14.1))).bind fun x15 =>
 ((Fd (List.drop x15.1 (List.take (x15.1 + (x15.2 - x15.1)) x14.1)))).bind fun x16 =>
 ((Df x16 x14.2.2.2)).bind fun x17 =>
 ((Fd x14.2.1)).bind fun x18 =>
 some (x18, x17.1)
noncomputable def Ii : Ent := ⟨IA, fun x => Dj x.1 x.2⟩
noncomputable def Mv : TX := ⟨tyTab, codTab, [], [4], [Dd, Mk, MZ, Di, K4, DY], IA⟩
set_option maxHeartbeats 2000000 in
theorem Wv (a0 : List (Int)) (a1 : List (Int)) : wtF Mv Tryz.f275 (a0, a1) = Dj a0 a1 := by kernel_rfl
theorem Lb : EntOK RR Ii := Ab (X := Mv) ⟨tyOK, boolOK, eqOK⟩ (Ad (by exact ⟨⟨Ew, rfl⟩, ⟨⟨Tx, rfl⟩, ⟨⟨Nz, rfl⟩, ⟨⟨C0, rfl⟩, ⟨⟨Lt, rfl⟩, ⟨⟨Er, rfl⟩, trivial⟩⟩⟩⟩⟩⟩)) (Ae (by kernel_rfl)) ⟨Tryz.func275, rfl, by kernel_rfl, rfl⟩ (fun x => by exact Wv x.1 x.2)
noncomputable def Fh (s0 : (Bool × (List Int))) (s1 : (List Int)) (s2 : (List Int)) : Option (((Bool × (List Int)) × ((List Int) × (List Int))) ⊕ ((Bool × (List Int)) × (List Int))) :=
 bif decide ((((List.length s2) : Nat) : Int) > (0 : Int)) then
  ((Dj s1 s2)).bind fun x0 =>
  some (Sum.inl ((s0.1, s0.2), (s2, x0.2)))
 else
 some (Sum.inr ((s0.1, s0.2), s1))
noncomputable def D1 (a0 : (Bool × (List Int))) (a1 : (Bool × (List Int))) : Option ((Bool × List (Int))) :=
 (loopM (fun (s : ((Bool × (List Int)) × ((List Int) × (List Int)))) => Fh s.1 s.2.1 s.2.2) ((false, (List.nil : List Int)), (a0.2, a1.2))).bind fun x0 =>
 ((AO false x0.2)).bind fun x1 =>
 some (x1.2, x1.1)
noncomputable def Ja : Ent := ⟨Ke, fun x => D1 x.1 x.2⟩
noncomputable def PP : TX := ⟨tyTab, codTab, [], [4], [Ii, Di], Ke⟩
set_option maxHeartbeats 2000000 in
theorem Xk (a0 : (Bool × List (Int))) (a1 : (Bool × List (Int))) : wtF PP Tryz.f220 (a0, a1) = D1 a0 a1 := by kernel_rfl
theorem Ni : EntOK RR Ja := Ab (X := PP) ⟨tyOK, boolOK, eqOK⟩ (Ad (by exact ⟨⟨Lb, rfl⟩, ⟨⟨C0, rfl⟩, trivial⟩⟩)) (Ae (by kernel_rfl)) ⟨Tryz.func220, rfl, by kernel_rfl, rfl⟩ (fun x => by exact Xk x.1 x.2)
noncomputable def Cr (a0 : (Bool × (List Int))) (a1 : (Bool × (List Int))) : Option (Int) :=
 ((A1 (a0.1, a0.2))).bind fun x0 =>
 ((A1 (a1.1, a1.2))).bind fun x1 =>
 bif (x0 != x1) then
  ((A1 (a0.1, a0.2))).bind fun x2 =>
  ((A1 (a1.1, a1.2))).bind fun x3 =>
  ((Be x2 x3)).bind fun x4 =>
  some x4
 else
 ((A1 (a0.1, a0.2))).bind fun x5 =>
 ((A7 a0.2 a1.2)).bind fun x6 =>
 some (Go.IntKind.wrap Go.IntKind.i64 (x5 * x6))
noncomputable def Gg : Ent := ⟨Gs, fun x => Cr x.1 x.2⟩
noncomputable def JC : TX := ⟨tyTab, codTab, [], [4], [Ic, En, Dd], Gs⟩
set_option maxHeartbeats 2000000 in
theorem Q8 (a0 : (Bool × List (Int))) (a1 : (Bool × List (Int))) : wtF JC Tryz.f219 (a0, a1) = Cr a0 a1 := by kernel_rfl
theorem IP : EntOK RR Gg := Ab (X := JC) ⟨tyOK, boolOK, eqOK⟩ (Ad (by exact ⟨⟨Lg, rfl⟩, ⟨⟨GT, rfl⟩, ⟨⟨Ew, rfl⟩, trivial⟩⟩⟩)) (Ae (by kernel_rfl)) ⟨Tryz.func219, rfl, by kernel_rfl, rfl⟩ (fun x => by exact Q8 x.1 x.2)
noncomputable def Ej (a0 : (Bool × ((List Int) × (Bool × (List Int))))) : Option (Bool) :=
 ((ER (List.cons (a0.1, a0.2.1) (List.cons (a0.2.2.1, a0.2.2.2) (List.nil : List (Bool × (List Int))))))).bind fun x0 =>
 bif x0 then
  ((A1 (a0.2.2.1, a0.2.2.2))).bind fun x1 =>
  bif decide (x1 > (0 : Int)) then
   ((D1 (a0.1, a0.2.1) (a0.2.2.1, a0.2.2.2))).bind fun x2 =>
   ((CL (1 : Int))).bind fun x3 =>
   ((Cr (x2.1, x2.2) (x3.1, x3.2))).bind fun x4 =>
   some (x4 == (0 : Int))
  else
  some false
 else
 some false
noncomputable def Kd : Ent := ⟨JS, fun x => Ej x⟩
noncomputable def PF : TX := ⟨tyTab, codTab, [], [4], [Q1, Ic, Ja, K4, Gg], JS⟩
set_option maxHeartbeats 2000000 in
theorem Yk (a0 : (Bool × List (Int) × Bool × List (Int))) : wtF PF Tryz.f105 (a0) = Ej a0 := by kernel_rfl
theorem Mq : EntOK RR Kd := Ab (X := PF) ⟨tyOK, boolOK, eqOK⟩ (Ad (by exact ⟨⟨Yo, rfl⟩, ⟨⟨Lg, rfl⟩, ⟨⟨Ni, rfl⟩, ⟨⟨Lt, rfl⟩, ⟨⟨IP, rfl⟩, trivial⟩⟩⟩⟩⟩)) (Ae (by kernel_rfl)) ⟨Tryz.func105, rfl, by kernel_rfl, rfl⟩ (fun x => by exact Yk x)
noncomputable def Fk (s0 : (List ((Bool × (List Int)) × (Bool × (List Int))))) (s1 : Int) (s2 : Int) : Option (((List ((Bool × (List Int)) × (Bool × (List Int)))) × (Int × Int)) ⊕ (Unit ⊕ Bool)) :=
 bif decide (s2 < s1) then
  ((getI s0 s2)).bind fun x0 =>
  ((Ej (x0.1.1, (x0.1.2, (x0.2.1, x0.2.2))))).bind fun x1 =>
  bif (!x1) then
   some (Sum.inr (Sum.inr false))
  else
  some (Sum.inl (s0, (s1, (Go.IntKind.wrap Go.IntKind.i64 (s2 + (1 : Int))))))
 else
 some (Sum.inr (Sum.inl ()))
noncomputable def BF (a0 : (List ((Bool × (List Int)) × (Bool × (List Int))))) : Option (Bool) :=
 (loopM (fun (s : ((List ((Bool × (List Int)) × (Bool × (List Int)))) × (Int × Int))) => Fk s.1 s.2.1 s.2.2) (a0, ((((List.length a0) : Nat) : Int), (0 : Int)))).bind fun x0 =>
 Sum.elim
  (fun x1 =>
  some true)
  (fun x2 =>
  some x2)
  x0
noncomputable def G9 : Ent := ⟨Kq, fun x => BF x⟩
noncomputable def PO : TX := ⟨tyTab, codTab, [], [4], [Kd], Kq⟩
set_option maxHeartbeats 2000000 in
theorem Xx (a0 : List (((Bool × List (Int)) × (Bool × List (Int))))) : wtF PO Tryz.f129 (a0) = BF a0 := by kernel_rfl
theorem IG : EntOK RR G9 := Ab (X := PO) ⟨tyOK, boolOK, eqOK⟩ (Ad (by exact ⟨⟨Mq, rfl⟩, trivial⟩)) (Ae (by kernel_rfl)) ⟨Tryz.func129, rfl, by kernel_rfl, rfl⟩ (fun x => by exact Xx x)
noncomputable def AV (a0 : (Bool × ((List Int) × (Bool × (List Int))))) (a1 : Int) : Option (Bool) :=
 bif decide ((((List.length a0.2.1) : Nat) : Int) ≤ a1) then
  some (decide ((((List.length a0.2.2.2) : Nat) : Int) ≤ a1))
 else
 some false
noncomputable def DL : Ent := ⟨FO, fun x => AV x.1 x.2⟩
noncomputable def I0 : TX := ⟨tyTab, codTab, [], [4], [], FO⟩
set_option maxHeartbeats 2000000 in
theorem Qn (a0 : (Bool × List (Int) × Bool × List (Int))) (a1 : Int) : wtF I0 Tryz.f232 (a0, a1) = AV a0 a1 := by kernel_rfl
theorem E5 : EntOK RR DL := Ab (X := I0) ⟨tyOK, boolOK, eqOK⟩ (Ad (by exact trivial)) (Ae (by kernel_rfl)) ⟨Tryz.func232, rfl, by kernel_rfl, rfl⟩ (fun x => by exact Qn x.1 x.2)
noncomputable def H0 (a0 : (Bool × ((List Int) × (Bool × ((List Int) × (Bool × ((List Int) × (Bool × (List Int))))))))) (a1 : Int) : Option (Bool) :=
 ((BF (List.cons ((a0.1, a0.2.1), (a0.2.2.1, a0.2.2.2.1)) (List.cons ((a0.2.2.2.2.1, a0.2.2.2.2.2.1), (a0.2.2.2.2.2.2.1, a0.2.2.2.2.2.2.2)) (List.nil : List ((Bool × (List Int)) × (Bool × (List Int)))))))).bind fun x0 =>
 bif x0 then
  ((AV (a0.1, (a0.2.1, (a0.2.2.1, a0.2.2.2.1))) a1)).bind fun x1 =>
  bif x1 then
   ((AV (a0.2.2.2.2.1, (a0.2.2.2.2.2.1, (a0.2.2.2.2.2.2.1, a0.2.2.2.2.2.2.2))) a1)).bind fun x2 =>
   some x2
  else
  some false
 else
 some false
noncomputable def UI : Ent := ⟨OK, fun x => H0 x.1 x.2⟩
noncomputable def Uo : TX := ⟨tyTab, codTab, [], [4], [G9, DL], OK⟩
set_option maxHeartbeats 2000000 in
theorem Ai4 (a0 : (Bool × List (Int) × Bool × List (Int) × Bool × List (Int) × Bool × List (Int))) (a1 : Int) : wtF Uo Tryz.f213 (a0, a1) = H0 a0 a1 := by kernel_rfl
theorem Zn : EntOK RR UI := Ab (X := Uo) ⟨tyOK, boolOK, eqOK⟩ (Ad (by exact ⟨⟨IG, rfl⟩, ⟨⟨E5, rfl⟩, trivial⟩⟩)) (Ae (by kernel_rfl)) ⟨Tryz.func213, rfl, by kernel_rfl, rfl⟩ (fun x => by exact Ai4 x.1 x.2)
noncomputable def C8 (a0 : (Bool × ((List Int) × (Bool × ((List Int) × (Bool × ((List Int) × (Bool × (List Int))))))))) : Option (Bool) :=
 ((H0 (a0.1, (a0.2.1, (a0.2.2.1, (a0.2.2.2.1, (a0.2.2.2.2.1, (a0.2.2.2.2.2.1, (a0.2.2.2.2.2.2.1, a0.2.2.2.2.2.2.2))))))) (8 : Int))).bind fun x0 =>
 some (!x0)
noncomputable def JF : Ent := ⟨GV, fun x => C8 x⟩
noncomputable def Js : TX := ⟨tyTab, codTab, [], [4], [UI], GV⟩
set_option maxHeartbeats 2000000 in
theorem Sg (a0 : (Bool × List (Int) × Bool × List (Int) × Bool × List (Int) × Bool × List (Int))) : wtF Js Tryz.f212 (a0) = C8 a0 := by kernel_rfl
theorem Qw : EntOK RR JF := Ab (X := Js) ⟨tyOK, boolOK, eqOK⟩ (Ad (by exact ⟨⟨Zn, rfl⟩, trivial⟩)) (Ae (by kernel_rfl)) ⟨Tryz.func212, rfl, by kernel_rfl, rfl⟩ (fun x => by exact Sg x)
noncomputable def Ak (s0 : (List (((Bool × (List Int)) × (Bool × (List Int))) × ((Bool × (List Int)) × (Bool × (List Int)))))) (s1 : Int) (s2 : Int) : Option (((List (((Bool × (List Int)) × (Bool × (List Int))) × ((Bool × (List Int)) × (Bool × (List Int))))) × (Int × Int)) ⊕ (Unit ⊕ Int)) :=
 bif decide (s2 < s1) then
  ((getI s0 s2)).bind fun x0 =>
  ((C8 (x0.1.1.1, (x0.1.1.2, (x0.1.2.1, (x0.1.2.2, (x0.2.1.1, (x0.2.1.2, (x0.2.2.1, x0.2.2.2))))))))).bind fun x1 =>
  bif x1 then
   some (Sum.inr (Sum.inr s2))
  else
  some (Sum.inl (s0, (s1, (Go.IntKind.wrap Go.IntKind.i64 (s2 + (1 : Int))))))
 else
 some (Sum.inr (Sum.inl ()))
noncomputable def AP (a0 : (List (((Bool × (List Int)) × (Bool × (List Int))) × ((Bool × (List Int)) × (Bool × (List Int)))))) : Option (Int) :=
 (loopM (fun (s : ((List (((Bool × (List Int)) × (Bool × (List Int))) × ((Bool × (List Int)) × (Bool × (List Int))))) × (Int × Int))) => Ak s.1 s.2.1 s.2.2) (a0, ((((List.length a0) : Nat) : Int), (0 : Int)))).bind fun x0 =>
 Sum.elim
  (fun x1 =>
  some (-(1 : Int)))
  (fun x2 =>
  some x2)
  x0
noncomputable def Ca : Ent := ⟨Bi, fun x => AP x⟩
noncomputable def Cc : TX := ⟨tyTab, codTab, [], [4], [JF], Bi⟩
set_option maxHeartbeats 2000000 in
theorem EN (a0 : List ((((Bool × List (Int)) × (Bool × List (Int))) × ((Bool × List (Int)) × (Bool × List (Int)))))) : wtF Cc Tryz.f272 (a0) = AP a0 := by kernel_rfl
theorem EE : EntOK RR Ca := Ab (X := Cc) ⟨tyOK, boolOK, eqOK⟩ (Ad (by exact ⟨⟨Qw, rfl⟩, trivial⟩)) (Ae (by kernel_rfl)) ⟨Tryz.func272, rfl, by kernel_rfl, rfl⟩ (fun x => by exact EN x)
noncomputable def As (a0 : (List (((Bool × (List Int)) × (Bool × (List Int))) × ((Bool × (List Int)) × (Bool × (List Int)))))) : Option (Bool) :=
 ((AP a0)).bind fun x0 =>
 some (decide (x0 ≥ (0 : Int)))
noncomputable def BQ : Ent := ⟨A3, fun x => As x⟩
noncomputable def BO : TX := ⟨tyTab, codTab, [], [4], [Ca], A3⟩
set_option maxHeartbeats 2000000 in
theorem DQ (a0 : List ((((Bool × List (Int)) × (Bool × List (Int))) × ((Bool × List (Int)) × (Bool × List (Int)))))) : wtF BO Tryz.f211 (a0) = As a0 := by kernel_rfl
theorem DH : EntOK RR BQ := Ab (X := BO) ⟨tyOK, boolOK, eqOK⟩ (Ad (by exact ⟨⟨EE, rfl⟩, trivial⟩)) (Ae (by kernel_rfl)) ⟨Tryz.func211, rfl, by kernel_rfl, rfl⟩ (fun x => by exact DQ x)
noncomputable def AW (a0 : (List (((Bool × (List Int)) × (Bool × (List Int))) × ((Bool × (List Int)) × (Bool × (List Int)))))) : Option (Bool) :=
 bif decide ((((List.length a0) : Nat) : Int) ≤ (40 : Int)) then
  ((As a0)).bind fun x0 =>
  some (!x0)
 else
 some false
noncomputable def CC : Ent := ⟨Ip, fun x => AW x⟩
noncomputable def ML : TX := ⟨tyTab, codTab, [], [4], [BQ], Ip⟩
set_option maxHeartbeats 2000000 in
theorem Wo (a0 : List ((((Bool × List (Int)) × (Bool × List (Int))) × ((Bool × List (Int)) × (Bool × List (Int)))))) : wtF ML Tryz.f98 (a0) = AW a0 := by kernel_rfl
theorem CO : EntOK RR CC := Ab (X := ML) ⟨tyOK, boolOK, eqOK⟩ (Ad (by exact ⟨⟨DH, rfl⟩, trivial⟩)) (Ae (by kernel_rfl)) ⟨Tryz.func98, rfl, by kernel_rfl, rfl⟩ (fun x => by exact Wo x)
noncomputable def D2 (a0 : (Bool × ((List Int) × (Bool × (List Int))))) : Option (Bool) :=
 ((Ej (a0.1, (a0.2.1, (a0.2.2.1, a0.2.2.2))))).bind fun x0 =>
 bif x0 then
  ((AV (a0.1, (a0.2.1, (a0.2.2.1, a0.2.2.2))) (2 : Int))).bind fun x1 =>
  some x1
 else
 some false
noncomputable def JT : Ent := ⟨Ju, fun x => D2 x⟩
noncomputable def PW : TX := ⟨tyTab, codTab, [], [4], [Kd, DL], Ju⟩
set_option maxHeartbeats 2000000 in
theorem Yw (a0 : (Bool × List (Int) × Bool × List (Int))) : wtF PW Tryz.f203 (a0) = D2 a0 := by kernel_rfl
theorem M7 : EntOK RR JT := Ab (X := PW) ⟨tyOK, boolOK, eqOK⟩ (Ad (by exact ⟨⟨Mq, rfl⟩, ⟨⟨E5, rfl⟩, trivial⟩⟩)) (Ae (by kernel_rfl)) ⟨Tryz.func203, rfl, by kernel_rfl, rfl⟩ (fun x => by exact Yw x)
noncomputable def AT (a0 : (Bool × ((List Int) × (Bool × ((List Int) × (Bool × ((List Int) × (Bool × (List Int))))))))) (a1 : Bool) : Option ((Bool × List (Int) × Bool × List (Int))) :=
 bif a1 then
  some (a0.2.2.2.2.1, (a0.2.2.2.2.2.1, (a0.2.2.2.2.2.2.1, a0.2.2.2.2.2.2.2)))
 else
 some (a0.1, (a0.2.1, (a0.2.2.1, a0.2.2.2.1)))
noncomputable def DP : Ent := ⟨DW, fun x => AT x.1 x.2⟩
noncomputable def GB : TX := ⟨tyTab, codTab, [], [4], [], DW⟩
set_option maxHeartbeats 2000000 in
theorem Lw (a0 : (Bool × List (Int) × Bool × List (Int) × Bool × List (Int) × Bool × List (Int))) (a1 : Bool) : wtF GB Tryz.f266 (a0, a1) = AT a0 a1 := by kernel_rfl
theorem FR : EntOK RR DP := Ab (X := GB) ⟨tyOK, boolOK, eqOK⟩ (Ad (by exact trivial)) (Ae (by kernel_rfl)) ⟨Tryz.func266, rfl, by kernel_rfl, rfl⟩ (fun x => by exact Lw x.1 x.2)
noncomputable def Cq (a0 : (Bool × ((List Int) × (Bool × (List Int))))) (a1 : (Bool × ((List Int) × (Bool × (List Int))))) : Option (Int) :=
 ((AU (a0.1, a0.2.1) (a1.2.2.1, a1.2.2.2))).bind fun x0 =>
 ((AU (a1.1, a1.2.1) (a0.2.2.1, a0.2.2.2))).bind fun x1 =>
 ((Cr (x0.2, x0.1) (x1.2, x1.1))).bind fun x2 =>
 some x2
noncomputable def Gi : Ent := ⟨Gm, fun x => Cq x.1 x.2⟩
noncomputable def J4 : TX := ⟨tyTab, codTab, [], [4], [DY, Gg], Gm⟩
set_option maxHeartbeats 2000000 in
theorem Ti (a0 : (Bool × List (Int) × Bool × List (Int))) (a1 : (Bool × List (Int) × Bool × List (Int))) : wtF J4 Tryz.f138 (a0, a1) = Cq a0 a1 := by kernel_rfl
theorem IL : EntOK RR Gi := Ab (X := J4) ⟨tyOK, boolOK, eqOK⟩ (Ad (by exact ⟨⟨Er, rfl⟩, ⟨⟨IP, rfl⟩, trivial⟩⟩)) (Ae (by kernel_rfl)) ⟨Tryz.func138, rfl, by kernel_rfl, rfl⟩ (fun x => by exact Ti x.1 x.2)
noncomputable def Db (a0 : (Bool × ((List Int) × (Bool × (List Int))))) (a1 : (Bool × ((List Int) × (Bool × (List Int))))) : Option (Bool) :=
 ((Cq (a0.1, (a0.2.1, (a0.2.2.1, a0.2.2.2))) (a1.1, (a1.2.1, (a1.2.2.1, a1.2.2.2))))).bind fun x0 =>
 some (decide (x0 < (0 : Int)))
noncomputable def NJ : Ent := ⟨H8, fun x => Db x.1 x.2⟩
noncomputable def MH : TX := ⟨tyTab, codTab, [], [4], [Gi], H8⟩
set_option maxHeartbeats 2000000 in
theorem Wt (a0 : (Bool × List (Int) × Bool × List (Int))) (a1 : (Bool × List (Int) × Bool × List (Int))) : wtF MH Tryz.f130 (a0, a1) = Db a0 a1 := by kernel_rfl
theorem T4 : EntOK RR NJ := Ab (X := MH) ⟨tyOK, boolOK, eqOK⟩ (Ad (by exact ⟨⟨IL, rfl⟩, trivial⟩)) (Ae (by kernel_rfl)) ⟨Tryz.func130, rfl, by kernel_rfl, rfl⟩ (fun x => by exact Wt x.1 x.2)
noncomputable def DN (a0 : Bool) (a1 : Bool) (a2 : (Bool × ((List Int) × (Bool × (List Int))))) (a3 : (Bool × ((List Int) × (Bool × ((List Int) × (Bool × ((List Int) × (Bool × (List Int))))))))) : Option ((Bool) × (Bool) × (Bool × List (Int) × Bool × List (Int)) × Bool) :=
 bif a0 then
  ((AT (a3.1, (a3.2.1, (a3.2.2.1, (a3.2.2.2.1, (a3.2.2.2.2.1, (a3.2.2.2.2.2.1, (a3.2.2.2.2.2.2.1, a3.2.2.2.2.2.2.2))))))) a1)).bind fun x0 =>
  ((Db (x0.1, (x0.2.1, (x0.2.2.1, x0.2.2.2))) (a2.1, (a2.2.1, (a2.2.2.1, a2.2.2.2))))).bind fun x1 =>
  some (a0, (a1, ((a2.1, (a2.2.1, (a2.2.2.1, a2.2.2.2))), (!x1))))
 else
 ((AT (a3.1, (a3.2.1, (a3.2.2.1, (a3.2.2.2.1, (a3.2.2.2.2.1, (a3.2.2.2.2.2.1, (a3.2.2.2.2.2.2.1, a3.2.2.2.2.2.2.2))))))) a1)).bind fun x2 =>
 ((Db (a2.1, (a2.2.1, (a2.2.2.1, a2.2.2.2))) (x2.1, (x2.2.1, (x2.2.2.1, x2.2.2.2))))).bind fun x3 =>
 some (a0, (a1, ((a2.1, (a2.2.1, (a2.2.2.1, a2.2.2.2))), (!x3))))
noncomputable def Rm : Ent := ⟨LK, fun x => DN x.1 x.2.1 x.2.2.1 x.2.2.2⟩
noncomputable def R5 : TX := ⟨tyTab, codTab, [], [4], [DP, NJ], LK⟩
set_option maxHeartbeats 2000000 in
theorem Y2 (a0 : (Bool)) (a1 : (Bool)) (a2 : (Bool × List (Int) × Bool × List (Int))) (a3 : (Bool × List (Int) × Bool × List (Int) × Bool × List (Int) × Bool × List (Int))) : wtF R5 Tryz.f265 (a0, a1, a2, a3) = DN a0 a1 a2 a3 := by kernel_rfl
theorem Xf : EntOK RR Rm := Ab (X := R5) ⟨tyOK, boolOK, eqOK⟩ (Ad (by exact ⟨⟨FR, rfl⟩, ⟨⟨T4, rfl⟩, trivial⟩⟩)) (Ae (by kernel_rfl)) ⟨Tryz.func265, rfl, by kernel_rfl, rfl⟩ (fun x => by exact Y2 x.1 x.2.1 x.2.2.1 x.2.2.2)
noncomputable def D8 (a0 : (Bool × (List Int))) : Option ((Bool × List (Int))) :=
 ((AO (!a0.1) a0.2)).bind fun x0 =>
 some (x0.2, x0.1)
noncomputable def Jm : Ent := ⟨JJ, fun x => D8 x⟩
noncomputable def Qm : TX := ⟨tyTab, codTab, [], [4], [Di], JJ⟩
set_option maxHeartbeats 2000000 in
theorem YB (a0 : (Bool × List (Int))) : wtF Qm Tryz.f233 (a0) = D8 a0 := by kernel_rfl
theorem NI : EntOK RR Jm := Ab (X := Qm) ⟨tyOK, boolOK, eqOK⟩ (Ad (by exact ⟨⟨C0, rfl⟩, trivial⟩)) (Ae (by kernel_rfl)) ⟨Tryz.func233, rfl, by kernel_rfl, rfl⟩ (fun x => by exact YB x)
noncomputable def FB (a0 : (Bool × ((List Int) × (Bool × (List Int))))) : Option ((Bool × List (Int) × Bool × List (Int))) :=
 ((D8 (a0.1, a0.2.1))).bind fun x0 =>
 ((AO false a0.2.2.2)).bind fun x1 =>
 some (x0.1, (x0.2, (x1.2, x1.1)))
noncomputable def Pv : Ent := ⟨Kv, fun x => FB x⟩
noncomputable def O5 : TX := ⟨tyTab, codTab, [], [4], [Jm, Di], Kv⟩
set_option maxHeartbeats 2000000 in
theorem XG (a0 : (Bool × List (Int) × Bool × List (Int))) : wtF O5 Tryz.f159 (a0) = FB a0 := by kernel_rfl
theorem Wr : EntOK RR Pv := Ab (X := O5) ⟨tyOK, boolOK, eqOK⟩ (Ad (by exact ⟨⟨NI, rfl⟩, ⟨⟨C0, rfl⟩, trivial⟩⟩)) (Ae (by kernel_rfl)) ⟨Tryz.func159, rfl, by kernel_rfl, rfl⟩ (fun x => by exact XG x)
noncomputable def C4 (s0 : (List Int)) (s1 : (List Int)) (s2 : (List Int)) (s3 : Int) (s4 : Int) : Option (((List Int) × ((List Int) × ((List Int) × (Int × Int)))) ⊕ (List Int)) :=
 (bif decide (s4 < (maxL (List.cons (((List.length s1) : Nat) : Int) (List.cons (((List.length s2) : Nat) : Int) (List.nil : List Int))))) then
   some (Sum.inr (s0, (s1, (s2, (s3, s4)))))
  else
  bif decide (s3 > (0 : Int)) then
   some (Sum.inr (s0, (s1, (s2, (s3, s4)))))
  else
  some (Sum.inl (Sum.inr s0))).bind fun x0 =>
 Sum.elim
  (fun x1 =>
  some x1)
  (fun x2 =>
  (bif decide (x2.2.2.2.2 < (((List.length x2.2.1) : Nat) : Int)) then
    ((getI x2.2.1 x2.2.2.2.2)).bind fun x3 =>
    some (Sum.inr (x2.1, (x2.2.1, (x2.2.2.1, ((Go.IntKind.wrap Go.IntKind.i64 (x2.2.2.2.1 + x3)), x2.2.2.2.2)))))
   else
   some (Sum.inr (x2.1, (x2.2.1, (x2.2.2.1, (x2.2.2.2.1, x2.2.2.2.2)))))).bind fun x4 =>
  Sum.elim
   (fun x5 =>
   some x5)
   (fun x6 =>
   (bif decide (x6.2.2.2.2 < (((List.length x6.2.2.1) : Nat) : Int)) then
     ((getI x6.2.2.1 x6.2.2.2.2)).bind fun x7 =>
     some (Sum.inr (x6.1, (x6.2.1, (x6.2.2.1, ((Go.IntKind.wrap Go.IntKind.i64 (x6.2.2.2.1 + x7)), x6.2.2.2.2)))))
    else
    some (Sum.inr (x6.1, (x6.2.1, (x6.2.2.1, (x6.2.2.2.1, x6.2.2.2.2)))))).bind fun x8 =>
   Sum.elim
    (fun x9 =>
    some x9)
    (fun x10 =>
    ((appL 8 1 x10.1 (List.cons (Int.tmod x10.2.2.2.1 (65536 : Int)) (List.nil : List Int)))).bind fun x11 =>
    some (Sum.inl (x11, (x10.2.1, (x10.2.2.1, ((Go.IntKind.wrap Go.IntKind.i64 (Int.tdiv x10.2.2.2.1 (65536 : Int))), (Go.IntKind.wrap Go.IntKind.i64 (x10.2.2.2.2 + (1 : Int)))))))))
    x8)
   x4)
  x0
noncomputable def EM (a0 : (List Int)) (a1 : (List Int)) : Option (List (Int)) :=
 (loopM (fun (s : ((List Int) × ((List Int) × ((List Int) × (Int × Int))))) => C4 s.1 s.2.1 s.2.2.1 s.2.2.2.1 s.2.2.2.2) ((List.nil : List Int), (a0, (a1, ((0 : Int), (0 : Int)))))).bind fun x0 =>
 some x0
noncomputable def Mh : Ent := ⟨Ib, fun x => EM x.1 x.2⟩
noncomputable def MA : TX := ⟨tyTab, codTab, [], [4], [], Ib⟩
set_option maxHeartbeats 2000000 in
theorem VZ (a0 : List (Int)) (a1 : List (Int)) : wtF MA Tryz.f235 (a0, a1) = EM a0 a1 := by kernel_rfl
theorem TJ : EntOK RR Mh := Ab (X := MA) ⟨tyOK, boolOK, eqOK⟩ (Ad (by exact trivial)) (Ae (by kernel_rfl)) ⟨Tryz.func235, rfl, by kernel_rfl, rfl⟩ (fun x => by exact VZ x.1 x.2)
noncomputable def EG (s0 : (List Int)) (s1 : (List Int)) (s2 : Int) (s3 : Int) (s4 : Int) : Option (((List Int) × ((List Int) × (Int × (Int × Int)))) ⊕ (List Int)) :=
 bif decide (s4 < s3) then
  ((idxI s4 (List.length s0))).bind fun x0 =>
  ((getN s0 x0)).bind fun x1 =>
  ((idxI s4 (List.length s0))).bind fun x2 =>
  ((getN s0 x2)).bind fun x3 =>
  (bif decide (s4 < (((List.length s1) : Nat) : Int)) then
    ((idxI s4 (List.length (List.set s0 x2 (Go.IntKind.wrap Go.IntKind.i64 (x1 - s2)))))).bind fun x4 =>
    ((getN (List.set s0 x2 (Go.IntKind.wrap Go.IntKind.i64 (x1 - s2))) x4)).bind fun x5 =>
    ((getI s1 s4)).bind fun x6 =>
    ((idxI s4 (List.length (List.set s0 x2 (Go.IntKind.wrap Go.IntKind.i64 (x1 - s2)))))).bind fun x7 =>
    ((getN (List.set s0 x2 (Go.IntKind.wrap Go.IntKind.i64 (x1 - s2))) x7)).bind fun x8 =>
    some (Sum.inr ((List.set (List.set s0 x2 (Go.IntKind.wrap Go.IntKind.i64 (x1 - s2))) x7 (Go.IntKind.wrap Go.IntKind.i64 (x5 - x6))), (s1, (s4, (s3, s4)))))
   else
   some (Sum.inr ((List.set s0 x2 (Go.IntKind.wrap Go.IntKind.i64 (x1 - s2))), (s1, (s4, (s3, s4)))))).bind fun x9 =>
  Sum.elim
   (fun x10 =>
   some x10)
   (fun x11 =>
   ((idxI x11.2.2.1 (List.length x11.1))).bind fun x12 =>
   ((getN x11.1 x12)).bind fun x13 =>
   bif decide (x13 < (0 : Int)) then
    ((idxI x11.2.2.1 (List.length x11.1))).bind fun x14 =>
    ((getN x11.1 x14)).bind fun x15 =>
    ((idxI x11.2.2.1 (List.length x11.1))).bind fun x16 =>
    ((getN x11.1 x16)).bind fun x17 =>
    some (Sum.inl ((List.set x11.1 x16 (Go.IntKind.wrap Go.IntKind.i64 (x15 + (65536 : Int)))), (x11.2.1, ((1 : Int), (x11.2.2.2.1, (Go.IntKind.wrap Go.IntKind.i64 (x11.2.2.2.2 + (1 : Int))))))))
   else
   some (Sum.inl (x11.1, (x11.2.1, ((0 : Int), (x11.2.2.2.1, (Go.IntKind.wrap Go.IntKind.i64 (x11.2.2.2.2 + (1 : Int)))))))))
   x9
 else
 some (Sum.inr s0)
noncomputable def Dp (a0 : (List Int)) (a1 : (List Int)) : Option (List (Int)) :=
 ((A8 a0)).bind fun x0 =>
 (loopM (fun (s : ((List Int) × ((List Int) × (Int × (Int × Int))))) => EG s.1 s.2.1 s.2.2.1 s.2.2.2.1 s.2.2.2.2) (x0, (a1, ((0 : Int), ((((List.length x0) : Nat) : Int), (0 : Int)))))).bind fun x1 =>
 ((Fd x1)).bind fun x2 =>
 some x2
noncomputable def Me : Ent := ⟨ID, fun x => Dp x.1 x.2⟩
noncomputable def M3 : TX := ⟨tyTab, codTab, [], [4], [Cj, MZ], ID⟩
set_option maxHeartbeats 2000000 in
theorem V9 (a0 : List (Int)) (a1 : List (Int)) : wtF M3 Tryz.f236 (a0, a1) = Dp a0 a1 := by kernel_rfl
theorem TV : EntOK RR Me := Ab (X := M3) ⟨tyOK, boolOK, eqOK⟩ (Ad (by exact ⟨⟨DB, rfl⟩, ⟨⟨Nz, rfl⟩, trivial⟩⟩)) (Ae (by kernel_rfl)) ⟨Tryz.func236, rfl, by kernel_rfl, rfl⟩ (fun x => by exact V9 x.1 x.2)
noncomputable def Fy (a0 : (Bool × (List Int))) (a1 : (Bool × (List Int))) : Option ((Bool × List (Int))) :=
 bif (a0.1 == a1.1) then
  ((EM a0.2 a1.2)).bind fun x0 =>
  ((AO a0.1 x0)).bind fun x1 =>
  some (x1.2, x1.1)
 else
 ((A7 a0.2 a1.2)).bind fun x2 =>
 bif decide (x2 ≥ (0 : Int)) then
  ((Dp a0.2 a1.2)).bind fun x3 =>
  ((AO a0.1 x3)).bind fun x4 =>
  some (x4.2, x4.1)
 else
 ((Dp a1.2 a0.2)).bind fun x5 =>
 ((AO a1.1 x5)).bind fun x6 =>
 some (x6.2, x6.1)
noncomputable def Pu : Ent := ⟨JH, fun x => Fy x.1 x.2⟩
noncomputable def Pw : TX := ⟨tyTab, codTab, [], [4], [Mh, Di, Dd, Me], JH⟩
set_option maxHeartbeats 2000000 in
theorem Yx (a0 : (Bool × List (Int))) (a1 : (Bool × List (Int))) : wtF Pw Tryz.f132 (a0, a1) = Fy a0 a1 := by kernel_rfl
theorem WM : EntOK RR Pu := Ab (X := Pw) ⟨tyOK, boolOK, eqOK⟩ (Ad (by exact ⟨⟨TJ, rfl⟩, ⟨⟨C0, rfl⟩, ⟨⟨Ew, rfl⟩, ⟨⟨TV, rfl⟩, trivial⟩⟩⟩⟩)) (Ae (by kernel_rfl)) ⟨Tryz.func132, rfl, by kernel_rfl, rfl⟩ (fun x => by exact Yx x.1 x.2)
noncomputable def Ei (a0 : (Bool × (List Int))) (a1 : (Bool × (List Int))) : Option ((Bool × List (Int)) × (Bool × List (Int))) :=
 ((Dj a0.2 a1.2)).bind fun x0 =>
 ((AO (!(a0.1 == a1.1)) x0.1)).bind fun x1 =>
 ((AO a0.1 x0.2)).bind fun x2 =>
 some ((x1.2, x1.1), (x2.2, x2.1))
noncomputable def PD : Ent := ⟨J7, fun x => Ei x.1 x.2⟩
noncomputable def Pn : TX := ⟨tyTab, codTab, [], [4], [Ii, Di], J7⟩
set_option maxHeartbeats 2000000 in
theorem YJ (a0 : (Bool × List (Int))) (a1 : (Bool × List (Int))) : wtF Pn Tryz.f234 (a0, a1) = Ei a0 a1 := by kernel_rfl
theorem V8 : EntOK RR PD := Ab (X := Pn) ⟨tyOK, boolOK, eqOK⟩ (Ad (by exact ⟨⟨Lb, rfl⟩, ⟨⟨C0, rfl⟩, trivial⟩⟩)) (Ae (by kernel_rfl)) ⟨Tryz.func234, rfl, by kernel_rfl, rfl⟩ (fun x => by exact YJ x.1 x.2)
noncomputable def E4 (a0 : (Bool × (List Int))) (a1 : (Bool × (List Int))) : Option ((Bool × List (Int) × Bool × List (Int))) :=
 ((D1 (a0.1, a0.2) (a1.1, a1.2))).bind fun x0 =>
 (bif a1.1 then
   ((D8 (x0.1, x0.2))).bind fun x1 =>
   some (Sum.inr ((a0.1, a0.2), ((a1.1, a1.2), ((false, ((List.nil : List Int), (false, (List.nil : List Int)))), (x1.1, x1.2)))))
  else
  some (Sum.inr ((a0.1, a0.2), ((a1.1, a1.2), ((false, ((List.nil : List Int), (false, (List.nil : List Int)))), (x0.1, x0.2)))))).bind fun x2 =>
 Sum.elim
  (fun x3 =>
  some x3)
  (fun x4 =>
  ((Ei (x4.1.1, x4.1.2) (x4.2.2.2.1, x4.2.2.2.2))).bind fun x5 =>
  ((Ei (x4.2.1.1, x4.2.1.2) (x4.2.2.2.1, x4.2.2.2.2))).bind fun x6 =>
  some (x5.1.1, (x5.1.2, (x6.1.1, x6.1.2))))
  x2
noncomputable def KD : Ent := ⟨N9, fun x => E4 x.1 x.2⟩
noncomputable def Ui : TX := ⟨tyTab, codTab, [], [4], [Ja, Jm, PD], N9⟩
set_option maxHeartbeats 2000000 in
theorem Ai7 (a0 : (Bool × List (Int))) (a1 : (Bool × List (Int))) : wtF Ui Tryz.f131 (a0, a1) = E4 a0 a1 := by kernel_rfl
theorem Mb : EntOK RR KD := Ab (X := Ui) ⟨tyOK, boolOK, eqOK⟩ (Ad (by exact ⟨⟨Ni, rfl⟩, ⟨⟨NI, rfl⟩, ⟨⟨V8, rfl⟩, trivial⟩⟩⟩)) (Ae (by kernel_rfl)) ⟨Tryz.func131, rfl, by kernel_rfl, rfl⟩ (fun x => by exact Ai7 x.1 x.2)
noncomputable def B0 (a0 : (Bool × ((List Int) × (Bool × (List Int))))) (a1 : (Bool × ((List Int) × (Bool × (List Int))))) : Option ((Bool × List (Int) × Bool × List (Int))) :=
 ((AU (a0.1, a0.2.1) (a1.2.2.1, a1.2.2.2))).bind fun x0 =>
 ((AU (a1.1, a1.2.1) (a0.2.2.1, a0.2.2.2))).bind fun x1 =>
 ((Fy (x0.2, x0.1) (x1.2, x1.1))).bind fun x2 =>
 ((AU (a0.2.2.1, a0.2.2.2) (a1.2.2.1, a1.2.2.2))).bind fun x3 =>
 ((E4 (x2.1, x2.2) (x3.2, x3.1))).bind fun x4 =>
 some (x4.1, (x4.2.1, (x4.2.2.1, x4.2.2.2)))
noncomputable def Fw : Ent := ⟨Kh, fun x => B0 x.1 x.2⟩
noncomputable def O4 : TX := ⟨tyTab, codTab, [], [4], [DY, Pu, KD], Kh⟩
set_option maxHeartbeats 2000000 in
theorem YN (a0 : (Bool × List (Int) × Bool × List (Int))) (a1 : (Bool × List (Int) × Bool × List (Int))) : wtF O4 Tryz.f126 (a0, a1) = B0 a0 a1 := by kernel_rfl
theorem FY : EntOK RR Fw := Ab (X := O4) ⟨tyOK, boolOK, eqOK⟩ (Ad (by exact ⟨⟨Er, rfl⟩, ⟨⟨WM, rfl⟩, ⟨⟨Mb, rfl⟩, trivial⟩⟩⟩)) (Ae (by kernel_rfl)) ⟨Tryz.func126, rfl, by kernel_rfl, rfl⟩ (fun x => by exact YN x.1 x.2)
noncomputable def Ct (a0 : (Bool × ((List Int) × (Bool × (List Int))))) (a1 : (Bool × ((List Int) × (Bool × (List Int))))) : Option ((Bool × List (Int) × Bool × List (Int))) :=
 ((FB (a1.1, (a1.2.1, (a1.2.2.1, a1.2.2.2))))).bind fun x0 =>
 ((B0 (a0.1, (a0.2.1, (a0.2.2.1, a0.2.2.2))) (x0.1, (x0.2.1, (x0.2.2.1, x0.2.2.2))))).bind fun x1 =>
 some (x1.1, (x1.2.1, (x1.2.2.1, x1.2.2.2)))
noncomputable def Hb : Ent := ⟨JZ, fun x => Ct x.1 x.2⟩
noncomputable def Po : TX := ⟨tyTab, codTab, [], [4], [Pv, Fw], JZ⟩
set_option maxHeartbeats 2000000 in
theorem YF (a0 : (Bool × List (Int) × Bool × List (Int))) (a1 : (Bool × List (Int) × Bool × List (Int))) : wtF Po Tryz.f108 (a0, a1) = Ct a0 a1 := by kernel_rfl
theorem H5 : EntOK RR Hb := Ab (X := Po) ⟨tyOK, boolOK, eqOK⟩ (Ad (by exact ⟨⟨Wr, rfl⟩, ⟨⟨FY, rfl⟩, trivial⟩⟩)) (Ae (by kernel_rfl)) ⟨Tryz.func108, rfl, by kernel_rfl, rfl⟩ (fun x => by exact YF x.1 x.2)
noncomputable def C7 (a0 : (Bool × ((List Int) × (Bool × (List Int))))) (a1 : (Bool × ((List Int) × (Bool × (List Int))))) : Option ((Bool × List (Int) × Bool × List (Int))) :=
 ((AU (a0.1, a0.2.1) (a1.2.2.1, a1.2.2.2))).bind fun x0 =>
 ((AU (a0.2.2.1, a0.2.2.2) (a1.1, a1.2.1))).bind fun x1 =>
 ((E4 (x0.2, x0.1) (x1.2, x1.1))).bind fun x2 =>
 some (x2.1, (x2.2.1, (x2.2.2.1, x2.2.2.2)))
noncomputable def Jl : Ent := ⟨Kp, fun x => C7 x.1 x.2⟩
noncomputable def Pd : TX := ⟨tyTab, codTab, [], [4], [DY, KD], Kp⟩
set_option maxHeartbeats 2000000 in
theorem XP (a0 : (Bool × List (Int) × Bool × List (Int))) (a1 : (Bool × List (Int) × Bool × List (Int))) : wtF Pd Tryz.f112 (a0, a1) = C7 a0 a1 := by kernel_rfl
theorem M1 : EntOK RR Jl := Ab (X := Pd) ⟨tyOK, boolOK, eqOK⟩ (Ad (by exact ⟨⟨Er, rfl⟩, ⟨⟨Mb, rfl⟩, trivial⟩⟩)) (Ae (by kernel_rfl)) ⟨Tryz.func112, rfl, by kernel_rfl, rfl⟩ (fun x => by exact XP x.1 x.2)
noncomputable def CN (a0 : Int) : Option ((Bool × List (Int) × Bool × List (Int))) :=
 ((CL a0)).bind fun x0 =>
 ((CL (1 : Int))).bind fun x1 =>
 some (x0.1, (x0.2, (x1.1, x1.2)))
noncomputable def KB : Ent := ⟨OQ, fun x => CN x⟩
noncomputable def Va : TX := ⟨tyTab, codTab, [], [4], [K4], OQ⟩
set_option maxHeartbeats 2000000 in
theorem Ao7 (a0 : Int) : wtF Va Tryz.f111 (a0) = CN a0 := by kernel_rfl
theorem LZ : EntOK RR KB := Ab (X := Va) ⟨tyOK, boolOK, eqOK⟩ (Ad (by exact ⟨⟨Lt, rfl⟩, trivial⟩)) (Ae (by kernel_rfl)) ⟨Tryz.func111, rfl, by kernel_rfl, rfl⟩ (fun x => by exact Ao7 x)
noncomputable def BG (a0 : (Bool × ((List Int) × (Bool × (List Int))))) (a1 : (Bool × ((List Int) × (Bool × (List Int))))) : Option ((Bool × List (Int) × Bool × List (Int))) :=
 ((AU (a0.1, a0.2.1) (a1.1, a1.2.1))).bind fun x0 =>
 ((AU (a0.2.2.1, a0.2.2.2) (a1.2.2.1, a1.2.2.2))).bind fun x1 =>
 ((E4 (x0.2, x0.1) (x1.2, x1.1))).bind fun x2 =>
 some (x2.1, (x2.2.1, (x2.2.2.1, x2.2.2.2)))
noncomputable def Jw : Ent := ⟨JO, fun x => BG x.1 x.2⟩
noncomputable def P8 : TX := ⟨tyTab, codTab, [], [4], [DY, KD], JO⟩
set_option maxHeartbeats 2000000 in
theorem XX (a0 : (Bool × List (Int) × Bool × List (Int))) (a1 : (Bool × List (Int) × Bool × List (Int))) : wtF P8 Tryz.f140 (a0, a1) = BG a0 a1 := by kernel_rfl
theorem Nf : EntOK RR Jw := Ab (X := P8) ⟨tyOK, boolOK, eqOK⟩ (Ad (by exact ⟨⟨Er, rfl⟩, ⟨⟨Mb, rfl⟩, trivial⟩⟩)) (Ae (by kernel_rfl)) ⟨Tryz.func140, rfl, by kernel_rfl, rfl⟩ (fun x => by exact XX x.1 x.2)
noncomputable def Nq (a0 : (Bool × ((List Int) × (Bool × ((List Int) × (Bool × ((List Int) × (Bool × (List Int))))))))) (a1 : (Bool × ((List Int) × (Bool × ((List Int) × (Bool × ((List Int) × (Bool × (List Int))))))))) (a2 : (Bool × ((List Int) × (Bool × (List Int))))) : Option ((Bool × List (Int) × Bool × List (Int) × Bool × List (Int) × Bool × List (Int))) :=
 ((CN (1 : Int))).bind fun x0 =>
 ((Ct (x0.1, (x0.2.1, (x0.2.2.1, x0.2.2.2))) (a2.1, (a2.2.1, (a2.2.2.1, a2.2.2.2))))).bind fun x1 =>
 ((BG (x1.1, (x1.2.1, (x1.2.2.1, x1.2.2.2))) (a0.1, (a0.2.1, (a0.2.2.1, a0.2.2.2.1))))).bind fun x2 =>
 ((BG (a2.1, (a2.2.1, (a2.2.2.1, a2.2.2.2))) (a1.1, (a1.2.1, (a1.2.2.1, a1.2.2.2.1))))).bind fun x3 =>
 ((B0 (x2.1, (x2.2.1, (x2.2.2.1, x2.2.2.2))) (x3.1, (x3.2.1, (x3.2.2.1, x3.2.2.2))))).bind fun x4 =>
 ((BG (x1.1, (x1.2.1, (x1.2.2.1, x1.2.2.2))) (a0.2.2.2.2.1, (a0.2.2.2.2.2.1, (a0.2.2.2.2.2.2.1, a0.2.2.2.2.2.2.2))))).bind fun x5 =>
 ((BG (a2.1, (a2.2.1, (a2.2.2.1, a2.2.2.2))) (a1.2.2.2.2.1, (a1.2.2.2.2.2.1, (a1.2.2.2.2.2.2.1, a1.2.2.2.2.2.2.2))))).bind fun x6 =>
 ((B0 (x5.1, (x5.2.1, (x5.2.2.1, x5.2.2.2))) (x6.1, (x6.2.1, (x6.2.2.1, x6.2.2.2))))).bind fun x7 =>
 some (x4.1, (x4.2.1, (x4.2.2.1, (x4.2.2.2, (x7.1, (x7.2.1, (x7.2.2.1, x7.2.2.2)))))))
noncomputable def Ad3 : Ent := ⟨WN, fun x => Nq x.1 x.2.1 x.2.2⟩
noncomputable def Ad0 : TX := ⟨tyTab, codTab, [], [4], [KB, Hb, Jw, Fw], WN⟩
set_option maxHeartbeats 2000000 in
theorem AC1 (a0 : (Bool × List (Int) × Bool × List (Int) × Bool × List (Int) × Bool × List (Int))) (a1 : (Bool × List (Int) × Bool × List (Int) × Bool × List (Int) × Bool × List (Int))) (a2 : (Bool × List (Int) × Bool × List (Int))) : wtF Ad0 Tryz.f267 (a0, a1, a2) = Nq a0 a1 a2 := by kernel_rfl
theorem Aw1 : EntOK RR Ad3 := Ab (X := Ad0) ⟨tyOK, boolOK, eqOK⟩ (Ad (by exact ⟨⟨LZ, rfl⟩, ⟨⟨H5, rfl⟩, ⟨⟨Nf, rfl⟩, ⟨⟨FY, rfl⟩, trivial⟩⟩⟩⟩)) (Ae (by kernel_rfl)) ⟨Tryz.func267, rfl, by kernel_rfl, rfl⟩ (fun x => by exact AC1 x.1 x.2.1 x.2.2)
noncomputable def C5 (s0 : Bool) (s1 : (Bool × ((List Int) × (Bool × (List Int))))) (s2 : Bool) (s3 : (List (((Bool × (List Int)) × (Bool × (List Int))) × ((Bool × (List Int)) × (Bool × (List Int)))))) (s4 : (List (((Bool × (List Int)) × (Bool × (List Int))) × ((Bool × (List Int)) × (Bool × (List Int)))))) (s5 : (List (((Bool × (List Int)) × (Bool × (List Int))) × ((Bool × (List Int)) × (Bool × (List Int)))))) (s6 : Int) (s7 : Int) : Option ((Bool × ((Bool × ((List Int) × (Bool × (List Int)))) × (Bool × ((List (((Bool × (List Int)) × (Bool × (List Int))) × ((Bool × (List Int)) × (Bool × (List Int))))) × ((List (((Bool × (List Int)) × (Bool × (List Int))) × ((Bool × (List Int)) × (Bool × (List Int))))) × ((List (((Bool × (List Int)) × (Bool × (List Int))) × ((Bool × (List Int)) × (Bool × (List Int))))) × (Int × Int))))))) ⊕ (List (((Bool × (List Int)) × (Bool × (List Int))) × ((Bool × (List Int)) × (Bool × (List Int)))))) :=
 bif decide (s7 < s6) then
  ((getI s5 s7)).bind fun x0 =>
  bif ((((List.length s4) : Nat) : Int) == (0 : Int)) then
   none
  else
  ((getI s4 (Int.tmod (Go.IntKind.wrap Go.IntKind.i64 ((Go.IntKind.wrap Go.IntKind.i64 (s7 + (((List.length s4) : Nat) : Int))) - (1 : Int))) (((List.length s4) : Nat) : Int)))).bind fun x1 =>
  (((DN s2 s0 (s1.1, (s1.2.1, (s1.2.2.1, s1.2.2.2))) (x1.1.1.1, (x1.1.1.2, (x1.1.2.1, (x1.1.2.2, (x1.2.1.1, (x1.2.1.2, (x1.2.2.1, x1.2.2.2))))))))).bind fun x2 =>
   ((DN x2.1 x2.2.1 (x2.2.2.1.1, (x2.2.2.1.2.1, (x2.2.2.1.2.2.1, x2.2.2.1.2.2.2))) (x0.1.1.1, (x0.1.1.2, (x0.1.2.1, (x0.1.2.2, (x0.2.1.1, (x0.2.1.2, (x0.2.2.1, x0.2.2.2))))))))).bind fun x3 =>
   bif (!(x2.2.2.2 == x3.2.2.2)) then
    ((AT (x1.1.1.1, (x1.1.1.2, (x1.1.2.1, (x1.1.2.2, (x1.2.1.1, (x1.2.1.2, (x1.2.2.1, x1.2.2.2))))))) x3.2.1)).bind fun x4 =>
    ((Ct (x3.2.2.1.1, (x3.2.2.1.2.1, (x3.2.2.1.2.2.1, x3.2.2.1.2.2.2))) (x4.1, (x4.2.1, (x4.2.2.1, x4.2.2.2))))).bind fun x5 =>
    ((AT (x0.1.1.1, (x0.1.1.2, (x0.1.2.1, (x0.1.2.2, (x0.2.1.1, (x0.2.1.2, (x0.2.2.1, x0.2.2.2))))))) x3.2.1)).bind fun x6 =>
    ((AT (x1.1.1.1, (x1.1.1.2, (x1.1.2.1, (x1.1.2.2, (x1.2.1.1, (x1.2.1.2, (x1.2.2.1, x1.2.2.2))))))) x3.2.1)).bind fun x7 =>
    ((Ct (x6.1, (x6.2.1, (x6.2.2.1, x6.2.2.2))) (x7.1, (x7.2.1, (x7.2.2.1, x7.2.2.2))))).bind fun x8 =>
    ((C7 (x5.1, (x5.2.1, (x5.2.2.1, x5.2.2.2))) (x8.1, (x8.2.1, (x8.2.2.1, x8.2.2.2))))).bind fun x9 =>
    ((Nq (x1.1.1.1, (x1.1.1.2, (x1.1.2.1, (x1.1.2.2, (x1.2.1.1, (x1.2.1.2, (x1.2.2.1, x1.2.2.2))))))) (x0.1.1.1, (x0.1.1.2, (x0.1.2.1, (x0.1.2.2, (x0.2.1.1, (x0.2.1.2, (x0.2.2.1, x0.2.2.2))))))) (x9.1, (x9.2.1, (x9.2.2.1, x9.2.2.2))))).bind fun x10 =>
    ((appL 128 8 s3 (List.cons (((x10.1, x10.2.1), (x10.2.2.1, x10.2.2.2.1)), ((x10.2.2.2.2.1, x10.2.2.2.2.2.1), (x10.2.2.2.2.2.2.1, x10.2.2.2.2.2.2.2))) (List.nil : List (((Bool × (List Int)) × (Bool × (List Int))) × ((Bool × (List Int)) × (Bool × (List Int)))))))).bind fun x11 =>
    some (Sum.inr (x3.2.1, ((x3.2.2.1.1, (x3.2.2.1.2.1, (x3.2.2.1.2.2.1, x3.2.2.1.2.2.2))), (x3.1, (x11, ((x0.1.1.1, (x0.1.1.2, (x0.1.2.1, (x0.1.2.2, (x0.2.1.1, (x0.2.1.2, (x0.2.2.1, x0.2.2.2))))))), (s4, (s5, (s6, s7)))))))))
   else
   some (Sum.inr (x3.2.1, ((x3.2.2.1.1, (x3.2.2.1.2.1, (x3.2.2.1.2.2.1, x3.2.2.1.2.2.2))), (x3.1, (s3, ((x0.1.1.1, (x0.1.1.2, (x0.1.2.1, (x0.1.2.2, (x0.2.1.1, (x0.2.1.2, (x0.2.2.1, x0.2.2.2))))))), (s4, (s5, (s6, s7)))))))))).bind fun x12 =>
  Sum.elim
   (fun x13 =>
   some x13)
   (fun x14 =>
   ((DN x14.2.2.1 x14.1 (x14.2.1.1, (x14.2.1.2.1, (x14.2.1.2.2.1, x14.2.1.2.2.2))) (x14.2.2.2.2.1.1, (x14.2.2.2.2.1.2.1, (x14.2.2.2.2.1.2.2.1, (x14.2.2.2.2.1.2.2.2.1, (x14.2.2.2.2.1.2.2.2.2.1, (x14.2.2.2.2.1.2.2.2.2.2.1, (x14.2.2.2.2.1.2.2.2.2.2.2.1, x14.2.2.2.2.1.2.2.2.2.2.2.2))))))))).bind fun x15 =>
   bif x15.2.2.2 then
    ((appL 128 8 x14.2.2.2.1 (List.cons (((x14.2.2.2.2.1.1, x14.2.2.2.2.1.2.1), (x14.2.2.2.2.1.2.2.1, x14.2.2.2.2.1.2.2.2.1)), ((x14.2.2.2.2.1.2.2.2.2.1, x14.2.2.2.2.1.2.2.2.2.2.1), (x14.2.2.2.2.1.2.2.2.2.2.2.1, x14.2.2.2.2.1.2.2.2.2.2.2.2))) (List.nil : List (((Bool × (List Int)) × (Bool × (List Int))) × ((Bool × (List Int)) × (Bool × (List Int)))))))).bind fun x16 =>
    some (Sum.inl (x15.2.1, ((x15.2.2.1.1, (x15.2.2.1.2.1, (x15.2.2.1.2.2.1, x15.2.2.1.2.2.2))), (x15.1, (x16, (x14.2.2.2.2.2.1, (x14.2.2.2.2.2.2.1, (x14.2.2.2.2.2.2.2.1, (Go.IntKind.wrap Go.IntKind.i64 (x14.2.2.2.2.2.2.2.2 + (1 : Int)))))))))))
   else
   some (Sum.inl (x15.2.1, ((x15.2.2.1.1, (x15.2.2.1.2.1, (x15.2.2.1.2.2.1, x15.2.2.1.2.2.2))), (x15.1, (x14.2.2.2.1, (x14.2.2.2.2.2.1, (x14.2.2.2.2.2.2.1, (x14.2.2.2.2.2.2.2.1, (Go.IntKind.wrap Go.IntKind.i64 (x14.2.2.2.2.2.2.2.2 + (1 : Int))))))))))))
   x12
 else
 some (Sum.inr s3)
noncomputable def Hx (a0 : (List (((Bool × (List Int)) × (Bool × (List Int))) × ((Bool × (List Int)) × (Bool × (List Int)))))) (a1 : Bool) (a2 : Bool) (a3 : (Bool × ((List Int) × (Bool × (List Int))))) : Option (List ((((Bool × List (Int)) × (Bool × List (Int))) × ((Bool × List (Int)) × (Bool × List (Int)))))) :=
 (loopM (fun (s : (Bool × ((Bool × ((List Int) × (Bool × (List Int)))) × (Bool × ((List (((Bool × (List Int)) × (Bool × (List Int))) × ((Bool × (List Int)) × (Bool × (List Int))))) × ((List (((Bool × (List Int)) × (Bool × (List Int))) × ((Bool × (List Int)) × (Bool × (List Int))))) × ((List (((Bool × (List Int)) × (Bool × (List Int))) × ((Bool × (List Int)) × (Bool × (List Int))))) × (Int × Int)))))))) => C5 s.1 s.2.1 s.2.2.1 s.2.2.2.1 s.2.2.2.2.1 s.2.2.2.2.2.1 s.2.2.2.2.2.2.1 s.2.2.2.2.2.2.2) (a1, ((a3.1, (a3.2.1, (a3.2.2.1, a3.2.2.2))), (a2, ((List.nil : List (((Bool × (List Int)) × (Bool × (List Int))) × ((Bool × (List Int)) × (Bool × (List Int))))), (a0, (a0, ((((List.length a0) : Nat) : Int), (0 : Int))))))))).bind fun x0 =>
 some x0
noncomputable def Sc : Ent := ⟨QY, fun x => Hx x.1 x.2.1 x.2.2.1 x.2.2.2⟩
noncomputable def YT : TX := ⟨tyTab, codTab, [], [4], [Rm, DP, Hb, Jl, Ad3], QY⟩
set_option maxHeartbeats 2000000 in
theorem Ar6 (a0 : List ((((Bool × List (Int)) × (Bool × List (Int))) × ((Bool × List (Int)) × (Bool × List (Int)))))) (a1 : Bool) (a2 : Bool) (a3 : (Bool × List (Int) × Bool × List (Int))) : wtF YT Tryz.f205 (a0, a1, a2, a3) = Hx a0 a1 a2 a3 := by kernel_rfl
theorem Ve : EntOK RR Sc := Ab (X := YT) ⟨tyOK, boolOK, eqOK⟩ (Ad (by exact ⟨⟨Xf, rfl⟩, ⟨⟨FR, rfl⟩, ⟨⟨H5, rfl⟩, ⟨⟨M1, rfl⟩, ⟨⟨Aw1, rfl⟩, trivial⟩⟩⟩⟩⟩)) (Ae (by kernel_rfl)) ⟨Tryz.func205, rfl, by kernel_rfl, rfl⟩ (fun x => by exact Ar6 x.1 x.2.1 x.2.2.1 x.2.2.2)
noncomputable def EY (a0 : (Bool × ((List Int) × (Bool × (List Int))))) : Option ((Bool × List (Int) × Bool × List (Int))) :=
 ((AO a0.1 a0.2.1)).bind fun x0 =>
 ((AO false a0.2.2.2)).bind fun x1 =>
 some (x0.2, (x0.1, (x1.2, x1.1)))
noncomputable def Rw : Ent := ⟨LO, fun x => EY x⟩
noncomputable def R9 : TX := ⟨tyTab, codTab, [], [4], [Di], LO⟩
set_option maxHeartbeats 2000000 in
theorem ZH (a0 : (Bool × List (Int) × Bool × List (Int))) : wtF R9 Tryz.f243 (a0) = EY a0 := by kernel_rfl
theorem Xo : EntOK RR Rw := Ab (X := R9) ⟨tyOK, boolOK, eqOK⟩ (Ad (by exact ⟨⟨C0, rfl⟩, trivial⟩)) (Ae (by kernel_rfl)) ⟨Tryz.func243, rfl, by kernel_rfl, rfl⟩ (fun x => by exact ZH x)
noncomputable def Ge (a0 : (Bool × ((List Int) × (Bool × ((List Int) × (Bool × ((List Int) × (Bool × (List Int))))))))) : Option ((Bool × List (Int) × Bool × List (Int) × Bool × List (Int) × Bool × List (Int))) :=
 ((EY (a0.1, (a0.2.1, (a0.2.2.1, a0.2.2.2.1))))).bind fun x0 =>
 ((EY (a0.2.2.2.2.1, (a0.2.2.2.2.2.1, (a0.2.2.2.2.2.2.1, a0.2.2.2.2.2.2.2))))).bind fun x1 =>
 some (x0.1, (x0.2.1, (x0.2.2.1, (x0.2.2.2, (x1.1, (x1.2.1, (x1.2.2.1, x1.2.2.2)))))))
noncomputable def RU : Ent := ⟨L5, fun x => Ge x⟩
noncomputable def RG : TX := ⟨tyTab, codTab, [], [4], [Rw], L5⟩
set_option maxHeartbeats 2000000 in
theorem Aa0 (a0 : (Bool × List (Int) × Bool × List (Int) × Bool × List (Int) × Bool × List (Int))) : wtF RG Tryz.f273 (a0) = Ge a0 := by kernel_rfl
theorem YY : EntOK RR RU := Ab (X := RG) ⟨tyOK, boolOK, eqOK⟩ (Ad (by exact ⟨⟨Xo, rfl⟩, trivial⟩)) (Ae (by kernel_rfl)) ⟨Tryz.func273, rfl, by kernel_rfl, rfl⟩ (fun x => by exact Aa0 x)
noncomputable def B7 (s0 : (List (((Bool × (List Int)) × (Bool × (List Int))) × ((Bool × (List Int)) × (Bool × (List Int)))))) (s1 : (List (((Bool × (List Int)) × (Bool × (List Int))) × ((Bool × (List Int)) × (Bool × (List Int)))))) (s2 : Int) (s3 : Int) : Option (((List (((Bool × (List Int)) × (Bool × (List Int))) × ((Bool × (List Int)) × (Bool × (List Int))))) × ((List (((Bool × (List Int)) × (Bool × (List Int))) × ((Bool × (List Int)) × (Bool × (List Int))))) × (Int × Int))) ⊕ (List (((Bool × (List Int)) × (Bool × (List Int))) × ((Bool × (List Int)) × (Bool × (List Int)))))) :=
 bif decide (s3 < s2) then
  ((getI s1 s3)).bind fun x0 =>
  ((Ge (x0.1.1.1, (x0.1.1.2, (x0.1.2.1, (x0.1.2.2, (x0.2.1.1, (x0.2.1.2, (x0.2.2.1, x0.2.2.2))))))))).bind fun x1 =>
  ((appL 128 8 s0 (List.cons (((x1.1, x1.2.1), (x1.2.2.1, x1.2.2.2.1)), ((x1.2.2.2.2.1, x1.2.2.2.2.2.1), (x1.2.2.2.2.2.2.1, x1.2.2.2.2.2.2.2))) (List.nil : List (((Bool × (List Int)) × (Bool × (List Int))) × ((Bool × (List Int)) × (Bool × (List Int)))))))).bind fun x2 =>
  some (Sum.inl (x2, (s1, (s2, (Go.IntKind.wrap Go.IntKind.i64 (s3 + (1 : Int)))))))
 else
 some (Sum.inr s0)
noncomputable def Ee (a0 : (List (((Bool × (List Int)) × (Bool × (List Int))) × ((Bool × (List Int)) × (Bool × (List Int)))))) : Option (List ((((Bool × List (Int)) × (Bool × List (Int))) × ((Bool × List (Int)) × (Bool × List (Int)))))) :=
 (loopM (fun (s : ((List (((Bool × (List Int)) × (Bool × (List Int))) × ((Bool × (List Int)) × (Bool × (List Int))))) × ((List (((Bool × (List Int)) × (Bool × (List Int))) × ((Bool × (List Int)) × (Bool × (List Int))))) × (Int × Int)))) => B7 s.1 s.2.1 s.2.2.1 s.2.2.2) ((List.nil : List (((Bool × (List Int)) × (Bool × (List Int))) × ((Bool × (List Int)) × (Bool × (List Int))))), (a0, ((((List.length a0) : Nat) : Int), (0 : Int))))).bind fun x0 =>
 some x0
noncomputable def Je : Ent := ⟨JK, fun x => Ee x⟩
noncomputable def PY : TX := ⟨tyTab, codTab, [], [4], [RU], JK⟩
set_option maxHeartbeats 2000000 in
theorem XI (a0 : List ((((Bool × List (Int)) × (Bool × List (Int))) × ((Bool × List (Int)) × (Bool × List (Int)))))) : wtF PY Tryz.f216 (a0) = Ee a0 := by kernel_rfl
theorem Mj : EntOK RR Je := Ab (X := PY) ⟨tyOK, boolOK, eqOK⟩ (Ad (by exact ⟨⟨YY, rfl⟩, trivial⟩)) (Ae (by kernel_rfl)) ⟨Tryz.func216, rfl, by kernel_rfl, rfl⟩ (fun x => by exact XI x)
noncomputable def BY (a0 : (List (((Bool × (List Int)) × (Bool × (List Int))) × ((Bool × (List Int)) × (Bool × (List Int)))))) : Option (List ((((Bool × List (Int)) × (Bool × List (Int))) × ((Bool × List (Int)) × (Bool × List (Int))))) × Bool) :=
 ((AW a0)).bind fun x0 =>
 bif (!x0) then
  some ((List.nil : List (((Bool × (List Int)) × (Bool × (List Int))) × ((Bool × (List Int)) × (Bool × (List Int))))), false)
 else
 ((Ee a0)).bind fun x1 =>
 some (x1, true)
noncomputable def FF : Ent := ⟨FH, fun x => BY x⟩
noncomputable def IS : TX := ⟨tyTab, codTab, [], [4], [CC, Je], FH⟩
set_option maxHeartbeats 2000000 in
theorem Qo (a0 : List ((((Bool × List (Int)) × (Bool × List (Int))) × ((Bool × List (Int)) × (Bool × List (Int)))))) : wtF IS Tryz.f204 (a0) = BY a0 := by kernel_rfl
theorem HT : EntOK RR FF := Ab (X := IS) ⟨tyOK, boolOK, eqOK⟩ (Ad (by exact ⟨⟨CO, rfl⟩, ⟨⟨Mj, rfl⟩, trivial⟩⟩)) (Ae (by kernel_rfl)) ⟨Tryz.func204, rfl, by kernel_rfl, rfl⟩ (fun x => by exact Qo x)
noncomputable def BI (a0 : (List (((Bool × (List Int)) × (Bool × (List Int))) × ((Bool × (List Int)) × (Bool × (List Int)))))) (a1 : Bool) (a2 : (Bool × ((List Int) × (Bool × (List Int))))) : Option (List ((((Bool × List (Int)) × (Bool × List (Int))) × ((Bool × List (Int)) × (Bool × List (Int))))) × Bool) :=
 ((AW a0)).bind fun x0 =>
 bif (!x0) then
  some ((List.nil : List (((Bool × (List Int)) × (Bool × (List Int))) × ((Bool × (List Int)) × (Bool × (List Int))))), false)
 else
 ((D2 (a2.1, (a2.2.1, (a2.2.2.1, a2.2.2.2))))).bind fun x1 =>
 bif (!x1) then
  some ((List.nil : List (((Bool × (List Int)) × (Bool × (List Int))) × ((Bool × (List Int)) × (Bool × (List Int))))), false)
 else
 ((Hx a0 a1 false (a2.1, (a2.2.1, (a2.2.2.1, a2.2.2.2))))).bind fun x2 =>
 ((BY x2)).bind fun x3 =>
 some (x3.1, x3.2)
noncomputable def Pl : Ent := ⟨Jf, fun x => BI x.1 x.2.1 x.2.2⟩
noncomputable def P3 : TX := ⟨tyTab, codTab, [], [4], [CC, JT, Sc, FF], Jf⟩
set_option maxHeartbeats 2000000 in
theorem Xl (a0 : List ((((Bool × List (Int)) × (Bool × List (Int))) × ((Bool × List (Int)) × (Bool × List (Int)))))) (a1 : Bool) (a2 : (Bool × List (Int) × Bool × List (Int))) : wtF P3 Tryz.f91 (a0, a1, a2) = BI a0 a1 a2 := by kernel_rfl
theorem VJ : EntOK RR Pl := Ab (X := P3) ⟨tyOK, boolOK, eqOK⟩ (Ad (by exact ⟨⟨CO, rfl⟩, ⟨⟨M7, rfl⟩, ⟨⟨Ve, rfl⟩, ⟨⟨HT, rfl⟩, trivial⟩⟩⟩⟩)) (Ae (by kernel_rfl)) ⟨Tryz.func91, rfl, by kernel_rfl, rfl⟩ (fun x => by exact Xl x.1 x.2.1 x.2.2)
noncomputable def D0 (a0 : (Bool × ((List Int) × (Bool × (List Int))))) : Option (Bool) :=
 ((Cu (a0.1, a0.2.1))).bind fun x0 =>
 bif (!x0) then
  some false
 else
 ((Cu (a0.2.2.1, a0.2.2.2))).bind fun x1 =>
 bif (!x1) then
  some false
 else
 bif a0.2.2.1 then
  some false
 else
 bif ((((List.length a0.2.2.2) : Nat) : Int) == (0 : Int)) then
  some false
 else
 ((F7 a0.2.1 a0.2.2.2)).bind fun x2 =>
 ((Bo x2 (List.cons (1 : Int) (List.nil : List Int)))).bind fun x3 =>
 some (x3 == (0 : Int))
noncomputable def Ko : Ent := ⟨I1, fun x => D0 x⟩
noncomputable def P6 : TX := ⟨tyTab, codTab, [], [4], [JA, Oa, HO], I1⟩
set_option maxHeartbeats 2000000 in
theorem XO (a0 : (Bool × List (Int) × Bool × List (Int))) : wtF P6 Tryz.f113 (a0) = D0 a0 := by kernel_rfl
theorem Ml : EntOK RR Ko := Ab (X := P6) ⟨tyOK, boolOK, eqOK⟩ (Ad (by exact ⟨⟨My, rfl⟩, ⟨⟨QT, rfl⟩, ⟨⟨H1, rfl⟩, trivial⟩⟩⟩)) (Ae (by kernel_rfl)) ⟨Tryz.func113, rfl, by kernel_rfl, rfl⟩ (fun x => by exact XO x)
noncomputable def D9 (a0 : (Bool × ((List Int) × (Bool × (List Int))))) : Option (Bool) :=
 bif decide ((((List.length a0.2.1) : Nat) : Int) ≤ (8 : Int)) then
  bif decide ((((List.length a0.2.2.2) : Nat) : Int) ≤ (8 : Int)) then
   ((D0 (a0.1, (a0.2.1, (a0.2.2.1, a0.2.2.2))))).bind fun x0 =>
   some x0
  else
  some false
 else
 some false
noncomputable def Qc : Ent := ⟨Kr, fun x => D9 x⟩
noncomputable def Pf : TX := ⟨tyTab, codTab, [], [4], [Ko], Kr⟩
set_option maxHeartbeats 2000000 in
theorem YX (a0 : (Bool × List (Int) × Bool × List (Int))) : wtF Pf Tryz.f214 (a0) = D9 a0 := by kernel_rfl
theorem Wa : EntOK RR Qc := Ab (X := Pf) ⟨tyOK, boolOK, eqOK⟩ (Ad (by exact ⟨⟨Ml, rfl⟩, trivial⟩)) (Ae (by kernel_rfl)) ⟨Tryz.func214, rfl, by kernel_rfl, rfl⟩ (fun x => by exact YX x)
noncomputable def Bt (s0 : (List (((Bool × (List Int)) × (Bool × (List Int))) × ((Bool × (List Int)) × (Bool × (List Int)))))) (s1 : (List (((Bool × (List Int)) × (Bool × (List Int))) × ((Bool × (List Int)) × (Bool × (List Int)))))) (s2 : Int) (s3 : Int) : Option (((List (((Bool × (List Int)) × (Bool × (List Int))) × ((Bool × (List Int)) × (Bool × (List Int))))) × ((List (((Bool × (List Int)) × (Bool × (List Int))) × ((Bool × (List Int)) × (Bool × (List Int))))) × (Int × Int))) ⊕ ((List (((Bool × (List Int)) × (Bool × (List Int))) × ((Bool × (List Int)) × (Bool × (List Int))))) ⊕ Bool)) :=
 bif decide (s3 < s2) then
  ((getI s1 s3)).bind fun x0 =>
  ((D9 (x0.1.1.1, (x0.1.1.2, (x0.1.2.1, x0.1.2.2))))).bind fun x1 =>
  bif (!x1) then
   some (Sum.inr (Sum.inr false))
  else
  ((D9 (x0.2.1.1, (x0.2.1.2, (x0.2.2.1, x0.2.2.2))))).bind fun x2 =>
  bif (!x2) then
   some (Sum.inr (Sum.inr false))
  else
  some (Sum.inl (s0, (s1, (s2, (Go.IntKind.wrap Go.IntKind.i64 (s3 + (1 : Int)))))))
 else
 some (Sum.inr (Sum.inl s0))
noncomputable def Br (a0 : (List (((Bool × (List Int)) × (Bool × (List Int))) × ((Bool × (List Int)) × (Bool × (List Int)))))) : Option (Bool) :=
 (loopM (fun (s : ((List (((Bool × (List Int)) × (Bool × (List Int))) × ((Bool × (List Int)) × (Bool × (List Int))))) × ((List (((Bool × (List Int)) × (Bool × (List Int))) × ((Bool × (List Int)) × (Bool × (List Int))))) × (Int × Int)))) => Bt s.1 s.2.1 s.2.2.1 s.2.2.2) (a0, (a0, ((((List.length a0) : Nat) : Int), (0 : Int))))).bind fun x0 =>
 Sum.elim
  (fun x1 =>
  some (decide ((((List.length x1) : Nat) : Int) ≤ (40 : Int))))
  (fun x2 =>
  some x2)
  x0
noncomputable def De : Ent := ⟨H6, fun x => Br x⟩
noncomputable def MX : TX := ⟨tyTab, codTab, [], [4], [Qc], H6⟩
set_option maxHeartbeats 2000000 in
theorem WI (a0 : List ((((Bool × List (Int)) × (Bool × List (Int))) × ((Bool × List (Int)) × (Bool × List (Int)))))) : wtF MX Tryz.f99 (a0) = Br a0 := by kernel_rfl
theorem DE : EntOK RR De := Ab (X := MX) ⟨tyOK, boolOK, eqOK⟩ (Ad (by exact ⟨⟨Wa, rfl⟩, trivial⟩)) (Ae (by kernel_rfl)) ⟨Tryz.func99, rfl, by kernel_rfl, rfl⟩ (fun x => by exact WI x)
noncomputable def EL (a0 : (Bool × ((List Int) × (Bool × (List Int))))) : Option (Bool) :=
 bif decide ((((List.length a0.2.1) : Nat) : Int) ≤ (2 : Int)) then
  bif decide ((((List.length a0.2.2.2) : Nat) : Int) ≤ (2 : Int)) then
   ((D0 (a0.1, (a0.2.1, (a0.2.2.1, a0.2.2.2))))).bind fun x0 =>
   some x0
  else
  some false
 else
 some false
noncomputable def Mf : Ent := ⟨H9, fun x => EL x⟩
noncomputable def Mx : TX := ⟨tyTab, codTab, [], [4], [Ko], H9⟩
set_option maxHeartbeats 2000000 in
theorem WF (a0 : (Bool × List (Int) × Bool × List (Int))) : wtF Mx Tryz.f268 (a0) = EL a0 := by kernel_rfl
theorem T3 : EntOK RR Mf := Ab (X := Mx) ⟨tyOK, boolOK, eqOK⟩ (Ad (by exact ⟨⟨Ml, rfl⟩, trivial⟩)) (Ae (by kernel_rfl)) ⟨Tryz.func268, rfl, by kernel_rfl, rfl⟩ (fun x => by exact WF x)
noncomputable def Cy (a0 : (List (((Bool × (List Int)) × (Bool × (List Int))) × ((Bool × (List Int)) × (Bool × (List Int)))))) (a1 : (Bool × ((List Int) × (Bool × (List Int))))) : Option (Bool) :=
 ((Br a0)).bind fun x0 =>
 bif x0 then
  ((EL (a1.1, (a1.2.1, (a1.2.2.1, a1.2.2.2))))).bind fun x1 =>
  some x1
 else
 some false
noncomputable def Jj : Ent := ⟨JE, fun x => Cy x.1 x.2⟩
noncomputable def PH : TX := ⟨tyTab, codTab, [], [4], [De, Mf], JE⟩
set_option maxHeartbeats 2000000 in
theorem Xp (a0 : List ((((Bool × List (Int)) × (Bool × List (Int))) × ((Bool × List (Int)) × (Bool × List (Int)))))) (a1 : (Bool × List (Int) × Bool × List (Int))) : wtF PH Tryz.f206 (a0, a1) = Cy a0 a1 := by kernel_rfl
theorem NH : EntOK RR Jj := Ab (X := PH) ⟨tyOK, boolOK, eqOK⟩ (Ad (by exact ⟨⟨DE, rfl⟩, ⟨⟨T3, rfl⟩, trivial⟩⟩)) (Ae (by kernel_rfl)) ⟨Tryz.func206, rfl, by kernel_rfl, rfl⟩ (fun x => by exact Xp x.1 x.2)
noncomputable def Dh (a0 : (Bool × ((List Int) × (Bool × ((List Int) × (Bool × ((List Int) × (Bool × (List Int))))))))) (a1 : Bool) : Option ((Bool × List (Int) × Bool × List (Int))) :=
 bif a1 then
  some (a0.2.2.2.2.1, (a0.2.2.2.2.2.1, (a0.2.2.2.2.2.2.1, a0.2.2.2.2.2.2.2)))
 else
 some (a0.1, (a0.2.1, (a0.2.2.1, a0.2.2.2.1)))
noncomputable def Ix : Ent := ⟨Iv, fun x => Dh x.1 x.2⟩
noncomputable def M9 : TX := ⟨tyTab, codTab, [], [4], [], Iv⟩
set_option maxHeartbeats 2000000 in
theorem WU (a0 : (Bool × List (Int) × Bool × List (Int) × Bool × List (Int) × Bool × List (Int))) (a1 : Bool) : wtF M9 Tryz.f294 (a0, a1) = Dh a0 a1 := by kernel_rfl
theorem Lm : EntOK RR Ix := Ab (X := M9) ⟨tyOK, boolOK, eqOK⟩ (Ad (by exact trivial)) (Ae (by kernel_rfl)) ⟨Tryz.func294, rfl, by kernel_rfl, rfl⟩ (fun x => by exact WU x.1 x.2)
noncomputable def Ck (s0 : (List Int)) (s1 : (List Int)) (s2 : Int) (s3 : Int) (s4 : Int) (s5 : Int) (s6 : (List Int)) (s7 : Int) (s8 : Int) : Option (((List Int) × ((List Int) × (Int × (Int × (Int × (Int × ((List Int) × (Int × Int)))))))) ⊕ ((List Int) × ((List Int) × ((List Int) × (Int × Int))))) :=
 (bif decide (s5 < (((List.length s1) : Nat) : Int)) then
   some (Sum.inr (s0, (s1, (s2, (s3, (s4, (s5, (s6, (s7, s8)))))))))
  else
  bif decide (s4 > (0 : Int)) then
   some (Sum.inr (s0, (s1, (s2, (s3, (s4, (s5, (s6, (s7, s8)))))))))
  else
  some (Sum.inl (Sum.inr (s0, (s1, (s6, (s7, s8))))))).bind fun x0 =>
 Sum.elim
  (fun x1 =>
  some x1)
  (fun x2 =>
  ((idxI (Go.IntKind.wrap Go.IntKind.i64 (x2.2.2.1 + x2.2.2.2.2.2.1)) (List.length x2.1))).bind fun x3 =>
  ((getN x2.1 x3)).bind fun x4 =>
  ((BW x2.2.1 x2.2.2.2.2.2.1)).bind fun x5 =>
  ((idxI (Go.IntKind.wrap Go.IntKind.i64 (x2.2.2.1 + x2.2.2.2.2.2.1)) (List.length x2.1))).bind fun x6 =>
  ((getN x2.1 x6)).bind fun x7 =>
  some (Sum.inl ((List.set x2.1 x6 (Int.tmod (Go.IntKind.wrap Go.IntKind.i64 ((Go.IntKind.wrap Go.IntKind.i64 (x4 + (Go.IntKind.wrap Go.IntKind.i64 (x2.2.2.2.1 * x5)))) + x2.2.2.2.2.1)) (65536 : Int))), (x2.2.1, (x2.2.2.1, (x2.2.2.2.1, ((Go.IntKind.wrap Go.IntKind.i64 (Int.tdiv (Go.IntKind.wrap Go.IntKind.i64 ((Go.IntKind.wrap Go.IntKind.i64 (x4 + (Go.IntKind.wrap Go.IntKind.i64 (x2.2.2.2.1 * x5)))) + x2.2.2.2.2.1)) (65536 : Int))), ((Go.IntKind.wrap Go.IntKind.i64 (x2.2.2.2.2.2.1 + (1 : Int))), (x2.2.2.2.2.2.2.1, (x2.2.2.2.2.2.2.2.1, x2.2.2.2.2.2.2.2.2))))))))))
  x0
noncomputable def Dm (s0 : (List Int)) (s1 : (List Int)) (s2 : (List Int)) (s3 : Int) (s4 : Int) : Option (((List Int) × ((List Int) × ((List Int) × (Int × Int)))) ⊕ (List Int)) :=
 bif decide (s4 < s3) then
  ((getI s2 s4)).bind fun x0 =>
  (loopM (fun (s : ((List Int) × ((List Int) × (Int × (Int × (Int × (Int × ((List Int) × (Int × Int))))))))) => Ck s.1 s.2.1 s.2.2.1 s.2.2.2.1 s.2.2.2.2.1 s.2.2.2.2.2.1 s.2.2.2.2.2.2.1 s.2.2.2.2.2.2.2.1 s.2.2.2.2.2.2.2.2) (s0, (s1, (s4, (x0, ((0 : Int), ((0 : Int), (s2, (s3, s4))))))))).bind fun x1 =>
  some (Sum.inl (x1.1, (x1.2.1, (x1.2.2.1, (x1.2.2.2.1, (Go.IntKind.wrap Go.IntKind.i64 (x1.2.2.2.2 + (1 : Int))))))))
 else
 some (Sum.inr s0)
noncomputable def C6 (a0 : (List Int)) (a1 : (List Int)) : Option (List (Int)) :=
 ((lenI (Go.IntKind.wrap Go.IntKind.i64 ((Go.IntKind.wrap Go.IntKind.i64 ((((List.length a0) : Nat) : Int) + (((List.length a1) : Nat) : Int))) + (1 : Int))) 8 1)).bind fun x0 =>
 (loopM (fun (s : ((List Int) × ((List Int) × ((List Int) × (Int × Int))))) => Dm s.1 s.2.1 s.2.2.1 s.2.2.2.1 s.2.2.2.2) ((List.replicate x0 (0 : Int)), (a1, (a0, ((((List.length a0) : Nat) : Int), (0 : Int)))))).bind fun x1 =>
 ((Bm x1)).bind fun x2 =>
 some x2
noncomputable def Jp : Ent := ⟨Gr, fun x => C6 x.1 x.2⟩
noncomputable def Ku : TX := ⟨tyTab, codTab, [], [4], [DO, D3], Gr⟩
set_option maxHeartbeats 2000000 in
theorem RN (a0 : List (Int)) (a1 : List (Int)) : wtF Ku Tryz.f248 (a0, a1) = C6 a0 a1 := by kernel_rfl
theorem Qy : EntOK RR Jp := Ab (X := Ku) ⟨tyOK, boolOK, eqOK⟩ (Ad (by exact ⟨⟨D4, rfl⟩, ⟨⟨DT, rfl⟩, trivial⟩⟩)) (Ae (by kernel_rfl)) ⟨Tryz.func248, rfl, by kernel_rfl, rfl⟩ (fun x => by exact RN x.1 x.2)
noncomputable def BK (a0 : (Bool × (List Int))) (a1 : (Bool × (List Int))) : Option ((Bool × List (Int))) :=
 ((C6 a0.2 a1.2)).bind fun x0 =>
 ((AF (!(a0.1 == a1.1)) x0)).bind fun x1 =>
 some (x1.2, x1.1)
noncomputable def HD : Ent := ⟨Ov, fun x => BK x.1 x.2⟩
noncomputable def Vb : TX := ⟨tyTab, codTab, [], [4], [Jp, CD], Ov⟩
set_option maxHeartbeats 2000000 in
theorem Aj8 (a0 : (Bool × List (Int))) (a1 : (Bool × List (Int))) : wtF Vb Tryz.f168 (a0, a1) = BK a0 a1 := by kernel_rfl
theorem IJ : EntOK RR HD := Ab (X := Vb) ⟨tyOK, boolOK, eqOK⟩ (Ad (by exact ⟨⟨Qy, rfl⟩, ⟨⟨Cs, rfl⟩, trivial⟩⟩)) (Ae (by kernel_rfl)) ⟨Tryz.func168, rfl, by kernel_rfl, rfl⟩ (fun x => by exact Aj8 x.1 x.2)
noncomputable def EH (a0 : (Bool × (List Int))) (a1 : (Bool × (List Int))) : Option (Int) :=
 bif a0.1 then
  bif (!a1.1) then
   some (-(1 : Int))
  else
  bif (!a0.1) then
   bif a1.1 then
    some (1 : Int)
   else
   bif a0.1 then
    ((Bo a1.2 a0.2)).bind fun x0 =>
    some x0
   else
   ((Bo a0.2 a1.2)).bind fun x1 =>
   some x1
  else
  bif a0.1 then
   ((Bo a1.2 a0.2)).bind fun x2 =>
   some x2
  else
  ((Bo a0.2 a1.2)).bind fun x3 =>
  some x3
 else
 bif (!a0.1) then
  bif a1.1 then
   some (1 : Int)
  else
  bif a0.1 then
   ((Bo a1.2 a0.2)).bind fun x4 =>
   some x4
  else
  ((Bo a0.2 a1.2)).bind fun x5 =>
  some x5
 else
 bif a0.1 then
  ((Bo a1.2 a0.2)).bind fun x6 =>
  some x6
 else
 ((Bo a0.2 a1.2)).bind fun x7 =>
 some x7
noncomputable def Nl : Ent := ⟨Iu, fun x => EH x.1 x.2⟩
noncomputable def MG : TX := ⟨tyTab, codTab, [], [4], [HO], Iu⟩
set_option maxHeartbeats 2000000 in
theorem Wg (a0 : (Bool × List (Int))) (a1 : (Bool × List (Int))) : wtF MG Tryz.f169 (a0, a1) = EH a0 a1 := by kernel_rfl
theorem TQ : EntOK RR Nl := Ab (X := MG) ⟨tyOK, boolOK, eqOK⟩ (Ad (by exact ⟨⟨H1, rfl⟩, trivial⟩)) (Ae (by kernel_rfl)) ⟨Tryz.func169, rfl, by kernel_rfl, rfl⟩ (fun x => by exact Wg x.1 x.2)
noncomputable def HV (a0 : (Bool × ((List Int) × (Bool × (List Int))))) (a1 : (Bool × ((List Int) × (Bool × (List Int))))) : Option (Int) :=
 ((BK (a0.1, a0.2.1) (a1.2.2.1, a1.2.2.2))).bind fun x0 =>
 ((BK (a1.1, a1.2.1) (a0.2.2.1, a0.2.2.2))).bind fun x1 =>
 ((EH (x0.1, x0.2) (x1.1, x1.2))).bind fun x2 =>
 some x2
noncomputable def UB : Ent := ⟨NP, fun x => HV x.1 x.2⟩
noncomputable def U6 : TX := ⟨tyTab, codTab, [], [4], [HD, Nl], NP⟩
set_option maxHeartbeats 2000000 in
theorem Ah7 (a0 : (Bool × List (Int) × Bool × List (Int))) (a1 : (Bool × List (Int) × Bool × List (Int))) : wtF U6 Tryz.f134 (a0, a1) = HV a0 a1 := by kernel_rfl
theorem Z3 : EntOK RR UB := Ab (X := U6) ⟨tyOK, boolOK, eqOK⟩ (Ad (by exact ⟨⟨IJ, rfl⟩, ⟨⟨TQ, rfl⟩, trivial⟩⟩)) (Ae (by kernel_rfl)) ⟨Tryz.func134, rfl, by kernel_rfl, rfl⟩ (fun x => by exact Ah7 x.1 x.2)
noncomputable def Ea (a0 : (Bool × ((List Int) × (Bool × ((List Int) × (Bool × ((List Int) × (Bool × (List Int))))))))) (a1 : Bool) (a2 : (Bool × ((List Int) × (Bool × (List Int))))) (a3 : Bool) : Option (Int) :=
 ((Dh (a0.1, (a0.2.1, (a0.2.2.1, (a0.2.2.2.1, (a0.2.2.2.2.1, (a0.2.2.2.2.2.1, (a0.2.2.2.2.2.2.1, a0.2.2.2.2.2.2.2))))))) a1)).bind fun x0 =>
 ((HV (x0.1, (x0.2.1, (x0.2.2.1, x0.2.2.2))) (a2.1, (a2.2.1, (a2.2.2.1, a2.2.2.2))))).bind fun x1 =>
 bif a3 then
  some (Go.IntKind.wrap Go.IntKind.i64 ((0 : Int) - x1))
 else
 some x1
noncomputable def Ph : Ent := ⟨J6, fun x => Ea x.1 x.2.1 x.2.2.1 x.2.2.2⟩
noncomputable def Pa : TX := ⟨tyTab, codTab, [], [4], [Ix, UB], J6⟩
set_option maxHeartbeats 2000000 in
theorem XF (a0 : (Bool × List (Int) × Bool × List (Int) × Bool × List (Int) × Bool × List (Int))) (a1 : Bool) (a2 : (Bool × List (Int) × Bool × List (Int))) (a3 : Bool) : wtF Pa Tryz.f269 (a0, a1, a2, a3) = Ea a0 a1 a2 a3 := by kernel_rfl
theorem V3 : EntOK RR Ph := Ab (X := Pa) ⟨tyOK, boolOK, eqOK⟩ (Ad (by exact ⟨⟨Lm, rfl⟩, ⟨⟨Z3, rfl⟩, trivial⟩⟩)) (Ae (by kernel_rfl)) ⟨Tryz.func269, rfl, by kernel_rfl, rfl⟩ (fun x => by exact XF x.1 x.2.1 x.2.2.1 x.2.2.2)
noncomputable def HP (a0 : (Bool × ((List Int) × (Bool × (List Int))))) : Option ((Bool × List (Int) × Bool × List (Int))) :=
 ((EU (a0.1, a0.2.1))).bind fun x0 =>
 some (x0.1, (x0.2, (a0.2.2.1, a0.2.2.2)))
noncomputable def Vu : Ent := ⟨Ot, fun x => HP x⟩
noncomputable def Uc : TX := ⟨tyTab, codTab, [], [4], [OJ], Ot⟩
set_option maxHeartbeats 2000000 in
theorem Aq5 (a0 : (Bool × List (Int) × Bool × List (Int))) : wtF Uc Tryz.f163 (a0) = HP a0 := by kernel_rfl
theorem Z2 : EntOK RR Vu := Ab (X := Uc) ⟨tyOK, boolOK, eqOK⟩ (Ad (by exact ⟨⟨SP, rfl⟩, trivial⟩)) (Ae (by kernel_rfl)) ⟨Tryz.func163, rfl, by kernel_rfl, rfl⟩ (fun x => by exact Aq5 x)
noncomputable def Cm (s0 : (List Int)) (s1 : (List Int)) (s2 : (List Int)) (s3 : Int) (s4 : Int) : Option (((List Int) × ((List Int) × ((List Int) × (Int × Int)))) ⊕ (List Int)) :=
 (bif decide (s4 < (((List.length s1) : Nat) : Int)) then
   some (Sum.inr (s0, (s1, (s2, (s3, s4)))))
  else
  bif decide (s4 < (((List.length s2) : Nat) : Int)) then
   some (Sum.inr (s0, (s1, (s2, (s3, s4)))))
  else
  bif decide (s3 > (0 : Int)) then
   some (Sum.inr (s0, (s1, (s2, (s3, s4)))))
  else
  some (Sum.inl (Sum.inr s0))).bind fun x0 =>
 Sum.elim
  (fun x1 =>
  some x1)
  (fun x2 =>
  ((BW x2.2.1 x2.2.2.2.2)).bind fun x3 =>
  ((BW x2.2.2.1 x2.2.2.2.2)).bind fun x4 =>
  ((appL 8 1 x2.1 (List.cons (Int.tmod (Go.IntKind.wrap Go.IntKind.i64 ((Go.IntKind.wrap Go.IntKind.i64 (x3 + x4)) + x2.2.2.2.1)) (65536 : Int)) (List.nil : List Int)))).bind fun x5 =>
  some (Sum.inl (x5, (x2.2.1, (x2.2.2.1, ((Go.IntKind.wrap Go.IntKind.i64 (Int.tdiv (Go.IntKind.wrap Go.IntKind.i64 ((Go.IntKind.wrap Go.IntKind.i64 (x3 + x4)) + x2.2.2.2.1)) (65536 : Int))), (Go.IntKind.wrap Go.IntKind.i64 (x2.2.2.2.2 + (1 : Int)))))))))
  x0
noncomputable def C3 (a0 : (List Int)) (a1 : (List Int)) : Option (List (Int)) :=
 (loopM (fun (s : ((List Int) × ((List Int) × ((List Int) × (Int × Int))))) => Cm s.1 s.2.1 s.2.2.1 s.2.2.2.1 s.2.2.2.2) ((List.nil : List Int), (a0, (a1, ((0 : Int), (0 : Int)))))).bind fun x0 =>
 some x0
noncomputable def Km : Ent := ⟨Gb, fun x => C3 x.1 x.2⟩
noncomputable def Jz : TX := ⟨tyTab, codTab, [], [4], [DO], Gb⟩
set_option maxHeartbeats 2000000 in
theorem Ru (a0 : List (Int)) (a1 : List (Int)) : wtF Jz Tryz.f237 (a0, a1) = C3 a0 a1 := by kernel_rfl
theorem Qt : EntOK RR Km := Ab (X := Jz) ⟨tyOK, boolOK, eqOK⟩ (Ad (by exact ⟨⟨D4, rfl⟩, trivial⟩)) (Ae (by kernel_rfl)) ⟨Tryz.func237, rfl, by kernel_rfl, rfl⟩ (fun x => by exact Ru x.1 x.2)
noncomputable def Dk (s0 : (List Int)) (s1 : (List Int)) (s2 : (List Int)) (s3 : Int) (s4 : Int) (s5 : Int) : Option (((List Int) × ((List Int) × ((List Int) × (Int × (Int × Int))))) ⊕ (List Int)) :=
 bif decide (s5 < s4) then
  ((getI s1 s5)).bind fun x0 =>
  ((BW s2 s5)).bind fun x1 =>
  bif decide ((Go.IntKind.wrap Go.IntKind.i64 ((Go.IntKind.wrap Go.IntKind.i64 (x0 - x1)) - s3)) < (0 : Int)) then
   ((appL 8 1 s0 (List.cons (Go.IntKind.wrap Go.IntKind.i64 ((Go.IntKind.wrap Go.IntKind.i64 ((Go.IntKind.wrap Go.IntKind.i64 (x0 - x1)) - s3)) + (65536 : Int))) (List.nil : List Int)))).bind fun x2 =>
   some (Sum.inl (x2, (s1, (s2, ((1 : Int), (s4, (Go.IntKind.wrap Go.IntKind.i64 (s5 + (1 : Int)))))))))
  else
  ((appL 8 1 s0 (List.cons (Go.IntKind.wrap Go.IntKind.i64 ((Go.IntKind.wrap Go.IntKind.i64 (x0 - x1)) - s3)) (List.nil : List Int)))).bind fun x3 =>
  some (Sum.inl (x3, (s1, (s2, ((0 : Int), (s4, (Go.IntKind.wrap Go.IntKind.i64 (s5 + (1 : Int)))))))))
 else
 some (Sum.inr s0)
noncomputable def Ci (a0 : (List Int)) (a1 : (List Int)) : Option (List (Int)) :=
 (loopM (fun (s : ((List Int) × ((List Int) × ((List Int) × (Int × (Int × Int)))))) => Dk s.1 s.2.1 s.2.2.1 s.2.2.2.1 s.2.2.2.2.1 s.2.2.2.2.2) ((List.nil : List Int), (a0, (a1, ((0 : Int), ((((List.length a0) : Nat) : Int), (0 : Int))))))).bind fun x0 =>
 ((Bm x0)).bind fun x1 =>
 some x1
noncomputable def Ki : Ent := ⟨GO, fun x => Ci x.1 x.2⟩
noncomputable def J9 : TX := ⟨tyTab, codTab, [], [4], [DO, D3], GO⟩
set_option maxHeartbeats 2000000 in
theorem Q6 (a0 : List (Int)) (a1 : List (Int)) : wtF J9 Tryz.f238 (a0, a1) = Ci a0 a1 := by kernel_rfl
theorem Qs : EntOK RR Ki := Ab (X := J9) ⟨tyOK, boolOK, eqOK⟩ (Ad (by exact ⟨⟨D4, rfl⟩, ⟨⟨DT, rfl⟩, trivial⟩⟩)) (Ae (by kernel_rfl)) ⟨Tryz.func238, rfl, by kernel_rfl, rfl⟩ (fun x => by exact Q6 x.1 x.2)
noncomputable def HE (a0 : (Bool × (List Int))) (a1 : (Bool × (List Int))) : Option ((Bool × List (Int))) :=
 bif (a0.1 == a1.1) then
  ((C3 a0.2 a1.2)).bind fun x0 =>
  ((AF a0.1 x0)).bind fun x1 =>
  some (x1.2, x1.1)
 else
 ((Bo a0.2 a1.2)).bind fun x2 =>
 bif decide (x2 ≥ (0 : Int)) then
  ((Ci a0.2 a1.2)).bind fun x3 =>
  ((AF a0.1 x3)).bind fun x4 =>
  some (x4.2, x4.1)
 else
 ((Ci a1.2 a0.2)).bind fun x5 =>
 ((AF a1.1 x5)).bind fun x6 =>
 some (x6.2, x6.1)
noncomputable def U9 : Ent := ⟨OU, fun x => HE x.1 x.2⟩
noncomputable def UJ : TX := ⟨tyTab, codTab, [], [4], [Km, CD, HO, Ki], OU⟩
set_option maxHeartbeats 2000000 in
theorem Ap2 (a0 : (Bool × List (Int))) (a1 : (Bool × List (Int))) : wtF UJ Tryz.f137 (a0, a1) = HE a0 a1 := by kernel_rfl
theorem Za : EntOK RR U9 := Ab (X := UJ) ⟨tyOK, boolOK, eqOK⟩ (Ad (by exact ⟨⟨Qt, rfl⟩, ⟨⟨Cs, rfl⟩, ⟨⟨H1, rfl⟩, ⟨⟨Qs, rfl⟩, trivial⟩⟩⟩⟩)) (Ae (by kernel_rfl)) ⟨Tryz.func137, rfl, by kernel_rfl, rfl⟩ (fun x => by exact Ap2 x.1 x.2)
noncomputable def E8 (a0 : (Bool × ((List Int) × (Bool × (List Int))))) (a1 : (Bool × ((List Int) × (Bool × (List Int))))) : Option ((Bool × List (Int) × Bool × List (Int))) :=
 ((BK (a0.1, a0.2.1) (a1.2.2.1, a1.2.2.2))).bind fun x0 =>
 ((BK (a1.1, a1.2.1) (a0.2.2.1, a0.2.2.2))).bind fun x1 =>
 ((HE (x0.1, x0.2) (x1.1, x1.2))).bind fun x2 =>
 ((BK (a0.2.2.1, a0.2.2.2) (a1.2.2.1, a1.2.2.2))).bind fun x3 =>
 ((CF (x2.1, x2.2) (x3.1, x3.2))).bind fun x4 =>
 some (x4.1, (x4.2.1, (x4.2.2.1, x4.2.2.2)))
noncomputable def KG : Ent := ⟨Od, fun x => E8 x.1 x.2⟩
noncomputable def T8 : TX := ⟨tyTab, codTab, [], [4], [HD, U9, E9], Od⟩
set_option maxHeartbeats 2000000 in
theorem Al4 (a0 : (Bool × List (Int) × Bool × List (Int))) (a1 : (Bool × List (Int) × Bool × List (Int))) : wtF T8 Tryz.f135 (a0, a1) = E8 a0 a1 := by kernel_rfl
theorem Ls : EntOK RR KG := Ab (X := T8) ⟨tyOK, boolOK, eqOK⟩ (Ad (by exact ⟨⟨IJ, rfl⟩, ⟨⟨Za, rfl⟩, ⟨⟨Fo, rfl⟩, trivial⟩⟩⟩)) (Ae (by kernel_rfl)) ⟨Tryz.func135, rfl, by kernel_rfl, rfl⟩ (fun x => by exact Al4 x.1 x.2)
noncomputable def Ed (a0 : (Bool × ((List Int) × (Bool × (List Int))))) (a1 : (Bool × ((List Int) × (Bool × (List Int))))) : Option ((Bool × List (Int) × Bool × List (Int))) :=
 ((HP (a1.1, (a1.2.1, (a1.2.2.1, a1.2.2.2))))).bind fun x0 =>
 ((E8 (a0.1, (a0.2.1, (a0.2.2.1, a0.2.2.2))) (x0.1, (x0.2.1, (x0.2.2.1, x0.2.2.2))))).bind fun x1 =>
 some (x1.1, (x1.2.1, (x1.2.2.1, x1.2.2.2)))
noncomputable def KF : Ent := ⟨N4, fun x => Ed x.1 x.2⟩
noncomputable def Ul : TX := ⟨tyTab, codTab, [], [4], [Vu, KG], N4⟩
end Go.Proofs.YtgfchmagglhohaaGreat.Ev

end
