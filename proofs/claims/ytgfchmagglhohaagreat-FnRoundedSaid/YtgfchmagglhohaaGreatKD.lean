/- What the theorem of this claim leans on, part 4. -/
import Derived.Test.YtgfchmagglhohaaGreatKC
import Derived.WalkKit
import Derived.SizedLaws
import Derived.IntWalk
import Derived.Test.YtgfchmagglhohaaGreatProg
import Derived.KernelRfl
section
namespace Go.Proofs.YtgfchmagglhohaaGreat.Ev
open Go
set_option linter.unusedVariables false
set_option linter.unusedSimpArgs false
section
variable {P : Program} {R : Rel} {cf : Cfg} {X : TX} {g : FuncId}
def EntsOK (R : Rel) (cf : Cfg) (X : TX) : Prop := ∀ g E, findF X.ents g = some E → EntOK R E ∧ E.a.g = g ∧ cf.byref g = (slotsA E.a.params).map refA
theorem Ad9 {α : Type} {op : Op} {b : Nat} {tm : TTm} {m : Tm} {hp hpm : THp} {hvm : Hp} {K : SV → THp → Cls → Option α} {z : α} (hX : XOK P X) (hisr : isR op = true) (hr : RT hp tm m) (hh : RHm hpm hp hvm) (h : wtOp X op b tm hpm K = some z) : Looks P R cf op b m hp hpm hvm K z := by
  cases op with
  | load t a => exact Ae1 hX hr hh h
  | indexAddr t x i => exact Ap6 hX hr hh h
  | convert s d x => exact Ad0 hX hr hh h
  | slice t x lo hi mx =>
    cases mx with
    | none => exact YB hX hr hh h
    | some m' =>
      cases hi with
      | none => simp [wtOp] at h
      | some h' => exact WC hX hr h
  | _ => simp [isR] at hisr
theorem Am4 {α : Type} {op : Op} {b : Nat} {tm : TTm} {m : Tm} {hp : THp} {hv : Hp} {K : SV → THp → Cls → Option α} {z : α} (hX : XOK P X) (hE : EntsOK R cf X) (hh : RH hp hv) (hr : RT hp tm m) (h : wtOp X op b tm hp K = some z) : Done P R cf op b tm m hv K z := by
  cases op with
  | move x => exact (At2 hr h).done hh hr
  | assign x => exact (Ah7 hr h).done hh hr
  | pick c x y => exact (As1 hr h).done hh hr
  | alloc t => exact Aj8 hX hh hr h
  | box t x => exact Au0 hX hh hr h
  | build t parts => exact (Am0 hX hr h).done hh hr
  | buildSlice t len parts => exact An5 hX hh hr h
  | load t a => exact (Ae1 hX hr hh.toM h).done hh hr
  | store t a x => exact Ao9 hX hh hr h
  | nilCheck x => exact (Au1 hr h).done hh hr
  | binOp op t x y yt => exact (Au5 hX hr h).done hh hr
  | unOp u t x => exact (l_un hr h).done hh hr
  | convert s d x => exact (Ad0 hX hr hh.toM h).done hh hr
  | makeSlice t l c => exact As7 hX hh hr h
  | slice t x lo hi mx =>
    cases mx with
    | none => exact (YB hX hr hh.toM h).done hh hr
    | some m' =>
      cases hi with
      | none => simp [wtOp] at h
      | some h' => exact (WC hX hr h).done hh hr
  | fieldAddr t x k => exact (Va hX hr h).done hh hr
  | field t x k => exact (Ak2 hX hr h).done hh hr
  | indexAddr t x i => exact (Ap6 hX hr hh.toM h).done hh hr
  | index t x i => exact (Ak1 hX hr h).done hh hr
  | extract x k => exact (ZF hr h).done hh hr
  | makeFunc fn first caps =>
    cases fn with
    | func f => exact (As9 hr h).done hh hr
    | _ => simp [wtOp] at h
  | call c =>
    obtain ⟨callee, args, ts⟩ := c
    cases callee with
    | builtin bi =>
      cases bi with
      | append => exact Aj0 hX hh hr h
      | len => exact (At7 hX hr hh.toM h).done hh hr
      | min => exact (Au4 hr h).done hh hr
      | max => exact (At5 hr h).done hh hr
      | _ => simp [wtOp] at h
    | value f =>
      simp only [wtOp] at h
      split at h
      · rename_i g caps hf
        have hc := Aw hr f
        rw [hf] at hc
        obtain ⟨us, hfv, hcs⟩ := YL hc
        obtain ⟨x, hp', cls, y, hv', h1, h2, h3, h4, h5⟩ := ZR hE hh hr (RC.append (F1 hr args.toList) (hcs.mono fun _ _ _ h => h.to1.to2)) h
        refine ⟨x, hp', cls, y, hv', h1, h2, h3, h4, fun KV hk => ?_⟩
        show (match opnd m f with | .cl g caps => weInv R cf g (args.toList.map (opnd m) ++ caps) hv b KV | _ => False)
        rw [hfv]
        exact h5 KV hk
      · cases h
    | _ => simp [wtOp] at h
  | _ => simp [wtOp] at h
theorem Ac3 {b : Nat} : ∀ (hp : THp) (id : Nat), getB (maskT b hp) id = if id < b then getB hp id else none
  | [], id => by simp [maskT, getB]
  | (k, x) :: l, id => by
    have ih := Ac3 (b := b) l id
    unfold maskT at ih ⊢
    rw [List.filter_cons]
    by_cases hk : k < b
    · have : Nat.blt k b = true := Nat.ble_eq_true_of_le hk
      simp only [this, if_true]
      rw [Ak, Ak]
      by_cases hi : id = k
      · subst hi; rw [if_pos rfl, if_pos rfl, if_pos hk]
      · rw [if_neg hi, if_neg hi]; exact ih
    · have : Nat.blt k b = false := by
        cases hb : Nat.blt k b with
        | false => rfl
        | true => exact absurd (Nat.lt_of_succ_le (Nat.le_of_ble_eq_true hb)) hk
      simp only [this, Bool.false_eq_true, if_false]
      rw [Ak]
      by_cases hi : id = k
      · subst hi; rw [if_neg hk] at ih ⊢; exact ih
      · rw [if_neg hi]; exact ih
theorem Ao0 {α : Type} {draw : Bool} {op : Op} {b : Nat} {tm : TTm} {m : Tm} {hp : THp} {hv : Hp} {K : SV → THp → Cls → Option α} {z : α} (hX : XOK P X) (hE : EntsOK R cf X) (hh : RH hp hv) (hr : RT hp tm m) (h : wtAt X draw op b tm hp K = some z) :
    ∃ x hp' cls y hv', K x hp' cls = some z ∧ RV2 hp' x y ∧ RH hp' hv' ∧ RT hp' tm m ∧ ∀ KV : Cont, KV y hv' cls → opAt P R cf draw op b (opnd m) hv KV := by
  unfold wtAt at h
  cases hd : draw && isR op with
  | true =>
    rw [hd] at h
    have hi : isR op = true := by simp only [Bool.and_eq_true] at hd; exact hd.2
    obtain ⟨x, y, cls, h1, h2, h3⟩ := Ad9 (R := R) (cf := cf) (hp := hp) (hpm := maskT b hp) (hvm := mask b hv) hX hi hr (fun id bb hb => by
      rw [Ac3] at hb
      split at hb
      · rename_i hlt
        obtain ⟨k, hk, hrb⟩ := hh id bb hb
        exact ⟨hb, k, by simp only [mask, if_pos hlt, hk], hrb⟩
      · cases hb) h
    refine ⟨x, hp, cls, y, hv, h1, h2, hh, hr, fun KV hk => ?_⟩
    unfold opAt
    rw [hd]
    exact h3 (fun x _ cls => KV x hv cls) hk
  | false =>
    rw [hd] at h
    obtain ⟨x, hp', cls, y, hv', h1, h2, h3, h4, h5⟩ := Am4 hX hE hh hr h
    refine ⟨x, hp', cls, y, hv', h1, h2, h3, h4, fun KV hk => ?_⟩
    unfold opAt
    rw [hd]
    exact h5 KV hk
theorem Y7 {hp : THp} {tm : TTm} {m : Tm} {x : SV} {y : V} (h : RT hp tm m) (hx : RV2 hp x y) (dst : Option Tmp) : RT hp (putTm tm dst x) (put m dst y) := by
  cases dst with
  | none => exact h
  | some d =>
    intro t
    simp only [putTm, put]
    rw [DT]
    unfold upd
    split
    · exact hx
    · exact h t
theorem Ah3 {hp : THp} {tm : TTm} {m : Tm} {op : Op} (hr : RT hp tm m) (h : sureOp tm op = true) : opIds m op = idsOp tm op := by
  unfold opIds idsOp
  unfold sureOp at h
  generalize op.operands.toList = l at h ⊢
  induction l with
  | nil => rfl
  | cons y l ih =>
    simp only [List.map_cons, List.all_cons, Bool.and_eq_true] at h
    simp only [List.flatMap_cons, List.map_cons]
    rw [ih h.2, (Fd h.1 (Aw hr y)).2.2.1]
theorem Mk {α β : Type} {f g : α → List β} : ∀ {l : List α}, (∀ x ∈ l, f x = g x) → l.flatMap f = l.flatMap g
  | [], _ => rfl
  | x :: l, h => by
    rw [List.flatMap_cons, List.flatMap_cons, h x (List.mem_cons_self ..), Mk fun y hy => h y (List.mem_cons_of_mem _ hy)]
theorem V3 {hp : THp} {hv : Hp} {tm : TTm} {m : Tm} {op : Op} {ids : List Nat} (hE : EntsOK R cf X) (hh : RH hp hv) (hr : RT hp tm m) (h : touchedT X op tm hp = some ids) : touched cf op (opnd m) hv = some ids := by
  unfold touchedT at h
  split at h
  · rename_i t a x
    split at h
    · rename_i hc
      cases h
      simp only [Bool.and_eq_true] at hc
      simp only [touched]
      rw [(Fd hc.1 (Aw hr a)).2.2.1, (Fd hc.2 (Aw hr x)).2.2.1]
    · cases h
  · rename_i f args tys
    split at h
    case h_2 => cases h
    rename_i g caps hf
    split at h
    case h_2 => cases h
    rename_i E hfe
    obtain ⟨_, _, hbr⟩ := hE g E hfe
    split at h
    case h_2 => cases h
    rename_i args' hargs'
    split at h
    case isFalse => cases h
    rename_i s1
    split at h
    case h_2 => cases h
    rename_i o ho
    cases h
    have hc := Aw hr f
    rw [hf] at hc
    obtain ⟨us, hfv, hcs⟩ := YL hc
    obtain ⟨ys', hV, hargs2, hlent⟩ := K6 hh hargs' (RC.append (F1 hr args.toList) (hcs.mono fun _ _ _ h => h.to1.to2))
    obtain ⟨a1, a2, a3, a4⟩ := RC.all1 s1 hargs2
    rw [← hbr] at hV hlent
    have hclose : close hv 64 (ys'.flatMap refs1) [] = some o := by rw [a2]; exact ES hh _ _ _ ho
    have hcloseC : closeC hv (ys'.flatMap refs1) = some o := by
      unfold closeC
      rw [hclose]
      simp only
      rw [if_pos (by rw [a2]; exact L0 hh ho)]
    simp only [touched, hfv, hV, hcloseC, hlent]
  · rename_i t n parts
    split at h
    · rename_i hc
      cases h
      simp only [touched]
      congr 1
      refine Mk fun p hp => ?_
      exact (Fd (List.all_eq_true.1 hc p hp) (Aw hr p.2)).2.2.1
    · cases h
  · cases h
theorem An2 {hp : THp} {hv : Hp} {tm : TTm} {m : Tm} {all : List Oper} {i : Nat} (hE : EntsOK R cf X) (hh : RH hp hv) (hr : RT hp tm m) (h : farT X all tm hp i = true) : farOK cf all m hv i = true := by
  unfold farT at h
  unfold farOK
  cases ha : all[i]? with
  | none => rw [ha] at h; cases h
  | some a =>
    rw [ha] at h
    simp only [Bool.and_eq_true] at h ⊢
    refine ⟨h.1, ?_⟩
    replace h := h.2
    cases ht : touchedT X a.op tm hp with
    | none => rw [ht] at h; cases h
    | some ids =>
      rw [ht] at h
      rw [V3 hE hh hr ht]
      simp only at h ⊢
      refine List.all_eq_true.2 fun j hj => ?_
      have h4 := List.all_eq_true.1 h j hj
      cases ho : all[j]? with
      | none => simp
      | some o =>
        rw [ho] at h4
        simp only [Bool.or_eq_true, Bool.and_eq_true] at h4 ⊢
        rcases h4 with h4 | h4 | ⟨h4, h5, h6⟩
        · exact .inl h4
        · exact .inr (.inl h4)
        · exact .inr (.inr ⟨h4, by rw [Ah3 hr h5]; exact h6⟩)
theorem Ar9 {hp : THp} {hv : Hp} {tm : TTm} {m : Tm} {all : List Oper} {i : Nat} (hE : EntsOK R cf X) (hh : RH hp hv) (hr : RT hp tm m) (h : (eOK all i || farT X all tm hp i) = true) : (eOK all i || farOK cf all m hv i) = true := by
  simp only [Bool.or_eq_true] at h ⊢
  exact h.imp (fun h => h) (An2 hE hh hr)
theorem Aj3 {α : Type} {draw ok ok' : Bool} {cls : Cls} {A : Option α} {z : α} (hok : ok = true → ok' = true) (h : drawnT draw ok cls A = some z) : A = some z ∧ ∀ B : Prop, B → drawn draw ok' cls B := by
  cases draw <;> cases cls <;> first | exact ⟨h, fun B hb => hb⟩ | (obtain ⟨h1, h2⟩ := BN h; exact ⟨h2, fun B hb => ⟨hok h1, hb⟩⟩)
theorem P5 {α : Type} {all : List Oper} {draw : Bool} (hX : XOK P X) (hE : EntsOK R cf X) : ∀ (l : List Oper) (i : Nat) {st : TSt} {s : St} {K : TSt → Option α} {z : α}, RS st s → wtOps X all draw l i st K = some z →
    ∃ st' s', K st' = some z ∧ RS st' s' ∧ st'.c = st.c ∧ ∀ KV : St → Prop, KV s' → weOps P R cf all draw l i s KV
  | [], i, st, s, K, z, hs, h => ⟨st, s, h, hs, rfl, fun KV hk => hk⟩
  | o :: l, i, st, s, K, z, hs, h => by
    have go : ∀ (tm : TTm), RT st.hp tm s.tm → (wtAt X draw o.op (16 * (st.c + i)) tm st.hp fun x hp cls => drawnT draw (eOK all i || farT X all tm st.hp i) cls (wtOps X all draw l (i + 1) { tm := putTm tm o.dst x, hp := hp, c := st.c } K)) = some z →
        ∃ st' s', K st' = some z ∧ RS st' s' ∧ st'.c = st.c ∧ ∀ KV : St → Prop, KV s' → opAt P R cf draw o.op (16 * (s.c + i)) (opnd s.tm) s.hp fun x hp cls => drawn draw (eOK all i || farOK cf all s.tm s.hp i) cls (weOps P R cf all draw l (i + 1) { tm := put s.tm o.dst x, hp := hp, c := s.c } KV) := by
      intro tm hr h
      obtain ⟨x, hp', cls, y, hv', h1, h2, h3, h4, h5⟩ := Ao0 (R := R) (cf := cf) hX hE hs.hp hr h
      obtain ⟨h6, h7⟩ := Aj3 (Ar9 hE hs.hp hr) h1
      obtain ⟨st', s', q1, q2, q3, q4⟩ := P5 hX hE l (i + 1) (st := { tm := putTm tm o.dst x, hp := hp', c := st.c }) (s := { tm := put s.tm o.dst y, hp := hv', c := s.c }) ⟨Y7 h4 h2 o.dst, h3, hs.c⟩ h6
      exact ⟨st', s', q1, q2, q3, fun KV hk => by rw [hs.c]; exact h5 _ (by have := h7 _ (q4 KV hk); rw [hs.c] at this; exact this)⟩
    have no : ∀ (tm : TTm), RT st.hp tm s.tm → wtOps X all draw l (i + 1) { tm := putTm tm o.dst (.tup []), hp := st.hp, c := st.c } K = some z →
        ∃ st' s', K st' = some z ∧ RS st' s' ∧ st'.c = st.c ∧ ∀ KV : St → Prop, KV s' → weOps P R cf all draw l (i + 1) { tm := put s.tm o.dst (.tup []), hp := s.hp, c := s.c } KV := by
      intro tm hr h
      exact P5 hX hE l (i + 1) (st := { tm := putTm tm o.dst (.tup []), hp := st.hp, c := st.c }) (s := { tm := put s.tm o.dst (.tup []), hp := s.hp, c := s.c }) ⟨Y7 (x := .tup []) (y := .tup []) hr ⟨[], rfl, trivial⟩ o.dst, hs.hp, hs.c⟩ h
    simp only [wtOps] at h
    cases hg : o.guard with
    | none =>
      rw [hg] at h
      obtain ⟨st', s', q1, q2, q3, q4⟩ := go st.tm hs.tm h
      exact ⟨st', s', q1, q2, q3, fun KV hk => by unfold weOps; rw [hg]; exact q4 KV hk⟩
    | some jw =>
      obtain ⟨j, want⟩ := jw
      rw [hg] at h
      simp only at h
      cases hd : (all[j]?).bind (·.dst) with
      | none => rw [hd] at h; cases h
      | some d =>
        rw [hd] at h
        simp only at h
        have htd := hs.tm d
        have fin : ∀ w : Bool, guardC (s.tm d) want = some w → (∃ st' s', K st' = some z ∧ RS st' s' ∧ st'.c = st.c ∧ ∀ KV : St → Prop, KV s' → (if w = true then opAt P R cf draw o.op (16 * (s.c + i)) (opnd s.tm) s.hp fun x hp cls => drawn draw (eOK all i || farOK cf all s.tm s.hp i) cls (weOps P R cf all draw l (i + 1) { tm := put s.tm o.dst x, hp := hp, c := s.c } KV) else weOps P R cf all draw l (i + 1) { tm := put s.tm o.dst (.tup []), hp := s.hp, c := s.c } KV)) →
            ∃ st' s', K st' = some z ∧ RS st' s' ∧ st'.c = st.c ∧ ∀ KV : St → Prop, KV s' → weOps P R cf all draw (o :: l) i s KV := by
          intro w hw ⟨st', s', q1, q2, q3, q4⟩
          refine ⟨st', s', q1, q2, q3, fun KV hk => ?_⟩
          unfold weOps
          rw [hg]
          simp only [hd, Option.map_some, Ah, hw]
          exact q4 KV hk
        have same : ∀ t : Bool, s.tm d = .v (.bool t) → RT st.hp ((d, .bool t) :: st.tm) s.tm := by
          intro t ht t'
          rw [DT]
          split
          · rename_i he; rw [he, ht]; rfl
          · exact hs.tm t'
        split at h
        · rename_i t hv
          rw [hv] at htd
          have htd := Ke htd
          cases want with
          | true =>
            simp only at h
            cases t with
            | true =>
              obtain ⟨st', s', q1, q2, q3, q4⟩ := go _ (same true htd) h
              exact fin true (by rw [htd]; rfl) ⟨st', s', q1, q2, q3, fun KV hk => by rw [if_pos rfl]; exact q4 KV hk⟩
            | false =>
              obtain ⟨st', s', q1, q2, q3, q4⟩ := no _ (same false htd) h
              exact fin false (by rw [htd]; rfl) ⟨st', s', q1, q2, q3, fun KV hk => by rw [if_neg (by simp)]; exact q4 KV hk⟩
          | false =>
            simp only at h
            cases t with
            | true =>
              obtain ⟨st', s', q1, q2, q3, q4⟩ := no _ (same true htd) h
              exact fin false (by rw [htd]; rfl) ⟨st', s', q1, q2, q3, fun KV hk => by rw [if_neg (by simp)]; exact q4 KV hk⟩
            | false =>
              obtain ⟨st', s', q1, q2, q3, q4⟩ := go _ (same false htd) h
              exact fin true (by rw [htd]; rfl) ⟨st', s', q1, q2, q3, fun KV hk => by rw [if_pos rfl]; exact q4 KV hk⟩
        · rename_i hv
          rw [hv] at htd
          obtain ⟨us, hus, hc⟩ := (show ∃ us, s.tm d = .tup us ∧ RC (RV1 st.hp) [] us from htd)
          cases us with
          | cons a l => exact hc.elim
          | nil =>
            obtain ⟨st', s', q1, q2, q3, q4⟩ := no _ hs.tm h
            exact fin false (by rw [hus]; rfl) ⟨st', s', q1, q2, q3, fun KV hk => by rw [if_neg (by simp)]; exact q4 KV hk⟩
        · cases h
structure CfOK (cf : Cfg) (g : FuncId) (X : TX) : Prop where
  live : ∀ r an, findN X.ann.heads r = some an → cf.live g r = keepI an
  out : ∀ r outs ex an, findN X.ann.outs r = some outs → findE outs ex = some an → cf.out g r ex = keepI an
  join : ∀ r an, findN X.ann.joins r = some an → cf.join g r = some (keepI an)
  nojoin : ∀ r, findN X.ann.joins r = none → cf.join g r = none
  res : cf.res g = (keepI X.ann.res).map (·.2)
  par : cf.par g = keepI X.ann.params
  rts : cf.rts g = mdsL (rtsT (blksI X.ann.res) X.ann.e 0 (blksI X.ann.res))
theorem Tg {a b : Ex} (h : exEq a b = true) : a = b := by
  cases a <;> cases b <;> simp [exEq] at h
  · rfl
  · rw [h]
  · rfl
theorem YT {α : Type} {e : Nat} {Q : TPost α} {ex : Ex} {st : TSt} {z : α} : ∀ {l : List (Ex × List Item)} {d : denX l}, injX e l ex st = some d → elimX Q l d = some z → ∃ an dd, findE l ex = some an ∧ decSt e an st = some dd ∧ Q ex (encSt an dd) = some z
  | [], d, h, _ => by cases h
  | [a], d, h, hz => by
    simp only [injX] at h
    obtain ⟨h1, h2⟩ := BN h
    have := Tg h1
    subst this
    refine ⟨a.2, d, ?_, h2, hz⟩
    show cond (exEq a.1 a.1) (some a.2) _ = _
    rw [h1]; rfl
  | a :: b :: l, d, h, hz => by
    simp only [injX] at h
    cases hc : exEq a.1 ex with
    | true =>
      rw [hc] at h
      simp only [cond_true, Option.map_eq_some_iff] at h
      obtain ⟨dd, h1, rfl⟩ := h
      have := Tg hc
      subst this
      refine ⟨a.2, dd, ?_, h1, hz⟩
      show cond (exEq a.1 a.1) (some a.2) _ = _
      rw [hc]; rfl
    | false =>
      rw [hc] at h
      simp only [cond_false, Option.map_eq_some_iff] at h
      obtain ⟨dd, h1, rfl⟩ := h
      obtain ⟨an, d2, q1, q2, q3⟩ := YT (l := b :: l) h1 hz
      refine ⟨an, d2, ?_, q2, q3⟩
      show cond (exEq a.1 ex) (some a.2) (findE (b :: l) ex) = _
      rw [hc]; exact q1
theorem C7 (hX : XOK P X) (hE : EntsOK R cf X) (hcf : CfOK cf g X) : ∀ (c : Code) {α : Type} {st : TSt} {s : St} {Q : TPost α} {z : α}, RS st s → wtC X c st Q = some z →
    ∃ ex st' s', Q ex st' = some z ∧ RS st' s' ∧ ∀ QV : Post, QV ex s' → we P R cf g X.e c s QV
  | .skip, α, st, s, Q, z, hs, h => ⟨.normal, st, s, h, hs, fun QV hq => hq⟩
  | .exit id, α, st, s, Q, z, hs, h => ⟨.exit id, st, s, h, hs, fun QV hq => hq⟩
  | .ret, α, st, s, Q, z, hs, h => ⟨.ret, st, s, h, hs, fun QV hq => hq⟩
  | .region id ops draw, α, st, s, Q, z, hs, h => by
    obtain ⟨st', s', h1, h2, h3, h4⟩ := P5 (R := R) (cf := cf) hX hE _ 0 hs h
    refine ⟨.normal, _, { s' with c := s'.c + ops.size }, h1, ⟨h2.tm, h2.hp, by show s'.c + _ = st'.c + _; rw [h2.c]⟩, fun QV hq => ?_⟩
    unfold we
    exact h4 _ hq
  | .seq a b, α, st, s, Q, z, hs, h => by
    unfold wtC at h
    cases hj : findN X.ann.joins (rid b) with
    | none =>
      rw [hj] at h
      simp only at h
      obtain ⟨ex, st1, s1, h1, h2, h3⟩ := C7 hX hE hcf a hs h
      cases ex with
      | normal =>
        obtain ⟨ex, st2, s2, q1, q2, q3⟩ := C7 hX hE hcf b h2 h1
        exact ⟨ex, st2, s2, q1, q2, fun QV hq => by unfold we; exact h3 _ (by show meet _ _ _ _; rw [hcf.nojoin _ hj]; exact q3 QV hq)⟩
      | exit id => exact ⟨.exit id, st1, s1, h1, h2, fun QV hq => by unfold we; exact h3 _ hq⟩
      | ret => exact ⟨.ret, st1, s1, h1, h2, fun QV hq => by unfold we; exact h3 _ hq⟩
    | some an =>
      rw [hj] at h
      simp only at h
      obtain ⟨w, hw, hz⟩ := AK h
      obtain ⟨ex, st1, s1, h1, h2, h3⟩ := C7 hX hE hcf a hs hw
      have other : ∀ ex', ex' ≠ .normal → ex = ex' → (Q ex' st1).map Sum.inl = some w → ∃ ex st' s', Q ex st' = some z ∧ RS st' s' ∧ ∀ QV : Post, QV ex s' → we P R cf g X.e (a.seq b) s QV := by
        intro ex' hne he h1
        subst he
        simp only [Option.map_eq_some_iff] at h1
        obtain ⟨r, hr, rfl⟩ := h1
        simp only [Sum.elim_inl, Option.some.injEq] at hz
        subst hz
        refine ⟨ex, st1, s1, hr, h2, fun QV hq => ?_⟩
        unfold we
        refine h3 _ ?_
        cases ex with
        | normal => exact absurd rfl hne
        | exit id => exact hq
        | ret => exact hq
      cases ex with
      | normal =>
        simp only [Option.map_eq_some_iff] at h1
        obtain ⟨d, hd, rfl⟩ := h1
        simp only [Sum.elim_inr] at hz
        obtain ⟨s2, c1, c2⟩ := HG h2 hd
        obtain ⟨ex, st3, s3, q1, q2, q3⟩ := C7 hX hE hcf b c2 hz
        exact ⟨ex, st3, s3, q1, q2, fun QV hq => by unfold we; exact h3 _ (by show meet _ _ _ _; rw [hcf.join _ _ hj]; exact c1 _ (q3 QV hq))⟩
      | exit id => exact other (.exit id) (by simp) rfl h1
      | ret => exact other .ret (by simp) rfl h1
  | .cond c x y, α, st, s, Q, z, hs, h => by
    unfold wtC at h
    have hc := Aw hs.tm c
    split at h
    · rename_i t ht
      rw [ht] at hc
      have hc := Ke hc
      cases t with
      | true =>
        obtain ⟨ex, st1, s1, h1, h2, h3⟩ := C7 hX hE hcf x hs h
        exact ⟨ex, st1, s1, h1, h2, fun QV hq => by unfold we; rw [hc]; exact h3 QV hq⟩
      | false =>
        obtain ⟨ex, st1, s1, h1, h2, h3⟩ := C7 hX hE hcf y hs h
        exact ⟨ex, st1, s1, h1, h2, fun QV hq => by unfold we; rw [hc]; exact h3 QV hq⟩
    · cases h
  | .block id c, α, st, s, Q, z, hs, h => by
    unfold wtC at h
    obtain ⟨ex, st1, s1, h1, h2, h3⟩ := C7 hX hE hcf c hs h
    cases ex with
    | normal => exact ⟨.normal, st1, s1, h1, h2, fun QV hq => by unfold we; exact h3 _ hq⟩
    | ret => exact ⟨.ret, st1, s1, h1, h2, fun QV hq => by unfold we; exact h3 _ hq⟩
    | exit j =>
      simp only at h1
      cases hj : Nat.beq j id with
      | true =>
        rw [hj] at h1
        have hji := Nat.eq_of_beq_eq_true hj
        exact ⟨.normal, st1, s1, h1, h2, fun QV hq => by unfold we; exact h3 _ (by show (if j = id then _ else _); rw [if_pos hji]; exact hq)⟩
      | false =>
        rw [hj] at h1
        have hji : j ≠ id := fun he => by subst he; rw [Nat.beq_refl] at hj; cases hj
        exact ⟨.exit j, st1, s1, h1, h2, fun QV hq => by unfold we; exact h3 _ (by show (if j = id then _ else _); rw [if_neg hji]; exact hq)⟩
  | .loop c, α, st, s, Q, z, hs, h => by
    unfold wtC at h
    split at h
    · rename_i an outs ha ho
      obtain ⟨d0, hd0, h⟩ := AK h
      obtain ⟨w, hw, hz⟩ := AK h
      obtain ⟨n, hn⟩ := HM hw
      obtain ⟨s0, c1, c2⟩ := HG hs hd0
      have key : ∀ (n : Nat) (d : denI an) (s0 : St), loopF (fun d => wtC X c (encSt an d) fun ex s => match ex with | .normal => (decSt X.e an s).map .inl | ex => (injX X.e outs ex s).map .inr) n d = some w → RS (encSt an d) s0 →
          ∃ ex st' s', Q ex st' = some z ∧ RS st' s' ∧ ∀ QV : Post, QV ex s' → loopAt P R cf g X.e c s0 QV := by
        intro n
        induction n with
        | zero => intro d s0 h _; cases h
        | succ n ih =>
          intro d s0 h hs0
          simp only [loopF] at h
          obtain ⟨o, hb, h⟩ := AK h
          obtain ⟨ex, st1, s1, h1, h2, h3⟩ := C7 hX hE hcf c hs0 hb
          have other : ∀ ex', ex' ≠ .normal → ex = ex' → (injX X.e outs ex' st1).map Sum.inr = some o → ∃ ex st' s', Q ex st' = some z ∧ RS st' s' ∧ ∀ QV : Post, QV ex s' → loopAt P R cf g X.e c s0 QV := by
            intro ex' hne he h1
            subst he
            simp only [Option.map_eq_some_iff] at h1
            obtain ⟨w', hw', rfl⟩ := h1
            simp only [Sum.elim_inr, Option.some.injEq] at h
            subst h
            obtain ⟨an2, dd, q1, q2, q3⟩ := YT hw' hz
            obtain ⟨s2, e1, e2⟩ := HG h2 q2
            refine ⟨ex, _, s2, q3, e2, fun QV hq => ?_⟩
            rw [Rm]
            refine h3 _ ?_
            cases ex with
            | normal => exact absurd rfl hne
            | exit id => show canon _ _ _ _; rw [hcf.out _ _ _ _ ho q1]; exact e1 _ hq
            | ret => show canon _ _ _ _; rw [hcf.out _ _ _ _ ho q1]; exact e1 _ hq
          cases ex with
          | normal =>
            simp only [Option.map_eq_some_iff] at h1
            obtain ⟨d', hd', rfl⟩ := h1
            simp only [Sum.elim_inl] at h
            obtain ⟨s2, e1, e2⟩ := HG h2 hd'
            obtain ⟨ex, st3, s3, q1, q2, q3⟩ := ih d' s2 h e2
            refine ⟨ex, st3, s3, q1, q2, fun QV hq => ?_⟩
            rw [Rm]
            refine h3 _ ?_
            show canon _ _ _ _
            rw [hcf.live _ _ ha]
            exact e1 _ (q3 QV hq)
          | exit id => exact other (.exit id) (by simp) rfl h1
          | ret => exact other .ret (by simp) rfl h1
      obtain ⟨ex, st', s', q1, q2, q3⟩ := key n d0 s0 hn c2
      exact ⟨ex, st', s', q1, q2, fun QV hq => by rw [Ao6, hcf.live _ _ ha]; exact c1 _ (q3 QV hq)⟩
    · cases h
  | .scope c, α, st, s, Q, z, hs, h => by simp [wtC] at h
  | .label l, α, st, s, Q, z, hs, h => by simp [wtC] at h
  | .goto l, α, st, s, Q, z, hs, h => by simp [wtC] at h
  | .rangeFunc .., α, st, s, Q, z, hs, h => by simp [wtC] at h
  | .refuse _, α, st, s, Q, z, hs, h => by simp [wtC] at h
end
end Go.Proofs.YtgfchmagglhohaaGreat.Ev

end
section
namespace Go.Proofs.YtgfchmagglhohaaGreat.Ev
open Go
set_option linter.unusedVariables false
set_option linter.unusedSimpArgs false
section
variable {P : Program} {X : TX} {g : FuncId}
structure FnOK (P : Program) (cf : Cfg) (X : TX) (fn : Func) (c : Code) : Prop where
  get : P.funcs[X.ann.g]? = some fn
  body : fn.body = some c
  ok : bodyOK fn c (slotsI X.ann.params).length = true
  ext : cf.isExt X.ann.g = false
theorem Ab {cf : Cfg} {ext : Rel} {fn : Func} {c : Code} {F : denI X.ann.params → Option (denI X.ann.res)} (hX : XOK P X) (hE : EntsOK (Runs P cf ext) cf X) (hcf : CfOK cf X.ann.g X) (hf : FnOK P cf X fn c)
    (hF : ∀ x, wtF X fn x = F x) : EntOK (Runs P cf ext) ⟨X.ann, F⟩ := by
  intro x y args blks st0 hy hs0 hd hid hl he _
  have hy : wtF X fn x = some y := by rw [hF]; exact hy
  unfold wtF at hy
  rw [hf.body] at hy
  simp only at hy
  have he : (args.flatMap refs1).eraseDups.length = X.e := he
  obtain ⟨s0, k1, hs⟩ := HG hs0 hd
  obtain ⟨ex, st', s', h1, h2, h3⟩ := C7 hX hE hcf c hs hy
  have main : ∀ ex', ex = ex' → (∀ i, ex' ≠ .exit i) → (tRes X st'.tm st'.hp fn.results.toList fun xs => outT X.ann.res X.e st' xs) = some y →
      ∃ r blks', Runs P cf ext X.ann.g args blks r blks' ∧ ResRel X.ann.res y r blks' := by
    intro ex' hex hno h1
    obtain ⟨r, blks', q1, q2⟩ := Ag0 (e := X.e) (res := X.ann.res) (rs := fn.results.toList) (y := y) hX h2 h1
    refine ⟨r, blks', Runs.intro hf.ext hf.get hf.body (by rw [hl]; exact hf.ok) hid ?_, q2⟩
    rw [he, hcf.par]
    refine k1 _ (h3 _ ?_)
    rw [hcf.res, hcf.rts]
    subst hex
    cases ex with
    | exit i => exact absurd rfl (hno i)
    | normal => exact q1
    | ret => exact q1
  cases ex with
  | exit i => cases h1
  | normal => exact main .normal rfl (by simp) h1
  | ret => exact main .ret rfl (by simp) h1
theorem Ab7 {R : Rel} {cf : Cfg} {X : TX} (h : X.ents = []) : EntsOK R cf X := by
  intro g E hE
  rw [h] at hE
  cases hE
def AllEnt (R : Rel) (cf : Cfg) : List Ent → Prop
  | [] => True
  | E :: l => (EntOK R E ∧ cf.byref E.a.g = (slotsA E.a.params).map refA) ∧ AllEnt R cf l
theorem Ad {R : Rel} {cf : Cfg} {X : TX} (h : AllEnt R cf X.ents) : EntsOK R cf X := by
  intro g E hE
  generalize X.ents = l at h hE
  induction l with
  | nil => cases hE
  | cons a l ih =>
    simp only [findF] at hE
    cases hg : Nat.beq a.a.g g with
    | true =>
      rw [hg] at hE
      simp only [cond_true, Option.some.injEq] at hE
      subst hE
      have := Nat.eq_of_beq_eq_true hg
      subst this
      exact ⟨h.1.1, rfl, h.1.2⟩
    | false =>
      rw [hg] at hE
      exact ih h.2 hE
theorem Ae {tab : List FAnn} {ext : FuncId → Bool} {X : TX} (h : findA tab X.ann.g = some X.ann) : CfOK (cfOf tab ext) X.ann.g X where
  live r an hr := by simp only [cfOf, h, Option.bind_some, hr]
  out r outs ex an hr he := by simp only [cfOf, h, Option.bind_some, hr, he]
  join r an hr := by simp only [cfOf, h, Option.bind_some, hr]
  nojoin r hr := by simp only [cfOf, h, Option.bind_some, hr]
  res := by simp only [cfOf, h]
  par := by simp only [cfOf, h]
  rts := by simp only [cfOf, h]
end
end Go.Proofs.YtgfchmagglhohaaGreat.Ev

end
section
namespace Go.Proofs.YtgfchmagglhohaaGreat.Ev
open Go Go.RowKit
set_option linter.unusedVariables false
set_option linter.unusedSimpArgs false
def shT : Sh → Ty
  | .int k => .int k
  | .str => .str
  | .bool => .bool
  | .sl _ e => .sl (shT e)
  | .pair a b => .pair (shT a) (shT b)
def WFS : (s : Sh) → (shT s).den → Prop
  | .int k, n => (Lit.int k n).wf = true
  | .str, s => s.length ≤ maxBytes
  | .bool, _ => True
  | .sl bytes e, l => (∀ a ∈ (show List (shT e).den from l), WFS e a) ∧ (show List (shT e).den from l).length * bytes ≤ maxBytes
  | .pair a b, x => WFS a (show (shT a).den × (shT b).den from x).1 ∧ WFS b (show (shT a).den × (shT b).den from x).2
theorem Yw : ∀ {s : Sh} {xs : List V}, DV s xs → ∃ x, RE (shT s) x xs ∧ WFS s x
  | .int k, xs, h => by obtain ⟨n, rfl, hn⟩ := h; exact ⟨n, rfl, hn⟩
  | .str, xs, h => by obtain ⟨s, rfl, hs⟩ := h; exact ⟨s.data.toList, by simp [RE, shT], by show s.data.toList.length ≤ maxBytes; rw [Array.length_toList]; exact hs⟩
  | .bool, xs, h => by obtain ⟨b, rfl⟩ := h; exact ⟨b, rfl, trivial⟩
  | .sl bytes e, xs, h => by
    obtain ⟨rows, rfl, hr, hb⟩ := h
    have key : ∀ rows : List (List V), (∀ r ∈ rows, DV e r) → ∃ l : List (shT e).den, RLx (RE (shT e)) l rows ∧ ∀ a ∈ l, WFS e a := by
      intro rows
      induction rows with
      | nil => intro _; exact ⟨[], RLx.nil, by simp⟩
      | cons r rows ih =>
        intro h
        obtain ⟨a, h1, h2⟩ := Yw (h r (by simp))
        obtain ⟨l, h3, h4⟩ := ih fun r' hr' => h r' (by simp [hr'])
        refine ⟨a :: l, RLx.cons h1 h3, fun b hb => ?_⟩
        rcases List.mem_cons.1 hb with rfl | hb
        · exact h2
        · exact h4 b hb
    obtain ⟨l, h1, h2⟩ := key rows hr
    exact ⟨l, .inr ⟨rows, rfl, h1⟩, h2, by rw [← h1.1]; exact hb⟩
  | .pair a b, xs, h => by
    obtain ⟨l, r, rfl, h1, h2⟩ := h
    obtain ⟨x, q1, q2⟩ := Yw h1
    obtain ⟨y, q3, q4⟩ := Yw h2
    exact ⟨(x, y), ⟨l, r, rfl, q1, q3⟩, q2, q4⟩
def acOf : Sh → AC
  | .int k => .int k
  | .str => .str
  | .bool => .bool
  | .sl _ e => .im (shT e)
  | .pair _ _ => .bool
def oneS : Sh → Bool
  | .pair _ _ => false
  | _ => true
def WFC : (s : Sh) → (acOf s).den → Prop
  | .int k, n => WFS (.int k) n
  | .str, s => WFS .str s
  | .bool, b => True
  | .sl n e, l => WFS (.sl n e) l
  | .pair _ _, _ => True
theorem Ak4 {s : Sh} {x : V} (ho : oneS s = true) (h : DV s [x]) : ∃ d : (acOf s).den, WFC s d ∧ ∀ hp, RV2 hp (encC (acOf s) d) x := by
  obtain ⟨d, h1, h2⟩ := Yw h
  cases s with
  | int k =>
    have h1 : [x] = [V.v (.int k d)] := h1
    cases h1
    exact ⟨d, h2, fun hp => rfl⟩
  | str =>
    have h1 : [x] = [V.v (.string ⟨Array.mk d⟩)] := h1
    cases h1
    exact ⟨d, h2, fun hp => rfl⟩
  | bool =>
    have h1 : [x] = [V.v (.bool d)] := h1
    cases h1
    exact ⟨d, trivial, fun hp => rfl⟩
  | sl n e =>
    refine ⟨d, h2, fun hp => ?_⟩
    rcases h1 with ⟨e1, e2⟩ | ⟨rows, e2, e3⟩
    · cases e2; exact .inl ⟨e1, rfl⟩
    · cases e2; exact .inr ⟨rows, rfl, e3⟩
  | pair a b => cases ho
def parI : Nat → List Sh → List Item
  | _, [] => []
  | i, s :: l => .slot i (.cell (acOf s)) :: parI (i + 1) l
def WFP : (i : Nat) → (l : List Sh) → denI (parI i l) → Prop
  | _, [], _ => True
  | i, s :: l, d => WFC s (hdI (.slot i (.cell (acOf s))) (parI (i + 1) l) d) ∧ WFP (i + 1) l (tlI (.slot i (.cell (acOf s))) (parI (i + 1) l) d)
def DVs : List Sh → List V → Prop
  | [], [] => True
  | s :: l, x :: xs => DV s [x] ∧ DVs l xs
  | _, _ => False
theorem DVs.length : ∀ {l : List Sh} {xs : List V}, DVs l xs → xs.length = l.length
  | [], [], _ => rfl
  | _ :: l, _ :: xs, h => by simp [DVs.length h.2]
  | [], _ :: _, h => h.elim
  | _ :: _, [], h => h.elim
theorem Y8 : ∀ (l : List Sh) (i : Nat) {xs : List V}, l.all oneS = true → DVs l xs → ∃ d : denI (parI i l), WFP i l d ∧ (∀ k, (encI k (parI i l) d).2 = []) ∧ ∀ k hp, RT hp (encI k (parI i l) d).1 (lk .any (enum i xs))
  | [], i, [], _, _ => ⟨(), trivial, fun _ => rfl, fun k hp t => trivial⟩
  | s :: l, i, x :: xs, ho, h => by
    simp only [List.all_cons, Bool.and_eq_true] at ho
    obtain ⟨a, h1, h2⟩ := Ak4 ho.1 h.1
    obtain ⟨d, h3, h4, h5⟩ := Y8 l (i + 1) ho.2 h.2
    refine ⟨consI (.slot i (.cell (acOf s))) (parI (i + 1) l) a d, ⟨?_, ?_⟩, fun k => ?_, fun k hp => ?_⟩
    · rw [PH (.slot i (.cell (acOf s)))]; exact h1
    · rw [Mp (.slot i (.cell (acOf s)))]; exact h3
    · simp only [parI, encI]
      rw [Mp (.slot i (.cell (acOf s)))]
      exact h4 k
    · simp only [parI, encI]
      rw [Mp (.slot i (.cell (acOf s))), PH (.slot i (.cell (acOf s)))]
      intro t
      show RV2 hp (getV ((i, encSV (.cell (acOf s)) a) :: _) t) (if t = i then x else lk .any (enum (i + 1) xs) t)
      rw [DT]
      split
      · exact h2 hp
      · exact h5 k hp t
  | [], _, _ :: _, _, h => h.elim
  | _ :: _, _, [], _, h => h.elim
section
variable {P : Program}
def FitsL (P : Program) : List TypeId → List Sh → Prop
  | [], [] => True
  | t :: ts, s :: l => Fits P t s ∧ FitsL P ts l
  | _, _ => False
theorem S8 {H : Type} {enc : TypeId × Value → H} {W : World} : ∀ {ts : List TypeId} {l : List Sh} {vs : List Value} {ds : List (DataW H)} {p : List MemPlace}, FitsL P ts l → l.all oneS = true → DataW.TrodAll enc P W 0 (fun _ => true) true ts vs ds p →
    (∀ (j : Nat) t v, ts[j]? = some t → vs[j]? = some v → ∃ base, Value.okWide P W .any base t v) → (∀ n ∈ DataW.weightsEach P ts ds, n ≤ reachBytes) → ∃ xs, DVs l xs ∧ Told W xs vs
  | [], [], vs, ds, p, _, _, h, _, _ => by
    obtain ⟨rfl, rfl, rfl⟩ := ChangeShapes.trodAll_nil h
    exact ⟨[], trivial, trivial⟩
  | t :: ts, s :: l, vs, ds, p, hf, ho, h, hv, hw => by
    obtain ⟨v, vs', d, ds', p1, q, rfl, rfl, rfl, ⟨fuel, h1⟩, h2⟩ := ChangeShapes.trodAll_cons h
    simp only [List.all_cons, Bool.and_eq_true] at ho
    obtain ⟨xs, q1, q2, q3⟩ := Kr fuel t s _ _ hf.1 h1 fun n hn => hw n (by simp [DataW.weightsEach, hn])
    obtain ⟨ys, q4, q5⟩ := S8 hf.2 ho.2 h2 (fun j t v h1 h2 => hv (j + 1) t v (by simpa using h1) (by simpa using h2)) fun n hn => hw n (by simp [DataW.weightsEach, hn])
    have hs1 : s.size = 1 := by cases s <;> first | rfl | (cases ho.1)
    obtain ⟨x, rfl⟩ := List.length_eq_one_iff.1 (by rw [q2, hs1])
    refine ⟨x :: ys, ⟨q1, q4⟩, ?_, q5⟩
    obtain ⟨base, hok⟩ := hv 0 t v rfl rfl
    have hc : v.cells.toList = [v] := by
      cases hf.1 with
      | int ht => simp only [Value.okWide, ht, Cell.okWide] at hok; cases v <;> simp_all [Cell.ok, Value.cells]
      | str ht => simp only [Value.okWide, ht, Cell.okWide] at hok; cases v <;> simp_all [Cell.ok, Value.cells]
      | bool ht => simp only [Value.okWide, ht, Cell.okWide] at hok; cases v <;> simp_all [Cell.ok, Value.cells]
      | sl ht => obtain ⟨a, n, c, rfl⟩ := WideShapes.okWide_slice ht hok; rfl
      | st => cases ho.1
    rw [hc] at q3
    exact q3.1
  | [], _ :: _, _, _, _, h, _, _, _, _ => h.elim
  | _ :: _, [], _, _, _, h, _, _, _, _ => h.elim
theorem PT {H : Type} {enc : TypeId × Value → H} {W W' : World} (hl : laidOutB P = true) (hb : Below W.heap.size W W') : ∀ {ts : List TypeId} {vs : List Value} {ds : List (DataW H)} {p : List MemPlace}, (∀ t ∈ ts, P.readableRec t = true ∧ t < P.types.size) → DataW.TrodAll enc P W 0 (fun _ => true) true ts vs ds p →
    ∃ q, DataW.TrodAll enc P W' 0 (fun b => decide (b < W.heap.size)) true ts vs ds q
  | [], vs, ds, p, _, h => by
    obtain ⟨rfl, rfl, rfl⟩ := ChangeShapes.trodAll_nil h
    exact ⟨[], ChangeShapes.trodAll_mk0⟩
  | t :: ts, vs, ds, p, hr, h => by
    obtain ⟨v, vs', d, ds', p1, q, rfl, rfl, rfl, h1, h2⟩ := ChangeShapes.trodAll_cons h
    obtain ⟨q', h3⟩ := PT hl hb (fun t ht => hr t (by simp [ht])) h2
    have hlt : ∀ x ∈ p1, x.block < W.heap.size := by obtain ⟨m, hm⟩ := h1; exact DataW.trod_lt m _ _ _ hm
    obtain ⟨r1, r2⟩ := hr t (by simp)
    exact ⟨_, trodAll_cons_mk (Below.trod hl r1 r2 h1 hb hlt) h3⟩
end
end Go.Proofs.YtgfchmagglhohaaGreat.Ev

end
section
namespace Go.Proofs.YtgfchmagglhohaaGreat.Ev
open Go Go.RowKit
set_option linter.unusedVariables false
set_option linter.unusedSimpArgs false
theorem Tr : ∀ (l : List Sh) (i : Nat), (slotsI (parI i l)).length = l.length
  | [], _ => rfl
  | s :: l, i => by simp [parI, slotsI, Tr l (i + 1)]
section
variable {P : Program} {J : Tabs}
def TabOK (P : Program) : List (Nat × TyD) → Prop
  | [] => True
  | x :: l => tyOf P x.1 = some x.2 ∧ TabOK P l
theorem Aq7 {l : List (Nat × TyD)} (h : TabOK P l) : ∀ t d, getD l t = some d → tyOf P t = some d := by
  intro t d hd
  induction l with
  | nil => cases hd
  | cons x l ih =>
    obtain ⟨k, y⟩ := x
    simp only [getD] at hd
    cases hk : Nat.beq t k with
    | true =>
      rw [hk] at hd
      simp only [cond_true, Option.some.injEq] at hd
      have := Nat.eq_of_beq_eq_true hk
      subst this
      subst hd
      exact h.1
    | false =>
      rw [hk] at hd
      exact ih h.2 hd
theorem Ad2 {cf : Cfg} {ext : Rel} {g : FuncId} {shs : List Sh} {heads joins : List (Nat × List Item)} {outs : List (Nat × List (Ex × List Item))} {F : denI (parI 0 shs) → Option Bool}
    (hm : P.follows .mixedOrders = true) (hext : ∀ g args blks r blks', ext g args blks r blks' → CSpec P J g args blks r blks')
    (hE : EntOK (Runs P cf ext) ⟨⟨g, 0, parI 0 shs, [.slot 0 (.cell .bool)], heads, outs, joins⟩, F⟩) (hD : ∀ d, decSt 0 (parI 0 shs) (encSt (parI 0 shs) d) = some d) (hF : ∀ d, WFP 0 shs d → F d = some true) (ho : shs.all oneS = true)
    {w : World} (hJ : ∀ x ∈ J, w.heap[x.1]? = some x.2) {xs : List V} {vals : Array Value} (hx : DVs shs xs) (hv : Told w xs vals.toList) : Calls P g vals w fun e w' => e = .returned (.bool true) ∧ Below w.heap.size w w' := by
  obtain ⟨d, h1, h2, h3⟩ := Y8 shs 0 ho hx
  have hrefs := TN hv
  obtain ⟨r, blks', q1, q2⟩ := hE d true xs [] (encSt (parI 0 shs) d) (hF d h1) ⟨h3 0 _, (fun id b hb => by
    rw [show (encSt (parI 0 shs) d).hp = (encI 0 (parI 0 shs) d).2 from rfl, h2] at hb
    exact absurd hb (by simp [getB])), rfl⟩ (hD d) (Wk hv) (by rw [hx.length]; exact (Tr shs 0).symm) (by rw [hrefs]; rfl) (fun _ => rfl)
  have hr : r = .v (.bool true) := q2.val
  have hb : blks' = [] := List.eq_nil_of_length_eq_zero q2.len
  subst hr
  subst hb
  exact Zf hm hext hJ hv q1
theorem UC {H : Type} {enc : TypeId × Value → H} {cf : Cfg} {ext : Rel} {g : FuncId} {shs : List Sh} {heads joins : List (Nat × List Item)} {outs : List (Nat × List (Ex × List Item))} {F : denI (parI 0 shs) → Option Bool} {fn : Func} {s : ChangeSpec} {ts : List TypeId} {rt : TypeId}
    (hm : P.follows .mixedOrders = true) (hext : ∀ g args blks r blks', ext g args blks r blks' → CSpec P J g args blks r blks')
    (hE : EntOK (Runs P cf ext) ⟨⟨g, 0, parI 0 shs, [.slot 0 (.cell .bool)], heads, outs, joins⟩, F⟩) (hD : ∀ d, decSt 0 (parI 0 shs) (encSt (parI 0 shs) d) = some d) (hF : ∀ d, WFP 0 shs d → F d = some true) (ho : shs.all oneS = true)
    (hp : fn.params.toList = ts) (hr : fn.resultTypes.toList = [rt]) (hrt : P.underlying rt = some .bool) (hf : FitsL P ts shs) (hl : laidOutB P = true) (hread : ∀ t ∈ ts, P.readableRec t = true ∧ t < P.types.size) (hvars : s.vars = [])
    (hs : ∀ ds : List (DataW H), ds.length = ts.length → s.fn H (ds ++ []) = { results := [.lit (.bool true)], args := ds, vars := [] })
    {W : World} (hJ : ∀ x ∈ J, W.heap[x.1]? = some x.2) {base : Nat} {args : Array Value} {ds gs : List (DataW H)} {before : List MemPlace}
    (hval : ∀ (j : Nat) t v, fn.params[j]? = some t → args[j]? = some v → Value.okWide P W .any base t v) (hW : DataW.Whole enc P fn.params.toList s.vars false W args.toList ds gs before)
    (hsz : (DataW.weightsEach P (fn.params.toList ++ s.plain.varTypes P) (ds ++ gs)).all (· ≤ reachBytes) = true) :
    Calls P g args W fun e W' => ∃ v, e = .returned v ∧ s.post enc P fn false true false false W args v W' := by
  have hW' := hW
  obtain ⟨p, q, hA, hV, rfl, hfz, hnd⟩ := hW
  rw [hvars] at hV
  obtain ⟨rfl, rfl⟩ := ChangeShapes.trodVars_none hV
  rw [hp] at hA
  have hlen : ∀ {ts : List TypeId} {vs : List Value} {ds : List (DataW H)} {p : List MemPlace}, DataW.TrodAll enc P W 0 (fun _ => true) true ts vs ds p → ds.length = ts.length := by
    intro ts
    induction ts with
    | nil => intro vs ds p h; obtain ⟨_, rfl, _⟩ := ChangeShapes.trodAll_nil h; rfl
    | cons t ts ih => intro vs ds p h; obtain ⟨v, vs', d, ds', p1, q, rfl, rfl, rfl, h1, h2⟩ := ChangeShapes.trodAll_cons h; simp [ih h2]
  have hdl := hlen hA
  have hwt : ∀ n ∈ DataW.weightsEach P ts ds, n ≤ reachBytes := by
    intro n hn
    have hmem : ∀ (a b : List TypeId) (c d : List (DataW H)), ∀ n ∈ DataW.weightsEach P a c, c.length = a.length → n ∈ DataW.weightsEach P (a ++ b) (c ++ d) := by
      intro a
      induction a with
      | nil => intro b c d n hn hl; cases c <;> simp [DataW.weightsEach] at hn hl
      | cons t a ih =>
        intro b c d n hn hl
        cases c with
        | nil => simp [DataW.weightsEach] at hn
        | cons x c =>
          simp only [DataW.weightsEach, List.mem_append, List.cons_append] at hn ⊢
          rcases hn with hn | hn
          · exact .inl hn
          · exact .inr (ih b c d n hn (by simpa using hl))
    rw [hp] at hsz
    have := List.all_eq_true.1 hsz n (hmem ts _ ds _ n hn hdl)
    simpa using this
  obtain ⟨xs, h1, h2⟩ := S8 hf ho hA (fun j t v h1 h2 => ⟨base, hval j t v (by rw [← hp] at h1; simpa using h1) (by simpa using h2)⟩) hwt
  refine (Ad2 hm hext hE hD hF ho hJ h1 h2).mono fun e W' ⟨he, bel⟩ => ?_
  subst he
  obtain ⟨q', hq⟩ := PT hl bel hread hA
  refine ⟨_, rfl, ds, [], _, [], q', [], hW', ?_, ?_, ?_, bel.frame _, fun h => by cases h⟩
  · rw [hs ds hdl, hr]
    have : ((Value.bool true).resultList fn.resultTypes.size) = [.bool true] := by
      have : fn.resultTypes.size = 1 := by rw [← Array.length_toList, hr]; rfl
      rw [this]; rfl
    rw [this]
    exact ChangeShapes.trodAll_mk1 (shut_bool hrt true)
  · rw [hs ds hdl, hp]
    exact hq
  · rw [hs ds hdl, hvars]
    rfl
end
end Go.Proofs.YtgfchmagglhohaaGreat.Ev

end
section
namespace Go.Proofs.YtgfchmagglhohaaGreat.Ev
open Go
set_option linter.unusedVariables false
set_option linter.unusedSimpArgs false
theorem wrapI {n : Int} (h1 : -9223372036854775808 ≤ n) (h2 : n ≤ 9223372036854775807) : IntKind.wrap .i64 n = n := by rw [IntKind.wrap_i64]; omega
section
variable {σ τ ρ ρ' : Type} {f : σ → Option (σ ⊕ ρ)} {g : τ → Option (τ ⊕ ρ')}
theorem Bo {s s' : σ} (h : f s = some (.inl s')) : loopM f s = loopM f s' := by rw [Vx, h]; rfl
theorem Av {s : σ} {r : ρ} (h : f s = some (.inr r)) : loopM f s = some r := by rw [Vx, h]; rfl
theorem Fp {I : σ → Prop} {R : ρ → Prop} (m : σ → Nat) (h : ∀ s, I s → (∃ s', f s = some (.inl s') ∧ I s' ∧ m s' < m s) ∨ ∃ r, f s = some (.inr r) ∧ R r) : ∀ s, I s → ∃ r, loopM f s = some r ∧ R r := by
  have : ∀ n s, m s < n → I s → ∃ r, loopM f s = some r ∧ R r := by
    intro n
    induction n with
    | zero => intro s h; omega
    | succ n ih =>
      intro s hn hs
      rcases h s hs with ⟨s', h1, h2, h3⟩ | ⟨r, h1, h2⟩
      · obtain ⟨r, h4, h5⟩ := ih s' (by omega) h2
        exact ⟨r, by rw [Bo h1, h4], h5⟩
      · exact ⟨r, Av h1, h2⟩
  exact fun s hs => this (m s + 1) s (by omega) hs
end
section
variable {α β γ : Type}
theorem Ao (l : List α) (i : Nat) : getI l (i : Int) = l[i]? := by
  unfold getI
  rw [if_pos (by omega)]
  simp
theorem YU {l : List α} {i : Int} (h0 : 0 ≤ i) (h1 : i < l.length) : ∃ a, getI l i = some a ∧ l[i.toNat]? = some a := by
  unfold getI
  rw [if_pos h0]
  have : i.toNat < l.length := by omega
  exact ⟨l[i.toNat], List.getElem?_eq_getElem this, List.getElem?_eq_getElem this⟩
theorem AP {i n : Nat} (h : i < n) : idxI (i : Int) n = some i := by
  unfold idxI
  rw [if_pos (by omega)]
  simp
theorem Fm {n b s : Nat} (h1 : n * b ≤ maxBytes) (h2 : n * s ≤ maxBytes) : lenI (n : Int) b s = some n := by
  unfold lenI
  rw [if_pos (by simp; omega)]
  simp
end
section
variable {α σ ρ : Type} {body : σ → Option (σ ⊕ ρ)}
theorem Ra {l : List α} {st : Nat → σ} {p : α → Bool} {fin : ρ} {bad : Nat → ρ} (hgo : ∀ k a, l[k]? = some a → p a = true → body (st k) = some (.inl (st (k + 1)))) (hbad : ∀ k a, l[k]? = some a → p a = false → body (st k) = some (.inr (bad k))) (hend : body (st l.length) = some (.inr fin)) :
    (l.all p = true → loopM body (st 0) = some fin) ∧ (l.all p = false → ∃ k, k < l.length ∧ loopM body (st 0) = some (bad k)) := by
  have key : ∀ (n k : Nat), k + n = l.length → ((l.drop k).all p = true → loopM body (st k) = some fin) ∧ ((l.drop k).all p = false → ∃ j, j < l.length ∧ loopM body (st k) = some (bad j)) := by
    intro n
    induction n with
    | zero =>
      intro k hk
      have : k = l.length := by omega
      subst this
      rw [List.drop_length]
      exact ⟨fun _ => Av hend, (fun h => by cases h)⟩
    | succ n ih =>
      intro k hk
      have hlt : k < l.length := by omega
      have hd : l.drop k = l[k] :: l.drop (k + 1) := List.drop_eq_getElem_cons hlt
      have he : l[k]? = some l[k] := List.getElem?_eq_getElem hlt
      rw [hd, List.all_cons]
      cases hp : p l[k] with
      | true =>
        have h1 := hgo k _ he hp
        obtain ⟨q1, q2⟩ := ih (k + 1) (by omega)
        rw [Bool.true_and, Bo h1]
        exact ⟨q1, q2⟩
      | false =>
        rw [Bool.false_and]
        exact ⟨(fun h => by cases h), fun _ => ⟨k, hlt, Av (hbad k _ he hp)⟩⟩
  have := key l.length 0 (by omega)
  rwa [List.drop_zero] at this
end
section
theorem wrap1 {k : Nat} (h : k < 4611686018427387904) : IntKind.wrap .i64 ((k : Int) + 1) = ((k + 1 : Nat) : Int) := by rw [wrapI (by omega) (by omega)]; omega
end
theorem Yr {β : Type} {b s : Nat} {l m : List β} (h1 : (l.length + m.length) * b ≤ maxBytes) (h2 : (l.length + m.length) * s ≤ maxBytes) : appL b s l m = some (l ++ m) := by
  unfold appL
  rw [if_pos ⟨h1, h2⟩]
end Go.Proofs.YtgfchmagglhohaaGreat.Ev

end
section
namespace Go.Proofs.YtgfchmagglhohaaGreat.Ev
open Go
set_option linter.unusedVariables false
set_option linter.unusedSimpArgs false
variable {P : Program} {J : Tabs}
def nilS : Value := .slice none 0 0
def cloneBody (t tb : TypeId) : Code :=
  .seq (.region 0 #[⟨some 2, .assign (.const nilS), t, "slices.go:355", #[], none⟩] false)
    (.seq (.seq (.region 1 #[⟨some 3, .move (.tmp 0), t, "slices.go:357", #[], none⟩, ⟨some 4, .binOp .eql t (.tmp 3) (.const nilS) t, tb, "slices.go:357", #[⟨0, .data⟩], none⟩] false)
        (.cond (.tmp 4) (.seq (.region 2 #[⟨some 2, .assign (.const nilS), t, "slices.go:358", #[], none⟩] false) .ret) .skip))
      (.seq (.region 3 #[⟨some 5, .buildSlice t 0 #[], t, "slices.go:362", #[], none⟩, ⟨some 6, .move (.tmp 0), t, "slices.go:362", #[], none⟩,
          ⟨some 7, .call ⟨.builtin .append, #[.tmp 5, .tmp 6], #[t, t]⟩, t, "slices.go:362", #[⟨0, .data⟩, ⟨1, .data⟩], none⟩,
          ⟨some 2, .assign (.tmp 7), t, "slices.go:362", #[⟨2, .data⟩, ⟨2, .chain⟩, ⟨0, .phase⟩, ⟨1, .phase⟩, ⟨2, .phase⟩], none⟩] false) .ret))
def cfN (e size : Nat) (deep : Bool) : Cfg := { live := fun _ _ => [], out := fun _ _ _ => [], join := fun _ _ => none, res := fun _ => [.one (.own e size deep)], par := fun _ => [(0, .one .keep)], rts := fun _ => [], byref := fun _ => [], isExt := fun _ => false }
theorem Z3 {g : FuncId} {fn : Func} {t tb e : TypeId} {d de : TyD} (hfn : P.funcs[g]? = some fn) (hb : fn.body = some (cloneBody t tb)) (hok : bodyOK fn (cloneBody t tb) 1 = true) (hr : fn.results.toList = [.tmp 2])
    (hd : tyOf P t = some d) (he : d.elem = some e) (hde : tyOf P e = some de) (hst : isStr P t = false) (a : Option Addr) (c : Nat) :
    Runs P (cfN e de.size (de.zero.all isVB)) (fun _ _ _ _ _ => False) g [.v (.slice a 0 c)] [] (.ar 0 0 0) [arrOf e de.size (de.zero.all isVB) []] := by
  refine Runs.intro rfl hfn hb hok rfl ?_
  rw [hr]
  have hsl : isSl P t = true := by unfold isSl; rw [hd]; simp [he]
  cases a with
  | none =>
    simp [canon, normS, normV, normC, caseO, entry, enum, lk, upd, canon0, close, refs2, refs1, refs0, ren2, ren1, ren0, lkB, blksOf, cloneBody, we, reo, weOps, opAt, isR, weOp, nevT, nilEq, opnd, Ev.put, drawn, ofConst, ofCell, nilS, hsl, meet, caseB, toVal, cfN, outs, rootsOK, resVs, resV, normR, rootVs, outL, out1, idx, renB, arrOf, refsB]
  | some a =>
    simp [canon, normS, normV, normC, caseO, entry, enum, lk, upd, canon0, close, refs2, refs1, refs0, ren2, ren1, ren0, lkB, blksOf, cloneBody, we, reo, weOps, opAt, isR, weOp, nevT, nilEq, opnd, Ev.put, drawn, ofConst, ofCell, nilS, hsl, meet, caseB, toVal, cfN, outs, rootsOK, resVs, resV, normR, rootVs, outL, out1, idx, renB, arrOf, refsB, weBuildSlice, hd, he, hde, weAppend, srcRows, nodupB]
structure CloneOK (P : Program) (x : FuncId × TypeId × Nat × Bool) : Prop where
  ok : ∃ (fn : Func) (t tb : TypeId) (d de : TyD), P.funcs[x.1]? = some fn ∧ fn.body = some (cloneBody t tb) ∧ bodyOK fn (cloneBody t tb) 1 = true ∧ fn.results.toList = [.tmp 2] ∧
    tyOf P t = some d ∧ d.elem = some x.2.1 ∧ tyOf P x.2.1 = some de ∧ isStr P t = false ∧ de.size = x.2.2.1 ∧ de.zero.all isVB = x.2.2.2
theorem OQ (hm : P.follows .mixedOrders = true) {x : FuncId × TypeId × Nat × Bool} (h : CloneOK P x) {v : V} (hv : v = .em ∨ v = .im []) : CSpec P J x.1 [v] [] (.ar 0 0 0) [arrOf x.2.1 x.2.2.1 x.2.2.2 []] := by
  obtain ⟨fn, t, tb, d, de, h1, h2, h3, h4, h5, h6, h7, h8, h9, h10⟩ := h.ok
  have key : ∀ (a : Option Addr) (c : Nat), CSpec P J x.1 [.v (.slice a 0 c)] [] (.ar 0 0 0) [arrOf x.2.1 x.2.2.1 x.2.2.2 []] := by
    intro a c
    obtain ⟨k, hk⟩ := Z3 h1 h2 h3 h4 h5 h6 h7 h8 a c
    rw [← h9, ← h10]
    exact Kp hm (fun _ _ _ _ _ h => h.elim) k _ _ _ _ _ hk
  refine ⟨(key none 0).enter, fun _ w A E vals hT hI hvl => ?_⟩
  obtain ⟨y, hy⟩ : ∃ y, vals.toList = [y] := by
    match hl : vals.toList with
    | [] => rw [hl] at hvl; exact hvl.elim
    | [y] => exact ⟨y, rfl⟩
    | _ :: _ :: _ => rw [hl] at hvl; exact hvl.2.elim
  rw [hy] at hvl
  have hv1 := hvl.1
  obtain ⟨a, c, hyc⟩ : ∃ a c, y = .slice a 0 c := by
    rcases hv with rfl | rfl
    · have hv1 : Rep w A .em y := hv1
      cases hv1 with
      | em a => exact ⟨a, 0, rfl⟩
    · have hv1 : Rep w A (.im []) y := hv1
      cases hv1 with
      | im0 a c => exact ⟨a, c, rfl⟩
      | im b off cap => exact ⟨some ⟨b, off, none⟩, cap, rfl⟩
  subst hyc
  have hk := (key a c).calls rfl w A E vals hT hI (by rw [hy]; exact ⟨.v _ rfl, trivial⟩)
  refine hk.mono fun e w' he => ?_
  obtain ⟨y', E', G', q1, q2, q3, q4⟩ := he
  refine ⟨y', E', G', q1, q2, q3, fun j hj => ?_⟩
  rcases hv with rfl | rfl <;> simp [refs1, refs0] at hj
def cloneRel (Rc : Rel) (tab : List (FuncId × TypeId × Nat × Bool)) : Rel := fun g args blks r blks' =>
  Rc g args blks r blks' ∨ ∃ x ∈ tab, g = x.1 ∧ (args = [.em] ∨ args = [.im []]) ∧ blks = [] ∧ r = .ar 0 0 0 ∧ blks' = [arrOf x.2.1 x.2.2.1 x.2.2.2 []]
theorem R5 {cf : Cfg} {tab : List (FuncId × TypeId × Nat × Bool)} (hm : P.follows .mixedOrders = true) (ht : ∀ x ∈ tab, CloneOK P x) :
    ∀ g args blks r blks', cloneRel (Runs P cf fun _ _ _ _ _ => False) tab g args blks r blks' → CSpec P J g args blks r blks' := by
  intro g args blks r blks' h
  rcases h with ⟨k, hk⟩ | ⟨x, hx, rfl, ha, rfl, rfl, rfl⟩
  · exact Kp hm (fun _ _ _ _ _ h => h.elim) k _ _ _ _ _ hk
  · rcases ha with rfl | rfl
    · exact OQ hm (ht x hx) (.inl rfl)
    · exact OQ hm (ht x hx) (.inr rfl)
theorem Aq1 {t : Ty} {st : TSt} {x : denI [.slot 0 (.cell (.im t))]} (h : decSt 0 [.slot 0 (.cell (.im t))] st = some x) : asLh st.hp t (getV st.tm 0) = some (show List t.den from x) := by
  unfold decSt at h
  split at h
  case isFalse => cases h
  simp only [keepT, blksI, tmS, tmC, tnS, tnV, tnC] at h
  cases ha : asLh st.hp t (getV st.tm 0) with
  | none => rw [ha] at h; cases h
  | some l =>
    rw [ha] at h
    simp only [Nat.zero_le, Nat.ble_eq, if_true] at h
    have hc : ∀ c, canonT 0 (slotsI [.slot 0 (.cell (.im t))]) { tm := (0, .im t l) :: st.tm, hp := freezeT st.hp (frV (getV st.tm 0)), c := c } = some { tm := [(0, .im t l)], hp := [], c := 1 } := fun c => rfl
    rw [hc] at h
    simp only [rdI, rdS, rdC, Nat.beq_refl, if_true, dite_true] at h
    rw [← Option.some.inj h]
    rfl
def orNil {α β : Type} (F : List α → Option (List β)) (l : List α) : Option (List β) := match l with | [] => some [] | a :: l => F (a :: l)
theorem Xs {ext : Rel} {cf : Cfg} {Rc : Rel} {tab : List (FuncId × TypeId × Nat × Bool)} {g : FuncId} {e : TypeId} {deep : Bool} {t : Ty} {heads joins : List (Nat × List Item)} {outs : List (Nat × List (Ex × List Item))} {F : List t.den → Option (List t.den)}
    (h : EntOK Rc ⟨⟨g, 0, [.slot 0 (.cell (.im t))], [.blk (.arr e deep t), .slot 0 (.ref 0 false)], heads, outs, joins⟩, F⟩) (hmem : (g, e, t.size, deep) ∈ tab) (hext : ∀ g args blks r blks', cloneRel Rc tab g args blks r blks' → ext g args blks r blks') :
    EntOK (Runs P cf ext) ⟨⟨g, 0, [.slot 0 (.cell (.im t))], [.blk (.arr e deep t), .slot 0 (.ref 0 false)], heads, outs, joins⟩, fun l => orNil F l⟩ := by
  intro x y args blks st hF hs hd hid hlen href hb0
  have ha := Aq1 hd
  cases hx : (show List t.den from x) with
  | cons a l =>
    have hx' : x = (show denI [.slot 0 (.cell (.im t))] from (a :: l : List t.den)) := hx
    subst hx'
    obtain ⟨r, blks', q1, q2⟩ := h _ y args blks st hF hs hd hid hlen href hb0
    exact ⟨r, blks', Runs.ext (hext _ _ _ _ _ (.inl q1)), q2⟩
  | nil =>
    have hx' : x = (show denI [.slot 0 (.cell (.im t))] from ([] : List t.den)) := hx
    subst hx'
    have hy : y = (show denI [.blk (.arr e deep t), .slot 0 (.ref 0 false)] from ([] : List t.den)) := (Option.some.inj hF).symm
    subst hy
    obtain ⟨v, rfl⟩ : ∃ v, args = [v] := by
      match args, hlen with
      | [v], _ => exact ⟨v, rfl⟩
    have hrefs : ([v] : List V).flatMap refs1 = [] := by
      cases hr : ([v] : List V).flatMap refs1 with
      | nil => rfl
      | cons i l => rw [hr] at href; simp [List.eraseDups_cons] at href
    have hv := hs.tm 0
    have hv : RV2 st.hp (getV st.tm 0) v := hv
    have hcase : v = .em ∨ v = .im [] := by
      generalize getV st.tm 0 = u at ha hv
      cases u with
      | em => exact .inl hv
      | im t' l =>
        simp only [asLh, asL] at ha
        rcases hv with ⟨_, hv⟩ | ⟨rows, hv, hl⟩
        · exact .inl hv
        · split at ha
          · rename_i ht
            subst ht
            have h0 : l = [] := by have := Option.some.inj ha; exact this
            subst h0
            have : rows = [] := List.eq_nil_of_length_eq_zero (by have := hl.1; simpa using this)
            subst this
            exact .inr hv
          · cases ha
      | ow id =>
        obtain ⟨n, rfl, _⟩ := hv
        simp [refs1, refs0] at hrefs
      | ar id lo n =>
        have hv : v = .ar id lo n := hv
        subst hv
        simp [refs1, refs0] at hrefs
      | _ => simp [asLh, asL] at ha
    have hblks : blks = [] := hb0 rfl
    subst hblks
    refine ⟨.ar 0 0 0, [arrOf e t.size deep []], Runs.ext (hext _ _ _ _ _ (.inr ⟨_, hmem, rfl, ?_, rfl, rfl, rfl⟩)), ?_, ?_, rfl⟩
    · rcases hcase with rfl | rfl
      · exact .inl rfl
      · exact .inr rfl
    · exact ⟨0, rfl, fun b hb => by cases hb; rfl⟩
    · intro id b hb
      have hb : getB [(0, some (TB.arr e deep t []))] id = some b := hb
      simp only [getB] at hb
      cases hi : Nat.beq id 0 with
      | false => rw [hi] at hb; cases hb
      | true =>
        rw [hi] at hb
        have hb : some (TB.arr e deep t []) = some b := hb
        cases hb
        have : id = 0 := Nat.eq_of_beq_eq_true hi
        subst this
        exact ⟨_, rfl, rfl, rfl, rfl, rfl, RLx.nil⟩
theorem Z9 {cf : Cfg} {Rc : Rel} {tab : List (FuncId × TypeId × Nat × Bool)} {g : FuncId} {e : TypeId} {deep : Bool} {t : Ty} {heads joins : List (Nat × List Item)} {outs : List (Nat × List (Ex × List Item))} {F : List t.den → Option (List t.den)}
    (h : EntOK Rc ⟨⟨g, 0, [.slot 0 (.cell (.im t))], [.blk (.arr e deep t), .slot 0 (.ref 0 false)], heads, outs, joins⟩, F⟩) (hmem : (g, e, t.size, deep) ∈ tab) :
    EntOK (Runs P cf (cloneRel Rc tab)) ⟨⟨g, 0, [.slot 0 (.cell (.im t))], [.blk (.arr e deep t), .slot 0 (.ref 0 false)], heads, outs, joins⟩, fun l => orNil F l⟩ := Xs h hmem fun _ _ _ _ _ h => h
end Go.Proofs.YtgfchmagglhohaaGreat.Ev

end
section
namespace Go.Proofs.YtgfchmagglhohaaGreat.Ev
open Go
set_option maxRecDepth 100000
set_option linter.unusedVariables false
def tyD3 : TyD := ⟨1, 8, false, [(.v (.int .i64 0))], none, false, (some .i64), [], false⟩
def tyD4 : TyD := ⟨1, 1, false, [(.v (.bool false))], none, false, none, [], false⟩
def tyD5 : TyD := ⟨1, 1, false, [(.v (.int .u8 0))], none, false, (some .u8), [], false⟩
def tyD22 : TyD := ⟨1, 24, false, [.em], (some 5), false, none, [], false⟩
def tyD23 : TyD := ⟨1, 24, false, [.em], (some 3), false, none, [], false⟩
def tyD25 : TyD := ⟨2, 32, true, [(.v (.bool false)), .em], none, false, none, [⟨0, 4, 1, false⟩, ⟨1, 23, 1, false⟩], false⟩
def tyD27 : TyD := ⟨4, 64, true, [(.v (.bool false)), .em, (.v (.bool false)), .em], none, false, none, [⟨0, 25, 2, true⟩, ⟨2, 25, 2, true⟩], false⟩
def tyD29 : TyD := ⟨1, 24, false, [.em], (some 25), false, none, [], false⟩
def tyD50 : TyD := ⟨8, 128, true, [(.v (.bool false)), .em, (.v (.bool false)), .em, (.v (.bool false)), .em, (.v (.bool false)), .em], none, false, none, [⟨0, 27, 4, true⟩, ⟨4, 27, 4, true⟩], false⟩
def tyD57 : TyD := ⟨1, 24, false, [.em], (some 27), false, none, [], false⟩
def tyD68 : TyD := ⟨1, 8, false, [(.v (.int .u64 0))], none, false, (some .u64), [], false⟩
def tyD128 : TyD := ⟨1, 8, false, [(.v (.int .u64 0))], none, false, (some .u64), [], false⟩
def tyD131 : TyD := ⟨3, 40, true, [.em, (.v (.int .i64 0)), (.v (.int .u64 0))], none, false, none, [⟨0, 22, 1, false⟩, ⟨1, 3, 1, false⟩, ⟨2, 128, 1, false⟩], false⟩
theorem ty3 : tyOf Tryz.prog 3 = some tyD3 := by kernel_rfl
theorem ty4 : tyOf Tryz.prog 4 = some tyD4 := by kernel_rfl
theorem ty5 : tyOf Tryz.prog 5 = some tyD5 := by kernel_rfl
theorem ty22 : tyOf Tryz.prog 22 = some tyD22 := by kernel_rfl
theorem ty23 : tyOf Tryz.prog 23 = some tyD23 := by kernel_rfl
theorem ty25 : tyOf Tryz.prog 25 = some tyD25 := by kernel_rfl
theorem ty27 : tyOf Tryz.prog 27 = some tyD27 := by kernel_rfl
theorem ty29 : tyOf Tryz.prog 29 = some tyD29 := by kernel_rfl
theorem ty50 : tyOf Tryz.prog 50 = some tyD50 := by kernel_rfl
theorem ty57 : tyOf Tryz.prog 57 = some tyD57 := by kernel_rfl
theorem ty68 : tyOf Tryz.prog 68 = some tyD68 := by kernel_rfl
theorem ty128 : tyOf Tryz.prog 128 = some tyD128 := by kernel_rfl
theorem ty131 : tyOf Tryz.prog 131 = some tyD131 := by kernel_rfl
def tyTab : List (Nat × TyD) := [(3, tyD3), (4, tyD4), (5, tyD5), (22, tyD22), (23, tyD23), (25, tyD25), (27, tyD27), (29, tyD29), (50, tyD50), (57, tyD57), (68, tyD68), (128, tyD128), (131, tyD131)]
def codTab : List (Nat × Ty) := [(3, .int .i64), (5, .int .u8), (25, .pair (.bool) (.sl (.int .i64))), (27, .pair (.pair (.bool) (.sl (.int .i64))) (.pair (.bool) (.sl (.int .i64))))]
theorem tyOK : ∀ t d, getD tyTab t = some d → tyOf Tryz.prog t = some d := Aq7 (by unfold tyTab; exact ⟨ty3, ⟨ty4, ⟨ty5, ⟨ty22, ⟨ty23, ⟨ty25, ⟨ty27, ⟨ty29, ⟨ty50, ⟨ty57, ⟨ty68, ⟨ty128, ⟨ty131, trivial⟩⟩⟩⟩⟩⟩⟩⟩⟩⟩⟩⟩⟩)
theorem bool4 : Tryz.prog.underlying 4 = some .bool := by kernel_rfl
theorem boolOK : ∀ t, ([4] : List Nat).contains t = true → Tryz.prog.underlying t = some .bool := by
  intro t h
  simp at h
  rcases h with rfl
  all_goals first | exact bool4
theorem eqOK : ∀ t, ([] : List Nat).contains t = true → EqOK Tryz.prog t := by
  intro t h
  simp at h
  try exact h.elim
def FX : FAnn := ⟨240, 1, [.blk (.box 131 [.im (.int .u8), .int .i64, .int .u64]), .slot 0 (.ref 0 true)], [.blk (.box 131 [.im (.int .u8), .int .i64, .int .u64]), .slot 0 (.cell (.int .i64))],
  [],
  [],
  [(4, [.blk (.box 131 [.im (.int .u8), .int .i64, .int .u64]), .slot 0 (.ref 0 true), .slot 3 (.cell (.int .i64))])]⟩
def FZ : FAnn := ⟨141, 1, [.blk (.box 131 [.im (.int .u8), .int .i64, .int .u64]), .slot 0 (.ref 0 true), .slot 1 (.cell (.int .i64))], [.blk (.box 131 [.im (.int .u8), .int .i64, .int .u64]), .slot 0 (.cell (.int .i64))],
  [],
  [],
  []⟩
def GU : FAnn := ⟨142, 1, [.blk (.box 131 [.im (.int .u8), .int .i64, .int .u64]), .slot 0 (.ref 0 true), .slot 1 (.cell (.int .i64))], [.blk (.box 131 [.im (.int .u8), .int .i64, .int .u64]), .slot 0 (.cell (.bool))],
  [],
  [],
  []⟩
def FC : FAnn := ⟨157, 1, [.blk (.box 131 [.im (.int .u8), .int .i64, .int .u64]), .slot 0 (.ref 0 true), .slot 1 (.cell (.im (.int .i64)))], [.blk (.box 131 [.im (.int .u8), .int .i64, .int .u64]), .slot 0 (.cell (.int .i64))],
  [],
  [],
  []⟩
def NI : FAnn := ⟨280, 0, [.slot 0 (.cell (.im (.int .i64)))], [.blk (.arr 3 true (.int .i64)), .slot 0 (.ref 0 false)],
  [(1, [.slot 0 (.cell (.im (.int .i64)))])],
  [(1, [(.exit 0, [.slot 0 (.cell (.im (.int .i64)))])])],
  []⟩
def K4 : FAnn := ⟨229, 0, [.slot 0 (.cell (.bool)), .slot 1 (.cell (.im (.int .i64)))], [.blk (.arr 3 true (.int .i64)), .slot 0 (.agg [.bool, .at 0])],
  [],
  [],
  []⟩
def G9 : FAnn := ⟨246, 1, [.blk (.box 131 [.im (.int .u8), .int .i64, .int .u64]), .slot 0 (.ref 0 true)], [.blk (.box 131 [.im (.int .u8), .int .i64, .int .u64]), .slot 0 (.agg [.bool, .im (.int .i64)])],
  [(5, [.blk (.box 131 [.im (.int .u8), .int .i64, .int .u64]), .blk (.box 25 [.bool, .im (.int .i64)]), .blk (.arr 3 true (.int .i64)), .slot 0 (.ref 0 true), .slot 2 (.ref 1 true), .slot 3 (.cell (.int .i64)), .slot 4 (.ref 2 false)])],
  [(5, [(.exit 0, [.blk (.box 131 [.im (.int .u8), .int .i64, .int .u64]), .blk (.box 25 [.bool, .im (.int .i64)]), .blk (.arr 3 true (.int .i64)), .slot 0 (.ref 0 true), .slot 2 (.ref 1 true), .slot 4 (.ref 2 false)])])],
  [(4, [.blk (.box 131 [.im (.int .u8), .int .i64, .int .u64]), .blk (.box 25 [.bool, .im (.int .i64)]), .slot 0 (.ref 0 true), .slot 2 (.ref 1 true), .slot 3 (.cell (.int .i64))])]⟩
def QO : FAnn := ⟨144, 0, [.slot 0 (.cell (.int .i64)), .slot 1 (.cell (.int .i64)), .slot 2 (.cell (.int .i64))], [.slot 0 (.cell (.bool))],
  [],
  [],
  []⟩
def Jq : FAnn := ⟨143, 0, [.slot 0 (.agg [.bool, .im (.int .i64)])], [.slot 0 (.cell (.bool))],
  [(2, [.blk (.box 25 [.bool, .im (.int .i64)]), .slot 1 (.ref 0 true), .slot 7 (.cell (.im (.int .i64))), .slot 8 (.cell (.int .i64)), .slot 9 (.cell (.int .i64))])],
  [(2, [(.exit 0, [.blk (.box 25 [.bool, .im (.int .i64)]), .slot 1 (.ref 0 true)]), (.ret, [.slot 2 (.cell (.bool))])])],
  []⟩
def Nc : FAnn := ⟨225, 0, [.slot 0 (.cell (.im (.int .i64))), .slot 1 (.cell (.im (.int .i64)))], [.slot 0 (.cell (.int .i64))],
  [(6, [.slot 0 (.cell (.im (.int .i64))), .slot 1 (.cell (.im (.int .i64))), .slot 5 (.cell (.int .i64))])],
  [(6, [(.exit 0, []), (.ret, [.slot 4 (.cell (.int .i64))])])],
  []⟩
def I8 : FAnn := ⟨297, 0, [.slot 0 (.cell (.im (.int .i64))), .slot 1 (.cell (.int .i64))], [.blk (.arr 3 true (.int .i64)), .blk (.arr 3 true (.int .i64)), .slot 0 (.ref 0 false), .slot 1 (.ref 1 false)],
  [(4, [.blk (.arr 3 true (.int .i64)), .slot 0 (.cell (.im (.int .i64))), .slot 1 (.cell (.int .i64)), .slot 6 (.ref 0 false), .slot 7 (.cell (.int .i64)), .slot 8 (.cell (.int .i64))])],
  [(4, [(.exit 0, [.blk (.arr 3 true (.int .i64)), .slot 6 (.ref 0 false), .slot 7 (.cell (.int .i64))])])],
  []⟩
def PN : FAnn := ⟨298, 0, [.slot 0 (.cell (.im (.int .i64))), .slot 1 (.cell (.int .i64))], [.blk (.arr 3 true (.int .i64)), .slot 0 (.ref 0 false)],
  [(3, [.blk (.arr 3 true (.int .i64)), .slot 1 (.cell (.int .i64)), .slot 5 (.ref 0 false), .slot 13 (.cell (.im (.int .i64))), .slot 14 (.cell (.int .i64)), .slot 15 (.cell (.int .i64))])],
  [(3, [(.exit 0, [.blk (.arr 3 true (.int .i64)), .slot 5 (.ref 0 false)])])],
  []⟩
def JM : FAnn := ⟨299, 0, [.slot 0 (.cell (.im (.int .i64))), .slot 1 (.cell (.im (.int .i64))), .slot 2 (.cell (.int .i64))], [.slot 0 (.cell (.int .i64))],
  [(5, [.slot 0 (.cell (.im (.int .i64))), .slot 1 (.cell (.im (.int .i64))), .slot 2 (.cell (.int .i64)), .slot 7 (.cell (.int .i64)), .slot 9 (.cell (.int .i64)), .slot 10 (.cell (.int .i64))])],
  [(5, [(.exit 0, [.slot 9 (.cell (.int .i64))])])],
  [(6, [.slot 0 (.cell (.im (.int .i64))), .slot 1 (.cell (.im (.int .i64))), .slot 2 (.cell (.int .i64)), .slot 7 (.cell (.int .i64)), .slot 9 (.cell (.int .i64)), .slot 10 (.cell (.int .i64))])]⟩
def Ll : FAnn := ⟨282, 0, [.slot 0 (.cell (.im (.int .i64))), .slot 1 (.cell (.int .i64))], [.slot 0 (.cell (.int .i64))],
  [],
  [],
  []⟩
def Lf : FAnn := ⟨300, 1, [.blk (.arr 3 true (.int .i64)), .slot 0 (.ref 0 false), .slot 1 (.cell (.im (.int .i64))), .slot 2 (.cell (.int .i64)), .slot 3 (.cell (.int .i64))], [.blk (.arr 3 true (.int .i64)), .slot 0 (.cell (.int .i64))],
  [(3, [.blk (.arr 3 true (.int .i64)), .slot 0 (.ref 0 false), .slot 1 (.cell (.im (.int .i64))), .slot 2 (.cell (.int .i64)), .slot 3 (.cell (.int .i64)), .slot 9 (.cell (.int .i64)), .slot 10 (.cell (.int .i64))])],
  [(3, [(.exit 0, [.blk (.arr 3 true (.int .i64)), .slot 9 (.cell (.int .i64))])])],
  [(10, [.blk (.arr 3 true (.int .i64)), .slot 0 (.ref 0 false), .slot 1 (.cell (.im (.int .i64))), .slot 2 (.cell (.int .i64)), .slot 3 (.cell (.int .i64)), .slot 9 (.cell (.int .i64)), .slot 10 (.cell (.int .i64)), .slot 11 (.cell (.int .i64))])]⟩
def KY : FAnn := ⟨301, 1, [.blk (.arr 3 true (.int .i64)), .slot 0 (.ref 0 false), .slot 1 (.cell (.im (.int .i64))), .slot 2 (.cell (.int .i64))], [.blk (.arr 3 true (.int .i64))],
  [(2, [.blk (.arr 3 true (.int .i64)), .slot 0 (.ref 0 false), .slot 1 (.cell (.im (.int .i64))), .slot 2 (.cell (.int .i64)), .slot 6 (.cell (.int .i64)), .slot 7 (.cell (.int .i64))])],
  [(2, [(.exit 0, [.blk (.arr 3 true (.int .i64))])])],
  []⟩
def Lu : FAnn := ⟨302, 0, [.slot 0 (.cell (.im (.int .i64))), .slot 1 (.cell (.int .i64))], [.blk (.arr 3 true (.int .i64)), .slot 0 (.ref 0 false)],
  [(3, [.blk (.arr 3 true (.int .i64)), .slot 0 (.cell (.im (.int .i64))), .slot 1 (.cell (.int .i64)), .slot 5 (.ref 0 false), .slot 11 (.cell (.int .i64)), .slot 12 (.cell (.int .i64))])],
  [(3, [(.exit 0, [.blk (.arr 3 true (.int .i64)), .slot 5 (.ref 0 false)])])],
  []⟩
def Gn : FAnn := ⟨279, 0, [.slot 0 (.cell (.im (.int .i64))), .slot 1 (.cell (.im (.int .i64)))], [.blk (.arr 3 true (.int .i64)), .blk (.arr 3 true (.int .i64)), .slot 0 (.ref 0 false), .slot 1 (.ref 1 false)],
  [(7, [.blk (.arr 3 true (.int .i64)), .slot 0 (.ref 0 false), .slot 1 (.cell (.im (.int .i64))), .slot 6 (.cell (.int .i64))]), (13, [.blk (.arr 3 true (.int .i64)), .blk (.arr 3 true (.int .i64)), .blk (.arr 3 true (.int .i64)), .slot 6 (.cell (.int .i64)), .slot 7 (.ref 0 false), .slot 8 (.ref 1 false), .slot 9 (.ref 2 false), .slot 10 (.cell (.int .i64))])],
  [(7, [(.exit 0, [.blk (.arr 3 true (.int .i64)), .slot 0 (.ref 0 false), .slot 1 (.cell (.im (.int .i64))), .slot 6 (.cell (.int .i64))])]), (13, [(.exit 2, [.blk (.arr 3 true (.int .i64)), .blk (.arr 3 true (.int .i64)), .slot 6 (.cell (.int .i64)), .slot 7 (.ref 0 false), .slot 9 (.ref 1 false)])])],
  []⟩
def NL : FAnn := ⟨226, 0, [.slot 0 (.cell (.im (.int .i64))), .slot 1 (.cell (.im (.int .i64)))], [.blk (.arr 3 true (.int .i64)), .slot 0 (.ref 0 false)],
  [(1, [.slot 0 (.cell (.im (.int .i64))), .slot 1 (.cell (.im (.int .i64)))])],
  [(1, [(.exit 0, [.slot 0 (.cell (.im (.int .i64)))])])],
  []⟩
def NY : FAnn := ⟨227, 0, [.slot 0 (.agg [.bool, .im (.int .i64)]), .slot 1 (.agg [.bool, .im (.int .i64)])], [.slot 0 (.agg [.bool, .im (.int .i64)]), .slot 1 (.agg [.bool, .im (.int .i64)])],
  [],
  [],
  []⟩
def Nk : FAnn := ⟨162, 0, [.slot 0 (.agg [.bool, .im (.int .i64)])], [.slot 0 (.agg [.bool, .im (.int .i64)])],
  [],
  [],
  []⟩
def K7 : FAnn := ⟨164, 0, [.slot 0 (.agg [.bool, .im (.int .i64)]), .slot 1 (.agg [.bool, .im (.int .i64)])], [.slot 0 (.agg [.bool, .im (.int .i64), .bool, .im (.int .i64)])],
  [],
  [],
  []⟩
def NZ : FAnn := ⟨116, 0, [.slot 0 (.cell (.int .i64))], [.slot 0 (.agg [.bool, .im (.int .i64)])],
  [(3, [.blk (.box 25 [.bool, .im (.int .i64)]), .blk (.arr 3 true (.int .i64)), .slot 0 (.cell (.int .i64)), .slot 2 (.ref 0 true), .slot 3 (.ref 1 false), .slot 4 (.cell (.int .i64))])],
  [(3, [(.exit 0, [.blk (.box 25 [.bool, .im (.int .i64)]), .blk (.arr 3 true (.int .i64)), .slot 0 (.cell (.int .i64)), .slot 2 (.ref 0 true), .slot 3 (.ref 1 false)])])],
  []⟩
def M5 : FAnn := ⟨247, 0, [.slot 0 (.cell (.int .i64)), .slot 1 (.cell (.int .i64))], [.slot 0 (.agg [.bool, .im (.int .i64), .bool, .im (.int .i64)]), .slot 1 (.cell (.bool))],
  [],
  [],
  []⟩
def G5 : FAnn := ⟨165, 1, [.blk (.box 131 [.im (.int .u8), .int .i64, .int .u64]), .slot 0 (.ref 0 true)], [.blk (.box 131 [.im (.int .u8), .int .i64, .int .u64]), .slot 0 (.agg [.bool, .im (.int .i64), .bool, .im (.int .i64)])],
  [],
  [],
  []⟩
def JL : FAnn := ⟨113, 0, [.slot 0 (.agg [.bool, .im (.int .i64), .bool, .im (.int .i64)])], [.slot 0 (.cell (.bool))],
  [],
  [],
  []⟩
def Gj : FAnn := ⟨248, 0, [.slot 0 (.cell (.im (.int .i64))), .slot 1 (.cell (.im (.int .i64)))], [.blk (.arr 3 true (.int .i64)), .slot 0 (.ref 0 false)],
  [(3, [.blk (.arr 3 true (.int .i64)), .slot 1 (.cell (.im (.int .i64))), .slot 5 (.ref 0 false), .slot 18 (.cell (.im (.int .i64))), .slot 19 (.cell (.int .i64)), .slot 20 (.cell (.int .i64))]), (7, [.blk (.arr 3 true (.int .i64)), .slot 1 (.cell (.im (.int .i64))), .slot 5 (.ref 0 false), .slot 6 (.cell (.int .i64)), .slot 7 (.cell (.int .i64)), .slot 8 (.cell (.int .i64)), .slot 9 (.cell (.int .i64)), .slot 18 (.cell (.im (.int .i64))), .slot 19 (.cell (.int .i64)), .slot 20 (.cell (.int .i64))])],
  [(3, [(.exit 0, [.blk (.arr 3 true (.int .i64)), .slot 5 (.ref 0 false)])]), (7, [(.exit 2, [.blk (.arr 3 true (.int .i64)), .slot 1 (.cell (.im (.int .i64))), .slot 5 (.ref 0 false), .slot 18 (.cell (.im (.int .i64))), .slot 19 (.cell (.int .i64)), .slot 20 (.cell (.int .i64))])])],
  [(9, [.blk (.arr 3 true (.int .i64)), .slot 1 (.cell (.im (.int .i64))), .slot 5 (.ref 0 false), .slot 6 (.cell (.int .i64)), .slot 7 (.cell (.int .i64)), .slot 8 (.cell (.int .i64)), .slot 9 (.cell (.int .i64)), .slot 18 (.cell (.im (.int .i64))), .slot 19 (.cell (.int .i64)), .slot 20 (.cell (.int .i64))])]⟩
def N4 : FAnn := ⟨168, 0, [.slot 0 (.agg [.bool, .im (.int .i64)]), .slot 1 (.agg [.bool, .im (.int .i64)])], [.slot 0 (.agg [.bool, .im (.int .i64)])],
  [],
  [],
  []⟩
def Iv : FAnn := ⟨169, 0, [.slot 0 (.agg [.bool, .im (.int .i64)]), .slot 1 (.agg [.bool, .im (.int .i64)])], [.slot 0 (.cell (.int .i64))],
  [],
  [],
  []⟩
def Nd : FAnn := ⟨134, 0, [.slot 0 (.agg [.bool, .im (.int .i64), .bool, .im (.int .i64)]), .slot 1 (.agg [.bool, .im (.int .i64), .bool, .im (.int .i64)])], [.slot 0 (.cell (.int .i64))],
  [],
  [],
  []⟩
def Gu : FAnn := ⟨156, 1, [.blk (.box 131 [.im (.int .u8), .int .i64, .int .u64]), .slot 0 (.ref 0 true)], [.blk (.box 131 [.im (.int .u8), .int .i64, .int .u64]), .slot 0 (.agg [.bool, .im (.int .i64), .bool, .im (.int .i64), .bool, .im (.int .i64), .bool, .im (.int .i64)])],
  [],
  [],
  []⟩
def EI : FAnn := ⟨51, 0, [.slot 0 (.cell (.im (.int .u8)))], [.slot 0 (.agg [.bool, .im (.int .i64), .bool, .im (.int .i64), .bool, .im (.int .i64), .bool, .im (.int .i64)]), .slot 1 (.cell (.int .i64))],
  [],
  [],
  []⟩
def K1 : FAnn := ⟨123, 0, [.slot 0 (.cell (.int .i64)), .slot 1 (.cell (.int .i64)), .slot 2 (.cell (.int .i64))], [.slot 0 (.cell (.bool))],
  [],
  [],
  []⟩
def GW : FAnn := ⟨222, 0, [.slot 0 (.cell (.int .i64))], [.slot 0 (.cell (.bool))],
  [],
  [],
  []⟩
def BB : FAnn := ⟨254, 0, [.slot 0 (.cell (.im (.int .i64))), .slot 1 (.clo 222)], [.slot 0 (.cell (.int .i64))],
  [(2, [.slot 0 (.cell (.im (.int .i64))), .slot 1 (.clo 222), .slot 7 (.cell (.int .i64)), .slot 8 (.cell (.int .i64))])],
  [(2, [(.exit 0, []), (.ret, [.slot 4 (.cell (.int .i64))])])],
  []⟩
def Bf : FAnn := ⟨187, 0, [.slot 0 (.cell (.im (.int .i64))), .slot 1 (.clo 222)], [.slot 0 (.cell (.bool))],
  [],
  [],
  []⟩
def IR : FAnn := ⟨107, 0, [.slot 0 (.agg [.bool, .im (.int .i64)])], [.slot 0 (.cell (.bool))],
  [],
  [],
  []⟩
def IB : FAnn := ⟨231, 0, [.slot 0 (.agg [.bool, .im (.int .i64)])], [.slot 0 (.cell (.bool))],
  [],
  [],
  []⟩
def Bb : FAnn := ⟨281, 0, [.slot 0 (.cell (.im (.pair (.bool) (.sl (.int .i64))))), .slot 1 (.clo 231)], [.slot 0 (.cell (.int .i64))],
  [(2, [.slot 0 (.cell (.im (.pair (.bool) (.sl (.int .i64))))), .slot 1 (.clo 231), .slot 7 (.cell (.int .i64)), .slot 8 (.cell (.int .i64))])],
  [(2, [(.exit 0, []), (.ret, [.slot 4 (.cell (.int .i64))])])],
  []⟩
def AX : FAnn := ⟨230, 0, [.slot 0 (.cell (.im (.pair (.bool) (.sl (.int .i64))))), .slot 1 (.clo 231)], [.slot 0 (.cell (.bool))],
  [],
  [],
  []⟩
def Lr : FAnn := ⟨124, 0, [.slot 0 (.cell (.im (.pair (.bool) (.sl (.int .i64)))))], [.slot 0 (.cell (.bool))],
  [],
  [],
  []⟩
def Il : FAnn := ⟨125, 0, [.slot 0 (.agg [.bool, .im (.int .i64)])], [.slot 0 (.cell (.int .i64))],
  [],
  [],
  []⟩
def Fv : FAnn := ⟨283, 0, [.slot 0 (.cell (.int .i64))], [.slot 0 (.cell (.bool))],
  [],
  [],
  []⟩
def Ey : FAnn := ⟨239, 0, [.slot 0 (.cell (.int .i64)), .slot 1 (.cell (.int .i64))], [.slot 0 (.cell (.int .i64))],
  [],
  [],
  []⟩
def EX : FAnn := ⟨139, 0, [.slot 0 (.cell (.im (.int .i64))), .slot 1 (.cell (.im (.int .i64)))], [.slot 0 (.cell (.int .i64))],
  [(4, [.slot 0 (.cell (.im (.int .i64))), .slot 1 (.cell (.im (.int .i64))), .slot 5 (.cell (.int .i64))])],
  [(4, [(.exit 0, []), (.ret, [.slot 4 (.cell (.int .i64))])])],
  []⟩
def Uc : FAnn := ⟨278, 0, [.slot 0 (.cell (.im (.int .i64)))], [.slot 0 (.cell (.im (.int .i64)))],
  [(2, [.slot 0 (.cell (.im (.int .i64))), .slot 3 (.cell (.int .i64))])],
  [(2, [(.exit 0, [.slot 0 (.cell (.im (.int .i64))), .slot 3 (.cell (.int .i64))])])],
  []⟩
def Ii : FAnn := ⟨296, 0, [.slot 0 (.cell (.im (.int .i64))), .slot 1 (.cell (.int .i64))], [.slot 0 (.cell (.im (.int .i64))), .slot 1 (.cell (.int .i64))],
  [(4, [.blk (.arr 3 true (.int .i64)), .slot 0 (.cell (.im (.int .i64))), .slot 1 (.cell (.int .i64)), .slot 6 (.ref 0 false), .slot 7 (.cell (.int .i64)), .slot 8 (.cell (.int .i64))])],
  [(4, [(.exit 0, [.blk (.arr 3 true (.int .i64)), .slot 6 (.ref 0 false), .slot 7 (.cell (.int .i64))])])],
  []⟩
def A1 : FAnn := ⟨277, 0, [.slot 0 (.cell (.im (.int .i64)))], [.blk (.arr 3 true (.int .i64)), .slot 0 (.ref 0 false)],
  [],
  [],
  []⟩
def NN : FAnn := ⟨223, 0, [.slot 0 (.cell (.bool)), .slot 1 (.cell (.im (.int .i64)))], [.blk (.arr 3 true (.int .i64)), .slot 0 (.agg [.bool, .at 0])],
  [],
  [],
  []⟩
def NH : FAnn := ⟨25, 0, [.slot 0 (.cell (.int .i64))], [.slot 0 (.agg [.bool, .im (.int .i64)])],
  [(6, [.blk (.box 25 [.bool, .im (.int .i64)]), .blk (.arr 3 true (.int .i64)), .slot 2 (.ref 0 true), .slot 3 (.cell (.bool)), .slot 4 (.cell (.int .u64)), .slot 5 (.ref 1 false)])],
  [(6, [(.exit 0, [.blk (.box 25 [.bool, .im (.int .i64)]), .blk (.arr 3 true (.int .i64)), .slot 2 (.ref 0 true), .slot 3 (.cell (.bool)), .slot 5 (.ref 1 false)])])],
  [(5, [.blk (.box 25 [.bool, .im (.int .i64)]), .slot 2 (.ref 0 true), .slot 3 (.cell (.bool)), .slot 4 (.cell (.int .u64))])]⟩
def J2 : FAnn := ⟨224, 0, [.slot 0 (.agg [.bool, .im (.int .i64)]), .slot 1 (.agg [.bool, .im (.int .i64)])], [.blk (.arr 3 true (.int .i64)), .slot 0 (.agg [.bool, .at 0])],
  [(3, [.blk (.box 25 [.bool, .im (.int .i64)]), .blk (.box 25 [.bool, .im (.int .i64)]), .blk (.box 25 [.bool, .im (.int .i64)]), .blk (.arr 3 true (.int .i64)), .slot 2 (.ref 0 true), .slot 3 (.ref 1 true), .slot 4 (.ref 2 true), .slot 5 (.ref 3 false), .slot 20 (.cell (.im (.int .i64))), .slot 21 (.cell (.int .i64)), .slot 22 (.cell (.int .i64))]), (7, [.blk (.box 25 [.bool, .im (.int .i64)]), .blk (.box 25 [.bool, .im (.int .i64)]), .blk (.box 25 [.bool, .im (.int .i64)]), .blk (.arr 3 true (.int .i64)), .slot 2 (.ref 0 true), .slot 3 (.ref 1 true), .slot 4 (.ref 2 true), .slot 5 (.ref 3 false), .slot 6 (.cell (.int .i64)), .slot 7 (.cell (.int .i64)), .slot 8 (.cell (.int .i64)), .slot 20 (.cell (.im (.int .i64))), .slot 21 (.cell (.int .i64)), .slot 22 (.cell (.int .i64)), .slot 28 (.cell (.im (.int .i64))), .slot 29 (.cell (.int .i64)), .slot 30 (.cell (.int .i64))])],
  [(3, [(.exit 0, [.blk (.box 25 [.bool, .im (.int .i64)]), .blk (.box 25 [.bool, .im (.int .i64)]), .blk (.box 25 [.bool, .im (.int .i64)]), .blk (.arr 3 true (.int .i64)), .slot 2 (.ref 0 true), .slot 3 (.ref 1 true), .slot 4 (.ref 2 true), .slot 5 (.ref 3 false)])]), (7, [(.exit 2, [.blk (.box 25 [.bool, .im (.int .i64)]), .blk (.box 25 [.bool, .im (.int .i64)]), .blk (.box 25 [.bool, .im (.int .i64)]), .blk (.arr 3 true (.int .i64)), .slot 2 (.ref 0 true), .slot 3 (.ref 1 true), .slot 4 (.ref 2 true), .slot 5 (.ref 3 false), .slot 6 (.cell (.int .i64)), .slot 8 (.cell (.int .i64)), .slot 20 (.cell (.im (.int .i64))), .slot 21 (.cell (.int .i64)), .slot 22 (.cell (.int .i64))])])],
  []⟩
def H9 : FAnn := ⟨275, 0, [.slot 0 (.cell (.im (.int .i64))), .slot 1 (.cell (.im (.int .i64)))], [.slot 0 (.cell (.im (.int .i64))), .slot 1 (.cell (.im (.int .i64)))],
  [(10, [.blk (.arr 3 true (.int .i64)), .blk (.arr 3 true (.int .i64)), .slot 0 (.cell (.im (.int .i64))), .slot 6 (.cell (.int .i64)), .slot 9 (.cell (.int .i64)), .slot 10 (.ref 0 false), .slot 11 (.ref 1 false)]), (14, [.blk (.arr 3 true (.int .i64)), .blk (.arr 3 true (.int .i64)), .blk (.arr 3 true (.int .i64)), .slot 6 (.cell (.int .i64)), .slot 9 (.cell (.int .i64)), .slot 10 (.ref 0 false), .slot 11 (.ref 1 false), .slot 12 (.ref 2 false), .slot 13 (.cell (.int .i64))]), (18, [.blk (.arr 3 true (.int .i64)), .blk (.arr 3 true (.int .i64)), .blk (.arr 3 true (.int .i64)), .slot 6 (.cell (.int .i64)), .slot 9 (.cell (.int .i64)), .slot 10 (.ref 0 false), .slot 11 (.ref 1 false), .slot 12 (.ref 2 false), .slot 13 (.cell (.int .i64)), .slot 15 (.cell (.int .i64)), .slot 16 (.cell (.int .i64))]), (23, [.blk (.arr 3 true (.int .i64)), .blk (.arr 3 true (.int .i64)), .blk (.arr 3 true (.int .i64)), .slot 6 (.cell (.int .i64)), .slot 9 (.cell (.int .i64)), .slot 10 (.ref 0 false), .slot 11 (.ref 1 false), .slot 12 (.ref 2 false), .slot 13 (.cell (.int .i64)), .slot 15 (.cell (.int .i64)), .slot 17 (.cell (.int .i64)), .slot 153 (.cell (.int .i64)), .slot 154 (.cell (.int .i64))]), (37, [.blk (.arr 3 true (.int .i64)), .blk (.arr 3 true (.int .i64)), .blk (.arr 3 true (.int .i64)), .slot 6 (.cell (.int .i64)), .slot 9 (.cell (.int .i64)), .slot 10 (.ref 0 false), .slot 11 (.ref 1 false), .slot 12 (.ref 2 false), .slot 13 (.cell (.int .i64)), .slot 15 (.cell (.int .i64)), .slot 20 (.cell (.int .i64)), .slot 208 (.cell (.int .i64)), .slot 209 (.cell (.int .i64))])],
  [(10, [(.exit 0, [.blk (.arr 3 true (.int .i64)), .blk (.arr 3 true (.int .i64)), .slot 6 (.cell (.int .i64)), .slot 9 (.cell (.int .i64)), .slot 10 (.ref 0 false), .slot 11 (.ref 1 false)])]), (14, [(.exit 2, [.blk (.arr 3 true (.int .i64)), .blk (.arr 3 true (.int .i64)), .slot 6 (.cell (.int .i64)), .slot 9 (.cell (.int .i64)), .slot 10 (.ref 0 false), .slot 12 (.ref 1 false)])]), (18, [(.exit 4, [.blk (.arr 3 true (.int .i64)), .blk (.arr 3 true (.int .i64)), .blk (.arr 3 true (.int .i64)), .slot 6 (.cell (.int .i64)), .slot 9 (.cell (.int .i64)), .slot 10 (.ref 0 false), .slot 11 (.ref 1 false), .slot 12 (.ref 2 false), .slot 13 (.cell (.int .i64)), .slot 15 (.cell (.int .i64))])]), (23, [(.exit 6, [.blk (.arr 3 true (.int .i64)), .blk (.arr 3 true (.int .i64)), .blk (.arr 3 true (.int .i64)), .slot 6 (.cell (.int .i64)), .slot 9 (.cell (.int .i64)), .slot 10 (.ref 0 false), .slot 11 (.ref 1 false), .slot 12 (.ref 2 false), .slot 13 (.cell (.int .i64)), .slot 15 (.cell (.int .i64)), .slot 17 (.cell (.int .i64))])]), (37, [(.exit 8, [.blk (.arr 3 true (.int .i64)), .blk (.arr 3 true (.int .i64)), .blk (.arr 3 true (.int .i64)), .slot 6 (.cell (.int .i64)), .slot 9 (.cell (.int .i64)), .slot 10 (.ref 0 false), .slot 11 (.ref 1 false), .slot 12 (.ref 2 false), .slot 13 (.cell (.int .i64)), .slot 15 (.cell (.int .i64)), .slot 20 (.cell (.int .i64))])])],
  [(19, [.blk (.arr 3 true (.int .i64)), .blk (.arr 3 true (.int .i64)), .blk (.arr 3 true (.int .i64)), .slot 6 (.cell (.int .i64)), .slot 9 (.cell (.int .i64)), .slot 10 (.ref 0 false), .slot 11 (.ref 1 false), .slot 12 (.ref 2 false), .slot 13 (.cell (.int .i64)), .slot 15 (.cell (.int .i64)), .slot 16 (.cell (.int .i64))]), (30, [.blk (.arr 3 true (.int .i64)), .blk (.arr 3 true (.int .i64)), .blk (.arr 3 true (.int .i64)), .slot 6 (.cell (.int .i64)), .slot 9 (.cell (.int .i64)), .slot 10 (.ref 0 false), .slot 11 (.ref 1 false), .slot 12 (.ref 2 false), .slot 13 (.cell (.int .i64)), .slot 15 (.cell (.int .i64)), .slot 17 (.cell (.int .i64)), .slot 18 (.cell (.int .i64)), .slot 19 (.cell (.int .i64)), .slot 153 (.cell (.int .i64)), .slot 154 (.cell (.int .i64))])]⟩
def IU : FAnn := ⟨220, 0, [.slot 0 (.agg [.bool, .im (.int .i64)]), .slot 1 (.agg [.bool, .im (.int .i64)])], [.slot 0 (.agg [.bool, .im (.int .i64)])],
  [(2, [.blk (.box 25 [.bool, .im (.int .i64)]), .slot 4 (.ref 0 true), .slot 5 (.cell (.im (.int .i64))), .slot 6 (.cell (.im (.int .i64)))])],
  [(2, [(.exit 0, [.blk (.box 25 [.bool, .im (.int .i64)]), .slot 4 (.ref 0 true), .slot 5 (.cell (.im (.int .i64)))])])],
  []⟩
def Ga : FAnn := ⟨219, 0, [.slot 0 (.agg [.bool, .im (.int .i64)]), .slot 1 (.agg [.bool, .im (.int .i64)])], [.slot 0 (.cell (.int .i64))],
  [],
  [],
  []⟩
def I4 : FAnn := ⟨105, 0, [.slot 0 (.agg [.bool, .im (.int .i64), .bool, .im (.int .i64)])], [.slot 0 (.cell (.bool))],
  [],
  [],
  []⟩
def I6 : FAnn := ⟨129, 0, [.slot 0 (.cell (.im (.pair (.pair (.bool) (.sl (.int .i64))) (.pair (.bool) (.sl (.int .i64))))))], [.slot 0 (.cell (.bool))],
  [(2, [.slot 5 (.cell (.im (.pair (.pair (.bool) (.sl (.int .i64))) (.pair (.bool) (.sl (.int .i64)))))), .slot 6 (.cell (.int .i64)), .slot 7 (.cell (.int .i64))])],
  [(2, [(.exit 0, []), (.ret, [.slot 2 (.cell (.bool))])])],
  []⟩
def F8 : FAnn := ⟨138, 0, [.slot 0 (.agg [.bool, .im (.int .i64), .bool, .im (.int .i64)]), .slot 1 (.agg [.bool, .im (.int .i64), .bool, .im (.int .i64)])], [.slot 0 (.cell (.int .i64))],
  [],
  [],
  []⟩
def H4 : FAnn := ⟨130, 0, [.slot 0 (.agg [.bool, .im (.int .i64), .bool, .im (.int .i64)]), .slot 1 (.agg [.bool, .im (.int .i64), .bool, .im (.int .i64)])], [.slot 0 (.cell (.bool))],
  [],
  [],
  []⟩
def HQ : FAnn := ⟨39, 0, [.slot 0 (.agg [.bool, .im (.int .i64), .bool, .im (.int .i64), .bool, .im (.int .i64), .bool, .im (.int .i64)])], [.slot 0 (.cell (.bool))],
  [],
  [],
  []⟩
def NK : FAnn := ⟨111, 0, [.slot 0 (.cell (.int .i64))], [.slot 0 (.agg [.bool, .im (.int .i64), .bool, .im (.int .i64)])],
  [],
  [],
  []⟩
def H3 : FAnn := ⟨235, 0, [.slot 0 (.cell (.im (.int .i64))), .slot 1 (.cell (.im (.int .i64)))], [.blk (.arr 3 true (.int .i64)), .slot 0 (.ref 0 false)],
  [(4, [.blk (.arr 3 true (.int .i64)), .slot 0 (.cell (.im (.int .i64))), .slot 1 (.cell (.im (.int .i64))), .slot 5 (.ref 0 false), .slot 6 (.cell (.int .i64)), .slot 7 (.cell (.int .i64))])],
  [(4, [(.exit 0, [.blk (.arr 3 true (.int .i64)), .slot 5 (.ref 0 false)])])],
  [(6, [.blk (.arr 3 true (.int .i64)), .slot 0 (.cell (.im (.int .i64))), .slot 1 (.cell (.im (.int .i64))), .slot 5 (.ref 0 false), .slot 6 (.cell (.int .i64)), .slot 7 (.cell (.int .i64))]), (8, [.blk (.arr 3 true (.int .i64)), .slot 0 (.cell (.im (.int .i64))), .slot 1 (.cell (.im (.int .i64))), .slot 5 (.ref 0 false), .slot 6 (.cell (.int .i64)), .slot 7 (.cell (.int .i64))]), (10, [.blk (.arr 3 true (.int .i64)), .slot 0 (.cell (.im (.int .i64))), .slot 1 (.cell (.im (.int .i64))), .slot 5 (.ref 0 false), .slot 6 (.cell (.int .i64)), .slot 7 (.cell (.int .i64))])]⟩
def Ij : FAnn := ⟨236, 0, [.slot 0 (.cell (.im (.int .i64))), .slot 1 (.cell (.im (.int .i64)))], [.slot 0 (.cell (.im (.int .i64)))],
  [(4, [.blk (.arr 3 true (.int .i64)), .slot 1 (.cell (.im (.int .i64))), .slot 5 (.ref 0 false), .slot 6 (.cell (.int .i64)), .slot 11 (.cell (.int .i64)), .slot 12 (.cell (.int .i64))])],
  [(4, [(.exit 0, [.blk (.arr 3 true (.int .i64)), .slot 5 (.ref 0 false)])])],
  [(9, [.blk (.arr 3 true (.int .i64)), .slot 1 (.cell (.im (.int .i64))), .slot 5 (.ref 0 false), .slot 7 (.cell (.int .i64)), .slot 11 (.cell (.int .i64)), .slot 12 (.cell (.int .i64))])]⟩
def Ja : FAnn := ⟨132, 0, [.slot 0 (.agg [.bool, .im (.int .i64)]), .slot 1 (.agg [.bool, .im (.int .i64)])], [.slot 0 (.agg [.bool, .im (.int .i64)])],
  [],
  [],
  []⟩
def JB : FAnn := ⟨233, 0, [.slot 0 (.agg [.bool, .im (.int .i64)])], [.slot 0 (.agg [.bool, .im (.int .i64)])],
  [],
  [],
  []⟩
def IQ : FAnn := ⟨234, 0, [.slot 0 (.agg [.bool, .im (.int .i64)]), .slot 1 (.agg [.bool, .im (.int .i64)])], [.slot 0 (.agg [.bool, .im (.int .i64)]), .slot 1 (.agg [.bool, .im (.int .i64)])],
  [],
  [],
  []⟩
def M1 : FAnn := ⟨131, 0, [.slot 0 (.agg [.bool, .im (.int .i64)]), .slot 1 (.agg [.bool, .im (.int .i64)])], [.slot 0 (.agg [.bool, .im (.int .i64), .bool, .im (.int .i64)])],
  [],
  [],
  [(4, [.blk (.box 25 [.bool, .im (.int .i64)]), .blk (.box 25 [.bool, .im (.int .i64)]), .blk (.box 27 [.bool, .im (.int .i64), .bool, .im (.int .i64)]), .blk (.box 25 [.bool, .im (.int .i64)]), .slot 2 (.ref 0 true), .slot 3 (.ref 1 true), .slot 4 (.ref 2 true), .slot 5 (.ref 3 true)])]⟩
def Jo : FAnn := ⟨126, 0, [.slot 0 (.agg [.bool, .im (.int .i64), .bool, .im (.int .i64)]), .slot 1 (.agg [.bool, .im (.int .i64), .bool, .im (.int .i64)])], [.slot 0 (.agg [.bool, .im (.int .i64), .bool, .im (.int .i64)])],
  [],
  [],
  []⟩
def Ju : FAnn := ⟨158, 0, [.slot 0 (.cell (.int .i64))], [.slot 0 (.agg [.bool, .im (.int .i64), .bool, .im (.int .i64)])],
  [(3, [.blk (.box 27 [.bool, .im (.int .i64), .bool, .im (.int .i64)]), .blk (.box 27 [.bool, .im (.int .i64), .bool, .im (.int .i64)]), .slot 2 (.ref 0 true), .slot 3 (.ref 1 true), .slot 5 (.cell (.int .i64)), .slot 6 (.cell (.int .i64))])],
  [(3, [(.exit 0, [.blk (.box 27 [.bool, .im (.int .i64), .bool, .im (.int .i64)]), .blk (.box 27 [.bool, .im (.int .i64), .bool, .im (.int .i64)]), .slot 2 (.ref 0 true), .slot 3 (.ref 1 true)])])],
  []⟩
def JX : FAnn := ⟨140, 0, [.slot 0 (.agg [.bool, .im (.int .i64), .bool, .im (.int .i64)]), .slot 1 (.agg [.bool, .im (.int .i64), .bool, .im (.int .i64)])], [.slot 0 (.agg [.bool, .im (.int .i64), .bool, .im (.int .i64)])],
  [],
  [],
  []⟩
def J4 : FAnn := ⟨276, 0, [.slot 0 (.agg [.bool, .im (.int .i64)]), .slot 1 (.agg [.bool, .im (.int .i64)])], [.slot 0 (.agg [.bool, .im (.int .i64)])],
  [],
  [],
  []⟩
def E7 : FAnn := ⟨221, 0, [.slot 0 (.agg [.bool, .im (.int .i64)]), .slot 1 (.agg [.bool, .im (.int .i64)])], [.slot 0 (.agg [.bool, .im (.int .i64)])],
  [],
  [],
  []⟩
def GV : FAnn := ⟨106, 0, [.slot 0 (.agg [.bool, .im (.int .i64), .bool, .im (.int .i64)])], [.slot 0 (.agg [.bool, .im (.int .i64)])],
  [],
  [],
  []⟩
def NF : FAnn := ⟨109, 0, [.slot 0 (.agg [.bool, .im (.int .i64)])], [.slot 0 (.agg [.bool, .im (.int .i64), .bool, .im (.int .i64)])],
  [],
  [],
  []⟩
def Jv : FAnn := ⟨159, 0, [.slot 0 (.agg [.bool, .im (.int .i64), .bool, .im (.int .i64)])], [.slot 0 (.agg [.bool, .im (.int .i64), .bool, .im (.int .i64)])],
  [],
  [],
  []⟩
def IX : FAnn := ⟨112, 0, [.slot 0 (.agg [.bool, .im (.int .i64), .bool, .im (.int .i64)]), .slot 1 (.agg [.bool, .im (.int .i64), .bool, .im (.int .i64)])], [.slot 0 (.agg [.bool, .im (.int .i64), .bool, .im (.int .i64)])],
  [],
  [],
  []⟩
def FB : FAnn := ⟨232, 0, [.slot 0 (.agg [.bool, .im (.int .i64), .bool, .im (.int .i64)]), .slot 1 (.cell (.int .i64))], [.slot 0 (.cell (.bool))],
  [],
  [],
  []⟩
def KZ : FAnn := ⟨243, 0, [.slot 0 (.agg [.bool, .im (.int .i64), .bool, .im (.int .i64)])], [.slot 0 (.agg [.bool, .im (.int .i64), .bool, .im (.int .i64)])],
  [],
  [],
  []⟩
def Fy : FAnn := ⟨147, 0, [.slot 0 (.agg [.bool, .im (.int .i64), .bool, .im (.int .i64)]), .slot 1 (.agg [.bool, .im (.int .i64), .bool, .im (.int .i64)])], [.slot 0 (.agg [.bool, .im (.int .i64), .bool, .im (.int .i64), .bool, .im (.int .i64), .bool, .im (.int .i64)]), .slot 1 (.cell (.bool))],
  [],
  [],
  []⟩
def HV : FAnn := ⟨52, 0, [.slot 0 (.agg [.bool, .im (.int .i64), .bool, .im (.int .i64), .bool, .im (.int .i64), .bool, .im (.int .i64)]), .slot 1 (.cell (.int .i64))], [.slot 0 (.agg [.bool, .im (.int .i64), .bool, .im (.int .i64), .bool, .im (.int .i64), .bool, .im (.int .i64)]), .slot 1 (.cell (.bool))],
  [],
  [],
  []⟩
def Lk : FAnn := ⟨133, 0, [.slot 0 (.agg [.bool, .im (.int .i64), .bool, .im (.int .i64)]), .slot 1 (.agg [.bool, .im (.int .i64), .bool, .im (.int .i64)])], [.slot 0 (.cell (.bool))],
  [],
  [],
  []⟩
def Iw : FAnn := ⟨40, 0, [.slot 0 (.agg [.bool, .im (.int .i64), .bool, .im (.int .i64), .bool, .im (.int .i64), .bool, .im (.int .i64)])], [.slot 0 (.cell (.bool))],
  [],
  [],
  []⟩
def Gb : FAnn := ⟨237, 0, [.slot 0 (.cell (.im (.int .i64))), .slot 1 (.cell (.im (.int .i64)))], [.blk (.arr 3 true (.int .i64)), .slot 0 (.ref 0 false)],
  [(4, [.blk (.arr 3 true (.int .i64)), .slot 0 (.cell (.im (.int .i64))), .slot 1 (.cell (.im (.int .i64))), .slot 5 (.ref 0 false), .slot 6 (.cell (.int .i64)), .slot 7 (.cell (.int .i64))])],
  [(4, [(.exit 0, [.blk (.arr 3 true (.int .i64)), .slot 5 (.ref 0 false)])])],
  [(6, [.blk (.arr 3 true (.int .i64)), .slot 0 (.cell (.im (.int .i64))), .slot 1 (.cell (.im (.int .i64))), .slot 5 (.ref 0 false), .slot 6 (.cell (.int .i64)), .slot 7 (.cell (.int .i64))])]⟩
def Gk : FAnn := ⟨238, 0, [.slot 0 (.cell (.im (.int .i64))), .slot 1 (.cell (.im (.int .i64)))], [.blk (.arr 3 true (.int .i64)), .slot 0 (.ref 0 false)],
  [(4, [.blk (.arr 3 true (.int .i64)), .slot 0 (.cell (.im (.int .i64))), .slot 1 (.cell (.im (.int .i64))), .slot 5 (.ref 0 false), .slot 6 (.cell (.int .i64)), .slot 10 (.cell (.int .i64)), .slot 11 (.cell (.int .i64))])],
  [(4, [(.exit 0, [.blk (.arr 3 true (.int .i64)), .slot 5 (.ref 0 false)])])],
  []⟩
def N5 : FAnn := ⟨137, 0, [.slot 0 (.agg [.bool, .im (.int .i64)]), .slot 1 (.agg [.bool, .im (.int .i64)])], [.slot 0 (.agg [.bool, .im (.int .i64)])],
  [],
  [],
  []⟩
def JJ : FAnn := ⟨160, 0, [.slot 0 (.cell (.int .i64))], [.slot 0 (.agg [.bool, .im (.int .i64)])],
  [(2, [.blk (.box 25 [.bool, .im (.int .i64)]), .blk (.box 25 [.bool, .im (.int .i64)]), .slot 0 (.cell (.int .i64)), .slot 2 (.ref 0 true), .slot 3 (.ref 1 true)])],
  [(2, [(.exit 0, [.blk (.box 25 [.bool, .im (.int .i64)]), .blk (.box 25 [.bool, .im (.int .i64)]), .slot 2 (.ref 0 true), .slot 3 (.ref 1 true)])])],
  []⟩
def N6 : FAnn := ⟨228, 0, [.slot 0 (.agg [.bool, .im (.int .i64)]), .slot 1 (.agg [.bool, .im (.int .i64)])], [.slot 0 (.agg [.bool, .im (.int .i64)])],
  [],
  [],
  []⟩
def J1 : FAnn := ⟨114, 0, [.slot 0 (.agg [.bool, .im (.int .i64), .bool, .im (.int .i64)])], [.slot 0 (.agg [.bool, .im (.int .i64)])],
  [],
  [],
  []⟩
def JK : FAnn := ⟨161, 0, [.slot 0 (.agg [.bool, .im (.int .i64), .bool, .im (.int .i64)]), .slot 1 (.agg [.bool, .im (.int .i64)])], [.slot 0 (.agg [.bool, .im (.int .i64)])],
  [],
  [],
  []⟩
def Ni : FAnn := ⟨163, 0, [.slot 0 (.agg [.bool, .im (.int .i64), .bool, .im (.int .i64)])], [.slot 0 (.agg [.bool, .im (.int .i64), .bool, .im (.int .i64)])],
  [],
  [],
  []⟩
def Lq : FAnn := ⟨136, 0, [.slot 0 (.agg [.bool, .im (.int .i64), .bool, .im (.int .i64)])], [.slot 0 (.agg [.bool, .im (.int .i64), .bool, .im (.int .i64)]), .slot 1 (.cell (.bool))],
  [],
  [],
  []⟩
def Lx : FAnn := ⟨149, 0, [.slot 0 (.agg [.bool, .im (.int .i64), .bool, .im (.int .i64), .bool, .im (.int .i64), .bool, .im (.int .i64)])], [.slot 0 (.agg [.bool, .im (.int .i64), .bool, .im (.int .i64), .bool, .im (.int .i64), .bool, .im (.int .i64)]), .slot 1 (.cell (.bool))],
  [],
  [],
  []⟩
def Ip : FAnn := ⟨53, 0, [.slot 0 (.agg [.bool, .im (.int .i64), .bool, .im (.int .i64), .bool, .im (.int .i64), .bool, .im (.int .i64)]), .slot 1 (.cell (.int .i64))], [.slot 0 (.agg [.bool, .im (.int .i64), .bool, .im (.int .i64), .bool, .im (.int .i64), .bool, .im (.int .i64)]), .slot 1 (.cell (.bool))],
  [],
  [],
  []⟩
def HX : FAnn := ⟨122, 0, [.slot 0 (.cell (.im (.int .i64))), .slot 1 (.cell (.im (.int .i64)))], [.slot 0 (.cell (.bool))],
  [(4, [.slot 0 (.cell (.im (.int .i64))), .slot 1 (.cell (.im (.int .i64))), .slot 12 (.cell (.int .i64)), .slot 13 (.cell (.int .i64))])],
  [(4, [(.exit 0, []), (.ret, [.slot 4 (.cell (.bool))])])],
  []⟩
def IV : FAnn := ⟨14, 0, [.slot 0 (.agg [.bool, .im (.int .i64)]), .slot 1 (.agg [.bool, .im (.int .i64)])], [.slot 0 (.cell (.bool))],
  [],
  [],
  []⟩
def Jf : FAnn := ⟨16, 0, [.slot 0 (.agg [.bool, .im (.int .i64), .bool, .im (.int .i64)]), .slot 1 (.agg [.bool, .im (.int .i64), .bool, .im (.int .i64)])], [.slot 0 (.cell (.bool))],
  [],
  [],
  []⟩
def IA : FAnn := ⟨38, 0, [.slot 0 (.agg [.bool, .im (.int .i64), .bool, .im (.int .i64), .bool, .im (.int .i64), .bool, .im (.int .i64)]), .slot 1 (.agg [.bool, .im (.int .i64), .bool, .im (.int .i64), .bool, .im (.int .i64), .bool, .im (.int .i64)])], [.slot 0 (.cell (.bool))],
  [],
  [],
  []⟩
def Ik : FAnn := ⟨154, 0, [.slot 0 (.agg [.bool, .im (.int .i64), .bool, .im (.int .i64), .bool, .im (.int .i64), .bool, .im (.int .i64)]), .slot 1 (.agg [.bool, .im (.int .i64), .bool, .im (.int .i64)])], [.slot 0 (.cell (.bool))],
  [],
  [],
  []⟩
def Lz : FAnn := ⟨62, 0, [.slot 0 (.agg [.bool, .im (.int .i64), .bool, .im (.int .i64), .bool, .im (.int .i64), .bool, .im (.int .i64)]), .slot 1 (.agg [.bool, .im (.int .i64), .bool, .im (.int .i64)])], [.slot 0 (.cell (.bool)), .slot 1 (.cell (.bool))],
  [],
  [],
  []⟩
def Lj : FAnn := ⟨41, 0, [.slot 0 (.agg [.bool, .im (.int .i64), .bool, .im (.int .i64), .bool, .im (.int .i64), .bool, .im (.int .i64)]), .slot 1 (.agg [.bool, .im (.int .i64), .bool, .im (.int .i64)])], [.slot 0 (.cell (.bool))],
  [],
  [],
  []⟩
def Nj : FAnn := ⟨152, 0, [.slot 0 (.agg [.bool, .im (.int .i64), .bool, .im (.int .i64)]), .slot 1 (.agg [.bool, .im (.int .i64), .bool, .im (.int .i64)])], [.slot 0 (.agg [.bool, .im (.int .i64), .bool, .im (.int .i64)])],
  [],
  [],
  []⟩
def Np : FAnn := ⟨119, 0, [.slot 0 (.cell (.int .i64))], [.slot 0 (.agg [.bool, .im (.int .i64), .bool, .im (.int .i64)])],
  [],
  [],
  []⟩
def EL : FAnn := ⟨54, 0, [.slot 0 (.cell (.im (.int .u8)))], [.slot 0 (.agg [.bool, .im (.int .i64), .bool, .im (.int .i64)]), .slot 1 (.cell (.int .i64))],
  [],
  [],
  []⟩
def HY : FAnn := ⟨110, 0, [.slot 0 (.agg [.bool, .im (.int .i64), .bool, .im (.int .i64)])], [.slot 0 (.cell (.int .i64))],
  [],
  [],
  []⟩
def K5 : FAnn := ⟨166, 0, [.slot 0 (.agg [.bool, .im (.int .i64)])], [.slot 0 (.agg [.bool, .im (.int .i64)])],
  [(4, [.blk (.box 25 [.bool, .im (.int .i64)]), .blk (.box 25 [.bool, .im (.int .i64)]), .blk (.box 25 [.bool, .im (.int .i64)]), .slot 1 (.ref 0 true), .slot 2 (.ref 1 true), .slot 3 (.ref 2 true)])],
  [(4, [(.ret, [.blk (.box 25 [.bool, .im (.int .i64)]), .slot 2 (.ref 0 true)])])],
  []⟩
def HU : FAnn := ⟨167, 0, [.slot 0 (.agg [.bool, .im (.int .i64), .bool, .im (.int .i64)]), .slot 1 (.agg [.bool, .im (.int .i64), .bool, .im (.int .i64)])], [.slot 0 (.cell (.bool))],
  [],
  [],
  []⟩
def Ir : FAnn := ⟨55, 0, [.slot 0 (.agg [.bool, .im (.int .i64), .bool, .im (.int .i64)]), .slot 1 (.cell (.int .i64))], [.slot 0 (.agg [.bool, .im (.int .i64), .bool, .im (.int .i64), .bool, .im (.int .i64), .bool, .im (.int .i64)]), .slot 1 (.cell (.bool))],
  [],
  [],
  [(8, [.blk (.box 50 [.bool, .im (.int .i64), .bool, .im (.int .i64), .bool, .im (.int .i64), .bool, .im (.int .i64)]), .blk (.box 27 [.bool, .im (.int .i64), .bool, .im (.int .i64)]), .blk (.box 27 [.bool, .im (.int .i64), .bool, .im (.int .i64)]), .slot 4 (.ref 0 true), .slot 7 (.ref 1 true), .slot 8 (.ref 2 true)])]⟩
def Iz : FAnn := ⟨56, 0, [.slot 0 (.agg [.bool, .im (.int .i64), .bool, .im (.int .i64)]), .slot 1 (.cell (.int .i64))], [.slot 0 (.agg [.bool, .im (.int .i64), .bool, .im (.int .i64), .bool, .im (.int .i64), .bool, .im (.int .i64)]), .slot 1 (.cell (.bool))],
  [(7, [.blk (.box 27 [.bool, .im (.int .i64), .bool, .im (.int .i64)]), .blk (.box 50 [.bool, .im (.int .i64), .bool, .im (.int .i64), .bool, .im (.int .i64), .bool, .im (.int .i64)]), .blk (.box 25 [.bool, .im (.int .i64)]), .blk (.box 25 [.bool, .im (.int .i64)]), .blk (.box 25 [.bool, .im (.int .i64)]), .slot 2 (.ref 0 true), .slot 4 (.ref 1 true), .slot 6 (.ref 2 true), .slot 7 (.ref 3 true), .slot 8 (.ref 4 true), .slot 9 (.cell (.int .i64))])],
  [(7, [(.exit 0, [.blk (.box 27 [.bool, .im (.int .i64), .bool, .im (.int .i64)]), .blk (.box 50 [.bool, .im (.int .i64), .bool, .im (.int .i64), .bool, .im (.int .i64), .bool, .im (.int .i64)]), .blk (.box 25 [.bool, .im (.int .i64)]), .blk (.box 25 [.bool, .im (.int .i64)]), .slot 2 (.ref 0 true), .slot 4 (.ref 1 true), .slot 6 (.ref 2 true), .slot 8 (.ref 3 true)])])],
  []⟩
def Br : FAnn := ⟨244, 0, [.slot 0 (.cell (.im (.pair (.pair (.bool) (.sl (.int .i64))) (.pair (.bool) (.sl (.int .i64)))))), .slot 1 (.clo 138)], [.slot 0 (.agg [.bool, .im (.int .i64), .bool, .im (.int .i64)])],
  [(5, [.blk (.box 27 [.bool, .im (.int .i64), .bool, .im (.int .i64)]), .blk (.box 27 [.bool, .im (.int .i64), .bool, .im (.int .i64)]), .slot 0 (.cell (.im (.pair (.pair (.bool) (.sl (.int .i64))) (.pair (.bool) (.sl (.int .i64)))))), .slot 1 (.clo 138), .slot 4 (.ref 0 true), .slot 5 (.ref 1 true), .slot 6 (.cell (.int .i64))])],
  [(5, [(.exit 0, [.blk (.box 27 [.bool, .im (.int .i64), .bool, .im (.int .i64)]), .blk (.box 27 [.bool, .im (.int .i64), .bool, .im (.int .i64)]), .slot 4 (.ref 0 true), .slot 5 (.ref 1 true)])])],
  []⟩
def Bp : FAnn := ⟨245, 0, [.slot 0 (.cell (.im (.pair (.pair (.bool) (.sl (.int .i64))) (.pair (.bool) (.sl (.int .i64)))))), .slot 1 (.clo 138)], [.slot 0 (.agg [.bool, .im (.int .i64), .bool, .im (.int .i64)])],
  [(5, [.blk (.box 27 [.bool, .im (.int .i64), .bool, .im (.int .i64)]), .blk (.box 27 [.bool, .im (.int .i64), .bool, .im (.int .i64)]), .slot 0 (.cell (.im (.pair (.pair (.bool) (.sl (.int .i64))) (.pair (.bool) (.sl (.int .i64)))))), .slot 1 (.clo 138), .slot 4 (.ref 0 true), .slot 5 (.ref 1 true), .slot 6 (.cell (.int .i64))])],
  [(5, [(.exit 0, [.blk (.box 27 [.bool, .im (.int .i64), .bool, .im (.int .i64)]), .blk (.box 27 [.bool, .im (.int .i64), .bool, .im (.int .i64)]), .slot 4 (.ref 0 true), .slot 5 (.ref 1 true)])])],
  []⟩
def Li : FAnn := ⟨150, 0, [.slot 0 (.cell (.im (.pair (.pair (.bool) (.sl (.int .i64))) (.pair (.bool) (.sl (.int .i64))))))], [.slot 0 (.agg [.bool, .im (.int .i64), .bool, .im (.int .i64), .bool, .im (.int .i64), .bool, .im (.int .i64)]), .slot 1 (.cell (.bool))],
  [],
  [],
  []⟩
def Gg : FAnn := ⟨45, 0, [.slot 0 (.agg [.bool, .im (.int .i64), .bool, .im (.int .i64), .bool, .im (.int .i64), .bool, .im (.int .i64)])], [.slot 0 (.agg [.bool, .im (.int .i64), .bool, .im (.int .i64), .bool, .im (.int .i64), .bool, .im (.int .i64)]), .slot 1 (.cell (.bool))],
  [],
  [],
  []⟩
def I0 : FAnn := ⟨108, 0, [.slot 0 (.agg [.bool, .im (.int .i64), .bool, .im (.int .i64)]), .slot 1 (.agg [.bool, .im (.int .i64), .bool, .im (.int .i64)])], [.slot 0 (.agg [.bool, .im (.int .i64), .bool, .im (.int .i64)])],
  [],
  [],
  []⟩
def F4 : FAnn := ⟨127, 0, [.slot 0 (.agg [.bool, .im (.int .i64), .bool, .im (.int .i64)])], [.slot 0 (.agg [.bool, .im (.int .i64), .bool, .im (.int .i64)]), .slot 1 (.cell (.bool))],
  [],
  [],
  []⟩
def Jx : FAnn := ⟨49, 0, [.slot 0 (.agg [.bool, .im (.int .i64), .bool, .im (.int .i64), .bool, .im (.int .i64), .bool, .im (.int .i64)])], [.slot 0 (.agg [.bool, .im (.int .i64), .bool, .im (.int .i64)]), .slot 1 (.cell (.bool))],
  [],
  [],
  []⟩
def Nq : FAnn := ⟨22, 0, [.slot 0 (.cell (.int .i64)), .slot 1 (.cell (.int .i64))], [.slot 0 (.agg [.bool, .im (.int .i64), .bool, .im (.int .i64)]), .slot 1 (.cell (.bool))],
  [],
  [],
  []⟩
def IY : FAnn := ⟨57, 0, [.slot 0 (.agg [.bool, .im (.int .i64)])], [.slot 0 (.cell (.bool))],
  [],
  [],
  []⟩
def Fu : FAnn := ⟨104, 0, [.slot 0 (.cell (.im (.int .u8)))], [.slot 0 (.agg [.bool, .im (.int .i64), .bool, .im (.int .i64)])],
  [],
  [],
  []⟩
def Ez : FAnn := ⟨58, 0, [.slot 0 (.cell (.im (.int .u8)))], [.slot 0 (.agg [.bool, .im (.int .i64), .bool, .im (.int .i64)])],
  [],
  [],
  []⟩
def G8 : FAnn := ⟨59, 0, [.slot 0 (.agg [.bool, .im (.int .i64), .bool, .im (.int .i64)])], [.slot 0 (.agg [.bool, .im (.int .i64), .bool, .im (.int .i64), .bool, .im (.int .i64), .bool, .im (.int .i64)]), .slot 1 (.cell (.bool))],
  [],
  [],
  []⟩
def GY : FAnn := ⟨60, 0, [.slot 0 (.agg [.bool, .im (.int .i64), .bool, .im (.int .i64)])], [.slot 0 (.agg [.bool, .im (.int .i64), .bool, .im (.int .i64), .bool, .im (.int .i64), .bool, .im (.int .i64)]), .slot 1 (.cell (.bool))],
  [],
  [],
  []⟩
def F6 : FAnn := ⟨61, 0, [.slot 0 (.cell (.im (.int .u8)))], [.slot 0 (.agg [.bool, .im (.int .i64), .bool, .im (.int .i64), .bool, .im (.int .i64), .bool, .im (.int .i64)]), .slot 1 (.agg [.bool, .im (.int .i64), .bool, .im (.int .i64)])],
  [],
  [],
  []⟩
def QI : FAnn := ⟨155, 0, [.slot 0 (.agg [.bool, .im (.int .i64), .bool, .im (.int .i64), .bool, .im (.int .i64), .bool, .im (.int .i64)]), .slot 1 (.agg [.bool, .im (.int .i64), .bool, .im (.int .i64)])], [.slot 0 (.cell (.bool))],
  [],
  [],
  []⟩
def Ld : FAnn := ⟨63, 0, [.slot 0 (.agg [.bool, .im (.int .i64), .bool, .im (.int .i64), .bool, .im (.int .i64), .bool, .im (.int .i64)]), .slot 1 (.agg [.bool, .im (.int .i64), .bool, .im (.int .i64)])], [.slot 0 (.cell (.bool)), .slot 1 (.cell (.bool))],
  [],
  [],
  []⟩
def G7 : FAnn := ⟨5, 0, [.slot 0 (.cell (.im (.int .u8))), .slot 1 (.cell (.im (.int .u8)))], [.slot 0 (.cell (.bool))],
  [],
  [],
  [(12, [.slot 1 (.cell (.im (.int .u8)))]), (23, [.blk (.box 27 [.bool, .im (.int .i64), .bool, .im (.int .i64)]), .blk (.box 27 [.bool, .im (.int .i64), .bool, .im (.int .i64)]), .slot 1 (.cell (.im (.int .u8))), .slot 14 (.cell (.int .i64)), .slot 21 (.ref 0 true), .slot 23 (.ref 1 true)]), (25, [.slot 1 (.cell (.im (.int .u8)))])]⟩
def annTab : List FAnn := [FX, FZ, GU, FC, NI, K4, G9, QO, Jq, Nc, I8, PN, JM, Ll, Lf, KY, Lu, Gn, NL, NY, Nk, K7, NZ, M5, G5, JL, Gj, N4, Iv, Nd, Gu, EI, K1, GW, BB, Bf, IR, IB, Bb, AX, Lr, Il, Fv, Ey, EX, Uc, Ii, A1, NN, NH, J2, H9, IU, Ga, I4, I6, F8, H4, HQ, NK, H3, Ij, Ja, JB, IQ, M1, Jo, Ju, JX, J4, E7, GV, NF, Jv, IX, FB, KZ, Fy, HV, Lk, Iw, Gb, Gk, N5, JJ, N6, J1, JK, Ni, Lq, Lx, Ip, HX, IV, Jf, IA, Ik, Lz, Lj, Nj, Np, EL, HY, K5, HU, Ir, Iz, Br, Bp, Li, Gg, I0, F4, Jx, Nq, IY, Fu, Ez, G8, GY, F6, QI, Ld, G7]
def noExt : Rel := fun _ _ _ _ _ => False
def cfC : Cfg := cfOf [A1] fun _ => false
def cloneTab : List (FuncId × TypeId × Nat × Bool) := [(277, 3, Ty.size (.int .i64), true)]
theorem GZ : CloneOK Tryz.prog (277, 3, Ty.size (.int .i64), true) := ⟨Tryz.f277, 23, 4, tyD23, tyD3, Tryz.func277, by kernel_rfl, by kernel_rfl, rfl, ty23, rfl, ty3, by kernel_rfl, rfl, rfl⟩
theorem Zl : ∀ x ∈ cloneTab, CloneOK Tryz.prog x := by
  intro x hx
  simp only [cloneTab, List.mem_cons, List.not_mem_nil, or_false] at hx
  rcases hx with rfl
  exact GZ
def ext0 : Rel := cloneRel (Runs Tryz.prog cfC noExt) cloneTab
theorem Ai9 {J : Tabs} : ∀ g args blks r blks', ext0 g args blks r blks' → CSpec Tryz.prog J g args blks r blks' := R5 (by kernel_rfl) Zl
def cf0 : Cfg := cfOf annTab fun g => ([277] : List Nat).contains g
abbrev RR : Rel := Runs Tryz.prog cf0 ext0
noncomputable def B9 (a0 : ((List Int) × (Int × Int))) : Option ((List (Int) × Int × Int) × Int) :=
  (bif decide (a0.2.1 < (((List.length a0.1) : Nat) : Int)) then
      ((getI a0.1 a0.2.1)).bind fun x0 =>
      some (Sum.inr ((a0.1, (a0.2.1, a0.2.2)), (Go.IntKind.wrap Go.IntKind.i64 x0)))
    else
    some (Sum.inr ((a0.1, (a0.2.1, a0.2.2)), (0 : Int)))).bind fun x1 =>
  Sum.elim
    (fun x2 =>
    some x2)
    (fun x3 =>
    bif decide ((Go.IntKind.wrap Go.IntKind.i64 (x3.1.2.1 + (1 : Int))) ≤ (((List.length x3.1.1) : Nat) : Int)) then
      some ((x3.1.1, ((Go.IntKind.wrap Go.IntKind.i64 (x3.1.2.1 + (1 : Int))), (Go.IntKind.wrap Go.IntKind.u64 ((Go.IntKind.wrap Go.IntKind.u64 ((Go.IntKind.wrap Go.IntKind.u64 (x3.1.2.2 * (6364136223846793005 : Int))) + (Go.IntKind.wrap Go.IntKind.u64 x3.2))) + (1442695040888963407 : Int))))), x3.2)
    else
    some ((x3.1.1, ((Go.IntKind.wrap Go.IntKind.i64 (x3.1.2.1 + (1 : Int))), (Go.IntKind.wrap Go.IntKind.u64 ((Go.IntKind.wrap Go.IntKind.u64 ((Go.IntKind.wrap Go.IntKind.u64 (x3.1.2.2 * (6364136223846793005 : Int))) + (Go.IntKind.wrap Go.IntKind.u64 x3.2))) + (1442695040888963407 : Int))))), (Go.IntKind.wrap Go.IntKind.i64 (andI Go.IntKind.u64 (shrI Go.IntKind.u64 (Go.IntKind.wrap Go.IntKind.u64 ((Go.IntKind.wrap Go.IntKind.u64 ((Go.IntKind.wrap Go.IntKind.u64 (x3.1.2.2 * (6364136223846793005 : Int))) + (Go.IntKind.wrap Go.IntKind.u64 x3.2))) + (1442695040888963407 : Int))) (40 : Int)) (255 : Int)))))
    x1
noncomputable def Jg : Ent := ⟨FX, fun x => B9 x⟩
noncomputable def JP : TX := ⟨tyTab, codTab, [], [4], [], FX⟩
set_option maxHeartbeats 2000000 in
theorem P9 (a0 : (List (Int) × Int × Int)) : wtF JP Tryz.f240 (a0) = B9 a0 := by kernel_rfl
theorem Pm : EntOK RR Jg := Ab (X := JP) ⟨tyOK, boolOK, eqOK⟩ (Ad (by exact trivial)) (Ae (by kernel_rfl)) ⟨Tryz.func240, rfl, by kernel_rfl, rfl⟩ (fun x => by exact P9 x)
noncomputable def AO (a0 : ((List Int) × (Int × Int))) (a1 : Int) : Option ((List (Int) × Int × Int) × Int) :=
  bif decide (a1 ≤ (1 : Int)) then
    some ((a0.1, (a0.2.1, a0.2.2)), (0 : Int))
  else
  ((B9 (a0.1, (a0.2.1, a0.2.2)))).bind fun x0 =>
  bif decide (a1 > (200 : Int)) then
    ((B9 (x0.1.1, (x0.1.2.1, x0.1.2.2)))).bind fun x1 =>
    bif (a1 == (0 : Int)) then
      none
    else
    some ((x1.1.1, (x1.1.2.1, x1.1.2.2)), (Int.tmod (Go.IntKind.wrap Go.IntKind.i64 ((Go.IntKind.wrap Go.IntKind.i64 (x0.2 * (256 : Int))) + x1.2)) a1))
  else
  bif (a1 == (0 : Int)) then
    none
  else
  some ((x0.1.1, (x0.1.2.1, x0.1.2.2)), (Int.tmod x0.2 a1))
noncomputable def CF : Ent := ⟨FZ, fun x => AO x.1 x.2⟩
noncomputable def JV : TX := ⟨tyTab, codTab, [], [4], [Jg], FZ⟩
set_option maxHeartbeats 2000000 in
theorem Rp (a0 : (List (Int) × Int × Int)) (a1 : Int) : wtF JV Tryz.f141 (a0, a1) = AO a0 a1 := by kernel_rfl
theorem DB : EntOK RR CF := Ab (X := JV) ⟨tyOK, boolOK, eqOK⟩ (Ad (by exact ⟨⟨Pm, rfl⟩, trivial⟩)) (Ae (by kernel_rfl)) ⟨Tryz.func141, rfl, by kernel_rfl, rfl⟩ (fun x => by exact Rp x.1 x.2)
noncomputable def AQ (a0 : ((List Int) × (Int × Int))) (a1 : Int) : Option ((List (Int) × Int × Int) × Bool) :=
  ((AO (a0.1, (a0.2.1, a0.2.2)) a1)).bind fun x0 =>
  some ((x0.1.1, (x0.1.2.1, x0.1.2.2)), (x0.2 == (0 : Int)))
noncomputable def Dv : Ent := ⟨GU, fun x => AQ x.1 x.2⟩
noncomputable def KG : TX := ⟨tyTab, codTab, [], [4], [CF], GU⟩
set_option maxHeartbeats 2000000 in
theorem R6 (a0 : (List (Int) × Int × Int)) (a1 : Int) : wtF KG Tryz.f142 (a0, a1) = AQ a0 a1 := by kernel_rfl
theorem Er : EntOK RR Dv := Ab (X := KG) ⟨tyOK, boolOK, eqOK⟩ (Ad (by exact ⟨⟨DB, rfl⟩, trivial⟩)) (Ae (by kernel_rfl)) ⟨Tryz.func142, rfl, by kernel_rfl, rfl⟩ (fun x => by exact R6 x.1 x.2)
noncomputable def Aq (a0 : ((List Int) × (Int × Int))) (a1 : (List Int)) : Option ((List (Int) × Int × Int) × Int) :=
  ((AO (a0.1, (a0.2.1, a0.2.2)) (((List.length a1) : Nat) : Int))).bind fun x0 =>
  ((getI a1 x0.2)).bind fun x1 =>
  some ((x0.1.1, (x0.1.2.1, x0.1.2.2)), x1)
noncomputable def DC : Ent := ⟨FC, fun x => Aq x.1 x.2⟩
noncomputable def IH : TX := ⟨tyTab, codTab, [], [4], [CF], FC⟩
set_option maxHeartbeats 2000000 in
theorem Pw (a0 : (List (Int) × Int × Int)) (a1 : List (Int)) : wtF IH Tryz.f157 (a0, a1) = Aq a0 a1 := by kernel_rfl
theorem ER : EntOK RR DC := Ab (X := IH) ⟨tyOK, boolOK, eqOK⟩ (Ad (by exact ⟨⟨DB, rfl⟩, trivial⟩)) (Ae (by kernel_rfl)) ⟨Tryz.func157, rfl, by kernel_rfl, rfl⟩ (fun x => by exact Pw x.1 x.2)
noncomputable def GK (s0 : (List Int)) : Option ((List Int) ⊕ (List Int)) :=
  bif decide ((((List.length s0) : Nat) : Int) > (0 : Int)) then
    ((getI s0 (Go.IntKind.wrap Go.IntKind.i64 ((((List.length s0) : Nat) : Int) - (1 : Int))))).bind fun x0 =>
    bif (x0 == (0 : Int)) then
      ((subI (0 : Int) (Go.IntKind.wrap Go.IntKind.i64 ((((List.length s0) : Nat) : Int) - (1 : Int))) (List.length s0))).bind fun x1 =>
      some (Sum.inl (List.drop x1.1 (List.take x1.2 s0)))
    else
    some (Sum.inr s0)
  else
  some (Sum.inr s0)
noncomputable def Bi (a0 : (List Int)) : Option (List (Int)) :=
  (loopM (fun (s : (List Int)) => GK s) a0).bind fun x0 =>
  bif (roomI (List.length x0) 8 1) then
    some x0
  else
  none
noncomputable def DR : Ent := ⟨NI, fun x => Bi x⟩
noncomputable def S5 : TX := ⟨tyTab, codTab, [], [4], [], NI⟩
set_option maxHeartbeats 2000000 in
theorem ZA (a0 : List (Int)) : wtF S5 Tryz.f280 (a0) = Bi a0 := by kernel_rfl
theorem DJ : EntOK RR DR := Ab (X := S5) ⟨tyOK, boolOK, eqOK⟩ (Ad (by exact trivial)) (Ae (by kernel_rfl)) ⟨Tryz.func280, rfl, by kernel_rfl, rfl⟩ (fun x => by exact ZA x)
noncomputable def AH (a0 : Bool) (a1 : (List Int)) : Option (List (Int) × (Bool)) :=
  ((Bi a1)).bind fun x0 =>
  bif a0 then
    some (x0, decide ((((List.length x0) : Nat) : Int) > (0 : Int)))
  else
  some (x0, false)
noncomputable def Cq : Ent := ⟨K4, fun x => AH x.1 x.2⟩
noncomputable def PM : TX := ⟨tyTab, codTab, [], [4], [DR], K4⟩
set_option maxHeartbeats 2000000 in
theorem Xx (a0 : Bool) (a1 : List (Int)) : wtF PM Tryz.f229 (a0, a1) = AH a0 a1 := by kernel_rfl
theorem Ch : EntOK RR Cq := Ab (X := PM) ⟨tyOK, boolOK, eqOK⟩ (Ad (by exact ⟨⟨DJ, rfl⟩, trivial⟩)) (Ae (by kernel_rfl)) ⟨Tryz.func229, rfl, by kernel_rfl, rfl⟩ (fun x => by exact Xx x.1 x.2)
noncomputable def Cu (s0 : ((List Int) × (Int × Int))) (s1 : (Bool × (List Int))) (s2 : (List Int)) (s3 : Int) : Option ((((List Int) × (Int × Int)) × ((Bool × (List Int)) × ((List Int) × Int))) ⊕ (((List Int) × (Int × Int)) × ((Bool × (List Int)) × (List Int)))) :=
  bif decide (s3 > (0 : Int)) then
    ((AO (s0.1, (s0.2.1, s0.2.2)) (256 : Int))).bind fun x0 =>
    ((AO (x0.1.1, (x0.1.2.1, x0.1.2.2)) (256 : Int))).bind fun x1 =>
    ((Aq (x1.1.1, (x1.1.2.1, x1.1.2.2)) (List.cons (0 : Int) (List.cons (1 : Int) (List.cons (65535 : Int) (List.cons (32768 : Int) (List.cons (Go.IntKind.wrap Go.IntKind.i64 ((Go.IntKind.wrap Go.IntKind.i64 ((256 : Int) * x0.2)) + x1.2)) (List.cons (7 : Int) (List.nil : List Int))))))))).bind fun x2 =>
    ((appL 8 1 s2 (List.cons x2.2 (List.nil : List Int)))).bind fun x3 =>
    some (Sum.inl ((x2.1.1, (x2.1.2.1, x2.1.2.2)), ((s1.1, s1.2), (x3, (Go.IntKind.wrap Go.IntKind.i64 (s3 - (1 : Int)))))))
  else
  some (Sum.inr ((s0.1, (s0.2.1, s0.2.2)), ((s1.1, s1.2), s2)))
noncomputable def Cy (a0 : ((List Int) × (Int × Int))) : Option ((List (Int) × Int × Int) × (Bool × List (Int))) :=
  ((AO (a0.1, (a0.2.1, a0.2.2)) (6 : Int))).bind fun x0 =>
  (((AQ (x0.1.1, (x0.1.2.1, x0.1.2.2)) (12 : Int))).bind fun x1 =>
    bif x1.2 then
      ((Aq (x1.1.1, (x1.1.2.1, x1.1.2.2)) (List.cons (20 : Int) (List.cons (39 : Int) (List.cons (40 : Int) (List.cons (41 : Int) (List.nil : List Int))))))).bind fun x2 =>
      some (Sum.inr ((x2.1.1, (x2.1.2.1, x2.1.2.2)), ((false, (List.nil : List Int)), x2.2)))
    else
    some (Sum.inr ((x1.1.1, (x1.1.2.1, x1.1.2.2)), ((false, (List.nil : List Int)), x0.2)))).bind fun x3 =>
  Sum.elim
    (fun x4 =>
    some x4)
    (fun x5 =>
    (loopM (fun (s : (((List Int) × (Int × Int)) × ((Bool × (List Int)) × ((List Int) × Int)))) => Cu s.1 s.2.1 s.2.2.1 s.2.2.2) ((x5.1.1, (x5.1.2.1, x5.1.2.2)), ((x5.2.1.1, x5.2.1.2), ((List.nil : List Int), x5.2.2)))).bind fun x6 =>
    ((AQ (x6.1.1, (x6.1.2.1, x6.1.2.2)) (3 : Int))).bind fun x7 =>
    ((AH x7.2 x6.2.2)).bind fun x8 =>
    ((AQ (x7.1.1, (x7.1.2.1, x7.1.2.2)) (40 : Int))).bind fun x9 =>
    bif x9.2 then
      ((Aq (x9.1.1, (x9.1.2.1, x9.1.2.2)) (List.cons (0 : Int) (List.cons (-(1 : Int)) (List.cons (65536 : Int) (List.nil : List Int)))))).bind fun x10 =>
      ((appL 8 1 x8.1 (List.cons x10.2 (List.nil : List Int)))).bind fun x11 =>
      some ((x10.1.1, (x10.1.2.1, x10.1.2.2)), (x8.2, x11))
    else
    some ((x9.1.1, (x9.1.2.1, x9.1.2.2)), (x8.2, x8.1)))
    x3
noncomputable def KQ : Ent := ⟨G9, fun x => Cy x⟩
noncomputable def KU : TX := ⟨tyTab, codTab, [], [4], [CF, Dv, DC, Cq], G9⟩
set_option maxHeartbeats 2000000 in
theorem Sg (a0 : (List (Int) × Int × Int)) : wtF KU Tryz.f246 (a0) = Cy a0 := by kernel_rfl
theorem P7 : EntOK RR KQ := Ab (X := KU) ⟨tyOK, boolOK, eqOK⟩ (Ad (by exact ⟨⟨DB, rfl⟩, ⟨⟨Er, rfl⟩, ⟨⟨ER, rfl⟩, ⟨⟨Ch, rfl⟩, trivial⟩⟩⟩⟩)) (Ae (by kernel_rfl)) ⟨Tryz.func246, rfl, by kernel_rfl, rfl⟩ (fun x => by exact Sg x)
noncomputable def Em (a0 : Int) (a1 : Int) (a2 : Int) : Option (Bool) :=
  bif decide (a0 ≥ a1) then
    some (decide (a0 ≤ a2))
  else
  some false
noncomputable def JW : Ent := ⟨QO, fun x => Em x.1 x.2.1 x.2.2⟩
noncomputable def V6 : TX := ⟨tyTab, codTab, [], [4], [], QO⟩
set_option maxHeartbeats 2000000 in
theorem Ac1 (a0 : Int) (a1 : Int) (a2 : Int) : wtF V6 Tryz.f144 (a0, a1, a2) = Em a0 a1 a2 := by kernel_rfl
theorem Ks : EntOK RR JW := Ab (X := V6) ⟨tyOK, boolOK, eqOK⟩ (Ad (by exact trivial)) (Ae (by kernel_rfl)) ⟨Tryz.func144, rfl, by kernel_rfl, rfl⟩ (fun x => by exact Ac1 x.1 x.2.1 x.2.2)
noncomputable def Dy (s0 : (Bool × (List Int))) (s1 : (List Int)) (s2 : Int) (s3 : Int) : Option (((Bool × (List Int)) × ((List Int) × (Int × Int))) ⊕ ((Bool × (List Int)) ⊕ Bool)) :=
  bif decide (s3 < s2) then
    ((getI s1 s3)).bind fun x0 =>
    ((Em x0 (0 : Int) (65535 : Int))).bind fun x1 =>
    bif (!x1) then
      some (Sum.inr (Sum.inr false))
    else
    some (Sum.inl ((s0.1, s0.2), (s1, (s2, (Go.IntKind.wrap Go.IntKind.i64 (s3 + (1 : Int)))))))
  else
  some (Sum.inr (Sum.inl (s0.1, s0.2)))
noncomputable def Ci (a0 : (Bool × (List Int))) : Option (Bool) :=
  (loopM (fun (s : ((Bool × (List Int)) × ((List Int) × (Int × Int)))) => Dy s.1 s.2.1 s.2.2.1 s.2.2.2) ((a0.1, a0.2), (a0.2, ((((List.length a0.2) : Nat) : Int), (0 : Int))))).bind fun x0 =>
  Sum.elim
    (fun x1 =>
    bif ((((List.length x1.2) : Nat) : Int) == (0 : Int)) then
      some (!x1.1)
    else
    bif decide ((((List.length x1.2) : Nat) : Int) ≤ (40 : Int)) then
      ((getI x1.2 (Go.IntKind.wrap Go.IntKind.i64 ((((List.length x1.2) : Nat) : Int) - (1 : Int))))).bind fun x2 =>
      some (x2 != (0 : Int))
    else
    some false)
    (fun x3 =>
    some x3)
    x0
noncomputable def Jd : Ent := ⟨Jq, fun x => Ci x⟩
noncomputable def OV : TX := ⟨tyTab, codTab, [], [4], [JW], Jq⟩
set_option maxHeartbeats 2000000 in
theorem WX (a0 : (Bool × List (Int))) : wtF OV Tryz.f143 (a0) = Ci a0 := by kernel_rfl
theorem ME : EntOK RR Jd := Ab (X := OV) ⟨tyOK, boolOK, eqOK⟩ (Ad (by exact ⟨⟨Ks, rfl⟩, trivial⟩)) (Ae (by kernel_rfl)) ⟨Tryz.func143, rfl, by kernel_rfl, rfl⟩ (fun x => by exact WX x)
noncomputable def BS (s0 : (List Int)) (s1 : (List Int)) (s2 : Int) : Option (((List Int) × ((List Int) × Int)) ⊕ (Unit ⊕ Int)) :=
  bif decide (s2 ≥ (0 : Int)) then
    ((getI s0 s2)).bind fun x0 =>
    ((getI s1 s2)).bind fun x1 =>
    bif decide (x0 < x1) then
      some (Sum.inr (Sum.inr (-(1 : Int))))
    else
    ((getI s0 s2)).bind fun x2 =>
    ((getI s1 s2)).bind fun x3 =>
    bif decide (x2 > x3) then
      some (Sum.inr (Sum.inr (1 : Int)))
    else
    some (Sum.inl (s0, (s1, (Go.IntKind.wrap Go.IntKind.i64 (s2 - (1 : Int))))))
  else
  some (Sum.inr (Sum.inl ()))
noncomputable def Bc (a0 : (List Int)) (a1 : (List Int)) : Option (Int) :=
  bif ((((List.length a0) : Nat) : Int) != (((List.length a1) : Nat) : Int)) then
    bif decide ((((List.length a0) : Nat) : Int) < (((List.length a1) : Nat) : Int)) then
      some (-(1 : Int))
    else
    some (1 : Int)
  else
  (loopM (fun (s : ((List Int) × ((List Int) × Int))) => BS s.1 s.2.1 s.2.2) (a0, (a1, (Go.IntKind.wrap Go.IntKind.i64 ((((List.length a0) : Nat) : Int) - (1 : Int)))))).bind fun x0 =>
  Sum.elim
    (fun x1 =>
    some (0 : Int))
    (fun x2 =>
    some x2)
    x0
noncomputable def HD : Ent := ⟨Nc, fun x => Bc x.1 x.2⟩
noncomputable def Tc : TX := ⟨tyTab, codTab, [], [4], [], Nc⟩
set_option maxHeartbeats 2000000 in
theorem ZP (a0 : List (Int)) (a1 : List (Int)) : wtF Tc Tryz.f225 (a0, a1) = Bc a0 a1 := by kernel_rfl
theorem H5 : EntOK RR HD := Ab (X := Tc) ⟨tyOK, boolOK, eqOK⟩ (Ad (by exact trivial)) (Ae (by kernel_rfl)) ⟨Tryz.func225, rfl, by kernel_rfl, rfl⟩ (fun x => by exact ZP x.1 x.2)
noncomputable def Dq (s0 : (List Int)) (s1 : (List Int)) (s2 : Int) (s3 : Int) (s4 : Int) : Option (((List Int) × ((List Int) × (Int × (Int × Int)))) ⊕ ((List Int) × Int)) :=
  bif decide (s4 ≥ (0 : Int)) then
    ((getI s1 s4)).bind fun x0 =>
    bif (s2 == (0 : Int)) then
      none
    else
    ((idxI s4 (List.length s0))).bind fun x1 =>
    ((getN s0 x1)).bind fun x2 =>
    bif (s2 == (0 : Int)) then
      none
    else
    some (Sum.inl ((List.set s0 x1 (Go.IntKind.wrap Go.IntKind.i64 (Int.tdiv (Go.IntKind.wrap Go.IntKind.i64 ((Go.IntKind.wrap Go.IntKind.i64 (s3 * (65536 : Int))) + x0)) s2))), (s1, (s2, ((Int.tmod (Go.IntKind.wrap Go.IntKind.i64 ((Go.IntKind.wrap Go.IntKind.i64 (s3 * (65536 : Int))) + x0)) s2), (Go.IntKind.wrap Go.IntKind.i64 (s4 - (1 : Int))))))))
  else
  some (Sum.inr (s0, s3))
noncomputable def Fj (a0 : (List Int)) (a1 : Int) : Option (List (Int) × List (Int)) :=
  ((lenI (((List.length a0) : Nat) : Int) 8 1)).bind fun x0 =>
  (loopM (fun (s : ((List Int) × ((List Int) × (Int × (Int × Int))))) => Dq s.1 s.2.1 s.2.2.1 s.2.2.2.1 s.2.2.2.2) ((List.replicate x0 (0 : Int)), (a0, (a1, ((0 : Int), (Go.IntKind.wrap Go.IntKind.i64 ((((List.length a0) : Nat) : Int) - (1 : Int)))))))).bind fun x1 =>
  ((Bi x1.1)).bind fun x2 =>
  ((Bi (List.cons x1.2 (List.nil : List Int)))).bind fun x3 =>
  some (x2, x3)
noncomputable def Oe : Ent := ⟨I8, fun x => Fj x.1 x.2⟩
noncomputable def OP : TX := ⟨tyTab, codTab, [], [4], [DR], I8⟩
set_option maxHeartbeats 2000000 in
theorem Vk (a0 : List (Int)) (a1 : Int) : wtF OP Tryz.f297 (a0, a1) = Fj a0 a1 := by kernel_rfl
theorem Ue : EntOK RR Oe := Ab (X := OP) ⟨tyOK, boolOK, eqOK⟩ (Ad (by exact ⟨⟨DJ, rfl⟩, trivial⟩)) (Ae (by kernel_rfl)) ⟨Tryz.func297, rfl, by kernel_rfl, rfl⟩ (fun x => by exact Vk x.1 x.2)
noncomputable def H8 (s0 : (List Int)) (s1 : Int) (s2 : (List Int)) (s3 : Int) (s4 : Int) : Option (((List Int) × (Int × ((List Int) × (Int × Int)))) ⊕ (List Int)) :=
  bif decide (s4 < s3) then
    ((getI s2 s4)).bind fun x0 =>
    bif decide ((Go.IntKind.wrap Go.IntKind.u64 s1) < (0 : Int)) then
      none
    else
    ((idxI s4 (List.length s0))).bind fun x1 =>
    ((getN s0 x1)).bind fun x2 =>
    ((idxI s4 (List.length s0))).bind fun x3 =>
    ((getN s0 x3)).bind fun x4 =>
    ((idxI (Go.IntKind.wrap Go.IntKind.i64 (s4 + (1 : Int))) (List.length (List.set s0 x3 (orI Go.IntKind.i64 x2 (Int.tmod (shlI Go.IntKind.i64 x0 (Go.IntKind.wrap Go.IntKind.u64 s1)) (65536 : Int))))))).bind fun x5 =>
    ((getN (List.set s0 x3 (orI Go.IntKind.i64 x2 (Int.tmod (shlI Go.IntKind.i64 x0 (Go.IntKind.wrap Go.IntKind.u64 s1)) (65536 : Int)))) x5)).bind fun x6 =>
    some (Sum.inl ((List.set (List.set s0 x3 (orI Go.IntKind.i64 x2 (Int.tmod (shlI Go.IntKind.i64 x0 (Go.IntKind.wrap Go.IntKind.u64 s1)) (65536 : Int)))) x5 (Go.IntKind.wrap Go.IntKind.i64 (Int.tdiv (shlI Go.IntKind.i64 x0 (Go.IntKind.wrap Go.IntKind.u64 s1)) (65536 : Int)))), (s1, (s2, (s3, (Go.IntKind.wrap Go.IntKind.i64 (s4 + (1 : Int))))))))
  else
  some (Sum.inr s0)
noncomputable def Hk (a0 : (List Int)) (a1 : Int) : Option (List (Int)) :=
  ((lenI (Go.IntKind.wrap Go.IntKind.i64 ((((List.length a0) : Nat) : Int) + (1 : Int))) 8 1)).bind fun x0 =>
  (loopM (fun (s : ((List Int) × (Int × ((List Int) × (Int × Int))))) => H8 s.1 s.2.1 s.2.2.1 s.2.2.2.1 s.2.2.2.2) ((List.replicate x0 (0 : Int)), (a1, (a0, ((((List.length a0) : Nat) : Int), (0 : Int)))))).bind fun x1 =>
  some x1
noncomputable def VX : Ent := ⟨PN, fun x => Hk x.1 x.2⟩
noncomputable def WB : TX := ⟨tyTab, codTab, [], [4], [], PN⟩
set_option maxHeartbeats 2000000 in
theorem Ac2 (a0 : List (Int)) (a1 : Int) : wtF WB Tryz.f298 (a0, a1) = Hk a0 a1 := by kernel_rfl
theorem ZH : EntOK RR VX := Ab (X := WB) ⟨tyOK, boolOK, eqOK⟩ (Ad (by exact trivial)) (Ae (by kernel_rfl)) ⟨Tryz.func298, rfl, by kernel_rfl, rfl⟩ (fun x => by exact Ac2 x.1 x.2)
noncomputable def CC (s0 : (List Int)) (s1 : (List Int)) (s2 : Int) (s3 : Int) (s4 : Int) (s5 : Int) : Option (((List Int) × ((List Int) × (Int × (Int × (Int × Int))))) ⊕ Int) :=
  (bif decide (s5 < (65536 : Int)) then
      bif decide (s4 ≥ (65536 : Int)) then
        some (Sum.inr (s0, (s1, (s2, (s3, (s4, s5))))))
      else
      ((getI s1 (Go.IntKind.wrap Go.IntKind.i64 (s3 - (2 : Int))))).bind fun x0 =>
      ((getI s0 (Go.IntKind.wrap Go.IntKind.i64 ((Go.IntKind.wrap Go.IntKind.i64 (s2 + s3)) - (2 : Int))))).bind fun x1 =>
      bif decide ((Go.IntKind.wrap Go.IntKind.i64 (s4 * x0)) > (Go.IntKind.wrap Go.IntKind.i64 ((Go.IntKind.wrap Go.IntKind.i64 (s5 * (65536 : Int))) + x1))) then
        some (Sum.inr (s0, (s1, (s2, (s3, (s4, s5))))))
      else
      some (Sum.inl (Sum.inr s4))
    else
    some (Sum.inl (Sum.inr s4))).bind fun x2 =>
  Sum.elim
    (fun x3 =>
    some x3)
    (fun x4 =>
    ((getI x4.2.1 (Go.IntKind.wrap Go.IntKind.i64 (x4.2.2.2.1 - (1 : Int))))).bind fun x5 =>
    some (Sum.inl (x4.1, (x4.2.1, (x4.2.2.1, (x4.2.2.2.1, ((Go.IntKind.wrap Go.IntKind.i64 (x4.2.2.2.2.1 - (1 : Int))), (Go.IntKind.wrap Go.IntKind.i64 (x4.2.2.2.2.2 + x5)))))))))
    x2
noncomputable def Fq (a0 : (List Int)) (a1 : (List Int)) (a2 : Int) : Option (Int) :=
  ((getI a0 (Go.IntKind.wrap Go.IntKind.i64 (a2 + (((List.length a1) : Nat) : Int))))).bind fun x0 =>
  ((getI a0 (Go.IntKind.wrap Go.IntKind.i64 ((Go.IntKind.wrap Go.IntKind.i64 (a2 + (((List.length a1) : Nat) : Int))) - (1 : Int))))).bind fun x1 =>
  ((getI a1 (Go.IntKind.wrap Go.IntKind.i64 ((((List.length a1) : Nat) : Int) - (1 : Int))))).bind fun x2 =>
  bif (x2 == (0 : Int)) then
    none
  else
  ((getI a1 (Go.IntKind.wrap Go.IntKind.i64 ((((List.length a1) : Nat) : Int) - (1 : Int))))).bind fun x3 =>
  bif (x3 == (0 : Int)) then
    none
  else
  (loopM (fun (s : ((List Int) × ((List Int) × (Int × (Int × (Int × Int)))))) => CC s.1 s.2.1 s.2.2.1 s.2.2.2.1 s.2.2.2.2.1 s.2.2.2.2.2) (a0, (a1, (a2, ((((List.length a1) : Nat) : Int), ((Go.IntKind.wrap Go.IntKind.i64 (Int.tdiv (Go.IntKind.wrap Go.IntKind.i64 ((Go.IntKind.wrap Go.IntKind.i64 (x0 * (65536 : Int))) + x1)) x2)), (Int.tmod (Go.IntKind.wrap Go.IntKind.i64 ((Go.IntKind.wrap Go.IntKind.i64 (x0 * (65536 : Int))) + x1)) x3))))))).bind fun x4 =>
  some x4
noncomputable def Oq : Ent := ⟨JM, fun x => Fq x.1 x.2.1 x.2.2⟩
noncomputable def OH : TX := ⟨tyTab, codTab, [], [4], [], JM⟩
set_option maxHeartbeats 2000000 in
theorem VF (a0 : List (Int)) (a1 : List (Int)) (a2 : Int) : wtF OH Tryz.f299 (a0, a1, a2) = Fq a0 a1 a2 := by kernel_rfl
theorem U8 : EntOK RR Oq := Ab (X := OH) ⟨tyOK, boolOK, eqOK⟩ (Ad (by exact trivial)) (Ae (by kernel_rfl)) ⟨Tryz.func299, rfl, by kernel_rfl, rfl⟩ (fun x => by exact VF x.1 x.2.1 x.2.2)
noncomputable def BM (a0 : (List Int)) (a1 : Int) : Option (Int) :=
  bif decide (a1 < (((List.length a0) : Nat) : Int)) then
    ((getI a0 a1)).bind fun x0 =>
    some x0
  else
  some (0 : Int)
noncomputable def DN : Ent := ⟨Ll, fun x => BM x.1 x.2⟩
noncomputable def Rf : TX := ⟨tyTab, codTab, [], [4], [], Ll⟩
set_option maxHeartbeats 2000000 in
theorem X9 (a0 : List (Int)) (a1 : Int) : wtF Rf Tryz.f282 (a0, a1) = BM a0 a1 := by kernel_rfl
theorem DY : EntOK RR DN := Ab (X := Rf) ⟨tyOK, boolOK, eqOK⟩ (Ad (by exact trivial)) (Ae (by kernel_rfl)) ⟨Tryz.func282, rfl, by kernel_rfl, rfl⟩ (fun x => by exact X9 x.1 x.2)
noncomputable def FH (s0 : (List Int)) (s1 : (List Int)) (s2 : Int) (s3 : Int) (s4 : Int) (s5 : Int) : Option (((List Int) × ((List Int) × (Int × (Int × (Int × Int))))) ⊕ ((List Int) × Int)) :=
  bif decide (s5 ≤ (((List.length s1) : Nat) : Int)) then
    ((idxI (Go.IntKind.wrap Go.IntKind.i64 (s2 + s5)) (List.length s0))).bind fun x0 =>
    ((getN s0 x0)).bind fun x1 =>
    ((BM s1 s5)).bind fun x2 =>
    (bif decide ((Go.IntKind.wrap Go.IntKind.i64 ((Go.IntKind.wrap Go.IntKind.i64 (x1 - (Go.IntKind.wrap Go.IntKind.i64 (s3 * x2)))) - s4)) < (0 : Int)) then
        some (Sum.inr (s0, (s1, (s2, (s3, ((Go.IntKind.wrap Go.IntKind.i64 (Int.tdiv (Go.IntKind.wrap Go.IntKind.i64 ((Go.IntKind.wrap Go.IntKind.i64 ((Go.IntKind.wrap Go.IntKind.i64 ((0 : Int) - (Go.IntKind.wrap Go.IntKind.i64 ((Go.IntKind.wrap Go.IntKind.i64 (x1 - (Go.IntKind.wrap Go.IntKind.i64 (s3 * x2)))) - s4)))) + (65536 : Int))) - (1 : Int))) (65536 : Int))), (s5, (Go.IntKind.wrap Go.IntKind.i64 ((Go.IntKind.wrap Go.IntKind.i64 ((Go.IntKind.wrap Go.IntKind.i64 (x1 - (Go.IntKind.wrap Go.IntKind.i64 (s3 * x2)))) - s4)) + (Go.IntKind.wrap Go.IntKind.i64 ((Go.IntKind.wrap Go.IntKind.i64 (Int.tdiv (Go.IntKind.wrap Go.IntKind.i64 ((Go.IntKind.wrap Go.IntKind.i64 ((Go.IntKind.wrap Go.IntKind.i64 ((0 : Int) - (Go.IntKind.wrap Go.IntKind.i64 ((Go.IntKind.wrap Go.IntKind.i64 (x1 - (Go.IntKind.wrap Go.IntKind.i64 (s3 * x2)))) - s4)))) + (65536 : Int))) - (1 : Int))) (65536 : Int))) * (65536 : Int))))))))))))
      else
      some (Sum.inr (s0, (s1, (s2, (s3, ((0 : Int), (s5, (Go.IntKind.wrap Go.IntKind.i64 ((Go.IntKind.wrap Go.IntKind.i64 (x1 - (Go.IntKind.wrap Go.IntKind.i64 (s3 * x2)))) - s4)))))))))).bind fun x3 =>
    Sum.elim
      (fun x4 =>
      some x4)
      (fun x5 =>
      ((idxI (Go.IntKind.wrap Go.IntKind.i64 (x5.2.2.1 + x5.2.2.2.2.2.1)) (List.length x5.1))).bind fun x6 =>
      ((getN x5.1 x6)).bind fun x7 =>
      some (Sum.inl ((List.set x5.1 x6 x5.2.2.2.2.2.2), (x5.2.1, (x5.2.2.1, (x5.2.2.2.1, (x5.2.2.2.2.1, (Go.IntKind.wrap Go.IntKind.i64 (x5.2.2.2.2.2.1 + (1 : Int))))))))))
      x3
  else
  some (Sum.inr (s0, s4))
noncomputable def Gt (a0 : (List Int)) (a1 : (List Int)) (a2 : Int) (a3 : Int) : Option (List (Int) × Int) :=
  (loopM (fun (s : ((List Int) × ((List Int) × (Int × (Int × (Int × Int)))))) => FH s.1 s.2.1 s.2.2.1 s.2.2.2.1 s.2.2.2.2.1 s.2.2.2.2.2) (a0, (a1, (a2, (a3, ((0 : Int), (0 : Int))))))).bind fun x0 =>
  some (x0.1, x0.2)
noncomputable def P6 : Ent := ⟨Lf, fun x => Gt x.1 x.2.1 x.2.2.1 x.2.2.2⟩
noncomputable def Qx : TX := ⟨tyTab, codTab, [], [4], [DN], Lf⟩
set_option maxHeartbeats 2000000 in
theorem Xd (a0 : List (Int)) (a1 : List (Int)) (a2 : Int) (a3 : Int) : wtF Qx Tryz.f300 (a0, a1, a2, a3) = Gt a0 a1 a2 a3 := by kernel_rfl
theorem Vd : EntOK RR P6 := Ab (X := Qx) ⟨tyOK, boolOK, eqOK⟩ (Ad (by exact ⟨⟨DY, rfl⟩, trivial⟩)) (Ae (by kernel_rfl)) ⟨Tryz.func300, rfl, by kernel_rfl, rfl⟩ (fun x => by exact Xd x.1 x.2.1 x.2.2.1 x.2.2.2)
noncomputable def FG (s0 : (List Int)) (s1 : (List Int)) (s2 : Int) (s3 : Int) (s4 : Int) : Option (((List Int) × ((List Int) × (Int × (Int × Int)))) ⊕ (List Int)) :=
  bif decide (s4 ≤ (((List.length s1) : Nat) : Int)) then
    ((idxI (Go.IntKind.wrap Go.IntKind.i64 (s2 + s4)) (List.length s0))).bind fun x0 =>
    ((getN s0 x0)).bind fun x1 =>
    ((BM s1 s4)).bind fun x2 =>
    ((idxI (Go.IntKind.wrap Go.IntKind.i64 (s2 + s4)) (List.length s0))).bind fun x3 =>
    ((getN s0 x3)).bind fun x4 =>
    some (Sum.inl ((List.set s0 x3 (Int.tmod (Go.IntKind.wrap Go.IntKind.i64 ((Go.IntKind.wrap Go.IntKind.i64 (x1 + x2)) + s3)) (65536 : Int))), (s1, (s2, ((Go.IntKind.wrap Go.IntKind.i64 (Int.tdiv (Go.IntKind.wrap Go.IntKind.i64 ((Go.IntKind.wrap Go.IntKind.i64 (x1 + x2)) + s3)) (65536 : Int))), (Go.IntKind.wrap Go.IntKind.i64 (s4 + (1 : Int))))))))
  else
  some (Sum.inr s0)
noncomputable def Ge (a0 : (List Int)) (a1 : (List Int)) (a2 : Int) : Option (List (Int)) :=
  (loopM (fun (s : ((List Int) × ((List Int) × (Int × (Int × Int))))) => FG s.1 s.2.1 s.2.2.1 s.2.2.2.1 s.2.2.2.2) (a0, (a1, (a2, ((0 : Int), (0 : Int)))))).bind fun x0 =>
  some x0
noncomputable def Qj : Ent := ⟨KY, fun x => Ge x.1 x.2.1 x.2.2⟩
noncomputable def QD : TX := ⟨tyTab, codTab, [], [4], [DN], KY⟩
set_option maxHeartbeats 2000000 in
theorem X6 (a0 : List (Int)) (a1 : List (Int)) (a2 : Int) : wtF QD Tryz.f301 (a0, a1, a2) = Ge a0 a1 a2 := by kernel_rfl
theorem VI : EntOK RR Qj := Ab (X := QD) ⟨tyOK, boolOK, eqOK⟩ (Ad (by exact ⟨⟨DY, rfl⟩, trivial⟩)) (Ae (by kernel_rfl)) ⟨Tryz.func301, rfl, by kernel_rfl, rfl⟩ (fun x => by exact X6 x.1 x.2.1 x.2.2)
noncomputable def FI (s0 : (List Int)) (s1 : (List Int)) (s2 : Int) (s3 : Int) (s4 : Int) : Option (((List Int) × ((List Int) × (Int × (Int × Int)))) ⊕ (List Int)) :=
  bif decide (s4 < s3) then
    ((getI s1 s4)).bind fun x0 =>
    ((BM s1 (Go.IntKind.wrap Go.IntKind.i64 (s4 + (1 : Int))))).bind fun x1 =>
    bif decide ((Go.IntKind.wrap Go.IntKind.u64 s2) < (0 : Int)) then
      none
    else
    ((idxI s4 (List.length s0))).bind fun x2 =>
    ((getN s0 x2)).bind fun x3 =>
    some (Sum.inl ((List.set s0 x2 (Int.tmod (shrI Go.IntKind.i64 (orI Go.IntKind.i64 x0 (shlI Go.IntKind.i64 x1 (16 : Int))) (Go.IntKind.wrap Go.IntKind.u64 s2)) (65536 : Int))), (s1, (s2, (s3, (Go.IntKind.wrap Go.IntKind.i64 (s4 + (1 : Int))))))))
  else
  some (Sum.inr s0)
noncomputable def FY (a0 : (List Int)) (a1 : Int) : Option (List (Int)) :=
  ((lenI (((List.length a0) : Nat) : Int) 8 1)).bind fun x0 =>
  (loopM (fun (s : ((List Int) × ((List Int) × (Int × (Int × Int))))) => FI s.1 s.2.1 s.2.2.1 s.2.2.2.1 s.2.2.2.2) ((List.replicate x0 (0 : Int)), (a0, (a1, ((((List.length a0) : Nat) : Int), (0 : Int)))))).bind fun x1 =>
  ((Bi x1)).bind fun x2 =>
  some x2
noncomputable def Rj : Ent := ⟨Lu, fun x => FY x.1 x.2⟩
noncomputable def RI : TX := ⟨tyTab, codTab, [], [4], [DN, DR], Lu⟩
set_option maxHeartbeats 2000000 in
theorem XV (a0 : List (Int)) (a1 : Int) : wtF RI Tryz.f302 (a0, a1) = FY a0 a1 := by kernel_rfl
theorem WJ : EntOK RR Rj := Ab (X := RI) ⟨tyOK, boolOK, eqOK⟩ (Ad (by exact ⟨⟨DY, rfl⟩, ⟨⟨DJ, rfl⟩, trivial⟩⟩)) (Ae (by kernel_rfl)) ⟨Tryz.func302, rfl, by kernel_rfl, rfl⟩ (fun x => by exact XV x.1 x.2)
noncomputable def B0 (s0 : (List Int)) (s1 : (List Int)) (s2 : Int) : Option (((List Int) × ((List Int) × Int)) ⊕ ((List Int) × ((List Int) × Int))) :=
  ((getI s1 (Go.IntKind.wrap Go.IntKind.i64 ((((List.length s1) : Nat) : Int) - (1 : Int))))).bind fun x0 =>
  bif decide ((Go.IntKind.wrap Go.IntKind.u64 s2) < (0 : Int)) then
    none
  else
  bif decide ((shlI Go.IntKind.i64 x0 (Go.IntKind.wrap Go.IntKind.u64 s2)) < (32768 : Int)) then
    some (Sum.inl (s0, (s1, (Go.IntKind.wrap Go.IntKind.i64 (s2 + (1 : Int))))))
  else
  some (Sum.inr (s0, (s1, s2)))
noncomputable def Bd (s0 : (List Int)) (s1 : (List Int)) (s2 : (List Int)) (s3 : Int) (s4 : Int) : Option (((List Int) × ((List Int) × ((List Int) × (Int × Int)))) ⊕ ((List Int) × ((List Int) × Int))) :=
  bif decide (s4 ≥ (0 : Int)) then
    ((Fq s0 s1 s4)).bind fun x0 =>
    ((Gt s0 s1 s4 x0)).bind fun x1 =>
    bif decide ((List.length x1.1) = (List.length s0)) then
      bif decide (x1.2 > (0 : Int)) then
        ((Ge x1.1 s1 s4)).bind fun x2 =>
        bif decide ((List.length x2) = (List.length x1.1)) then
          ((idxI s4 (List.length s2))).bind fun x3 =>
          ((getN s2 x3)).bind fun x4 =>
          some (Sum.inl (x2, (s1, ((List.set s2 x3 (Go.IntKind.wrap Go.IntKind.i64 (x0 - (1 : Int)))), (s3, (Go.IntKind.wrap Go.IntKind.i64 (s4 - (1 : Int))))))))
        else
        none
      else
      ((idxI s4 (List.length s2))).bind fun x5 =>
      ((getN s2 x5)).bind fun x6 =>
      some (Sum.inl (x1.1, (s1, ((List.set s2 x5 x0), (s3, (Go.IntKind.wrap Go.IntKind.i64 (s4 - (1 : Int))))))))
    else
    none
  else
  some (Sum.inr (s0, (s2, s3)))
noncomputable def B2 (a0 : (List Int)) (a1 : (List Int)) : Option (List (Int) × List (Int)) :=
  ((Bi a0)).bind fun x0 =>
  ((Bc x0 a1)).bind fun x1 =>
  bif decide (x1 < (0 : Int)) then
    some ((List.nil : List Int), x0)
  else
  bif ((((List.length a1) : Nat) : Int) == (1 : Int)) then
    ((getI a1 (0 : Int))).bind fun x2 =>
    ((Fj x0 x2)).bind fun x3 =>
    some (x3.1, x3.2)
  else
  (loopM (fun (s : ((List Int) × ((List Int) × Int))) => B0 s.1 s.2.1 s.2.2) (x0, (a1, (0 : Int)))).bind fun x4 =>
  ((Hk x4.1 x4.2.2)).bind fun x5 =>
  ((Hk x4.2.1 x4.2.2)).bind fun x6 =>
  ((Bi x6)).bind fun x7 =>
  ((lenI (Go.IntKind.wrap Go.IntKind.i64 ((Go.IntKind.wrap Go.IntKind.i64 ((((List.length x4.1) : Nat) : Int) - (((List.length x4.2.1) : Nat) : Int))) + (1 : Int))) 8 1)).bind fun x8 =>
  (loopM (fun (s : ((List Int) × ((List Int) × ((List Int) × (Int × Int))))) => Bd s.1 s.2.1 s.2.2.1 s.2.2.2.1 s.2.2.2.2) (x5, (x7, ((List.replicate x8 (0 : Int)), (x4.2.2, (Go.IntKind.wrap Go.IntKind.i64 ((((List.length x4.1) : Nat) : Int) - (((List.length x4.2.1) : Nat) : Int)))))))).bind fun x9 =>
  ((Bi x9.2.1)).bind fun x10 =>
  ((Bi x9.1)).bind fun x11 =>
  ((FY x11 x9.2.2)).bind fun x12 =>
  some (x10, x12)
noncomputable def Gf : Ent := ⟨Gn, fun x => B2 x.1 x.2⟩
noncomputable def Jh : TX := ⟨tyTab, codTab, [], [4], [DR, HD, Oe, VX, Oq, P6, Qj, Rj], Gn⟩
set_option maxHeartbeats 2000000 in
theorem PK (a0 : List (Int)) (a1 : List (Int)) : wtF Jh Tryz.f279 (a0, a1) = B2 a0 a1 := by kernel_rfl
theorem IJ : EntOK RR Gf := Ab (X := Jh) ⟨tyOK, boolOK, eqOK⟩ (Ad (by exact ⟨⟨DJ, rfl⟩, ⟨⟨H5, rfl⟩, ⟨⟨Ue, rfl⟩, ⟨⟨ZH, rfl⟩, ⟨⟨U8, rfl⟩, ⟨⟨Vd, rfl⟩, ⟨⟨VI, rfl⟩, ⟨⟨WJ, rfl⟩, trivial⟩⟩⟩⟩⟩⟩⟩⟩)) (Ae (by kernel_rfl)) ⟨Tryz.func279, rfl, by kernel_rfl, rfl⟩ (fun x => by exact PK x.1 x.2)
noncomputable def GJ (s0 : (List Int)) (s1 : (List Int)) : Option (((List Int) × (List Int)) ⊕ (List Int)) :=
  bif decide ((((List.length s1) : Nat) : Int) > (0 : Int)) then
    ((B2 s0 s1)).bind fun x0 =>
    some (Sum.inl (s1, x0.2))
  else
  some (Sum.inr s0)
noncomputable def FP (a0 : (List Int)) (a1 : (List Int)) : Option (List (Int)) :=
  (loopM (fun (s : ((List Int) × (List Int))) => GJ s.1 s.2) (a0, a1)).bind fun x0 =>
  ((Bi x0)).bind fun x1 =>
  some x1
noncomputable def Nv : Ent := ⟨NL, fun x => FP x.1 x.2⟩
noncomputable def SD : TX := ⟨tyTab, codTab, [], [4], [Gf, DR], NL⟩
set_option maxHeartbeats 2000000 in
theorem ZI (a0 : List (Int)) (a1 : List (Int)) : wtF SD Tryz.f226 (a0, a1) = FP a0 a1 := by kernel_rfl
theorem QG : EntOK RR Nv := Ab (X := SD) ⟨tyOK, boolOK, eqOK⟩ (Ad (by exact ⟨⟨IJ, rfl⟩, ⟨⟨DJ, rfl⟩, trivial⟩⟩)) (Ae (by kernel_rfl)) ⟨Tryz.func226, rfl, by kernel_rfl, rfl⟩ (fun x => by exact ZI x.1 x.2)
noncomputable def EJ (a0 : (Bool × (List Int))) (a1 : (Bool × (List Int))) : Option ((Bool × List (Int)) × (Bool × List (Int))) :=
  ((B2 a0.2 a1.2)).bind fun x0 =>
  ((AH (!(a0.1 == a1.1)) x0.1)).bind fun x1 =>
  ((AH a0.1 x0.2)).bind fun x2 =>
  some ((x1.2, x1.1), (x2.2, x2.1))
noncomputable def Ng : Ent := ⟨NY, fun x => EJ x.1 x.2⟩
noncomputable def SJ : TX := ⟨tyTab, codTab, [], [4], [Gf, Cq], NY⟩
set_option maxHeartbeats 2000000 in
theorem Zr (a0 : (Bool × List (Int))) (a1 : (Bool × List (Int))) : wtF SJ Tryz.f227 (a0, a1) = EJ a0 a1 := by kernel_rfl
theorem Rh : EntOK RR Ng := Ab (X := SJ) ⟨tyOK, boolOK, eqOK⟩ (Ad (by exact ⟨⟨IJ, rfl⟩, ⟨⟨Ch, rfl⟩, trivial⟩⟩)) (Ae (by kernel_rfl)) ⟨Tryz.func227, rfl, by kernel_rfl, rfl⟩ (fun x => by exact Zr x.1 x.2)
noncomputable def Dc (a0 : (Bool × (List Int))) : Option ((Bool × List (Int))) :=
  ((AH (!a0.1) a0.2)).bind fun x0 =>
  some (x0.2, x0.1)
noncomputable def Hc : Ent := ⟨Nk, fun x => Dc x⟩
noncomputable def Te : TX := ⟨tyTab, codTab, [], [4], [Cq], Nk⟩
set_option maxHeartbeats 2000000 in
theorem Z4 (a0 : (Bool × List (Int))) : wtF Te Tryz.f162 (a0) = Dc a0 := by kernel_rfl
theorem Ie : EntOK RR Hc := Ab (X := Te) ⟨tyOK, boolOK, eqOK⟩ (Ad (by exact ⟨⟨Ch, rfl⟩, trivial⟩)) (Ae (by kernel_rfl)) ⟨Tryz.func162, rfl, by kernel_rfl, rfl⟩ (fun x => by exact Z4 x)
noncomputable def Bh (a0 : (Bool × (List Int))) (a1 : (Bool × (List Int))) : Option ((Bool × List (Int) × Bool × List (Int))) :=
  ((FP a0.2 a1.2)).bind fun x0 =>
  ((AH false x0)).bind fun x1 =>
  ((EJ (a0.1, a0.2) (x1.2, x1.1))).bind fun x2 =>
  ((EJ (a1.1, a1.2) (x1.2, x1.1))).bind fun x3 =>
  bif x3.1.1 then
    ((Dc (x2.1.1, x2.1.2))).bind fun x4 =>
    ((Dc (x3.1.1, x3.1.2))).bind fun x5 =>
    some (x4.1, (x4.2, (x5.1, x5.2)))
  else
  some (x2.1.1, (x2.1.2, (x3.1.1, x3.1.2)))
noncomputable def DH : Ent := ⟨K7, fun x => Bh x.1 x.2⟩
noncomputable def P1 : TX := ⟨tyTab, codTab, [], [4], [Nv, Cq, Ng, Hc], K7⟩
set_option maxHeartbeats 2000000 in
theorem X1 (a0 : (Bool × List (Int))) (a1 : (Bool × List (Int))) : wtF P1 Tryz.f164 (a0, a1) = Bh a0 a1 := by kernel_rfl
theorem DO : EntOK RR DH := Ab (X := P1) ⟨tyOK, boolOK, eqOK⟩ (Ad (by exact ⟨⟨QG, rfl⟩, ⟨⟨Ch, rfl⟩, ⟨⟨Rh, rfl⟩, ⟨⟨Ie, rfl⟩, trivial⟩⟩⟩⟩)) (Ae (by kernel_rfl)) ⟨Tryz.func164, rfl, by kernel_rfl, rfl⟩ (fun x => by exact X1 x.1 x.2)
noncomputable def GN (s0 : (Bool × (List Int))) (s1 : (List Int)) (s2 : Int) (s3 : Int) : Option (((Bool × (List Int)) × ((List Int) × (Int × Int))) ⊕ ((Bool × (List Int)) × ((List Int) × Int))) :=
  bif (s3 != (0 : Int)) then
    bif decide ((Int.tmod s3 (65536 : Int)) < (0 : Int)) then
      ((appL 8 1 s1 (List.cons (Go.IntKind.wrap Go.IntKind.i64 ((0 : Int) - (Int.tmod s3 (65536 : Int)))) (List.nil : List Int)))).bind fun x0 =>
      some (Sum.inl ((s0.1, s0.2), (x0, (s2, (Go.IntKind.wrap Go.IntKind.i64 (Int.tdiv s3 (65536 : Int)))))))
    else
    ((appL 8 1 s1 (List.cons (Int.tmod s3 (65536 : Int)) (List.nil : List Int)))).bind fun x1 =>
    some (Sum.inl ((s0.1, s0.2), (x1, (s2, (Go.IntKind.wrap Go.IntKind.i64 (Int.tdiv s3 (65536 : Int)))))))
  else
  some (Sum.inr ((s0.1, s0.2), (s1, s2)))
noncomputable def BF (a0 : Int) : Option ((Bool × List (Int))) :=
  (loopM (fun (s : ((Bool × (List Int)) × ((List Int) × (Int × Int)))) => GN s.1 s.2.1 s.2.2.1 s.2.2.2) ((false, (List.nil : List Int)), ((List.nil : List Int), (a0, a0)))).bind fun x0 =>
  ((AH (decide (x0.2.2 < (0 : Int))) x0.2.1)).bind fun x1 =>
  some (x1.2, x1.1)
noncomputable def FR : Ent := ⟨NZ, fun x => BF x⟩
noncomputable def Ts : TX := ⟨tyTab, codTab, [], [4], [Cq], NZ⟩
set_option maxHeartbeats 2000000 in
theorem Zu (a0 : Int) : wtF Ts Tryz.f116 (a0) = BF a0 := by kernel_rfl
theorem Gw : EntOK RR FR := Ab (X := Ts) ⟨tyOK, boolOK, eqOK⟩ (Ad (by exact ⟨⟨Ch, rfl⟩, trivial⟩)) (Ae (by kernel_rfl)) ⟨Tryz.func116, rfl, by kernel_rfl, rfl⟩ (fun x => by exact Zu x)
noncomputable def HF (a0 : Int) (a1 : Int) : Option ((Bool × List (Int) × Bool × List (Int)) × Bool) :=
  ((Em a0 (-(4611686018427387904 : Int)) (4611686018427387904 : Int))).bind fun x0 =>
  bif (!x0) then
    some ((false, ((List.nil : List Int), (false, (List.nil : List Int)))), false)
  else
  ((Em a1 (-(4611686018427387904 : Int)) (4611686018427387904 : Int))).bind fun x1 =>
  bif (!x1) then
    some ((false, ((List.nil : List Int), (false, (List.nil : List Int)))), false)
  else
  bif (a1 == (0 : Int)) then
    some ((false, ((List.nil : List Int), (false, (List.nil : List Int)))), false)
  else
  ((BF a0)).bind fun x2 =>
  ((BF a1)).bind fun x3 =>
  ((Bh (x2.1, x2.2) (x3.1, x3.2))).bind fun x4 =>
  some ((x4.1, (x4.2.1, (x4.2.2.1, x4.2.2.2))), true)
noncomputable def TH : Ent := ⟨M5, fun x => HF x.1 x.2⟩
noncomputable def TP : TX := ⟨tyTab, codTab, [], [4], [JW, FR, DH], M5⟩
set_option maxHeartbeats 2000000 in
theorem Zm (a0 : Int) (a1 : Int) : wtF TP Tryz.f247 (a0, a1) = HF a0 a1 := by kernel_rfl
theorem W8 : EntOK RR TH := Ab (X := TP) ⟨tyOK, boolOK, eqOK⟩ (Ad (by exact ⟨⟨Ks, rfl⟩, ⟨⟨Gw, rfl⟩, ⟨⟨DO, rfl⟩, trivial⟩⟩⟩)) (Ae (by kernel_rfl)) ⟨Tryz.func247, rfl, by kernel_rfl, rfl⟩ (fun x => by exact Zm x.1 x.2)
noncomputable def Bn (a0 : ((List Int) × (Int × Int))) : Option ((List (Int) × Int × Int) × (Bool × List (Int) × Bool × List (Int))) :=
  ((AQ (a0.1, (a0.2.1, a0.2.2)) (12 : Int))).bind fun x0 =>
  bif x0.2 then
    ((Cy (x0.1.1, (x0.1.2.1, x0.1.2.2)))).bind fun x1 =>
    ((Cy (x1.1.1, (x1.1.2.1, x1.1.2.2)))).bind fun x2 =>
    ((Ci (x1.2.1, x1.2.2))).bind fun x3 =>
    bif x3 then
      ((Ci (x2.2.1, x2.2.2))).bind fun x4 =>
      bif x4 then
        bif decide ((((List.length x2.2.2) : Nat) : Int) > (0 : Int)) then
          ((Bh (x1.2.1, x1.2.2) (x2.2.1, x2.2.2))).bind fun x5 =>
          some ((x2.1.1, (x2.1.2.1, x2.1.2.2)), (x5.1, (x5.2.1, (x5.2.2.1, x5.2.2.2))))
        else
        some ((x2.1.1, (x2.1.2.1, x2.1.2.2)), (x1.2.1, (x1.2.2, (x2.2.1, x2.2.2))))
      else
      some ((x2.1.1, (x2.1.2.1, x2.1.2.2)), (x1.2.1, (x1.2.2, (x2.2.1, x2.2.2))))
    else
    some ((x2.1.1, (x2.1.2.1, x2.1.2.2)), (x1.2.1, (x1.2.2, (x2.2.1, x2.2.2))))
  else
  ((AO (x0.1.1, (x0.1.2.1, x0.1.2.2)) (41 : Int))).bind fun x6 =>
  ((AO (x6.1.1, (x6.1.2.1, x6.1.2.2)) (12 : Int))).bind fun x7 =>
  ((HF (Go.IntKind.wrap Go.IntKind.i64 (x6.2 - (20 : Int))) (Go.IntKind.wrap Go.IntKind.i64 ((1 : Int) + x7.2)))).bind fun x8 =>
  some ((x7.1.1, (x7.1.2.1, x7.1.2.2)), (x8.1.1, (x8.1.2.1, (x8.1.2.2.1, x8.1.2.2.2))))
noncomputable def DA : Ent := ⟨G5, fun x => Bn x⟩
noncomputable def KP : TX := ⟨tyTab, codTab, [], [4], [Dv, KQ, Jd, DH, CF, TH], G5⟩
set_option maxHeartbeats 2000000 in
theorem Sj (a0 : (List (Int) × Int × Int)) : wtF KP Tryz.f165 (a0) = Bn a0 := by kernel_rfl
theorem Eu : EntOK RR DA := Ab (X := KP) ⟨tyOK, boolOK, eqOK⟩ (Ad (by exact ⟨⟨Er, rfl⟩, ⟨⟨P7, rfl⟩, ⟨⟨ME, rfl⟩, ⟨⟨DO, rfl⟩, ⟨⟨DB, rfl⟩, ⟨⟨W8, rfl⟩, trivial⟩⟩⟩⟩⟩⟩)) (Ae (by kernel_rfl)) ⟨Tryz.func165, rfl, by kernel_rfl, rfl⟩ (fun x => by exact Sj x)
noncomputable def A9 (a0 : (Bool × ((List Int) × (Bool × (List Int))))) : Option (Bool) :=
  ((Ci (a0.1, a0.2.1))).bind fun x0 =>
  bif (!x0) then
    some false
  else
  ((Ci (a0.2.2.1, a0.2.2.2))).bind fun x1 =>
  bif (!x1) then
    some false
  else
  bif a0.2.2.1 then
    some false
  else
  bif ((((List.length a0.2.2.2) : Nat) : Int) == (0 : Int)) then
    some false
  else
  ((FP a0.2.1 a0.2.2.2)).bind fun x2 =>
  ((Bc x2 (List.cons (1 : Int) (List.nil : List Int)))).bind fun x3 =>
  some (x3 == (0 : Int))
noncomputable def CW : Ent := ⟨JL, fun x => A9 x⟩
noncomputable def OM : TX := ⟨tyTab, codTab, [], [4], [Jd, Nv, HD], JL⟩
set_option maxHeartbeats 2000000 in
theorem Vy (a0 : (Bool × List (Int) × Bool × List (Int))) : wtF OM Tryz.f113 (a0) = A9 a0 := by kernel_rfl
theorem C3 : EntOK RR CW := Ab (X := OM) ⟨tyOK, boolOK, eqOK⟩ (Ad (by exact ⟨⟨ME, rfl⟩, ⟨⟨QG, rfl⟩, ⟨⟨H5, rfl⟩, trivial⟩⟩⟩)) (Ae (by kernel_rfl)) ⟨Tryz.func113, rfl, by kernel_rfl, rfl⟩ (fun x => by exact Vy x)
noncomputable def Ca (s0 : (List Int)) (s1 : (List Int)) (s2 : Int) (s3 : Int) (s4 : Int) (s5 : Int) (s6 : (List Int)) (s7 : Int) (s8 : Int) : Option (((List Int) × ((List Int) × (Int × (Int × (Int × (Int × ((List Int) × (Int × Int)))))))) ⊕ ((List Int) × ((List Int) × ((List Int) × (Int × Int))))) :=
  (bif decide (s5 < (((List.length s1) : Nat) : Int)) then
      some (Sum.inr (s0, (s1, (s2, (s3, (s4, (s5, (s6, (s7, s8)))))))))
    else
    bif decide (s4 > (0 : Int)) then
      some (Sum.inr (s0, (s1, (s2, (s3, (s4, (s5, (s6, (s7, s8)))))))))
    else
    some (Sum.inl (Sum.inr (s0, (s1, (s6, (s7, s8))))))).bind fun x0 =>
  Sum.elim
    (fun x1 =>
    some x1)
    (fun x2 =>
    ((idxI (Go.IntKind.wrap Go.IntKind.i64 (x2.2.2.1 + x2.2.2.2.2.2.1)) (List.length x2.1))).bind fun x3 =>
    ((getN x2.1 x3)).bind fun x4 =>
    ((BM x2.2.1 x2.2.2.2.2.2.1)).bind fun x5 =>
    ((idxI (Go.IntKind.wrap Go.IntKind.i64 (x2.2.2.1 + x2.2.2.2.2.2.1)) (List.length x2.1))).bind fun x6 =>
    ((getN x2.1 x6)).bind fun x7 =>
    some (Sum.inl ((List.set x2.1 x6 (Int.tmod (Go.IntKind.wrap Go.IntKind.i64 ((Go.IntKind.wrap Go.IntKind.i64 (x4 + (Go.IntKind.wrap Go.IntKind.i64 (x2.2.2.2.1 * x5)))) + x2.2.2.2.2.1)) (65536 : Int))), (x2.2.1, (x2.2.2.1, (x2.2.2.2.1, ((Go.IntKind.wrap Go.IntKind.i64 (Int.tdiv (Go.IntKind.wrap Go.IntKind.i64 ((Go.IntKind.wrap Go.IntKind.i64 (x4 + (Go.IntKind.wrap Go.IntKind.i64 (x2.2.2.2.1 * x5)))) + x2.2.2.2.2.1)) (65536 : Int))), ((Go.IntKind.wrap Go.IntKind.i64 (x2.2.2.2.2.2.1 + (1 : Int))), (x2.2.2.2.2.2.2.1, (x2.2.2.2.2.2.2.2.1, x2.2.2.2.2.2.2.2.2))))))))))
    x0
noncomputable def Dd (s0 : (List Int)) (s1 : (List Int)) (s2 : (List Int)) (s3 : Int) (s4 : Int) : Option (((List Int) × ((List Int) × ((List Int) × (Int × Int)))) ⊕ (List Int)) :=
  bif decide (s4 < s3) then
    ((getI s2 s4)).bind fun x0 =>
    (loopM (fun (s : ((List Int) × ((List Int) × (Int × (Int × (Int × (Int × ((List Int) × (Int × Int))))))))) => Ca s.1 s.2.1 s.2.2.1 s.2.2.2.1 s.2.2.2.2.1 s.2.2.2.2.2.1 s.2.2.2.2.2.2.1 s.2.2.2.2.2.2.2.1 s.2.2.2.2.2.2.2.2) (s0, (s1, (s4, (x0, ((0 : Int), ((0 : Int), (s2, (s3, s4))))))))).bind fun x1 =>
    some (Sum.inl (x1.1, (x1.2.1, (x1.2.2.1, (x1.2.2.2.1, (Go.IntKind.wrap Go.IntKind.i64 (x1.2.2.2.2 + (1 : Int))))))))
  else
  some (Sum.inr s0)
noncomputable def CV (a0 : (List Int)) (a1 : (List Int)) : Option (List (Int)) :=
  ((lenI (Go.IntKind.wrap Go.IntKind.i64 ((Go.IntKind.wrap Go.IntKind.i64 ((((List.length a0) : Nat) : Int) + (((List.length a1) : Nat) : Int))) + (1 : Int))) 8 1)).bind fun x0 =>
  (loopM (fun (s : ((List Int) × ((List Int) × ((List Int) × (Int × Int))))) => Dd s.1 s.2.1 s.2.2.1 s.2.2.2.1 s.2.2.2.2) ((List.replicate x0 (0 : Int)), (a1, (a0, ((((List.length a0) : Nat) : Int), (0 : Int)))))).bind fun x1 =>
  ((Bi x1)).bind fun x2 =>
  some x2
noncomputable def Jw : Ent := ⟨Gj, fun x => CV x.1 x.2⟩
noncomputable def IT : TX := ⟨tyTab, codTab, [], [4], [DN, DR], Gj⟩
set_option maxHeartbeats 2000000 in
theorem Qu (a0 : List (Int)) (a1 : List (Int)) : wtF IT Tryz.f248 (a0, a1) = CV a0 a1 := by kernel_rfl
theorem Pt : EntOK RR Jw := Ab (X := IT) ⟨tyOK, boolOK, eqOK⟩ (Ad (by exact ⟨⟨DY, rfl⟩, ⟨⟨DJ, rfl⟩, trivial⟩⟩)) (Ae (by kernel_rfl)) ⟨Tryz.func248, rfl, by kernel_rfl, rfl⟩ (fun x => by exact Qu x.1 x.2)
noncomputable def BR (a0 : (Bool × (List Int))) (a1 : (Bool × (List Int))) : Option ((Bool × List (Int))) :=
  ((CV a0.2 a1.2)).bind fun x0 =>
  ((AH (!(a0.1 == a1.1)) x0)).bind fun x1 =>
  some (x1.2, x1.1)
noncomputable def Hn : Ent := ⟨N4, fun x => BR x.1 x.2⟩
noncomputable def SM : TX := ⟨tyTab, codTab, [], [4], [Jw, Cq], N4⟩
set_option maxHeartbeats 2000000 in
theorem ZB (a0 : (Bool × List (Int))) (a1 : (Bool × List (Int))) : wtF SM Tryz.f168 (a0, a1) = BR a0 a1 := by kernel_rfl
theorem HN : EntOK RR Hn := Ab (X := SM) ⟨tyOK, boolOK, eqOK⟩ (Ad (by exact ⟨⟨Pt, rfl⟩, ⟨⟨Ch, rfl⟩, trivial⟩⟩)) (Ae (by kernel_rfl)) ⟨Tryz.func168, rfl, by kernel_rfl, rfl⟩ (fun x => by exact ZB x.1 x.2)
noncomputable def Df (a0 : (Bool × (List Int))) (a1 : (Bool × (List Int))) : Option (Int) :=
  bif a0.1 then
    bif (!a1.1) then
      some (-(1 : Int))
    else
    bif (!a0.1) then
      bif a1.1 then
        some (1 : Int)
      else
      bif a0.1 then
        ((Bc a1.2 a0.2)).bind fun x0 =>
        some x0
      else
      ((Bc a0.2 a1.2)).bind fun x1 =>
      some x1
    else
    bif a0.1 then
      ((Bc a1.2 a0.2)).bind fun x2 =>
      some x2
    else
    ((Bc a0.2 a1.2)).bind fun x3 =>
    some x3
  else
  bif (!a0.1) then
    bif a1.1 then
      some (1 : Int)
    else
    bif a0.1 then
      ((Bc a1.2 a0.2)).bind fun x4 =>
      some x4
    else
    ((Bc a0.2 a1.2)).bind fun x5 =>
    some x5
  else
  bif a0.1 then
    ((Bc a1.2 a0.2)).bind fun x6 =>
    some x6
  else
  ((Bc a0.2 a1.2)).bind fun x7 =>
  some x7
noncomputable def Iq : Ent := ⟨Iv, fun x => Df x.1 x.2⟩
noncomputable def LW : TX := ⟨tyTab, codTab, [], [4], [HD], Iv⟩
set_option maxHeartbeats 2000000 in
theorem Ug (a0 : (Bool × List (Int))) (a1 : (Bool × List (Int))) : wtF LW Tryz.f169 (a0, a1) = Df a0 a1 := by kernel_rfl
theorem KE : EntOK RR Iq := Ab (X := LW) ⟨tyOK, boolOK, eqOK⟩ (Ad (by exact ⟨⟨H5, rfl⟩, trivial⟩)) (Ae (by kernel_rfl)) ⟨Tryz.func169, rfl, by kernel_rfl, rfl⟩ (fun x => by exact Ug x.1 x.2)
noncomputable def C9 (a0 : (Bool × ((List Int) × (Bool × (List Int))))) (a1 : (Bool × ((List Int) × (Bool × (List Int))))) : Option (Int) :=
  ((BR (a0.1, a0.2.1) (a1.2.2.1, a1.2.2.2))).bind fun x0 =>
  ((BR (a1.1, a1.2.1) (a0.2.2.1, a0.2.2.2))).bind fun x1 =>
  ((Df (x0.1, x0.2) (x1.1, x1.2))).bind fun x2 =>
  some x2
noncomputable def Hx : Ent := ⟨Nd, fun x => C9 x.1 x.2⟩
noncomputable def Sx : TX := ⟨tyTab, codTab, [], [4], [Hn, Iq], Nd⟩
set_option maxHeartbeats 2000000 in
theorem Ab3 (a0 : (Bool × List (Int) × Bool × List (Int))) (a1 : (Bool × List (Int) × Bool × List (Int))) : wtF Sx Tryz.f134 (a0, a1) = C9 a0 a1 := by kernel_rfl
theorem Ig : EntOK RR Hx := Ab (X := Sx) ⟨tyOK, boolOK, eqOK⟩ (Ad (by exact ⟨⟨HN, rfl⟩, ⟨⟨KE, rfl⟩, trivial⟩⟩)) (Ae (by kernel_rfl)) ⟨Tryz.func134, rfl, by kernel_rfl, rfl⟩ (fun x => by exact Ab3 x.1 x.2)
noncomputable def Cc (a0 : ((List Int) × (Int × Int))) : Option ((List (Int) × Int × Int) × (Bool × List (Int) × Bool × List (Int) × Bool × List (Int) × Bool × List (Int))) :=
  ((Bn (a0.1, (a0.2.1, a0.2.2)))).bind fun x0 =>
  ((Bn (x0.1.1, (x0.1.2.1, x0.1.2.2)))).bind fun x1 =>
  ((A9 (x0.2.1, (x0.2.2.1, (x0.2.2.2.1, x0.2.2.2.2))))).bind fun x2 =>
  bif x2 then
    ((A9 (x1.2.1, (x1.2.2.1, (x1.2.2.2.1, x1.2.2.2.2))))).bind fun x3 =>
    bif x3 then
      ((C9 (x0.2.1, (x0.2.2.1, (x0.2.2.2.1, x0.2.2.2.2))) (x1.2.1, (x1.2.2.1, (x1.2.2.2.1, x1.2.2.2.2))))).bind fun x4 =>
      bif decide (x4 > (0 : Int)) then
        ((AQ (x1.1.1, (x1.1.2.1, x1.1.2.2)) (12 : Int))).bind fun x5 =>
        bif (!x5.2) then
          some ((x5.1.1, (x5.1.2.1, x5.1.2.2)), (x1.2.1, (x1.2.2.1, (x1.2.2.2.1, (x1.2.2.2.2, (x0.2.1, (x0.2.2.1, (x0.2.2.2.1, x0.2.2.2.2))))))))
        else
        some ((x5.1.1, (x5.1.2.1, x5.1.2.2)), (x0.2.1, (x0.2.2.1, (x0.2.2.2.1, (x0.2.2.2.2, (x1.2.1, (x1.2.2.1, (x1.2.2.2.1, x1.2.2.2.2))))))))
      else
      some ((x1.1.1, (x1.1.2.1, x1.1.2.2)), (x0.2.1, (x0.2.2.1, (x0.2.2.2.1, (x0.2.2.2.2, (x1.2.1, (x1.2.2.1, (x1.2.2.2.1, x1.2.2.2.2))))))))
    else
    some ((x1.1.1, (x1.1.2.1, x1.1.2.2)), (x0.2.1, (x0.2.2.1, (x0.2.2.2.1, (x0.2.2.2.2, (x1.2.1, (x1.2.2.1, (x1.2.2.2.1, x1.2.2.2.2))))))))
  else
  some ((x1.1.1, (x1.1.2.1, x1.1.2.2)), (x0.2.1, (x0.2.2.1, (x0.2.2.2.1, (x0.2.2.2.2, (x1.2.1, (x1.2.2.1, (x1.2.2.2.1, x1.2.2.2.2))))))))
noncomputable def Gr : Ent := ⟨Gu, fun x => Cc x⟩
noncomputable def Js : TX := ⟨tyTab, codTab, [], [4], [DA, CW, Hx, Dv], Gu⟩
set_option maxHeartbeats 2000000 in
theorem QJ (a0 : (List (Int) × Int × Int)) : wtF Js Tryz.f156 (a0) = Cc a0 := by kernel_rfl
theorem IG : EntOK RR Gr := Ab (X := Js) ⟨tyOK, boolOK, eqOK⟩ (Ad (by exact ⟨⟨Eu, rfl⟩, ⟨⟨C3, rfl⟩, ⟨⟨Ig, rfl⟩, ⟨⟨Er, rfl⟩, trivial⟩⟩⟩⟩)) (Ae (by kernel_rfl)) ⟨Tryz.func156, rfl, by kernel_rfl, rfl⟩ (fun x => by exact QJ x)
noncomputable def BH (a0 : (List Int)) : Option ((Bool × List (Int) × Bool × List (Int) × Bool × List (Int) × Bool × List (Int)) × Int) :=
  ((Cc (a0, ((0 : Int), (0 : Int))))).bind fun x0 =>
  ((Aq (x0.1.1, (x0.1.2.1, x0.1.2.2)) (List.cons (-(1 : Int)) (List.cons (0 : Int) (List.cons (1 : Int) (List.cons (4 : Int) (List.cons (16 : Int) (List.cons (64 : Int) (List.cons (65 : Int) (List.nil : List Int)))))))))).bind fun x1 =>
  some ((x0.2.1, (x0.2.2.1, (x0.2.2.2.1, (x0.2.2.2.2.1, (x0.2.2.2.2.2.1, (x0.2.2.2.2.2.2.1, (x0.2.2.2.2.2.2.2.1, x0.2.2.2.2.2.2.2.2))))))), x1.2)
noncomputable def Hb : Ent := ⟨EI, fun x => BH x⟩
noncomputable def Hi : TX := ⟨tyTab, codTab, [], [4], [Gr, DC], EI⟩
set_option maxHeartbeats 2000000 in
theorem ND (a0 : List (Int)) : wtF Hi Tryz.f51 (a0) = BH a0 := by kernel_rfl
theorem MI : EntOK RR Hb := Ab (X := Hi) ⟨tyOK, boolOK, eqOK⟩ (Ad (by exact ⟨⟨IG, rfl⟩, ⟨⟨ER, rfl⟩, trivial⟩⟩)) (Ae (by kernel_rfl)) ⟨Tryz.func51, rfl, by kernel_rfl, rfl⟩ (fun x => by exact ND x)
noncomputable def Cm (a0 : Int) (a1 : Int) (a2 : Int) : Option (Bool) :=
  bif decide (a0 ≥ a1) then
    some (decide (a0 ≤ a2))
  else
  some false
noncomputable def Gs : Ent := ⟨K1, fun x => Cm x.1 x.2.1 x.2.2⟩
noncomputable def PL : TX := ⟨tyTab, codTab, [], [4], [], K1⟩
set_option maxHeartbeats 2000000 in
theorem XL (a0 : Int) (a1 : Int) (a2 : Int) : wtF PL Tryz.f123 (a0, a1, a2) = Cm a0 a1 a2 := by kernel_rfl
theorem GR : EntOK RR Gs := Ab (X := PL) ⟨tyOK, boolOK, eqOK⟩ (Ad (by exact trivial)) (Ae (by kernel_rfl)) ⟨Tryz.func123, rfl, by kernel_rfl, rfl⟩ (fun x => by exact XL x.1 x.2.1 x.2.2)
noncomputable def Dp (a0 : Int) : Option (Bool) :=
  ((Cm a0 (0 : Int) (65535 : Int))).bind fun x0 =>
  some (!x0)
noncomputable def KD : Ent := ⟨GW, fun x => Dp x⟩
noncomputable def KJ : TX := ⟨tyTab, codTab, [], [4], [Gs], GW⟩
set_option maxHeartbeats 2000000 in
theorem Sc (a0 : Int) : wtF KJ Tryz.f222 (a0) = Dp a0 := by kernel_rfl
theorem Qn : EntOK RR KD := Ab (X := KJ) ⟨tyOK, boolOK, eqOK⟩ (Ad (by exact ⟨⟨GR, rfl⟩, trivial⟩)) (Ae (by kernel_rfl)) ⟨Tryz.func222, rfl, by kernel_rfl, rfl⟩ (fun x => by exact Sc x)
noncomputable def Az (s0 : (List Int)) (s1 : Int) (s2 : Int) : Option (((List Int) × (Int × Int)) ⊕ (Unit ⊕ Int)) :=
  bif decide (s2 < s1) then
    ((getI s0 s2)).bind fun x0 =>
    ((Dp x0)).bind fun x1 =>
    bif x1 then
      some (Sum.inr (Sum.inr s2))
    else
    some (Sum.inl (s0, (s1, (Go.IntKind.wrap Go.IntKind.i64 (s2 + (1 : Int))))))
  else
  some (Sum.inr (Sum.inl ()))
noncomputable def A3 (a0 : (List Int)) : Option (Int) :=
  (loopM (fun (s : ((List Int) × (Int × Int))) => Az s.1 s.2.1 s.2.2) (a0, ((((List.length a0) : Nat) : Int), (0 : Int)))).bind fun x0 =>
  Sum.elim
    (fun x1 =>
    some (-(1 : Int)))
    (fun x2 =>
    some x2)
    x0
noncomputable def CD : Ent := ⟨BB, fun x => A3 x⟩
noncomputable def CE : TX := ⟨tyTab, codTab, [], [4], [KD], BB⟩
set_option maxHeartbeats 2000000 in
theorem FM (a0 : List (Int)) : wtF CE Tryz.f254 (a0) = A3 a0 := by kernel_rfl
theorem FD : EntOK RR CD := Ab (X := CE) ⟨tyOK, boolOK, eqOK⟩ (Ad (by exact ⟨⟨Qn, rfl⟩, trivial⟩)) (Ae (by kernel_rfl)) ⟨Tryz.func254, rfl, by kernel_rfl, rfl⟩ (fun x => by exact FM x)
noncomputable def Aj (a0 : (List Int)) : Option (Bool) :=
  ((A3 a0)).bind fun x0 =>
  some (decide (x0 ≥ (0 : Int)))
noncomputable def Cd : Ent := ⟨Bf, fun x => Aj x⟩
noncomputable def B3 : TX := ⟨tyTab, codTab, [], [4], [CD], Bf⟩
set_option maxHeartbeats 2000000 in
theorem EK (a0 : List (Int)) : wtF B3 Tryz.f187 (a0) = Aj a0 := by kernel_rfl
theorem EF : EntOK RR Cd := Ab (X := B3) ⟨tyOK, boolOK, eqOK⟩ (Ad (by exact ⟨⟨FD, rfl⟩, trivial⟩)) (Ae (by kernel_rfl)) ⟨Tryz.func187, rfl, by kernel_rfl, rfl⟩ (fun x => by exact EK x)
noncomputable def Fl (a0 : (Bool × (List Int))) : Option (Bool) :=
  bif decide ((((List.length a0.2) : Nat) : Int) > (40 : Int)) then
    some false
  else
  bif ((((List.length a0.2) : Nat) : Int) == (0 : Int)) then
    bif a0.1 then
      some false
    else
    bif decide ((((List.length a0.2) : Nat) : Int) > (0 : Int)) then
      ((getI a0.2 (Go.IntKind.wrap Go.IntKind.i64 ((((List.length a0.2) : Nat) : Int) - (1 : Int))))).bind fun x0 =>
      bif (x0 == (0 : Int)) then
        some false
      else
      ((Aj a0.2)).bind fun x1 =>
      some (!x1)
    else
    ((Aj a0.2)).bind fun x2 =>
    some (!x2)
  else
  bif decide ((((List.length a0.2) : Nat) : Int) > (0 : Int)) then
    ((getI a0.2 (Go.IntKind.wrap Go.IntKind.i64 ((((List.length a0.2) : Nat) : Int) - (1 : Int))))).bind fun x3 =>
    bif (x3 == (0 : Int)) then
      some false
    else
    ((Aj a0.2)).bind fun x4 =>
    some (!x4)
  else
  ((Aj a0.2)).bind fun x5 =>
  some (!x5)
noncomputable def OJ : Ent := ⟨IR, fun x => Fl x⟩
noncomputable def O8 : TX := ⟨tyTab, codTab, [], [4], [Cd], IR⟩
set_option maxHeartbeats 2000000 in
theorem Wo (a0 : (Bool × List (Int))) : wtF O8 Tryz.f107 (a0) = Fl a0 := by kernel_rfl
theorem Uq : EntOK RR OJ := Ab (X := O8) ⟨tyOK, boolOK, eqOK⟩ (Ad (by exact ⟨⟨EF, rfl⟩, trivial⟩)) (Ae (by kernel_rfl)) ⟨Tryz.func107, rfl, by kernel_rfl, rfl⟩ (fun x => by exact Wo x)
noncomputable def Ef (a0 : (Bool × (List Int))) : Option (Bool) :=
  ((Fl (a0.1, a0.2))).bind fun x0 =>
  some (!x0)
noncomputable def My : Ent := ⟨IB, fun x => Ef x⟩
noncomputable def MV : TX := ⟨tyTab, codTab, [], [4], [OJ], IB⟩
set_option maxHeartbeats 2000000 in
theorem Ua (a0 : (Bool × List (Int))) : wtF MV Tryz.f231 (a0) = Ef a0 := by kernel_rfl
theorem RZ : EntOK RR My := Ab (X := MV) ⟨tyOK, boolOK, eqOK⟩ (Ad (by exact ⟨⟨Uq, rfl⟩, trivial⟩)) (Ae (by kernel_rfl)) ⟨Tryz.func231, rfl, by kernel_rfl, rfl⟩ (fun x => by exact Ua x)
noncomputable def Ap (s0 : (List (Bool × (List Int)))) (s1 : Int) (s2 : Int) : Option (((List (Bool × (List Int))) × (Int × Int)) ⊕ (Unit ⊕ Int)) :=
  bif decide (s2 < s1) then
    ((getI s0 s2)).bind fun x0 =>
    ((Ef (x0.1, x0.2))).bind fun x1 =>
    bif x1 then
      some (Sum.inr (Sum.inr s2))
    else
    some (Sum.inl (s0, (s1, (Go.IntKind.wrap Go.IntKind.i64 (s2 + (1 : Int))))))
  else
  some (Sum.inr (Sum.inl ()))
noncomputable def AL (a0 : (List (Bool × (List Int)))) : Option (Int) :=
  (loopM (fun (s : ((List (Bool × (List Int))) × (Int × Int))) => Ap s.1 s.2.1 s.2.2) (a0, ((((List.length a0) : Nat) : Int), (0 : Int)))).bind fun x0 =>
  Sum.elim
    (fun x1 =>
    some (-(1 : Int)))
    (fun x2 =>
    some x2)
    x0
noncomputable def BX : Ent := ⟨Bb, fun x => AL x⟩
noncomputable def BY : TX := ⟨tyTab, codTab, [], [4], [My], Bb⟩
set_option maxHeartbeats 2000000 in
theorem EE (a0 : List ((Bool × List (Int)))) : wtF BY Tryz.f281 (a0) = AL a0 := by kernel_rfl
theorem Eo : EntOK RR BX := Ab (X := BY) ⟨tyOK, boolOK, eqOK⟩ (Ad (by exact ⟨⟨RZ, rfl⟩, trivial⟩)) (Ae (by kernel_rfl)) ⟨Tryz.func281, rfl, by kernel_rfl, rfl⟩ (fun x => by exact EE x)
noncomputable def AE (a0 : (List (Bool × (List Int)))) : Option (Bool) :=
  ((AL a0)).bind fun x0 =>
  some (decide (x0 ≥ (0 : Int)))
noncomputable def BO : Ent := ⟨AX, fun x => AE x⟩
noncomputable def BJ : TX := ⟨tyTab, codTab, [], [4], [BX], AX⟩
set_option maxHeartbeats 2000000 in
theorem DL (a0 : List ((Bool × List (Int)))) : wtF BJ Tryz.f230 (a0) = AE a0 := by kernel_rfl
theorem Dw : EntOK RR BO := Ab (X := BJ) ⟨tyOK, boolOK, eqOK⟩ (Ad (by exact ⟨⟨Eo, rfl⟩, trivial⟩)) (Ae (by kernel_rfl)) ⟨Tryz.func230, rfl, by kernel_rfl, rfl⟩ (fun x => by exact DL x)
noncomputable def ET (a0 : (List (Bool × (List Int)))) : Option (Bool) :=
  ((AE a0)).bind fun x0 =>
  some (!x0)
noncomputable def Qh : Ent := ⟨Lr, fun x => ET x⟩
noncomputable def PU : TX := ⟨tyTab, codTab, [], [4], [BO], Lr⟩
set_option maxHeartbeats 2000000 in
theorem Xk (a0 : List ((Bool × List (Int)))) : wtF PU Tryz.f124 (a0) = ET a0 := by kernel_rfl
theorem V1 : EntOK RR Qh := Ab (X := PU) ⟨tyOK, boolOK, eqOK⟩ (Ad (by exact ⟨⟨Dw, rfl⟩, trivial⟩)) (Ae (by kernel_rfl)) ⟨Tryz.func124, rfl, by kernel_rfl, rfl⟩ (fun x => by exact Xk x)
noncomputable def AG (a0 : (Bool × (List Int))) : Option (Int) :=
  bif ((((List.length a0.2) : Nat) : Int) == (0 : Int)) then
    some (0 : Int)
  else
  bif a0.1 then
    some (-(1 : Int))
  else
  some (1 : Int)
noncomputable def De : Ent := ⟨Il, fun x => AG x⟩
noncomputable def LH : TX := ⟨tyTab, codTab, [], [4], [], Il⟩
set_option maxHeartbeats 2000000 in
theorem UF (a0 : (Bool × List (Int))) : wtF LH Tryz.f125 (a0) = AG a0 := by kernel_rfl
theorem Dt : EntOK RR De := Ab (X := LH) ⟨tyOK, boolOK, eqOK⟩ (Ad (by exact trivial)) (Ae (by kernel_rfl)) ⟨Tryz.func125, rfl, by kernel_rfl, rfl⟩ (fun x => by exact UF x)
noncomputable def Cr (a0 : Int) : Option (Bool) :=
  some (a0 != a0)
noncomputable def IF : Ent := ⟨Fv, fun x => Cr x⟩
noncomputable def IK : TX := ⟨tyTab, codTab, [], [4], [], Fv⟩
set_option maxHeartbeats 2000000 in
theorem Pi (a0 : Int) : wtF IK Tryz.f283 (a0) = Cr a0 := by kernel_rfl
theorem N0 : EntOK RR IF := Ab (X := IK) ⟨tyOK, boolOK, eqOK⟩ (Ad (by exact trivial)) (Ae (by kernel_rfl)) ⟨Tryz.func283, rfl, by kernel_rfl, rfl⟩ (fun x => by exact Pi x)
noncomputable def A6 (a0 : Int) (a1 : Int) : Option (Int) :=
  ((Cr a0)).bind fun x0 =>
  ((Cr a1)).bind fun x1 =>
  bif x0 then
    bif x1 then
      some (0 : Int)
    else
    some (-(1 : Int))
  else
  bif x1 then
    some (1 : Int)
  else
  bif decide (a0 < a1) then
    some (-(1 : Int))
  else
  bif decide (a0 > a1) then
    some (1 : Int)
  else
  some (0 : Int)
noncomputable def Ec : Ent := ⟨Ey, fun x => A6 x.1 x.2⟩
noncomputable def GI : TX := ⟨tyTab, codTab, [], [4], [IF], Ey⟩
set_option maxHeartbeats 2000000 in
theorem Mq (a0 : Int) (a1 : Int) : wtF GI Tryz.f239 (a0, a1) = A6 a0 a1 := by kernel_rfl
theorem Gi : EntOK RR Ec := Ab (X := GI) ⟨tyOK, boolOK, eqOK⟩ (Ad (by exact ⟨⟨N0, rfl⟩, trivial⟩)) (Ae (by kernel_rfl)) ⟨Tryz.func239, rfl, by kernel_rfl, rfl⟩ (fun x => by exact Mq x.1 x.2)
noncomputable def AF (s0 : (List Int)) (s1 : (List Int)) (s2 : Int) : Option (((List Int) × ((List Int) × Int)) ⊕ (Unit ⊕ Int)) :=
  bif decide (s2 ≥ (0 : Int)) then
    ((getI s0 s2)).bind fun x0 =>
    ((getI s1 s2)).bind fun x1 =>
    bif (x0 != x1) then
      ((getI s0 s2)).bind fun x2 =>
      ((getI s1 s2)).bind fun x3 =>
      ((A6 x2 x3)).bind fun x4 =>
      some (Sum.inr (Sum.inr x4))
    else
    some (Sum.inl (s0, (s1, (Go.IntKind.wrap Go.IntKind.i64 (s2 - (1 : Int))))))
  else
  some (Sum.inr (Sum.inl ()))
noncomputable def A0 (a0 : (List Int)) (a1 : (List Int)) : Option (Int) :=
  bif ((((List.length a0) : Nat) : Int) != (((List.length a1) : Nat) : Int)) then
    ((A6 (((List.length a0) : Nat) : Int) (((List.length a1) : Nat) : Int))).bind fun x0 =>
    some x0
  else
  (loopM (fun (s : ((List Int) × ((List Int) × Int))) => AF s.1 s.2.1 s.2.2) (a0, (a1, (Go.IntKind.wrap Go.IntKind.i64 ((((List.length a0) : Nat) : Int) - (1 : Int)))))).bind fun x1 =>
  Sum.elim
    (fun x2 =>
    some (0 : Int))
    (fun x3 =>
    some x3)
    x1
noncomputable def Db : Ent := ⟨EX, fun x => A0 x.1 x.2⟩
noncomputable def He : TX := ⟨tyTab, codTab, [], [4], [Ec], EX⟩
set_option maxHeartbeats 2000000 in
theorem Nu (a0 : List (Int)) (a1 : List (Int)) : wtF He Tryz.f139 (a0, a1) = A0 a0 a1 := by kernel_rfl
theorem El : EntOK RR Db := Ab (X := He) ⟨tyOK, boolOK, eqOK⟩ (Ad (by exact ⟨⟨Gi, rfl⟩, trivial⟩)) (Ae (by kernel_rfl)) ⟨Tryz.func139, rfl, by kernel_rfl, rfl⟩ (fun x => by exact Nu x.1 x.2)
noncomputable def Kj (s0 : (List Int)) (s1 : Int) : Option (((List Int) × Int) ⊕ ((List Int) × Int)) :=
  bif decide (s1 > (0 : Int)) then
    ((getI s0 (Go.IntKind.wrap Go.IntKind.i64 (s1 - (1 : Int))))).bind fun x0 =>
    bif (x0 == (0 : Int)) then
      some (Sum.inl (s0, (Go.IntKind.wrap Go.IntKind.i64 (s1 - (1 : Int)))))
    else
    some (Sum.inr (s0, s1))
  else
  some (Sum.inr (s0, s1))
noncomputable def Fe (a0 : (List Int)) : Option (List (Int)) :=
  (loopM (fun (s : ((List Int) × Int)) => Kj s.1 s.2) (a0, (((List.length a0) : Nat) : Int))).bind fun x0 =>
  ((subI (0 : Int) x0.2 (List.length x0.1))).bind fun x1 =>
  some (List.drop x1.1 (List.take x1.2 x0.1))
noncomputable def LF : Ent := ⟨Uc, fun x => Fe x⟩
noncomputable def YS : TX := ⟨tyTab, codTab, [], [4], [], Uc⟩
set_option maxHeartbeats 2000000 in
theorem An6 (a0 : List (Int)) : wtF YS Tryz.f278 (a0) = Fe a0 := by kernel_rfl
theorem Mi : EntOK RR LF := Ab (X := YS) ⟨tyOK, boolOK, eqOK⟩ (Ad (by exact trivial)) (Ae (by kernel_rfl)) ⟨Tryz.func278, rfl, by kernel_rfl, rfl⟩ (fun x => by exact An6 x)
noncomputable def CG (s0 : (List Int)) (s1 : (List Int)) (s2 : Int) (s3 : Int) (s4 : Int) : Option (((List Int) × ((List Int) × (Int × (Int × Int)))) ⊕ ((List Int) × Int)) :=
  bif decide (s4 ≥ (0 : Int)) then
    ((getI s1 s4)).bind fun x0 =>
    bif (s2 == (0 : Int)) then
      none
    else
    ((idxI s4 (List.length s0))).bind fun x1 =>
    ((getN s0 x1)).bind fun x2 =>
    bif (s2 == (0 : Int)) then
      none
    else
    some (Sum.inl ((List.set s0 x1 (Go.IntKind.wrap Go.IntKind.i64 (Int.tdiv (Go.IntKind.wrap Go.IntKind.i64 ((Go.IntKind.wrap Go.IntKind.i64 (s3 * (65536 : Int))) + x0)) s2))), (s1, (s2, ((Int.tmod (Go.IntKind.wrap Go.IntKind.i64 ((Go.IntKind.wrap Go.IntKind.i64 (s3 * (65536 : Int))) + x0)) s2), (Go.IntKind.wrap Go.IntKind.i64 (s4 - (1 : Int))))))))
  else
  some (Sum.inr (s0, s3))
noncomputable def Dj (a0 : (List Int)) (a1 : Int) : Option (List (Int) × Int) :=
  ((lenI (((List.length a0) : Nat) : Int) 8 1)).bind fun x0 =>
  (loopM (fun (s : ((List Int) × ((List Int) × (Int × (Int × Int))))) => CG s.1 s.2.1 s.2.2.1 s.2.2.2.1 s.2.2.2.2) ((List.replicate x0 (0 : Int)), (a0, (a1, ((0 : Int), (Go.IntKind.wrap Go.IntKind.i64 ((((List.length a0) : Nat) : Int) - (1 : Int)))))))).bind fun x1 =>
  ((Fe x1.1)).bind fun x2 =>
  some (x2, x1.2)
noncomputable def LV : Ent := ⟨Ii, fun x => Dj x.1 x.2⟩
noncomputable def LQ : TX := ⟨tyTab, codTab, [], [4], [LF], Ii⟩
set_option maxHeartbeats 2000000 in
theorem T4 (a0 : List (Int)) (a1 : Int) : wtF LQ Tryz.f296 (a0, a1) = Dj a0 a1 := by kernel_rfl
theorem Se : EntOK RR LV := Ab (X := LQ) ⟨tyOK, boolOK, eqOK⟩ (Ad (by exact ⟨⟨Mi, rfl⟩, trivial⟩)) (Ae (by kernel_rfl)) ⟨Tryz.func296, rfl, by kernel_rfl, rfl⟩ (fun x => by exact T4 x.1 x.2)
noncomputable def A5 (a0 : (List Int)) : Option (List (Int)) :=
  ((neL a0)).bind fun x0 =>
  bif (roomI (List.length a0) 8 1) then
    some a0
  else
  none
noncomputable def Gl : Ent := ⟨A1, fun x => A5 x⟩
noncomputable def D5 : TX := ⟨tyTab, codTab, [], [4], [], A1⟩
set_option maxHeartbeats 2000000 in
theorem HA (a0 : List (Int)) : wtF D5 Tryz.f277 a0 = A5 a0 := by kernel_rfl
theorem GA : EntOK (Runs Tryz.prog cfC noExt) Gl := Ab (X := D5) ⟨tyOK, boolOK, eqOK⟩ (Ab7 rfl) (Ae (by kernel_rfl)) ⟨Tryz.func277, rfl, by kernel_rfl, rfl⟩ (fun x => by exact HA x)
noncomputable def AZ (a0 : List (Int)) : Option (List (Int)) := orNil A5 a0
noncomputable def Cb : Ent := ⟨A1, fun x => AZ x⟩
theorem Du : EntOK RR Cb := Z9 GA (.head _)
noncomputable def AD (a0 : Bool) (a1 : (List Int)) : Option (List (Int) × (Bool)) :=
  ((Fe a1)).bind fun x0 =>
  ((AZ x0)).bind fun x1 =>
  bif a0 then
    some (x1, decide ((((List.length x1) : Nat) : Int) > (0 : Int)))
  else
  some (x1, false)
noncomputable def B5 : Ent := ⟨NN, fun x => AD x.1 x.2⟩
noncomputable def TO : TX := ⟨tyTab, codTab, [], [4], [LF, Cb], NN⟩
set_option maxHeartbeats 2000000 in
theorem Zo (a0 : Bool) (a1 : List (Int)) : wtF TO Tryz.f223 (a0, a1) = AD a0 a1 := by kernel_rfl
theorem BW : EntOK RR B5 := Ab (X := TO) ⟨tyOK, boolOK, eqOK⟩ (Ad (by exact ⟨⟨Mi, rfl⟩, ⟨⟨Du, rfl⟩, trivial⟩⟩)) (Ae (by kernel_rfl)) ⟨Tryz.func223, rfl, by kernel_rfl, rfl⟩ (fun x => by exact Zo x.1 x.2)
noncomputable def GG (s0 : (Bool × (List Int))) (s1 : (List Int)) (s2 : Bool) (s3 : Int) : Option (((Bool × (List Int)) × ((List Int) × (Bool × Int))) ⊕ ((Bool × (List Int)) × ((List Int) × Bool))) :=
  bif decide (s3 > (0 : Int)) then
    ((appL 8 1 s1 (List.cons (Go.IntKind.wrap Go.IntKind.i64 (Int.tmod s3 (65536 : Int))) (List.nil : List Int)))).bind fun x0 =>
    some (Sum.inl ((s0.1, s0.2), (x0, (s2, (Go.IntKind.wrap Go.IntKind.u64 (Int.tdiv s3 (65536 : Int)))))))
  else
  some (Sum.inr ((s0.1, s0.2), (s1, s2)))
noncomputable def A7 (a0 : Int) : Option ((Bool × List (Int))) :=
  (bif decide (a0 < (0 : Int)) then
      some (Sum.inr ((false, (List.nil : List Int)), (decide (a0 < (0 : Int)), (Go.IntKind.wrap Go.IntKind.u64 ((0 : Int) - (Go.IntKind.wrap Go.IntKind.u64 a0))))))
    else
    some (Sum.inr ((false, (List.nil : List Int)), (decide (a0 < (0 : Int)), (Go.IntKind.wrap Go.IntKind.u64 a0))))).bind fun x0 =>
  Sum.elim
    (fun x1 =>
    some x1)
    (fun x2 =>
    (loopM (fun (s : ((Bool × (List Int)) × ((List Int) × (Bool × Int)))) => GG s.1 s.2.1 s.2.2.1 s.2.2.2) ((x2.1.1, x2.1.2), ((List.nil : List Int), (x2.2.1, x2.2.2)))).bind fun x3 =>
    some (x3.2.2, x3.2.1))
    x0
noncomputable def D3 : Ent := ⟨NH, fun x => A7 x⟩
noncomputable def SP : TX := ⟨tyTab, codTab, [], [4], [], NH⟩
set_option maxHeartbeats 2000000 in
theorem ZU (a0 : Int) : wtF SP Tryz.f25 (a0) = A7 a0 := by kernel_rfl
theorem DM : EntOK RR D3 := Ab (X := SP) ⟨tyOK, boolOK, eqOK⟩ (Ad (by exact trivial)) (Ae (by kernel_rfl)) ⟨Tryz.func25, rfl, by kernel_rfl, rfl⟩ (fun x => by exact ZU x)
noncomputable def Dx (s0 : (Bool × (List Int))) (s1 : (Bool × (List Int))) (s2 : (Bool × (List Int))) (s3 : (List Int)) (s4 : Int) (s5 : Int) (s6 : Int) (s7 : (List Int)) (s8 : Int) (s9 : Int) (s10 : (List Int)) (s11 : Int) (s12 : Int) : Option (((Bool × (List Int)) × ((Bool × (List Int)) × ((Bool × (List Int)) × ((List Int) × (Int × (Int × (Int × ((List Int) × (Int × (Int × ((List Int) × (Int × Int)))))))))))) ⊕ ((Bool × (List Int)) × ((Bool × (List Int)) × ((Bool × (List Int)) × ((List Int) × (Int × (Int × ((List Int) × (Int × Int))))))))) :=
  bif decide (s12 < s11) then
    ((getI s10 s12)).bind fun x0 =>
    ((idxI (Go.IntKind.wrap Go.IntKind.i64 (s4 + s12)) (List.length s3))).bind fun x1 =>
    ((getN s3 x1)).bind fun x2 =>
    ((idxI (Go.IntKind.wrap Go.IntKind.i64 (s4 + s12)) (List.length s3))).bind fun x3 =>
    ((getN s3 x3)).bind fun x4 =>
    some (Sum.inl ((s0.1, s0.2), ((s1.1, s1.2), ((s2.1, s2.2), ((List.set s3 x3 (Int.tmod (Go.IntKind.wrap Go.IntKind.i64 (s6 + (Go.IntKind.wrap Go.IntKind.i64 (x2 + (Go.IntKind.wrap Go.IntKind.i64 (s5 * x0)))))) (65536 : Int))), (s4, (s5, ((Go.IntKind.wrap Go.IntKind.i64 (Int.tdiv (Go.IntKind.wrap Go.IntKind.i64 (s6 + (Go.IntKind.wrap Go.IntKind.i64 (x2 + (Go.IntKind.wrap Go.IntKind.i64 (s5 * x0)))))) (65536 : Int))), (s7, (s8, (s9, (s10, (s11, (Go.IntKind.wrap Go.IntKind.i64 (s12 + (1 : Int))))))))))))))))
  else
  some (Sum.inr ((s0.1, s0.2), ((s1.1, s1.2), ((s2.1, s2.2), (s3, (s4, (s6, (s7, (s8, s9)))))))))
noncomputable def E9 (s0 : (Bool × (List Int))) (s1 : (Bool × (List Int))) (s2 : (Bool × (List Int))) (s3 : (List Int)) (s4 : (List Int)) (s5 : Int) (s6 : Int) : Option (((Bool × (List Int)) × ((Bool × (List Int)) × ((Bool × (List Int)) × ((List Int) × ((List Int) × (Int × Int)))))) ⊕ ((Bool × (List Int)) × ((Bool × (List Int)) × ((Bool × (List Int)) × (List Int))))) :=
  bif decide (s6 < s5) then
    ((getI s4 s6)).bind fun x0 =>
    (loopM (fun (s : ((Bool × (List Int)) × ((Bool × (List Int)) × ((Bool × (List Int)) × ((List Int) × (Int × (Int × (Int × ((List Int) × (Int × (Int × ((List Int) × (Int × Int))))))))))))) => Dx s.1 s.2.1 s.2.2.1 s.2.2.2.1 s.2.2.2.2.1 s.2.2.2.2.2.1 s.2.2.2.2.2.2.1 s.2.2.2.2.2.2.2.1 s.2.2.2.2.2.2.2.2.1 s.2.2.2.2.2.2.2.2.2.1 s.2.2.2.2.2.2.2.2.2.2.1 s.2.2.2.2.2.2.2.2.2.2.2.1 s.2.2.2.2.2.2.2.2.2.2.2.2) ((s0.1, s0.2), ((s1.1, s1.2), ((s2.1, s2.2), (s3, (s6, (x0, ((0 : Int), (s4, (s5, (s6, (s1.2, ((((List.length s1.2) : Nat) : Int), (0 : Int)))))))))))))).bind fun x1 =>
    ((idxI (Go.IntKind.wrap Go.IntKind.i64 (x1.2.2.2.2.1 + (((List.length x1.2.1.2) : Nat) : Int))) (List.length x1.2.2.2.1))).bind fun x2 =>
    ((getN x1.2.2.2.1 x2)).bind fun x3 =>
    ((idxI (Go.IntKind.wrap Go.IntKind.i64 (x1.2.2.2.2.1 + (((List.length x1.2.1.2) : Nat) : Int))) (List.length x1.2.2.2.1))).bind fun x4 =>
    ((getN x1.2.2.2.1 x4)).bind fun x5 =>
    some (Sum.inl ((x1.1.1, x1.1.2), ((x1.2.1.1, x1.2.1.2), ((x1.2.2.1.1, x1.2.2.1.2), ((List.set x1.2.2.2.1 x4 (Go.IntKind.wrap Go.IntKind.i64 (x3 + x1.2.2.2.2.2.1))), (x1.2.2.2.2.2.2.1, (x1.2.2.2.2.2.2.2.1, (Go.IntKind.wrap Go.IntKind.i64 (x1.2.2.2.2.2.2.2.2 + (1 : Int))))))))))
  else
  some (Sum.inr ((s0.1, s0.2), ((s1.1, s1.2), ((s2.1, s2.2), s3))))
noncomputable def AM (a0 : (Bool × (List Int))) (a1 : (Bool × (List Int))) : Option (List (Int) × (Bool)) :=
  ((lenI (Go.IntKind.wrap Go.IntKind.i64 ((((List.length a0.2) : Nat) : Int) + (((List.length a1.2) : Nat) : Int))) 8 1)).bind fun x0 =>
  (loopM (fun (s : ((Bool × (List Int)) × ((Bool × (List Int)) × ((Bool × (List Int)) × ((List Int) × ((List Int) × (Int × Int))))))) => E9 s.1 s.2.1 s.2.2.1 s.2.2.2.1 s.2.2.2.2.1 s.2.2.2.2.2.1 s.2.2.2.2.2.2) ((a0.1, a0.2), ((a1.1, a1.2), ((false, (List.nil : List Int)), ((List.replicate x0 (0 : Int)), (a0.2, ((((List.length a0.2) : Nat) : Int), (0 : Int)))))))).bind fun x1 =>
  ((AD (!(x1.1.1 == x1.2.1.1)) x1.2.2.2)).bind fun x2 =>
  some (x2.1, x2.2)
noncomputable def DP : Ent := ⟨J2, fun x => AM x.1 x.2⟩
noncomputable def Pb : TX := ⟨tyTab, codTab, [], [4], [B5], J2⟩
set_option maxHeartbeats 2000000 in
theorem Vh (a0 : (Bool × List (Int))) (a1 : (Bool × List (Int))) : wtF Pb Tryz.f224 (a0, a1) = AM a0 a1 := by kernel_rfl
theorem Eg : EntOK RR DP := Ab (X := Pb) ⟨tyOK, boolOK, eqOK⟩ (Ad (by exact ⟨⟨BW, rfl⟩, trivial⟩)) (Ae (by kernel_rfl)) ⟨Tryz.func224, rfl, by kernel_rfl, rfl⟩ (fun x => by exact Vh x.1 x.2)
noncomputable def IS (s0 : (List Int)) (s1 : (List Int)) (s2 : (List Int)) (s3 : Int) (s4 : Int) : Option (((List Int) × ((List Int) × ((List Int) × (Int × Int)))) ⊕ ((List Int) × ((List Int) × (Int × Int)))) :=
  bif decide ((((List.length s0) : Nat) : Int) < (Go.IntKind.wrap Go.IntKind.i64 ((((List.length s2) : Nat) : Int) + (1 : Int)))) then
    ((appL 8 1 s0 (List.cons (0 : Int) (List.nil : List Int)))).bind fun x0 =>
    some (Sum.inl (x0, (s1, (s2, (s3, s4)))))
  else
  some (Sum.inr (s0, (s1, (s3, s4))))
noncomputable def BQ (s0 : (List Int)) (s1 : (List Int)) (s2 : (List Int)) (s3 : Int) (s4 : Int) (s5 : Int) (s6 : Int) (s7 : Int) : Option (((List Int) × ((List Int) × ((List Int) × (Int × (Int × (Int × (Int × Int))))))) ⊕ ((List Int) × ((List Int) × ((List Int) × (Int × (Int × (Int × Int))))))) :=
  (bif decide (s6 ≥ (65536 : Int)) then
      some (Sum.inr (s0, (s1, (s2, (s3, (s4, (s5, (s6, s7))))))))
    else
    bif decide (s7 < (65536 : Int)) then
      ((idxI (Go.IntKind.wrap Go.IntKind.i64 (s3 - (2 : Int))) (List.length s1))).bind fun x0 =>
      ((getN s1 x0)).bind fun x1 =>
      ((idxI (Go.IntKind.wrap Go.IntKind.i64 ((Go.IntKind.wrap Go.IntKind.i64 (s5 + s3)) - (2 : Int))) (List.length s0))).bind fun x2 =>
      ((getN s0 x2)).bind fun x3 =>
      bif decide ((Go.IntKind.wrap Go.IntKind.i64 (s6 * x1)) > (Go.IntKind.wrap Go.IntKind.i64 ((Go.IntKind.wrap Go.IntKind.i64 (s7 * (65536 : Int))) + x3))) then
        some (Sum.inr (s0, (s1, (s2, (s3, (s4, (s5, (s6, s7))))))))
      else
      some (Sum.inl (Sum.inr (s0, (s1, (s2, (s3, (s4, (s5, s6))))))))
    else
    some (Sum.inl (Sum.inr (s0, (s1, (s2, (s3, (s4, (s5, s6))))))))).bind fun x4 =>
  Sum.elim
    (fun x5 =>
    some x5)
    (fun x6 =>
    ((idxI (Go.IntKind.wrap Go.IntKind.i64 (x6.2.2.2.1 - (1 : Int))) (List.length x6.2.1))).bind fun x7 =>
    ((getN x6.2.1 x7)).bind fun x8 =>
    some (Sum.inl (x6.1, (x6.2.1, (x6.2.2.1, (x6.2.2.2.1, (x6.2.2.2.2.1, (x6.2.2.2.2.2.1, ((Go.IntKind.wrap Go.IntKind.i64 (x6.2.2.2.2.2.2.1 - (1 : Int))), (Go.IntKind.wrap Go.IntKind.i64 (x6.2.2.2.2.2.2.2 + x8)))))))))))
    x4
noncomputable def CO (s0 : (List Int)) (s1 : (List Int)) (s2 : (List Int)) (s3 : Int) (s4 : Int) (s5 : Int) (s6 : Int) (s7 : Int) (s8 : Int) (s9 : Int) : Option (((List Int) × ((List Int) × ((List Int) × (Int × (Int × (Int × (Int × (Int × (Int × Int))))))))) ⊕ ((List Int) × ((List Int) × ((List Int) × (Int × (Int × (Int × (Int × Int)))))))) :=
  bif decide (s9 < s8) then
    ((idxI (Go.IntKind.wrap Go.IntKind.i64 (s5 + s9)) (List.length s0))).bind fun x0 =>
    ((getN s0 x0)).bind fun x1 =>
    ((idxI s9 (List.length s1))).bind fun x2 =>
    ((getN s1 x2)).bind fun x3 =>
    (bif decide ((Go.IntKind.wrap Go.IntKind.i64 ((Go.IntKind.wrap Go.IntKind.i64 (x1 - (Go.IntKind.wrap Go.IntKind.i64 (s6 * x3)))) - s7)) < (0 : Int)) then
        some (Sum.inr (s0, (s1, (s2, (s3, (s4, (s5, (s6, ((Go.IntKind.wrap Go.IntKind.i64 (Int.tdiv (Go.IntKind.wrap Go.IntKind.i64 ((Go.IntKind.wrap Go.IntKind.i64 ((Go.IntKind.wrap Go.IntKind.i64 ((0 : Int) - (Go.IntKind.wrap Go.IntKind.i64 ((Go.IntKind.wrap Go.IntKind.i64 (x1 - (Go.IntKind.wrap Go.IntKind.i64 (s6 * x3)))) - s7)))) + (65536 : Int))) - (1 : Int))) (65536 : Int))), (s9, ((Go.IntKind.wrap Go.IntKind.i64 ((Go.IntKind.wrap Go.IntKind.i64 ((Go.IntKind.wrap Go.IntKind.i64 (x1 - (Go.IntKind.wrap Go.IntKind.i64 (s6 * x3)))) - s7)) + (Go.IntKind.wrap Go.IntKind.i64 ((Go.IntKind.wrap Go.IntKind.i64 (Int.tdiv (Go.IntKind.wrap Go.IntKind.i64 ((Go.IntKind.wrap Go.IntKind.i64 ((Go.IntKind.wrap Go.IntKind.i64 ((0 : Int) - (Go.IntKind.wrap Go.IntKind.i64 ((Go.IntKind.wrap Go.IntKind.i64 (x1 - (Go.IntKind.wrap Go.IntKind.i64 (s6 * x3)))) - s7)))) + (65536 : Int))) - (1 : Int))) (65536 : Int))) * (65536 : Int))))), (s8, s9))))))))))))
      else
      some (Sum.inr (s0, (s1, (s2, (s3, (s4, (s5, (s6, ((0 : Int), (s9, ((Go.IntKind.wrap Go.IntKind.i64 ((Go.IntKind.wrap Go.IntKind.i64 (x1 - (Go.IntKind.wrap Go.IntKind.i64 (s6 * x3)))) - s7)), (s8, s9))))))))))))).bind fun x4 =>
    Sum.elim
      (fun x5 =>
      some x5)
      (fun x6 =>
      ((idxI (Go.IntKind.wrap Go.IntKind.i64 (x6.2.2.2.2.2.1 + x6.2.2.2.2.2.2.2.2.1)) (List.length x6.1))).bind fun x7 =>
      ((getN x6.1 x7)).bind fun x8 =>
      some (Sum.inl ((List.set x6.1 x7 x6.2.2.2.2.2.2.2.2.2.1), (x6.2.1, (x6.2.2.1, (x6.2.2.2.1, (x6.2.2.2.2.1, (x6.2.2.2.2.2.1, (x6.2.2.2.2.2.2.1, (x6.2.2.2.2.2.2.2.1, (x6.2.2.2.2.2.2.2.2.2.2.1, (Go.IntKind.wrap Go.IntKind.i64 (x6.2.2.2.2.2.2.2.2.2.2.2 + (1 : Int))))))))))))))
      x4
  else
  some (Sum.inr (s0, (s1, (s2, (s3, (s4, (s5, (s6, s7))))))))
noncomputable def C0 (s0 : (List Int)) (s1 : (List Int)) (s2 : (List Int)) (s3 : Int) (s4 : Int) (s5 : Int) (s6 : Int) (s7 : Int) (s8 : Int) (s9 : Int) : Option (((List Int) × ((List Int) × ((List Int) × (Int × (Int × (Int × (Int × (Int × (Int × Int))))))))) ⊕ ((List Int) × ((List Int) × ((List Int) × (Int × (Int × (Int × (Int × Int)))))))) :=
  bif decide (s9 < s8) then
    ((idxI (Go.IntKind.wrap Go.IntKind.i64 (s5 + s9)) (List.length s0))).bind fun x0 =>
    ((getN s0 x0)).bind fun x1 =>
    ((idxI s9 (List.length s1))).bind fun x2 =>
    ((getN s1 x2)).bind fun x3 =>
    ((idxI (Go.IntKind.wrap Go.IntKind.i64 (s5 + s9)) (List.length s0))).bind fun x4 =>
    ((getN s0 x4)).bind fun x5 =>
    some (Sum.inl ((List.set s0 x4 (Int.tmod (Go.IntKind.wrap Go.IntKind.i64 (s7 + (Go.IntKind.wrap Go.IntKind.i64 (x1 + x3)))) (65536 : Int))), (s1, (s2, (s3, (s4, (s5, (s6, ((Go.IntKind.wrap Go.IntKind.i64 (Int.tdiv (Go.IntKind.wrap Go.IntKind.i64 (s7 + (Go.IntKind.wrap Go.IntKind.i64 (x1 + x3)))) (65536 : Int))), (s8, (Go.IntKind.wrap Go.IntKind.i64 (s9 + (1 : Int)))))))))))))
  else
  some (Sum.inr (s0, (s1, (s2, (s3, (s4, (s5, (s6, s7))))))))
noncomputable def BP (s0 : (List Int)) (s1 : (List Int)) (s2 : (List Int)) (s3 : Int) (s4 : Int) (s5 : Int) : Option (((List Int) × ((List Int) × ((List Int) × (Int × (Int × Int))))) ⊕ ((List Int) × ((List Int) × (Int × Int)))) :=
  bif decide (s5 ≥ (0 : Int)) then
    ((idxI (Go.IntKind.wrap Go.IntKind.i64 (s5 + s3)) (List.length s0))).bind fun x0 =>
    ((getN s0 x0)).bind fun x1 =>
    ((idxI (Go.IntKind.wrap Go.IntKind.i64 ((Go.IntKind.wrap Go.IntKind.i64 (s5 + s3)) - (1 : Int))) (List.length s0))).bind fun x2 =>
    ((getN s0 x2)).bind fun x3 =>
    ((idxI (Go.IntKind.wrap Go.IntKind.i64 (s3 - (1 : Int))) (List.length s1))).bind fun x4 =>
    ((getN s1 x4)).bind fun x5 =>
    bif (x5 == (0 : Int)) then
      none
    else
    ((idxI (Go.IntKind.wrap Go.IntKind.i64 (s3 - (1 : Int))) (List.length s1))).bind fun x6 =>
    ((getN s1 x6)).bind fun x7 =>
    bif (x7 == (0 : Int)) then
      none
    else
    (loopM (fun (s : ((List Int) × ((List Int) × ((List Int) × (Int × (Int × (Int × (Int × Int)))))))) => BQ s.1 s.2.1 s.2.2.1 s.2.2.2.1 s.2.2.2.2.1 s.2.2.2.2.2.1 s.2.2.2.2.2.2.1 s.2.2.2.2.2.2.2) (s0, (s1, (s2, (s3, (s4, (s5, ((Go.IntKind.wrap Go.IntKind.i64 (Int.tdiv (Go.IntKind.wrap Go.IntKind.i64 ((Go.IntKind.wrap Go.IntKind.i64 (x1 * (65536 : Int))) + x3)) x5)), (Int.tmod (Go.IntKind.wrap Go.IntKind.i64 ((Go.IntKind.wrap Go.IntKind.i64 (x1 * (65536 : Int))) + x3)) x7))))))))).bind fun x8 =>
    (loopM (fun (s : ((List Int) × ((List Int) × ((List Int) × (Int × (Int × (Int × (Int × (Int × (Int × Int)))))))))) => CO s.1 s.2.1 s.2.2.1 s.2.2.2.1 s.2.2.2.2.1 s.2.2.2.2.2.1 s.2.2.2.2.2.2.1 s.2.2.2.2.2.2.2.1 s.2.2.2.2.2.2.2.2.1 s.2.2.2.2.2.2.2.2.2) (x8.1, (x8.2.1, (x8.2.2.1, (x8.2.2.2.1, (x8.2.2.2.2.1, (x8.2.2.2.2.2.1, (x8.2.2.2.2.2.2, ((0 : Int), (x8.2.2.2.1, (0 : Int))))))))))).bind fun x9 =>
    ((idxI (Go.IntKind.wrap Go.IntKind.i64 (x9.2.2.2.2.2.1 + x9.2.2.2.1)) (List.length x9.1))).bind fun x10 =>
    ((getN x9.1 x10)).bind fun x11 =>
    ((idxI (Go.IntKind.wrap Go.IntKind.i64 (x9.2.2.2.2.2.1 + x9.2.2.2.1)) (List.length x9.1))).bind fun x12 =>
    ((getN x9.1 x12)).bind fun x13 =>
    ((idxI (Go.IntKind.wrap Go.IntKind.i64 (x9.2.2.2.2.2.1 + x9.2.2.2.1)) (List.length (List.set x9.1 x12 (Go.IntKind.wrap Go.IntKind.i64 (x11 - x9.2.2.2.2.2.2.2)))))).bind fun x14 =>
    ((getN (List.set x9.1 x12 (Go.IntKind.wrap Go.IntKind.i64 (x11 - x9.2.2.2.2.2.2.2))) x14)).bind fun x15 =>
    bif decide (x15 < (0 : Int)) then
      (loopM (fun (s : ((List Int) × ((List Int) × ((List Int) × (Int × (Int × (Int × (Int × (Int × (Int × Int)))))))))) => C0 s.1 s.2.1 s.2.2.1 s.2.2.2.1 s.2.2.2.2.1 s.2.2.2.2.2.1 s.2.2.2.2.2.2.1 s.2.2.2.2.2.2.2.1 s.2.2.2.2.2.2.2.2.1 s.2.2.2.2.2.2.2.2.2) ((List.set x9.1 x12 (Go.IntKind.wrap Go.IntKind.i64 (x11 - x9.2.2.2.2.2.2.2))), (x9.2.1, (x9.2.2.1, (x9.2.2.2.1, (x9.2.2.2.2.1, (x9.2.2.2.2.2.1, ((Go.IntKind.wrap Go.IntKind.i64 (x9.2.2.2.2.2.2.1 - (1 : Int))), ((0 : Int), (x9.2.2.2.1, (0 : Int))))))))))).bind fun x16 =>
      ((idxI (Go.IntKind.wrap Go.IntKind.i64 (x16.2.2.2.2.2.1 + x16.2.2.2.1)) (List.length x16.1))).bind fun x17 =>
      ((getN x16.1 x17)).bind fun x18 =>
      ((idxI (Go.IntKind.wrap Go.IntKind.i64 (x16.2.2.2.2.2.1 + x16.2.2.2.1)) (List.length x16.1))).bind fun x19 =>
      ((getN x16.1 x19)).bind fun x20 =>
      ((idxI x16.2.2.2.2.2.1 (List.length x16.2.2.1))).bind fun x21 =>
      ((getN x16.2.2.1 x21)).bind fun x22 =>
      some (Sum.inl ((List.set x16.1 x19 (Go.IntKind.wrap Go.IntKind.i64 (x18 + x16.2.2.2.2.2.2.2))), (x16.2.1, ((List.set x16.2.2.1 x21 x16.2.2.2.2.2.2.1), (x16.2.2.2.1, (x16.2.2.2.2.1, (Go.IntKind.wrap Go.IntKind.i64 (x16.2.2.2.2.2.1 - (1 : Int)))))))))
    else
    ((idxI x9.2.2.2.2.2.1 (List.length x9.2.2.1))).bind fun x23 =>
    ((getN x9.2.2.1 x23)).bind fun x24 =>
    some (Sum.inl ((List.set x9.1 x12 (Go.IntKind.wrap Go.IntKind.i64 (x11 - x9.2.2.2.2.2.2.2))), (x9.2.1, ((List.set x9.2.2.1 x23 x9.2.2.2.2.2.2.1), (x9.2.2.2.1, (x9.2.2.2.2.1, (Go.IntKind.wrap Go.IntKind.i64 (x9.2.2.2.2.2.1 - (1 : Int)))))))))
  else
  some (Sum.inr (s0, (s2, (s3, s4))))
noncomputable def Dg (a0 : (List Int)) (a1 : (List Int)) : Option (List (Int) × List (Int)) :=
  ((A0 a0 a1)).bind fun x0 =>
  bif decide (x0 < (0 : Int)) then
    some ((List.nil : List Int), a0)
  else
  bif ((((List.length a1) : Nat) : Int) == (1 : Int)) then
    ((getI a1 (0 : Int))).bind fun x1 =>
    ((Dj a0 x1)).bind fun x2 =>
    ((Fe (List.cons x2.2 (List.nil : List Int)))).bind fun x3 =>
    some (x2.1, x3)
  else
  ((getI a1 (Go.IntKind.wrap Go.IntKind.i64 ((((List.length a1) : Nat) : Int) - (1 : Int))))).bind fun x4 =>
  bif ((Go.IntKind.wrap Go.IntKind.i64 (x4 + (1 : Int))) == (0 : Int)) then
    none
  else
  ((AD false a0)).bind fun x5 =>
  ((A7 (Go.IntKind.wrap Go.IntKind.i64 (Int.tdiv (65536 : Int) (Go.IntKind.wrap Go.IntKind.i64 (x4 + (1 : Int))))))).bind fun x6 =>
  ((AM (x5.2, x5.1) (x6.1, x6.2))).bind fun x7 =>
  ((appL 8 1 x7.1 (List.cons (0 : Int) (List.nil : List Int)))).bind fun x8 =>
  ((AD false a1)).bind fun x9 =>
  ((A7 (Go.IntKind.wrap Go.IntKind.i64 (Int.tdiv (65536 : Int) (Go.IntKind.wrap Go.IntKind.i64 (x4 + (1 : Int))))))).bind fun x10 =>
  ((AM (x9.2, x9.1) (x10.1, x10.2))).bind fun x11 =>
  (loopM (fun (s : ((List Int) × ((List Int) × ((List Int) × (Int × Int))))) => IS s.1 s.2.1 s.2.2.1 s.2.2.2.1 s.2.2.2.2) (x8, (x11.1, (a0, ((((List.length a1) : Nat) : Int), (Go.IntKind.wrap Go.IntKind.i64 (Int.tdiv (65536 : Int) (Go.IntKind.wrap Go.IntKind.i64 (x4 + (1 : Int)))))))))).bind fun x12 =>
  ((lenI (Go.IntKind.wrap Go.IntKind.i64 ((((List.length x12.1) : Nat) : Int) - x12.2.2.1)) 8 1)).bind fun x13 =>
  (loopM (fun (s : ((List Int) × ((List Int) × ((List Int) × (Int × (Int × Int)))))) => BP s.1 s.2.1 s.2.2.1 s.2.2.2.1 s.2.2.2.2.1 s.2.2.2.2.2) (x12.1, (x12.2.1, ((List.replicate x13 (0 : Int)), (x12.2.2.1, (x12.2.2.2, (Go.IntKind.wrap Go.IntKind.i64 ((Go.IntKind.wrap Go.IntKind.i64 ((((List.length x12.1) : Nat) : Int) - x12.2.2.1)) - (1 : Int))))))))).bind fun x14 =>
  ((subI (0 : Int) x14.2.2.1 (List.length x14.1))).bind fun x15 =>
  ((Fe (List.drop x15.1 (List.take (x15.1 + (x15.2 - x15.1)) x14.1)))).bind fun x16 =>
  ((Dj x16 x14.2.2.2)).bind fun x17 =>
  ((Fe x14.2.1)).bind fun x18 =>
  some (x18, x17.1)
noncomputable def HS : Ent := ⟨H9, fun x => Dg x.1 x.2⟩
noncomputable def LS : TX := ⟨tyTab, codTab, [], [4], [Db, LV, LF, B5, D3, DP], H9⟩
set_option maxHeartbeats 2000000 in
theorem U1 (a0 : List (Int)) (a1 : List (Int)) : wtF LS Tryz.f275 (a0, a1) = Dg a0 a1 := by kernel_rfl
theorem KN : EntOK RR HS := Ab (X := LS) ⟨tyOK, boolOK, eqOK⟩ (Ad (by exact ⟨⟨El, rfl⟩, ⟨⟨Se, rfl⟩, ⟨⟨Mi, rfl⟩, ⟨⟨BW, rfl⟩, ⟨⟨DM, rfl⟩, ⟨⟨Eg, rfl⟩, trivial⟩⟩⟩⟩⟩⟩)) (Ae (by kernel_rfl)) ⟨Tryz.func275, rfl, by kernel_rfl, rfl⟩ (fun x => by exact U1 x.1 x.2)
noncomputable def Fc (s0 : (Bool × (List Int))) (s1 : (List Int)) (s2 : (List Int)) : Option (((Bool × (List Int)) × ((List Int) × (List Int))) ⊕ ((Bool × (List Int)) × (List Int))) :=
  bif decide ((((List.length s2) : Nat) : Int) > (0 : Int)) then
    ((Dg s1 s2)).bind fun x0 =>
    some (Sum.inl ((s0.1, s0.2), (s2, x0.2)))
  else
  some (Sum.inr ((s0.1, s0.2), s1))
noncomputable def DQ (a0 : (Bool × (List Int))) (a1 : (Bool × (List Int))) : Option ((Bool × List (Int))) :=
  (loopM (fun (s : ((Bool × (List Int)) × ((List Int) × (List Int)))) => Fc s.1 s.2.1 s.2.2) ((false, (List.nil : List Int)), (a0.2, a1.2))).bind fun x0 =>
  ((AD false x0.2)).bind fun x1 =>
  some (x1.2, x1.1)
noncomputable def I2 : Ent := ⟨IU, fun x => DQ x.1 x.2⟩
noncomputable def O1 : TX := ⟨tyTab, codTab, [], [4], [HS, B5], IU⟩
set_option maxHeartbeats 2000000 in
theorem WF (a0 : (Bool × List (Int))) (a1 : (Bool × List (Int))) : wtF O1 Tryz.f220 (a0, a1) = DQ a0 a1 := by kernel_rfl
theorem MC : EntOK RR I2 := Ab (X := O1) ⟨tyOK, boolOK, eqOK⟩ (Ad (by exact ⟨⟨KN, rfl⟩, ⟨⟨BW, rfl⟩, trivial⟩⟩)) (Ae (by kernel_rfl)) ⟨Tryz.func220, rfl, by kernel_rfl, rfl⟩ (fun x => by exact WF x.1 x.2)
noncomputable def BL (a0 : (Bool × (List Int))) (a1 : (Bool × (List Int))) : Option (Int) :=
  ((AG (a0.1, a0.2))).bind fun x0 =>
  ((AG (a1.1, a1.2))).bind fun x1 =>
  bif (x0 != x1) then
    ((AG (a0.1, a0.2))).bind fun x2 =>
    ((AG (a1.1, a1.2))).bind fun x3 =>
    ((A6 x2 x3)).bind fun x4 =>
    some x4
  else
  ((AG (a0.1, a0.2))).bind fun x5 =>
  ((A0 a0.2 a1.2)).bind fun x6 =>
  some (Go.IntKind.wrap Go.IntKind.i64 (x5 * x6))
noncomputable def Ei : Ent := ⟨Ga, fun x => BL x.1 x.2⟩
noncomputable def I3 : TX := ⟨tyTab, codTab, [], [4], [De, Ec, Db], Ga⟩
set_option maxHeartbeats 2000000 in
theorem Rw (a0 : (Bool × List (Int))) (a1 : (Bool × List (Int))) : wtF I3 Tryz.f219 (a0, a1) = BL a0 a1 := by kernel_rfl
theorem FF : EntOK RR Ei := Ab (X := I3) ⟨tyOK, boolOK, eqOK⟩ (Ad (by exact ⟨⟨Dt, rfl⟩, ⟨⟨Gi, rfl⟩, ⟨⟨El, rfl⟩, trivial⟩⟩⟩)) (Ae (by kernel_rfl)) ⟨Tryz.func219, rfl, by kernel_rfl, rfl⟩ (fun x => by exact Rw x.1 x.2)
noncomputable def Cg (a0 : (Bool × ((List Int) × (Bool × (List Int))))) : Option (Bool) :=
  ((ET (List.cons (a0.1, a0.2.1) (List.cons (a0.2.2.1, a0.2.2.2) (List.nil : List (Bool × (List Int))))))).bind fun x0 =>
  bif x0 then
    ((AG (a0.2.2.1, a0.2.2.2))).bind fun x1 =>
    bif decide (x1 > (0 : Int)) then
      ((DQ (a0.1, a0.2.1) (a0.2.2.1, a0.2.2.2))).bind fun x2 =>
      ((A7 (1 : Int))).bind fun x3 =>
      ((BL (x2.1, x2.2) (x3.1, x3.2))).bind fun x4 =>
      some (x4 == (0 : Int))
    else
    some false
  else
  some false
noncomputable def Fo : Ent := ⟨I4, fun x => Cg x⟩
noncomputable def O7 : TX := ⟨tyTab, codTab, [], [4], [Qh, De, I2, D3, Ei], I4⟩
set_option maxHeartbeats 2000000 in
theorem WL (a0 : (Bool × List (Int) × Bool × List (Int))) : wtF O7 Tryz.f105 (a0) = Cg a0 := by kernel_rfl
theorem FN : EntOK RR Fo := Ab (X := O7) ⟨tyOK, boolOK, eqOK⟩ (Ad (by exact ⟨⟨V1, rfl⟩, ⟨⟨Dt, rfl⟩, ⟨⟨MC, rfl⟩, ⟨⟨DM, rfl⟩, ⟨⟨FF, rfl⟩, trivial⟩⟩⟩⟩⟩)) (Ae (by kernel_rfl)) ⟨Tryz.func105, rfl, by kernel_rfl, rfl⟩ (fun x => by exact WL x)
noncomputable def Fb (s0 : (List ((Bool × (List Int)) × (Bool × (List Int))))) (s1 : Int) (s2 : Int) : Option (((List ((Bool × (List Int)) × (Bool × (List Int)))) × (Int × Int)) ⊕ (Unit ⊕ Bool)) :=
  bif decide (s2 < s1) then
    ((getI s0 s2)).bind fun x0 =>
    ((Cg (x0.1.1, (x0.1.2, (x0.2.1, x0.2.2))))).bind fun x1 =>
    bif (!x1) then
      some (Sum.inr (Sum.inr false))
    else
    some (Sum.inl (s0, (s1, (Go.IntKind.wrap Go.IntKind.i64 (s2 + (1 : Int))))))
  else
  some (Sum.inr (Sum.inl ()))
noncomputable def Fi (a0 : (List ((Bool × (List Int)) × (Bool × (List Int))))) : Option (Bool) :=
  (loopM (fun (s : ((List ((Bool × (List Int)) × (Bool × (List Int)))) × (Int × Int))) => Fb s.1 s.2.1 s.2.2) (a0, ((((List.length a0) : Nat) : Int), (0 : Int)))).bind fun x0 =>
  Sum.elim
    (fun x1 =>
    some true)
    (fun x2 =>
    some x2)
    x0
noncomputable def OD : Ent := ⟨I6, fun x => Fi x⟩
noncomputable def OG : TX := ⟨tyTab, codTab, [], [4], [Fo], I6⟩
set_option maxHeartbeats 2000000 in
theorem V2 (a0 : List (((Bool × List (Int)) × (Bool × List (Int))))) : wtF OG Tryz.f129 (a0) = Fi a0 := by kernel_rfl
theorem UZ : EntOK RR OD := Ab (X := OG) ⟨tyOK, boolOK, eqOK⟩ (Ad (by exact ⟨⟨FN, rfl⟩, trivial⟩)) (Ae (by kernel_rfl)) ⟨Tryz.func129, rfl, by kernel_rfl, rfl⟩ (fun x => by exact V2 x)
noncomputable def Bq (a0 : (Bool × ((List Int) × (Bool × (List Int))))) (a1 : (Bool × ((List Int) × (Bool × (List Int))))) : Option (Int) :=
  ((AM (a0.1, a0.2.1) (a1.2.2.1, a1.2.2.2))).bind fun x0 =>
  ((AM (a1.1, a1.2.1) (a0.2.2.1, a0.2.2.2))).bind fun x1 =>
  ((BL (x0.2, x0.1) (x1.2, x1.1))).bind fun x2 =>
  some x2
noncomputable def CM : Ent := ⟨F8, fun x => Bq x.1 x.2⟩
noncomputable def JG : TX := ⟨tyTab, codTab, [], [4], [DP, Ei], F8⟩
set_option maxHeartbeats 2000000 in
theorem QX (a0 : (Bool × List (Int) × Bool × List (Int))) (a1 : (Bool × List (Int) × Bool × List (Int))) : wtF JG Tryz.f138 (a0, a1) = Bq a0 a1 := by kernel_rfl
theorem DF : EntOK RR CM := Ab (X := JG) ⟨tyOK, boolOK, eqOK⟩ (Ad (by exact ⟨⟨Eg, rfl⟩, ⟨⟨FF, rfl⟩, trivial⟩⟩)) (Ae (by kernel_rfl)) ⟨Tryz.func138, rfl, by kernel_rfl, rfl⟩ (fun x => by exact QX x.1 x.2)
noncomputable def Cn (a0 : (Bool × ((List Int) × (Bool × (List Int))))) (a1 : (Bool × ((List Int) × (Bool × (List Int))))) : Option (Bool) :=
  ((Bq (a0.1, (a0.2.1, (a0.2.2.1, a0.2.2.2))) (a1.1, (a1.2.1, (a1.2.2.1, a1.2.2.2))))).bind fun x0 =>
  some (decide (x0 < (0 : Int)))
noncomputable def H1 : Ent := ⟨H4, fun x => Cn x.1 x.2⟩
noncomputable def LR : TX := ⟨tyTab, codTab, [], [4], [CM], H4⟩
set_option maxHeartbeats 2000000 in
theorem UX (a0 : (Bool × List (Int) × Bool × List (Int))) (a1 : (Bool × List (Int) × Bool × List (Int))) : wtF LR Tryz.f130 (a0, a1) = Cn a0 a1 := by kernel_rfl
theorem KO : EntOK RR H1 := Ab (X := LR) ⟨tyOK, boolOK, eqOK⟩ (Ad (by exact ⟨⟨DF, rfl⟩, trivial⟩)) (Ae (by kernel_rfl)) ⟨Tryz.func130, rfl, by kernel_rfl, rfl⟩ (fun x => by exact UX x.1 x.2)
noncomputable def Bx (a0 : (Bool × ((List Int) × (Bool × ((List Int) × (Bool × ((List Int) × (Bool × (List Int))))))))) : Option (Bool) :=
  ((Fi (List.cons ((a0.1, a0.2.1), (a0.2.2.1, a0.2.2.2.1)) (List.cons ((a0.2.2.2.2.1, a0.2.2.2.2.2.1), (a0.2.2.2.2.2.2.1, a0.2.2.2.2.2.2.2)) (List.nil : List ((Bool × (List Int)) × (Bool × (List Int)))))))).bind fun x0 =>
  bif x0 then
    ((Cn (a0.2.2.2.2.1, (a0.2.2.2.2.2.1, (a0.2.2.2.2.2.2.1, a0.2.2.2.2.2.2.2))) (a0.1, (a0.2.1, (a0.2.2.1, a0.2.2.2.1))))).bind fun x1 =>
    some (!x1)
  else
  some false
noncomputable def En : Ent := ⟨HQ, fun x => Bx x⟩
noncomputable def LK : TX := ⟨tyTab, codTab, [], [4], [OD, H1], HQ⟩
set_option maxHeartbeats 2000000 in
theorem T8 (a0 : (Bool × List (Int) × Bool × List (Int) × Bool × List (Int) × Bool × List (Int))) : wtF LK Tryz.f39 (a0) = Bx a0 := by kernel_rfl
theorem Ff : EntOK RR En := Ab (X := LK) ⟨tyOK, boolOK, eqOK⟩ (Ad (by exact ⟨⟨UZ, rfl⟩, ⟨⟨KO, rfl⟩, trivial⟩⟩)) (Ae (by kernel_rfl)) ⟨Tryz.func39, rfl, by kernel_rfl, rfl⟩ (fun x => by exact T8 x)
noncomputable def Cz (a0 : Int) : Option ((Bool × List (Int) × Bool × List (Int))) :=
  ((A7 a0)).bind fun x0 =>
  ((A7 (1 : Int))).bind fun x1 =>
  some (x0.1, (x0.2, (x1.1, x1.2)))
noncomputable def Kg : Ent := ⟨NK, fun x => Cz x⟩
noncomputable def Tk : TX := ⟨tyTab, codTab, [], [4], [D3], NK⟩
set_option maxHeartbeats 2000000 in
theorem Z6 (a0 : Int) : wtF Tk Tryz.f111 (a0) = Cz a0 := by kernel_rfl
theorem K0 : EntOK RR Kg := Ab (X := Tk) ⟨tyOK, boolOK, eqOK⟩ (Ad (by exact ⟨⟨DM, rfl⟩, trivial⟩)) (Ae (by kernel_rfl)) ⟨Tryz.func111, rfl, by kernel_rfl, rfl⟩ (fun x => by exact Z6 x)
noncomputable def CS (s0 : (List Int)) (s1 : (List Int)) (s2 : (List Int)) (s3 : Int) (s4 : Int) : Option (((List Int) × ((List Int) × ((List Int) × (Int × Int)))) ⊕ (List Int)) :=
  (bif decide (s4 < (maxL (List.cons (((List.length s1) : Nat) : Int) (List.cons (((List.length s2) : Nat) : Int) (List.nil : List Int))))) then
      some (Sum.inr (s0, (s1, (s2, (s3, s4)))))
    else
    bif decide (s3 > (0 : Int)) then
      some (Sum.inr (s0, (s1, (s2, (s3, s4)))))
    else
    some (Sum.inl (Sum.inr s0))).bind fun x0 =>
  Sum.elim
    (fun x1 =>
    some x1)
    (fun x2 =>
    (bif decide (x2.2.2.2.2 < (((List.length x2.2.1) : Nat) : Int)) then
        ((getI x2.2.1 x2.2.2.2.2)).bind fun x3 =>
        some (Sum.inr (x2.1, (x2.2.1, (x2.2.2.1, ((Go.IntKind.wrap Go.IntKind.i64 (x2.2.2.2.1 + x3)), x2.2.2.2.2)))))
      else
      some (Sum.inr (x2.1, (x2.2.1, (x2.2.2.1, (x2.2.2.2.1, x2.2.2.2.2)))))).bind fun x4 =>
    Sum.elim
      (fun x5 =>
      some x5)
      (fun x6 =>
      (bif decide (x6.2.2.2.2 < (((List.length x6.2.2.1) : Nat) : Int)) then
          ((getI x6.2.2.1 x6.2.2.2.2)).bind fun x7 =>
          some (Sum.inr (x6.1, (x6.2.1, (x6.2.2.1, ((Go.IntKind.wrap Go.IntKind.i64 (x6.2.2.2.1 + x7)), x6.2.2.2.2)))))
        else
        some (Sum.inr (x6.1, (x6.2.1, (x6.2.2.1, (x6.2.2.2.1, x6.2.2.2.2)))))).bind fun x8 =>
      Sum.elim
        (fun x9 =>
        some x9)
        (fun x10 =>
        ((appL 8 1 x10.1 (List.cons (Int.tmod x10.2.2.2.1 (65536 : Int)) (List.nil : List Int)))).bind fun x11 =>
        some (Sum.inl (x11, (x10.2.1, (x10.2.2.1, ((Go.IntKind.wrap Go.IntKind.i64 (Int.tdiv x10.2.2.2.1 (65536 : Int))), (Go.IntKind.wrap Go.IntKind.i64 (x10.2.2.2.2 + (1 : Int)))))))))
        x8)
      x4)
    x0
noncomputable def D9 (a0 : (List Int)) (a1 : (List Int)) : Option (List (Int)) :=
  (loopM (fun (s : ((List Int) × ((List Int) × ((List Int) × (Int × Int))))) => CS s.1 s.2.1 s.2.2.1 s.2.2.2.1 s.2.2.2.2) ((List.nil : List Int), (a0, (a1, ((0 : Int), (0 : Int)))))).bind fun x0 =>
  some x0
noncomputable def MQ : Ent := ⟨H3, fun x => D9 x.1 x.2⟩
noncomputable def MF : TX := ⟨tyTab, codTab, [], [4], [], H3⟩
set_option maxHeartbeats 2000000 in
theorem UA (a0 : List (Int)) (a1 : List (Int)) : wtF MF Tryz.f235 (a0, a1) = D9 a0 a1 := by kernel_rfl
theorem R2 : EntOK RR MQ := Ab (X := MF) ⟨tyOK, boolOK, eqOK⟩ (Ad (by exact trivial)) (Ae (by kernel_rfl)) ⟨Tryz.func235, rfl, by kernel_rfl, rfl⟩ (fun x => by exact UA x.1 x.2)
noncomputable def Ek (s0 : (List Int)) (s1 : (List Int)) (s2 : Int) (s3 : Int) (s4 : Int) : Option (((List Int) × ((List Int) × (Int × (Int × Int)))) ⊕ (List Int)) :=
  bif decide (s4 < s3) then
    ((idxI s4 (List.length s0))).bind fun x0 =>
    ((getN s0 x0)).bind fun x1 =>
    ((idxI s4 (List.length s0))).bind fun x2 =>
    ((getN s0 x2)).bind fun x3 =>
    (bif decide (s4 < (((List.length s1) : Nat) : Int)) then
        ((idxI s4 (List.length (List.set s0 x2 (Go.IntKind.wrap Go.IntKind.i64 (x1 - s2)))))).bind fun x4 =>
        ((getN (List.set s0 x2 (Go.IntKind.wrap Go.IntKind.i64 (x1 - s2))) x4)).bind fun x5 =>
        ((getI s1 s4)).bind fun x6 =>
        ((idxI s4 (List.length (List.set s0 x2 (Go.IntKind.wrap Go.IntKind.i64 (x1 - s2)))))).bind fun x7 =>
        ((getN (List.set s0 x2 (Go.IntKind.wrap Go.IntKind.i64 (x1 - s2))) x7)).bind fun x8 =>
        some (Sum.inr ((List.set (List.set s0 x2 (Go.IntKind.wrap Go.IntKind.i64 (x1 - s2))) x7 (Go.IntKind.wrap Go.IntKind.i64 (x5 - x6))), (s1, (s4, (s3, s4)))))
      else
      some (Sum.inr ((List.set s0 x2 (Go.IntKind.wrap Go.IntKind.i64 (x1 - s2))), (s1, (s4, (s3, s4)))))).bind fun x9 =>
    Sum.elim
      (fun x10 =>
      some x10)
      (fun x11 =>
      ((idxI x11.2.2.1 (List.length x11.1))).bind fun x12 =>
      ((getN x11.1 x12)).bind fun x13 =>
      bif decide (x13 < (0 : Int)) then
        ((idxI x11.2.2.1 (List.length x11.1))).bind fun x14 =>
        ((getN x11.1 x14)).bind fun x15 =>
        ((idxI x11.2.2.1 (List.length x11.1))).bind fun x16 =>
        ((getN x11.1 x16)).bind fun x17 =>
        some (Sum.inl ((List.set x11.1 x16 (Go.IntKind.wrap Go.IntKind.i64 (x15 + (65536 : Int)))), (x11.2.1, ((1 : Int), (x11.2.2.2.1, (Go.IntKind.wrap Go.IntKind.i64 (x11.2.2.2.2 + (1 : Int))))))))
      else
      some (Sum.inl (x11.1, (x11.2.1, ((0 : Int), (x11.2.2.2.1, (Go.IntKind.wrap Go.IntKind.i64 (x11.2.2.2.2 + (1 : Int)))))))))
      x9
  else
  some (Sum.inr s0)
noncomputable def Da (a0 : (List Int)) (a1 : (List Int)) : Option (List (Int)) :=
  ((AZ a0)).bind fun x0 =>
  (loopM (fun (s : ((List Int) × ((List Int) × (Int × (Int × Int))))) => Ek s.1 s.2.1 s.2.2.1 s.2.2.2.1 s.2.2.2.2) (x0, (a1, ((0 : Int), ((((List.length x0) : Nat) : Int), (0 : Int)))))).bind fun x1 =>
  ((Fe x1)).bind fun x2 =>
  some x2
noncomputable def MM : Ent := ⟨Ij, fun x => Da x.1 x.2⟩
noncomputable def LU : TX := ⟨tyTab, codTab, [], [4], [Cb, LF], Ij⟩
set_option maxHeartbeats 2000000 in
theorem Uf (a0 : List (Int)) (a1 : List (Int)) : wtF LU Tryz.f236 (a0, a1) = Da a0 a1 := by kernel_rfl
theorem R8 : EntOK RR MM := Ab (X := LU) ⟨tyOK, boolOK, eqOK⟩ (Ad (by exact ⟨⟨Du, rfl⟩, ⟨⟨Mi, rfl⟩, trivial⟩⟩)) (Ae (by kernel_rfl)) ⟨Tryz.func236, rfl, by kernel_rfl, rfl⟩ (fun x => by exact Uf x.1 x.2)
noncomputable def CX (a0 : (Bool × (List Int))) (a1 : (Bool × (List Int))) : Option ((Bool × List (Int))) :=
  bif (a0.1 == a1.1) then
    ((D9 a0.2 a1.2)).bind fun x0 =>
    ((AD a0.1 x0)).bind fun x1 =>
    some (x1.2, x1.1)
  else
  ((A0 a0.2 a1.2)).bind fun x2 =>
  bif decide (x2 ≥ (0 : Int)) then
    ((Da a0.2 a1.2)).bind fun x3 =>
    ((AD a0.1 x3)).bind fun x4 =>
    some (x4.2, x4.1)
  else
  ((Da a1.2 a0.2)).bind fun x5 =>
  ((AD a1.1 x5)).bind fun x6 =>
  some (x6.2, x6.1)
noncomputable def GQ : Ent := ⟨Ja, fun x => CX x.1 x.2⟩
noncomputable def Oi : TX := ⟨tyTab, codTab, [], [4], [MQ, B5, Db, MM], Ja⟩
set_option maxHeartbeats 2000000 in
theorem WW (a0 : (Bool × List (Int))) (a1 : (Bool × List (Int))) : wtF Oi Tryz.f132 (a0, a1) = CX a0 a1 := by kernel_rfl
theorem Iy : EntOK RR GQ := Ab (X := Oi) ⟨tyOK, boolOK, eqOK⟩ (Ad (by exact ⟨⟨R2, rfl⟩, ⟨⟨BW, rfl⟩, ⟨⟨El, rfl⟩, ⟨⟨R8, rfl⟩, trivial⟩⟩⟩⟩)) (Ae (by kernel_rfl)) ⟨Tryz.func132, rfl, by kernel_rfl, rfl⟩ (fun x => by exact WW x.1 x.2)
noncomputable def CZ (a0 : (Bool × (List Int))) : Option ((Bool × List (Int))) :=
  ((AD (!a0.1) a0.2)).bind fun x0 =>
  some (x0.2, x0.1)
noncomputable def GC : Ent := ⟨JB, fun x => CZ x⟩
noncomputable def O0 : TX := ⟨tyTab, codTab, [], [4], [B5], JB⟩
set_option maxHeartbeats 2000000 in
theorem Wi (a0 : (Bool × List (Int))) : wtF O0 Tryz.f233 (a0) = CZ a0 := by kernel_rfl
theorem Iu : EntOK RR GC := Ab (X := O0) ⟨tyOK, boolOK, eqOK⟩ (Ad (by exact ⟨⟨BW, rfl⟩, trivial⟩)) (Ae (by kernel_rfl)) ⟨Tryz.func233, rfl, by kernel_rfl, rfl⟩ (fun x => by exact Wi x)
noncomputable def BU (a0 : (Bool × (List Int))) (a1 : (Bool × (List Int))) : Option ((Bool × List (Int)) × (Bool × List (Int))) :=
  ((Dg a0.2 a1.2)).bind fun x0 =>
  ((AD (!(a0.1 == a1.1)) x0.1)).bind fun x1 =>
  ((AD a0.1 x0.2)).bind fun x2 =>
  some ((x1.2, x1.1), (x2.2, x2.1))
noncomputable def GH : Ent := ⟨IQ, fun x => BU x.1 x.2⟩
noncomputable def Ot : TX := ⟨tyTab, codTab, [], [4], [HS, B5], IQ⟩
set_option maxHeartbeats 2000000 in
theorem VW (a0 : (Bool × List (Int))) (a1 : (Bool × List (Int))) : wtF Ot Tryz.f234 (a0, a1) = BU a0 a1 := by kernel_rfl
theorem HW : EntOK RR GH := Ab (X := Ot) ⟨tyOK, boolOK, eqOK⟩ (Ad (by exact ⟨⟨KN, rfl⟩, ⟨⟨BW, rfl⟩, trivial⟩⟩)) (Ae (by kernel_rfl)) ⟨Tryz.func234, rfl, by kernel_rfl, rfl⟩ (fun x => by exact VW x.1 x.2)
noncomputable def D1 (a0 : (Bool × (List Int))) (a1 : (Bool × (List Int))) : Option ((Bool × List (Int) × Bool × List (Int))) :=
  ((DQ (a0.1, a0.2) (a1.1, a1.2))).bind fun x0 =>
  (bif a1.1 then
      ((CZ (x0.1, x0.2))).bind fun x1 =>
      some (Sum.inr ((a0.1, a0.2), ((a1.1, a1.2), ((false, ((List.nil : List Int), (false, (List.nil : List Int)))), (x1.1, x1.2)))))
    else
    some (Sum.inr ((a0.1, a0.2), ((a1.1, a1.2), ((false, ((List.nil : List Int), (false, (List.nil : List Int)))), (x0.1, x0.2)))))).bind fun x2 =>
  Sum.elim
    (fun x3 =>
    some x3)
    (fun x4 =>
    ((BU (x4.1.1, x4.1.2) (x4.2.2.2.1, x4.2.2.2.2))).bind fun x5 =>
    ((BU (x4.2.1.1, x4.2.1.2) (x4.2.2.2.1, x4.2.2.2.2))).bind fun x6 =>
    some (x5.1.1, (x5.1.2, (x6.1.1, x6.1.2))))
    x2
noncomputable def Hr : Ent := ⟨M1, fun x => D1 x.1 x.2⟩
noncomputable def Tj : TX := ⟨tyTab, codTab, [], [4], [I2, GC, GH], M1⟩
set_option maxHeartbeats 2000000 in
theorem Aa3 (a0 : (Bool × List (Int))) (a1 : (Bool × List (Int))) : wtF Tj Tryz.f131 (a0, a1) = D1 a0 a1 := by kernel_rfl
theorem HR : EntOK RR Hr := Ab (X := Tj) ⟨tyOK, boolOK, eqOK⟩ (Ad (by exact ⟨⟨MC, rfl⟩, ⟨⟨Iu, rfl⟩, ⟨⟨HW, rfl⟩, trivial⟩⟩⟩)) (Ae (by kernel_rfl)) ⟨Tryz.func131, rfl, by kernel_rfl, rfl⟩ (fun x => by exact Aa3 x.1 x.2)
noncomputable def CK (a0 : (Bool × ((List Int) × (Bool × (List Int))))) (a1 : (Bool × ((List Int) × (Bool × (List Int))))) : Option ((Bool × List (Int) × Bool × List (Int))) :=
  ((AM (a0.1, a0.2.1) (a1.2.2.1, a1.2.2.2))).bind fun x0 =>
  ((AM (a1.1, a1.2.1) (a0.2.2.1, a0.2.2.2))).bind fun x1 =>
  ((CX (x0.2, x0.1) (x1.2, x1.1))).bind fun x2 =>
  ((AM (a0.2.2.1, a0.2.2.2) (a1.2.2.1, a1.2.2.2))).bind fun x3 =>
  ((D1 (x2.1, x2.2) (x3.2, x3.1))).bind fun x4 =>
  some (x4.1, (x4.2.1, (x4.2.2.1, x4.2.2.2)))
noncomputable def GF : Ent := ⟨Jo, fun x => CK x.1 x.2⟩
noncomputable def OU : TX := ⟨tyTab, codTab, [], [4], [DP, GQ, Hr], Jo⟩
set_option maxHeartbeats 2000000 in
theorem WU (a0 : (Bool × List (Int) × Bool × List (Int))) (a1 : (Bool × List (Int) × Bool × List (Int))) : wtF OU Tryz.f126 (a0, a1) = CK a0 a1 := by kernel_rfl
theorem Im : EntOK RR GF := Ab (X := OU) ⟨tyOK, boolOK, eqOK⟩ (Ad (by exact ⟨⟨Eg, rfl⟩, ⟨⟨Iy, rfl⟩, ⟨⟨HR, rfl⟩, trivial⟩⟩⟩)) (Ae (by kernel_rfl)) ⟨Tryz.func126, rfl, by kernel_rfl, rfl⟩ (fun x => by exact WU x.1 x.2)
noncomputable def Bk (s0 : (Bool × ((List Int) × (Bool × (List Int))))) (s1 : (Bool × ((List Int) × (Bool × (List Int))))) (s2 : Int) (s3 : Int) : Option (((Bool × ((List Int) × (Bool × (List Int)))) × ((Bool × ((List Int) × (Bool × (List Int)))) × (Int × Int))) ⊕ ((Bool × ((List Int) × (Bool × (List Int)))) × (Bool × ((List Int) × (Bool × (List Int)))))) :=
  bif decide (s3 < s2) then
    ((CK (s1.1, (s1.2.1, (s1.2.2.1, s1.2.2.2))) (s1.1, (s1.2.1, (s1.2.2.1, s1.2.2.2))))).bind fun x0 =>
    some (Sum.inl ((s0.1, (s0.2.1, (s0.2.2.1, s0.2.2.2))), ((x0.1, (x0.2.1, (x0.2.2.1, x0.2.2.2))), (s2, (Go.IntKind.wrap Go.IntKind.i64 (s3 + (1 : Int)))))))
  else
  some (Sum.inr ((s0.1, (s0.2.1, (s0.2.2.1, s0.2.2.2))), (s1.1, (s1.2.1, (s1.2.2.1, s1.2.2.2)))))
noncomputable def DZ (a0 : Int) : Option ((Bool × List (Int) × Bool × List (Int))) :=
  ((Cz (1 : Int))).bind fun x0 =>
  (loopM (fun (s : ((Bool × ((List Int) × (Bool × (List Int)))) × ((Bool × ((List Int) × (Bool × (List Int)))) × (Int × Int)))) => Bk s.1 s.2.1 s.2.2.1 s.2.2.2) ((false, ((List.nil : List Int), (false, (List.nil : List Int)))), ((x0.1, (x0.2.1, (x0.2.2.1, x0.2.2.2))), (a0, (0 : Int))))).bind fun x1 =>
  some (x1.2.1, (x1.2.2.1, (x1.2.2.2.1, x1.2.2.2.2)))
noncomputable def Jy : Ent := ⟨Ju, fun x => DZ x⟩
noncomputable def OL : TX := ⟨tyTab, codTab, [], [4], [Kg, GF], Ju⟩
set_option maxHeartbeats 2000000 in
theorem Vz (a0 : Int) : wtF OL Tryz.f158 (a0) = DZ a0 := by kernel_rfl
theorem MO : EntOK RR Jy := Ab (X := OL) ⟨tyOK, boolOK, eqOK⟩ (Ad (by exact ⟨⟨K0, rfl⟩, ⟨⟨Im, rfl⟩, trivial⟩⟩)) (Ae (by kernel_rfl)) ⟨Tryz.func158, rfl, by kernel_rfl, rfl⟩ (fun x => by exact Vz x)
noncomputable def Bs (a0 : (Bool × ((List Int) × (Bool × (List Int))))) (a1 : (Bool × ((List Int) × (Bool × (List Int))))) : Option ((Bool × List (Int) × Bool × List (Int))) :=
  ((AM (a0.1, a0.2.1) (a1.1, a1.2.1))).bind fun x0 =>
  ((AM (a0.2.2.1, a0.2.2.2) (a1.2.2.1, a1.2.2.2))).bind fun x1 =>
  ((D1 (x0.2, x0.1) (x1.2, x1.1))).bind fun x2 =>
  some (x2.1, (x2.2.1, (x2.2.2.1, x2.2.2.2)))
noncomputable def GD : Ent := ⟨JX, fun x => Bs x.1 x.2⟩
noncomputable def OC : TX := ⟨tyTab, codTab, [], [4], [DP, Hr], JX⟩
set_option maxHeartbeats 2000000 in
theorem VB (a0 : (Bool × List (Int) × Bool × List (Int))) (a1 : (Bool × List (Int) × Bool × List (Int))) : wtF OC Tryz.f140 (a0, a1) = Bs a0 a1 := by kernel_rfl
theorem Id : EntOK RR GD := Ab (X := OC) ⟨tyOK, boolOK, eqOK⟩ (Ad (by exact ⟨⟨Eg, rfl⟩, ⟨⟨HR, rfl⟩, trivial⟩⟩)) (Ae (by kernel_rfl)) ⟨Tryz.func140, rfl, by kernel_rfl, rfl⟩ (fun x => by exact VB x.1 x.2)
noncomputable def GB (a0 : (Bool × (List Int))) (a1 : (Bool × (List Int))) : Option ((Bool × List (Int))) :=
  ((CZ (a1.1, a1.2))).bind fun x0 =>
  ((CX (a0.1, a0.2) (x0.1, x0.2))).bind fun x1 =>
  some (x1.1, x1.2)
noncomputable def OE : Ent := ⟨J4, fun x => GB x.1 x.2⟩
noncomputable def OK : TX := ⟨tyTab, codTab, [], [4], [GC, GQ], J4⟩
set_option maxHeartbeats 2000000 in
theorem U9 (a0 : (Bool × List (Int))) (a1 : (Bool × List (Int))) : wtF OK Tryz.f276 (a0, a1) = GB a0 a1 := by kernel_rfl
theorem Un : EntOK RR OE := Ab (X := OK) ⟨tyOK, boolOK, eqOK⟩ (Ad (by exact ⟨⟨Iu, rfl⟩, ⟨⟨Iy, rfl⟩, trivial⟩⟩)) (Ae (by kernel_rfl)) ⟨Tryz.func276, rfl, by kernel_rfl, rfl⟩ (fun x => by exact U9 x.1 x.2)
noncomputable def Dh (a0 : (Bool × (List Int))) (a1 : (Bool × (List Int))) : Option ((Bool × List (Int))) :=
  ((BU (a0.1, a0.2) (a1.1, a1.2))).bind fun x0 =>
  ((AG (x0.2.1, x0.2.2))).bind fun x1 =>
  bif decide (x1 < (0 : Int)) then
    ((A7 (1 : Int))).bind fun x2 =>
    ((GB (x0.1.1, x0.1.2) (x2.1, x2.2))).bind fun x3 =>
    some (x3.1, x3.2)
  else
  some (x0.1.1, x0.1.2)
noncomputable def HL : Ent := ⟨E7, fun x => Dh x.1 x.2⟩
noncomputable def Hh : TX := ⟨tyTab, codTab, [], [4], [GH, De, D3, OE], E7⟩
set_option maxHeartbeats 2000000 in
theorem Nb (a0 : (Bool × List (Int))) (a1 : (Bool × List (Int))) : wtF Hh Tryz.f221 (a0, a1) = Dh a0 a1 := by kernel_rfl
theorem LM : EntOK RR HL := Ab (X := Hh) ⟨tyOK, boolOK, eqOK⟩ (Ad (by exact ⟨⟨HW, rfl⟩, ⟨⟨Dt, rfl⟩, ⟨⟨DM, rfl⟩, ⟨⟨Un, rfl⟩, trivial⟩⟩⟩⟩)) (Ae (by kernel_rfl)) ⟨Tryz.func221, rfl, by kernel_rfl, rfl⟩ (fun x => by exact Nb x.1 x.2)
noncomputable def BV (a0 : (Bool × ((List Int) × (Bool × (List Int))))) : Option ((Bool × List (Int))) :=
  ((Dh (a0.1, a0.2.1) (a0.2.2.1, a0.2.2.2))).bind fun x0 =>
  some (x0.1, x0.2)
noncomputable def G6 : Ent := ⟨GV, fun x => BV x⟩
noncomputable def KR : TX := ⟨tyTab, codTab, [], [4], [HL], GV⟩
set_option maxHeartbeats 2000000 in
theorem Sr (a0 : (Bool × List (Int) × Bool × List (Int))) : wtF KR Tryz.f106 (a0) = BV a0 := by kernel_rfl
theorem IP : EntOK RR G6 := Ab (X := KR) ⟨tyOK, boolOK, eqOK⟩ (Ad (by exact ⟨⟨LM, rfl⟩, trivial⟩)) (Ae (by kernel_rfl)) ⟨Tryz.func106, rfl, by kernel_rfl, rfl⟩ (fun x => by exact Sr x)
noncomputable def E6 (a0 : (Bool × (List Int))) : Option ((Bool × List (Int) × Bool × List (Int))) :=
  ((AD a0.1 a0.2)).bind fun x0 =>
  ((A7 (1 : Int))).bind fun x1 =>
  some (x0.2, (x0.1, (x1.1, x1.2)))
noncomputable def N3 : Ent := ⟨NF, fun x => E6 x⟩
noncomputable def Tz : TX := ⟨tyTab, codTab, [], [4], [B5, D3], NF⟩
set_option maxHeartbeats 2000000 in
theorem Z7 (a0 : (Bool × List (Int))) : wtF Tz Tryz.f109 (a0) = E6 a0 := by kernel_rfl
theorem QL : EntOK RR N3 := Ab (X := Tz) ⟨tyOK, boolOK, eqOK⟩ (Ad (by exact ⟨⟨BW, rfl⟩, ⟨⟨DM, rfl⟩, trivial⟩⟩)) (Ae (by kernel_rfl)) ⟨Tryz.func109, rfl, by kernel_rfl, rfl⟩ (fun x => by exact Z7 x)
noncomputable def CJ (a0 : (Bool × ((List Int) × (Bool × (List Int))))) : Option ((Bool × List (Int) × Bool × List (Int))) :=
  ((CZ (a0.1, a0.2.1))).bind fun x0 =>
  ((AD false a0.2.2.2)).bind fun x1 =>
  some (x0.1, (x0.2, (x1.2, x1.1)))
noncomputable def Jn : Ent := ⟨Jv, fun x => CJ x⟩
noncomputable def OI : TX := ⟨tyTab, codTab, [], [4], [GC, B5], Jv⟩
set_option maxHeartbeats 2000000 in
theorem Wl (a0 : (Bool × List (Int) × Bool × List (Int))) : wtF OI Tryz.f159 (a0) = CJ a0 := by kernel_rfl
theorem MN : EntOK RR Jn := Ab (X := OI) ⟨tyOK, boolOK, eqOK⟩ (Ad (by exact ⟨⟨Iu, rfl⟩, ⟨⟨BW, rfl⟩, trivial⟩⟩)) (Ae (by kernel_rfl)) ⟨Tryz.func159, rfl, by kernel_rfl, rfl⟩ (fun x => by exact Wl x)
noncomputable def Ce (a0 : (Bool × ((List Int) × (Bool × (List Int))))) (a1 : (Bool × ((List Int) × (Bool × (List Int))))) : Option ((Bool × List (Int) × Bool × List (Int))) :=
  ((AM (a0.1, a0.2.1) (a1.2.2.1, a1.2.2.2))).bind fun x0 =>
  ((AM (a0.2.2.1, a0.2.2.2) (a1.1, a1.2.1))).bind fun x1 =>
  ((D1 (x0.2, x0.1) (x1.2, x1.1))).bind fun x2 =>
  some (x2.1, (x2.2.1, (x2.2.2.1, x2.2.2.2)))
noncomputable def JZ : Ent := ⟨IX, fun x => Ce x.1 x.2⟩
noncomputable def Pe : TX := ⟨tyTab, codTab, [], [4], [DP, Hr], IX⟩
set_option maxHeartbeats 2000000 in
theorem VK (a0 : (Bool × List (Int) × Bool × List (Int))) (a1 : (Bool × List (Int) × Bool × List (Int))) : wtF Pe Tryz.f112 (a0, a1) = Ce a0 a1 := by kernel_rfl
theorem Ma : EntOK RR JZ := Ab (X := Pe) ⟨tyOK, boolOK, eqOK⟩ (Ad (by exact ⟨⟨Eg, rfl⟩, ⟨⟨HR, rfl⟩, trivial⟩⟩)) (Ae (by kernel_rfl)) ⟨Tryz.func112, rfl, by kernel_rfl, rfl⟩ (fun x => by exact VK x.1 x.2)
noncomputable def Bu (a0 : (Bool × ((List Int) × (Bool × (List Int))))) (a1 : Int) : Option (Bool) :=
  bif decide ((((List.length a0.2.1) : Nat) : Int) ≤ a1) then
    some (decide ((((List.length a0.2.2.2) : Nat) : Int) ≤ a1))
  else
  some false
noncomputable def FA : Ent := ⟨FB, fun x => Bu x.1 x.2⟩
noncomputable def IM : TX := ⟨tyTab, codTab, [], [4], [], FB⟩
set_option maxHeartbeats 2000000 in
theorem Pl (a0 : (Bool × List (Int) × Bool × List (Int))) (a1 : Int) : wtF IM Tryz.f232 (a0, a1) = Bu a0 a1 := by kernel_rfl
theorem Hf : EntOK RR FA := Ab (X := IM) ⟨tyOK, boolOK, eqOK⟩ (Ad (by exact trivial)) (Ae (by kernel_rfl)) ⟨Tryz.func232, rfl, by kernel_rfl, rfl⟩ (fun x => by exact Pl x.1 x.2)
noncomputable def EO (a0 : (Bool × ((List Int) × (Bool × (List Int))))) : Option ((Bool × List (Int) × Bool × List (Int))) :=
  ((AD a0.1 a0.2.1)).bind fun x0 =>
  ((AD false a0.2.2.2)).bind fun x1 =>
  some (x0.2, (x0.1, (x1.2, x1.1)))
noncomputable def Q6 : Ent := ⟨KZ, fun x => EO x⟩
noncomputable def Qc : TX := ⟨tyTab, codTab, [], [4], [B5], KZ⟩
set_option maxHeartbeats 2000000 in
theorem Yq (a0 : (Bool × List (Int) × Bool × List (Int))) : wtF Qc Tryz.f243 (a0) = EO a0 := by kernel_rfl
theorem Wu : EntOK RR Q6 := Ab (X := Qc) ⟨tyOK, boolOK, eqOK⟩ (Ad (by exact ⟨⟨BW, rfl⟩, trivial⟩)) (Ae (by kernel_rfl)) ⟨Tryz.func243, rfl, by kernel_rfl, rfl⟩ (fun x => by exact Yq x)
noncomputable def Ba (a0 : (Bool × ((List Int) × (Bool × (List Int))))) (a1 : (Bool × ((List Int) × (Bool × (List Int))))) : Option ((Bool × List (Int) × Bool × List (Int) × Bool × List (Int) × Bool × List (Int)) × Bool) :=
  ((Bu (a0.1, (a0.2.1, (a0.2.2.1, a0.2.2.2))) (40 : Int))).bind fun x0 =>
  bif (!x0) then
    some ((false, ((List.nil : List Int), (false, ((List.nil : List Int), (false, ((List.nil : List Int), (false, (List.nil : List Int)))))))), false)
  else
  ((Bu (a1.1, (a1.2.1, (a1.2.2.1, a1.2.2.2))) (40 : Int))).bind fun x1 =>
  bif (!x1) then
    some ((false, ((List.nil : List Int), (false, ((List.nil : List Int), (false, ((List.nil : List Int), (false, (List.nil : List Int)))))))), false)
  else
  ((EO (a0.1, (a0.2.1, (a0.2.2.1, a0.2.2.2))))).bind fun x2 =>
  ((EO (a1.1, (a1.2.1, (a1.2.2.1, a1.2.2.2))))).bind fun x3 =>
  some ((x2.1, (x2.2.1, (x2.2.2.1, (x2.2.2.2, (x3.1, (x3.2.1, (x3.2.2.1, x3.2.2.2))))))), true)
noncomputable def Ct : Ent := ⟨Fy, fun x => Ba x.1 x.2⟩
noncomputable def IE : TX := ⟨tyTab, codTab, [], [4], [FA, Q6], Fy⟩
set_option maxHeartbeats 2000000 in
theorem Pj (a0 : (Bool × List (Int) × Bool × List (Int))) (a1 : (Bool × List (Int) × Bool × List (Int))) : wtF IE Tryz.f147 (a0, a1) = Ba a0 a1 := by kernel_rfl
theorem C4 : EntOK RR Ct := Ab (X := IE) ⟨tyOK, boolOK, eqOK⟩ (Ad (by exact ⟨⟨Hf, rfl⟩, ⟨⟨Wu, rfl⟩, trivial⟩⟩)) (Ae (by kernel_rfl)) ⟨Tryz.func147, rfl, by kernel_rfl, rfl⟩ (fun x => by exact Pj x.1 x.2)
noncomputable def AR (a0 : (Bool × ((List Int) × (Bool × ((List Int) × (Bool × ((List Int) × (Bool × (List Int))))))))) (a1 : Int) : Option ((Bool × List (Int) × Bool × List (Int) × Bool × List (Int) × Bool × List (Int)) × Bool) :=
  ((Bx (a0.1, (a0.2.1, (a0.2.2.1, (a0.2.2.2.1, (a0.2.2.2.2.1, (a0.2.2.2.2.2.1, (a0.2.2.2.2.2.2.1, a0.2.2.2.2.2.2.2))))))))).bind fun x0 =>
  bif (!x0) then
    some ((false, ((List.nil : List Int), (false, ((List.nil : List Int), (false, ((List.nil : List Int), (false, (List.nil : List Int)))))))), false)
  else
  ((Cm a1 (0 : Int) (64 : Int))).bind fun x1 =>
  bif (!x1) then
    some ((false, ((List.nil : List Int), (false, ((List.nil : List Int), (false, ((List.nil : List Int), (false, (List.nil : List Int)))))))), false)
  else
  ((DZ a1)).bind fun x2 =>
  ((Bs (a0.1, (a0.2.1, (a0.2.2.1, a0.2.2.2.1))) (x2.1, (x2.2.1, (x2.2.2.1, x2.2.2.2))))).bind fun x3 =>
  ((BV (x3.1, (x3.2.1, (x3.2.2.1, x3.2.2.2))))).bind fun x4 =>
  ((E6 (x4.1, x4.2))).bind fun x5 =>
  ((CJ (a0.2.2.2.2.1, (a0.2.2.2.2.2.1, (a0.2.2.2.2.2.2.1, a0.2.2.2.2.2.2.2))))).bind fun x6 =>
  ((Bs (x6.1, (x6.2.1, (x6.2.2.1, x6.2.2.2))) (x2.1, (x2.2.1, (x2.2.2.1, x2.2.2.2))))).bind fun x7 =>
  ((BV (x7.1, (x7.2.1, (x7.2.2.1, x7.2.2.2))))).bind fun x8 =>
  ((E6 (x8.1, x8.2))).bind fun x9 =>
  ((CJ (x9.1, (x9.2.1, (x9.2.2.1, x9.2.2.2))))).bind fun x10 =>
  ((Ce (x5.1, (x5.2.1, (x5.2.2.1, x5.2.2.2))) (x2.1, (x2.2.1, (x2.2.2.1, x2.2.2.2))))).bind fun x11 =>
  ((Ce (x10.1, (x10.2.1, (x10.2.2.1, x10.2.2.2))) (x2.1, (x2.2.1, (x2.2.2.1, x2.2.2.2))))).bind fun x12 =>
  ((Ba (x11.1, (x11.2.1, (x11.2.2.1, x11.2.2.2))) (x12.1, (x12.2.1, (x12.2.2.1, x12.2.2.2))))).bind fun x13 =>
  some ((x13.1.1, (x13.1.2.1, (x13.1.2.2.1, (x13.1.2.2.2.1, (x13.1.2.2.2.2.1, (x13.1.2.2.2.2.2.1, (x13.1.2.2.2.2.2.2.1, x13.1.2.2.2.2.2.2.2))))))), x13.2)
noncomputable def Mn : Ent := ⟨HV, fun x => AR x.1 x.2⟩
noncomputable def LZ : TX := ⟨tyTab, codTab, [], [4], [En, Gs, Jy, GD, G6, N3, Jn, JZ, Ct], HV⟩
set_option maxHeartbeats 2000000 in
theorem Ur (a0 : (Bool × List (Int) × Bool × List (Int) × Bool × List (Int) × Bool × List (Int))) (a1 : Int) : wtF LZ Tryz.f52 (a0, a1) = AR a0 a1 := by kernel_rfl
theorem So : EntOK RR Mn := Ab (X := LZ) ⟨tyOK, boolOK, eqOK⟩ (Ad (by exact ⟨⟨Ff, rfl⟩, ⟨⟨GR, rfl⟩, ⟨⟨MO, rfl⟩, ⟨⟨Id, rfl⟩, ⟨⟨IP, rfl⟩, ⟨⟨QL, rfl⟩, ⟨⟨MN, rfl⟩, ⟨⟨Ma, rfl⟩, ⟨⟨C4, rfl⟩, trivial⟩⟩⟩⟩⟩⟩⟩⟩⟩)) (Ae (by kernel_rfl)) ⟨Tryz.func52, rfl, by kernel_rfl, rfl⟩ (fun x => by exact Ur x.1 x.2)
noncomputable def EP (a0 : (Bool × ((List Int) × (Bool × (List Int))))) (a1 : (Bool × ((List Int) × (Bool × (List Int))))) : Option (Bool) :=
  ((A9 (a0.1, (a0.2.1, (a0.2.2.1, a0.2.2.2))))).bind fun x0 =>
  bif x0 then
    ((A9 (a1.1, (a1.2.1, (a1.2.2.1, a1.2.2.2))))).bind fun x1 =>
    some x1
  else
  some false
noncomputable def Ry : Ent := ⟨Lk, fun x => EP x.1 x.2⟩
noncomputable def Qz : TX := ⟨tyTab, codTab, [], [4], [CW], Lk⟩
set_option maxHeartbeats 2000000 in
theorem Yk (a0 : (Bool × List (Int) × Bool × List (Int))) (a1 : (Bool × List (Int) × Bool × List (Int))) : wtF Qz Tryz.f133 (a0, a1) = EP a0 a1 := by kernel_rfl
theorem Ws : EntOK RR Ry := Ab (X := Qz) ⟨tyOK, boolOK, eqOK⟩ (Ad (by exact ⟨⟨C3, rfl⟩, trivial⟩)) (Ae (by kernel_rfl)) ⟨Tryz.func133, rfl, by kernel_rfl, rfl⟩ (fun x => by exact Yk x.1 x.2)
noncomputable def Cp (a0 : (Bool × ((List Int) × (Bool × ((List Int) × (Bool × ((List Int) × (Bool × (List Int))))))))) : Option (Bool) :=
  ((EP (a0.1, (a0.2.1, (a0.2.2.1, a0.2.2.2.1))) (a0.2.2.2.2.1, (a0.2.2.2.2.2.1, (a0.2.2.2.2.2.2.1, a0.2.2.2.2.2.2.2))))).bind fun x0 =>
  bif x0 then
    ((C9 (a0.1, (a0.2.1, (a0.2.2.1, a0.2.2.2.1))) (a0.2.2.2.2.1, (a0.2.2.2.2.2.1, (a0.2.2.2.2.2.2.1, a0.2.2.2.2.2.2.2))))).bind fun x1 =>
    some (decide (x1 ≤ (0 : Int)))
  else
  some false
noncomputable def H7 : Ent := ⟨Iw, fun x => Cp x⟩
noncomputable def Ms : TX := ⟨tyTab, codTab, [], [4], [Ry, Hx], Iw⟩
set_option maxHeartbeats 2000000 in
theorem Uk (a0 : (Bool × List (Int) × Bool × List (Int) × Bool × List (Int) × Bool × List (Int))) : wtF Ms Tryz.f40 (a0) = Cp a0 := by kernel_rfl
theorem KC : EntOK RR H7 := Ab (X := Ms) ⟨tyOK, boolOK, eqOK⟩ (Ad (by exact ⟨⟨Ws, rfl⟩, ⟨⟨Ig, rfl⟩, trivial⟩⟩)) (Ae (by kernel_rfl)) ⟨Tryz.func40, rfl, by kernel_rfl, rfl⟩ (fun x => by exact Uk x)
noncomputable def B7 (s0 : (List Int)) (s1 : (List Int)) (s2 : (List Int)) (s3 : Int) (s4 : Int) : Option (((List Int) × ((List Int) × ((List Int) × (Int × Int)))) ⊕ (List Int)) :=
  (bif decide (s4 < (((List.length s1) : Nat) : Int)) then
      some (Sum.inr (s0, (s1, (s2, (s3, s4)))))
    else
    bif decide (s4 < (((List.length s2) : Nat) : Int)) then
      some (Sum.inr (s0, (s1, (s2, (s3, s4)))))
    else
    bif decide (s3 > (0 : Int)) then
      some (Sum.inr (s0, (s1, (s2, (s3, s4)))))
    else
    some (Sum.inl (Sum.inr s0))).bind fun x0 =>
  Sum.elim
    (fun x1 =>
    some x1)
    (fun x2 =>
    ((BM x2.2.1 x2.2.2.2.2)).bind fun x3 =>
    ((BM x2.2.2.1 x2.2.2.2.2)).bind fun x4 =>
    ((appL 8 1 x2.1 (List.cons (Int.tmod (Go.IntKind.wrap Go.IntKind.i64 ((Go.IntKind.wrap Go.IntKind.i64 (x3 + x4)) + x2.2.2.2.1)) (65536 : Int)) (List.nil : List Int)))).bind fun x5 =>
    some (Sum.inl (x5, (x2.2.1, (x2.2.2.1, ((Go.IntKind.wrap Go.IntKind.i64 (Int.tdiv (Go.IntKind.wrap Go.IntKind.i64 ((Go.IntKind.wrap Go.IntKind.i64 (x3 + x4)) + x2.2.2.2.1)) (65536 : Int))), (Go.IntKind.wrap Go.IntKind.i64 (x2.2.2.2.2 + (1 : Int)))))))))
    x0
noncomputable def CH (a0 : (List Int)) (a1 : (List Int)) : Option (List (Int)) :=
  (loopM (fun (s : ((List Int) × ((List Int) × ((List Int) × (Int × Int))))) => B7 s.1 s.2.1 s.2.2.1 s.2.2.2.1 s.2.2.2.2) ((List.nil : List Int), (a0, (a1, ((0 : Int), (0 : Int)))))).bind fun x0 =>
  some x0
noncomputable def Jr : Ent := ⟨Gb, fun x => CH x.1 x.2⟩
noncomputable def JA : TX := ⟨tyTab, codTab, [], [4], [DN], Gb⟩
set_option maxHeartbeats 2000000 in
theorem QS (a0 : List (Int)) (a1 : List (Int)) : wtF JA Tryz.f237 (a0, a1) = CH a0 a1 := by kernel_rfl
theorem Po : EntOK RR Jr := Ab (X := JA) ⟨tyOK, boolOK, eqOK⟩ (Ad (by exact ⟨⟨DY, rfl⟩, trivial⟩)) (Ae (by kernel_rfl)) ⟨Tryz.func237, rfl, by kernel_rfl, rfl⟩ (fun x => by exact QS x.1 x.2)
noncomputable def C2 (s0 : (List Int)) (s1 : (List Int)) (s2 : (List Int)) (s3 : Int) (s4 : Int) (s5 : Int) : Option (((List Int) × ((List Int) × ((List Int) × (Int × (Int × Int))))) ⊕ (List Int)) :=
  bif decide (s5 < s4) then
    ((getI s1 s5)).bind fun x0 =>
    ((BM s2 s5)).bind fun x1 =>
    bif decide ((Go.IntKind.wrap Go.IntKind.i64 ((Go.IntKind.wrap Go.IntKind.i64 (x0 - x1)) - s3)) < (0 : Int)) then
      ((appL 8 1 s0 (List.cons (Go.IntKind.wrap Go.IntKind.i64 ((Go.IntKind.wrap Go.IntKind.i64 ((Go.IntKind.wrap Go.IntKind.i64 (x0 - x1)) - s3)) + (65536 : Int))) (List.nil : List Int)))).bind fun x2 =>
      some (Sum.inl (x2, (s1, (s2, ((1 : Int), (s4, (Go.IntKind.wrap Go.IntKind.i64 (s5 + (1 : Int)))))))))
    else
    ((appL 8 1 s0 (List.cons (Go.IntKind.wrap Go.IntKind.i64 ((Go.IntKind.wrap Go.IntKind.i64 (x0 - x1)) - s3)) (List.nil : List Int)))).bind fun x3 =>
    some (Sum.inl (x3, (s1, (s2, ((0 : Int), (s4, (Go.IntKind.wrap Go.IntKind.i64 (s5 + (1 : Int)))))))))
  else
  some (Sum.inr s0)
noncomputable def B8 (a0 : (List Int)) (a1 : (List Int)) : Option (List (Int)) :=
  (loopM (fun (s : ((List Int) × ((List Int) × ((List Int) × (Int × (Int × Int)))))) => C2 s.1 s.2.1 s.2.2.1 s.2.2.2.1 s.2.2.2.2.1 s.2.2.2.2.2) ((List.nil : List Int), (a0, (a1, ((0 : Int), ((((List.length a0) : Nat) : Int), (0 : Int))))))).bind fun x0 =>
  ((Bi x0)).bind fun x1 =>
  some x1
noncomputable def Jb : Ent := ⟨Gk, fun x => B8 x.1 x.2⟩
noncomputable def J3 : TX := ⟨tyTab, codTab, [], [4], [DN, DR], Gk⟩
set_option maxHeartbeats 2000000 in
theorem Rz (a0 : List (Int)) (a1 : List (Int)) : wtF J3 Tryz.f238 (a0, a1) = B8 a0 a1 := by kernel_rfl
theorem Pq : EntOK RR Jb := Ab (X := J3) ⟨tyOK, boolOK, eqOK⟩ (Ad (by exact ⟨⟨DY, rfl⟩, ⟨⟨DJ, rfl⟩, trivial⟩⟩)) (Ae (by kernel_rfl)) ⟨Tryz.func238, rfl, by kernel_rfl, rfl⟩ (fun x => by exact Rz x.1 x.2)
noncomputable def DU (a0 : (Bool × (List Int))) (a1 : (Bool × (List Int))) : Option ((Bool × List (Int))) :=
  bif (a0.1 == a1.1) then
    ((CH a0.2 a1.2)).bind fun x0 =>
    ((AH a0.1 x0)).bind fun x1 =>
    some (x1.2, x1.1)
  else
  ((Bc a0.2 a1.2)).bind fun x2 =>
  bif decide (x2 ≥ (0 : Int)) then
    ((B8 a0.2 a1.2)).bind fun x3 =>
    ((AH a0.1 x3)).bind fun x4 =>
    some (x4.2, x4.1)
  else
  ((B8 a1.2 a0.2)).bind fun x5 =>
  ((AH a1.1 x5)).bind fun x6 =>
  some (x6.2, x6.1)
noncomputable def Kv : Ent := ⟨N5, fun x => DU x.1 x.2⟩
noncomputable def Th : TX := ⟨tyTab, codTab, [], [4], [Jr, Cq, HD, Jb], N5⟩
set_option maxHeartbeats 2000000 in
theorem Aa1 (a0 : (Bool × List (Int))) (a1 : (Bool × List (Int))) : wtF Th Tryz.f137 (a0, a1) = DU a0 a1 := by kernel_rfl
theorem K9 : EntOK RR Kv := Ab (X := Th) ⟨tyOK, boolOK, eqOK⟩ (Ad (by exact ⟨⟨Po, rfl⟩, ⟨⟨Ch, rfl⟩, ⟨⟨H5, rfl⟩, ⟨⟨Pq, rfl⟩, trivial⟩⟩⟩⟩)) (Ae (by kernel_rfl)) ⟨Tryz.func137, rfl, by kernel_rfl, rfl⟩ (fun x => by exact Aa1 x.1 x.2)
noncomputable def BC (s0 : (Bool × (List Int))) (s1 : (Bool × (List Int))) (s2 : Int) : Option (((Bool × (List Int)) × ((Bool × (List Int)) × Int)) ⊕ ((Bool × (List Int)) × (Bool × (List Int)))) :=
  bif decide (s2 > (0 : Int)) then
    ((DU (s1.1, s1.2) (s1.1, s1.2))).bind fun x0 =>
    some (Sum.inl ((s0.1, s0.2), ((x0.1, x0.2), (Go.IntKind.wrap Go.IntKind.i64 (s2 - (1 : Int))))))
  else
  some (Sum.inr ((s0.1, s0.2), (s1.1, s1.2)))
noncomputable def CN (a0 : Int) : Option ((Bool × List (Int))) :=
  ((BF (1 : Int))).bind fun x0 =>
  (loopM (fun (s : ((Bool × (List Int)) × ((Bool × (List Int)) × Int))) => BC s.1 s.2.1 s.2.2) ((false, (List.nil : List Int)), ((x0.1, x0.2), a0))).bind fun x1 =>
  some (x1.2.1, x1.2.2)
noncomputable def Ji : Ent := ⟨JJ, fun x => CN x⟩
noncomputable def ON : TX := ⟨tyTab, codTab, [], [4], [FR, Kv], JJ⟩
set_option maxHeartbeats 2000000 in
theorem VU (a0 : Int) : wtF ON Tryz.f160 (a0) = CN a0 := by kernel_rfl
theorem L1 : EntOK RR Ji := Ab (X := ON) ⟨tyOK, boolOK, eqOK⟩ (Ad (by exact ⟨⟨Gw, rfl⟩, ⟨⟨K9, rfl⟩, trivial⟩⟩)) (Ae (by kernel_rfl)) ⟨Tryz.func160, rfl, by kernel_rfl, rfl⟩ (fun x => by exact VU x)
noncomputable def Hg (a0 : (Bool × (List Int))) (a1 : (Bool × (List Int))) : Option ((Bool × List (Int))) :=
  ((Dc (a1.1, a1.2))).bind fun x0 =>
  ((DU (a0.1, a0.2) (x0.1, x0.2))).bind fun x1 =>
  some (x1.1, x1.2)
noncomputable def S7 : Ent := ⟨N6, fun x => Hg x.1 x.2⟩
noncomputable def SR : TX := ⟨tyTab, codTab, [], [4], [Hc, Kv], N6⟩
set_option maxHeartbeats 2000000 in
theorem Aa6 (a0 : (Bool × List (Int))) (a1 : (Bool × List (Int))) : wtF SR Tryz.f228 (a0, a1) = Hg a0 a1 := by kernel_rfl
theorem Xf : EntOK RR S7 := Ab (X := SR) ⟨tyOK, boolOK, eqOK⟩ (Ad (by exact ⟨⟨Ie, rfl⟩, ⟨⟨K9, rfl⟩, trivial⟩⟩)) (Ae (by kernel_rfl)) ⟨Tryz.func228, rfl, by kernel_rfl, rfl⟩ (fun x => by exact Aa6 x.1 x.2)
noncomputable def D0 (a0 : (Bool × ((List Int) × (Bool × (List Int))))) : Option ((Bool × List (Int))) :=
  ((EJ (a0.1, a0.2.1) (a0.2.2.1, a0.2.2.2))).bind fun x0 =>
  bif x0.2.1 then
    ((BF (1 : Int))).bind fun x1 =>
    ((Hg (x0.1.1, x0.1.2) (x1.1, x1.2))).bind fun x2 =>
    some (x2.1, x2.2)
  else
  some (x0.1.1, x0.1.2)
noncomputable def JY : Ent := ⟨J1, fun x => D0 x⟩
noncomputable def Pf : TX := ⟨tyTab, codTab, [], [4], [Ng, FR, S7], J1⟩
set_option maxHeartbeats 2000000 in
theorem WQ (a0 : (Bool × List (Int) × Bool × List (Int))) : wtF Pf Tryz.f114 (a0) = D0 a0 := by kernel_rfl
theorem LY : EntOK RR JY := Ab (X := Pf) ⟨tyOK, boolOK, eqOK⟩ (Ad (by exact ⟨⟨Rh, rfl⟩, ⟨⟨Gw, rfl⟩, ⟨⟨Xf, rfl⟩, trivial⟩⟩⟩)) (Ae (by kernel_rfl)) ⟨Tryz.func114, rfl, by kernel_rfl, rfl⟩ (fun x => by exact WQ x)
noncomputable def D4 (a0 : (Bool × ((List Int) × (Bool × (List Int))))) (a1 : (Bool × (List Int))) : Option ((Bool × List (Int))) :=
  ((BR (a0.1, a0.2.1) (a1.1, a1.2))).bind fun x0 =>
  ((Bh (x0.1, x0.2) (a0.2.2.1, a0.2.2.2))).bind fun x1 =>
  ((D0 (x1.1, (x1.2.1, (x1.2.2.1, x1.2.2.2))))).bind fun x2 =>
  some (x2.1, x2.2)
noncomputable def Pg : Ent := ⟨JK, fun x => D4 x.1 x.2⟩
noncomputable def OX : TX := ⟨tyTab, codTab, [], [4], [Hn, DH, JY], JK⟩
set_option maxHeartbeats 2000000 in
theorem W3 (a0 : (Bool × List (Int) × Bool × List (Int))) (a1 : (Bool × List (Int))) : wtF OX Tryz.f161 (a0, a1) = D4 a0 a1 := by kernel_rfl
theorem U4 : EntOK RR Pg := Ab (X := OX) ⟨tyOK, boolOK, eqOK⟩ (Ad (by exact ⟨⟨HN, rfl⟩, ⟨⟨DO, rfl⟩, ⟨⟨LY, rfl⟩, trivial⟩⟩⟩)) (Ae (by kernel_rfl)) ⟨Tryz.func161, rfl, by kernel_rfl, rfl⟩ (fun x => by exact W3 x.1 x.2)
noncomputable def Hs (a0 : (Bool × ((List Int) × (Bool × (List Int))))) : Option ((Bool × List (Int) × Bool × List (Int))) :=
  ((Dc (a0.1, a0.2.1))).bind fun x0 =>
  some (x0.1, (x0.2, (a0.2.2.1, a0.2.2.2)))
noncomputable def TU : Ent := ⟨Ni, fun x => Hs x⟩
noncomputable def Sv : TX := ⟨tyTab, codTab, [], [4], [Hc], Ni⟩
set_option maxHeartbeats 2000000 in
theorem ZW (a0 : (Bool × List (Int) × Bool × List (Int))) : wtF Sv Tryz.f163 (a0) = Hs a0 := by kernel_rfl
theorem Xw : EntOK RR TU := Ab (X := Sv) ⟨tyOK, boolOK, eqOK⟩ (Ad (by exact ⟨⟨Ie, rfl⟩, trivial⟩)) (Ae (by kernel_rfl)) ⟨Tryz.func163, rfl, by kernel_rfl, rfl⟩ (fun x => by exact ZW x)
noncomputable def E5 (a0 : (Bool × ((List Int) × (Bool × (List Int))))) : Option ((Bool × List (Int) × Bool × List (Int)) × Bool) :=
  bif decide ((((List.length a0.2.1) : Nat) : Int) > (40 : Int)) then
    some ((false, ((List.nil : List Int), (false, (List.nil : List Int)))), false)
  else
  bif decide ((((List.length a0.2.2.2) : Nat) : Int) > (40 : Int)) then
    some ((false, ((List.nil : List Int), (false, (List.nil : List Int)))), false)
  else
  ((AH a0.1 a0.2.1)).bind fun x0 =>
  ((AH false a0.2.2.2)).bind fun x1 =>
  some ((x0.2, (x0.1, (x1.2, x1.1))), true)
noncomputable def PQ : Ent := ⟨Lq, fun x => E5 x⟩
noncomputable def RL : TX := ⟨tyTab, codTab, [], [4], [Cq], Lq⟩
set_option maxHeartbeats 2000000 in
theorem XN (a0 : (Bool × List (Int) × Bool × List (Int))) : wtF RL Tryz.f136 (a0) = E5 a0 := by kernel_rfl
theorem Ve : EntOK RR PQ := Ab (X := RL) ⟨tyOK, boolOK, eqOK⟩ (Ad (by exact ⟨⟨Ch, rfl⟩, trivial⟩)) (Ae (by kernel_rfl)) ⟨Tryz.func136, rfl, by kernel_rfl, rfl⟩ (fun x => by exact XN x)
noncomputable def CI (a0 : (Bool × ((List Int) × (Bool × ((List Int) × (Bool × ((List Int) × (Bool × (List Int))))))))) : Option ((Bool × List (Int) × Bool × List (Int) × Bool × List (Int) × Bool × List (Int)) × Bool) :=
  ((E5 (a0.1, (a0.2.1, (a0.2.2.1, a0.2.2.2.1))))).bind fun x0 =>
  ((E5 (a0.2.2.2.2.1, (a0.2.2.2.2.2.1, (a0.2.2.2.2.2.2.1, a0.2.2.2.2.2.2.2))))).bind fun x1 =>
  bif (!x0.2) then
    some ((false, ((List.nil : List Int), (false, ((List.nil : List Int), (false, ((List.nil : List Int), (false, (List.nil : List Int)))))))), false)
  else
  bif (!x1.2) then
    some ((false, ((List.nil : List Int), (false, ((List.nil : List Int), (false, ((List.nil : List Int), (false, (List.nil : List Int)))))))), false)
  else
  some ((x0.1.1, (x0.1.2.1, (x0.1.2.2.1, (x0.1.2.2.2, (x1.1.1, (x1.1.2.1, (x1.1.2.2.1, x1.1.2.2.2))))))), true)
noncomputable def It : Ent := ⟨Lx, fun x => CI x⟩
noncomputable def PW : TX := ⟨tyTab, codTab, [], [4], [PQ], Lx⟩
set_option maxHeartbeats 2000000 in
theorem Yd (a0 : (Bool × List (Int) × Bool × List (Int) × Bool × List (Int) × Bool × List (Int))) : wtF PW Tryz.f149 (a0) = CI a0 := by kernel_rfl
theorem JC : EntOK RR It := Ab (X := PW) ⟨tyOK, boolOK, eqOK⟩ (Ad (by exact ⟨⟨Ve, rfl⟩, trivial⟩)) (Ae (by kernel_rfl)) ⟨Tryz.func149, rfl, by kernel_rfl, rfl⟩ (fun x => by exact Yd x)
noncomputable def Bz (a0 : (Bool × ((List Int) × (Bool × ((List Int) × (Bool × ((List Int) × (Bool × (List Int))))))))) (a1 : Int) : Option ((Bool × List (Int) × Bool × List (Int) × Bool × List (Int) × Bool × List (Int)) × Bool) :=
  ((Cp (a0.1, (a0.2.1, (a0.2.2.1, (a0.2.2.2.1, (a0.2.2.2.2.1, (a0.2.2.2.2.2.1, (a0.2.2.2.2.2.2.1, a0.2.2.2.2.2.2.2))))))))).bind fun x0 =>
  bif (!x0) then
    some ((false, ((List.nil : List Int), (false, ((List.nil : List Int), (false, ((List.nil : List Int), (false, (List.nil : List Int)))))))), false)
  else
  ((Em a1 (0 : Int) (64 : Int))).bind fun x1 =>
  bif (!x1) then
    some ((false, ((List.nil : List Int), (false, ((List.nil : List Int), (false, ((List.nil : List Int), (false, (List.nil : List Int)))))))), false)
  else
  ((CN a1)).bind fun x2 =>
  ((D4 (a0.1, (a0.2.1, (a0.2.2.1, a0.2.2.2.1))) (x2.1, x2.2))).bind fun x3 =>
  ((Hs (a0.2.2.2.2.1, (a0.2.2.2.2.2.1, (a0.2.2.2.2.2.2.1, a0.2.2.2.2.2.2.2))))).bind fun x4 =>
  ((D4 (x4.1, (x4.2.1, (x4.2.2.1, x4.2.2.2))) (x2.1, x2.2))).bind fun x5 =>
  ((Dc (x5.1, x5.2))).bind fun x6 =>
  ((Bh (x3.1, x3.2) (x2.1, x2.2))).bind fun x7 =>
  ((Bh (x6.1, x6.2) (x2.1, x2.2))).bind fun x8 =>
  ((CI (x7.1, (x7.2.1, (x7.2.2.1, (x7.2.2.2, (x8.1, (x8.2.1, (x8.2.2.1, x8.2.2.2))))))))).bind fun x9 =>
  some ((x9.1.1, (x9.1.2.1, (x9.1.2.2.1, (x9.1.2.2.2.1, (x9.1.2.2.2.2.1, (x9.1.2.2.2.2.2.1, (x9.1.2.2.2.2.2.2.1, x9.1.2.2.2.2.2.2.2))))))), x9.2)
noncomputable def MD : Ent := ⟨Ip, fun x => Bz x.1 x.2⟩
noncomputable def MY : TX := ⟨tyTab, codTab, [], [4], [H7, JW, Ji, Pg, TU, Hc, DH, It], Ip⟩
set_option maxHeartbeats 2000000 in
theorem Us (a0 : (Bool × List (Int) × Bool × List (Int) × Bool × List (Int) × Bool × List (Int))) (a1 : Int) : wtF MY Tryz.f53 (a0, a1) = Bz a0 a1 := by kernel_rfl
theorem R0 : EntOK RR MD := Ab (X := MY) ⟨tyOK, boolOK, eqOK⟩ (Ad (by exact ⟨⟨KC, rfl⟩, ⟨⟨Ks, rfl⟩, ⟨⟨L1, rfl⟩, ⟨⟨U4, rfl⟩, ⟨⟨Xw, rfl⟩, ⟨⟨Ie, rfl⟩, ⟨⟨DO, rfl⟩, ⟨⟨JC, rfl⟩, trivial⟩⟩⟩⟩⟩⟩⟩⟩)) (Ae (by kernel_rfl)) ⟨Tryz.func53, rfl, by kernel_rfl, rfl⟩ (fun x => by exact Us x.1 x.2)
noncomputable def Eb (s0 : (List Int)) (s1 : (List Int)) (s2 : Int) (s3 : Int) : Option (((List Int) × ((List Int) × (Int × Int))) ⊕ (Unit ⊕ Bool)) :=
  bif decide (s3 < s2) then
    ((getI s0 s3)).bind fun x0 =>
    ((getI s1 s3)).bind fun x1 =>
    bif (x0 != x1) then
      some (Sum.inr (Sum.inr false))
    else
    some (Sum.inl (s0, (s1, (s2, (Go.IntKind.wrap Go.IntKind.i64 (s3 + (1 : Int)))))))
  else
  some (Sum.inr (Sum.inl ()))
noncomputable def Ej (a0 : (List Int)) (a1 : (List Int)) : Option (Bool) :=
  bif ((((List.length a0) : Nat) : Int) != (((List.length a1) : Nat) : Int)) then
    some false
  else
  (loopM (fun (s : ((List Int) × ((List Int) × (Int × Int)))) => Eb s.1 s.2.1 s.2.2.1 s.2.2.2) (a0, (a1, ((((List.length a0) : Nat) : Int), (0 : Int))))).bind fun x0 =>
  Sum.elim
    (fun x1 =>
    some true)
    (fun x2 =>
    some x2)
    x0
noncomputable def MB : Ent := ⟨HX, fun x => Ej x.1 x.2⟩
noncomputable def MK : TX := ⟨tyTab, codTab, [], [4], [], HX⟩
set_option maxHeartbeats 2000000 in
theorem Uo (a0 : List (Int)) (a1 : List (Int)) : wtF MK Tryz.f122 (a0, a1) = Ej a0 a1 := by kernel_rfl
theorem R3 : EntOK RR MB := Ab (X := MK) ⟨tyOK, boolOK, eqOK⟩ (Ad (by exact trivial)) (Ae (by kernel_rfl)) ⟨Tryz.func122, rfl, by kernel_rfl, rfl⟩ (fun x => by exact Uo x.1 x.2)
noncomputable def DS (a0 : (Bool × (List Int))) (a1 : (Bool × (List Int))) : Option (Bool) :=
  bif (a0.1 == a1.1) then
    ((Ej a0.2 a1.2)).bind fun x0 =>
    some x0
  else
  some false
noncomputable def Om : Ent := ⟨IV, fun x => DS x.1 x.2⟩
noncomputable def OF : TX := ⟨tyTab, codTab, [], [4], [MB], IV⟩
set_option maxHeartbeats 2000000 in
theorem Vp (a0 : (Bool × List (Int))) (a1 : (Bool × List (Int))) : wtF OF Tryz.f14 (a0, a1) = DS a0 a1 := by kernel_rfl
theorem Ui : EntOK RR Om := Ab (X := OF) ⟨tyOK, boolOK, eqOK⟩ (Ad (by exact ⟨⟨R3, rfl⟩, trivial⟩)) (Ae (by kernel_rfl)) ⟨Tryz.func14, rfl, by kernel_rfl, rfl⟩ (fun x => by exact Vp x.1 x.2)
noncomputable def AN (a0 : (Bool × ((List Int) × (Bool × (List Int))))) (a1 : (Bool × ((List Int) × (Bool × (List Int))))) : Option (Bool) :=
  ((DS (a0.1, a0.2.1) (a1.1, a1.2.1))).bind fun x0 =>
  bif x0 then
    ((DS (a0.2.2.1, a0.2.2.2) (a1.2.2.1, a1.2.2.2))).bind fun x1 =>
    some x1
  else
  some false
noncomputable def JO : Ent := ⟨Jf, fun x => AN x.1 x.2⟩
noncomputable def On : TX := ⟨tyTab, codTab, [], [4], [Om], Jf⟩
set_option maxHeartbeats 2000000 in
theorem VS (a0 : (Bool × List (Int) × Bool × List (Int))) (a1 : (Bool × List (Int) × Bool × List (Int))) : wtF On Tryz.f16 (a0, a1) = AN a0 a1 := by kernel_rfl
theorem LL : EntOK RR JO := Ab (X := On) ⟨tyOK, boolOK, eqOK⟩ (Ad (by exact ⟨⟨Ui, rfl⟩, trivial⟩)) (Ae (by kernel_rfl)) ⟨Tryz.func16, rfl, by kernel_rfl, rfl⟩ (fun x => by exact VS x.1 x.2)
noncomputable def Ar (a0 : (Bool × ((List Int) × (Bool × ((List Int) × (Bool × ((List Int) × (Bool × (List Int))))))))) (a1 : (Bool × ((List Int) × (Bool × ((List Int) × (Bool × ((List Int) × (Bool × (List Int))))))))) : Option (Bool) :=
  ((AN (a0.1, (a0.2.1, (a0.2.2.1, a0.2.2.2.1))) (a1.1, (a1.2.1, (a1.2.2.1, a1.2.2.2.1))))).bind fun x0 =>
  bif x0 then
    ((AN (a0.2.2.2.2.1, (a0.2.2.2.2.2.1, (a0.2.2.2.2.2.2.1, a0.2.2.2.2.2.2.2))) (a1.2.2.2.2.1, (a1.2.2.2.2.2.1, (a1.2.2.2.2.2.2.1, a1.2.2.2.2.2.2.2))))).bind fun x1 =>
    some x1
  else
  some false
noncomputable def MW : Ent := ⟨IA, fun x => Ar x.1 x.2⟩
noncomputable def L6 : TX := ⟨tyTab, codTab, [], [4], [JO], IA⟩
set_option maxHeartbeats 2000000 in
theorem T2 (a0 : (Bool × List (Int) × Bool × List (Int) × Bool × List (Int) × Bool × List (Int))) (a1 : (Bool × List (Int) × Bool × List (Int) × Bool × List (Int) × Bool × List (Int))) : wtF L6 Tryz.f38 (a0, a1) = Ar a0 a1 := by kernel_rfl
theorem Sn : EntOK RR MW := Ab (X := L6) ⟨tyOK, boolOK, eqOK⟩ (Ad (by exact ⟨⟨LL, rfl⟩, trivial⟩)) (Ae (by kernel_rfl)) ⟨Tryz.func38, rfl, by kernel_rfl, rfl⟩ (fun x => by exact T2 x.1 x.2)
noncomputable def C8 (a0 : (Bool × ((List Int) × (Bool × ((List Int) × (Bool × ((List Int) × (Bool × (List Int))))))))) (a1 : (Bool × ((List Int) × (Bool × (List Int))))) : Option (Bool) :=
  ((Cn (a1.1, (a1.2.1, (a1.2.2.1, a1.2.2.2))) (a0.1, (a0.2.1, (a0.2.2.1, a0.2.2.2.1))))).bind fun x0 =>
  bif (!x0) then
    ((Cn (a0.2.2.2.2.1, (a0.2.2.2.2.2.1, (a0.2.2.2.2.2.2.1, a0.2.2.2.2.2.2.2))) (a1.1, (a1.2.1, (a1.2.2.1, a1.2.2.2))))).bind fun x1 =>
    some (!x1)
  else
  some false
noncomputable def Ix : Ent := ⟨Ik, fun x => C8 x.1 x.2⟩
noncomputable def Mm : TX := ⟨tyTab, codTab, [], [4], [H1], Ik⟩
set_option maxHeartbeats 2000000 in
theorem U3 (a0 : (Bool × List (Int) × Bool × List (Int) × Bool × List (Int) × Bool × List (Int))) (a1 : (Bool × List (Int) × Bool × List (Int))) : wtF Mm Tryz.f154 (a0, a1) = C8 a0 a1 := by kernel_rfl
theorem KM : EntOK RR Ix := Ab (X := Mm) ⟨tyOK, boolOK, eqOK⟩ (Ad (by exact ⟨⟨KO, rfl⟩, trivial⟩)) (Ae (by kernel_rfl)) ⟨Tryz.func154, rfl, by kernel_rfl, rfl⟩ (fun x => by exact U3 x.1 x.2)
noncomputable def CY (a0 : (Bool × ((List Int) × (Bool × ((List Int) × (Bool × ((List Int) × (Bool × (List Int))))))))) (a1 : (Bool × ((List Int) × (Bool × (List Int))))) : Option (Bool × Bool) :=
  ((Bx (a0.1, (a0.2.1, (a0.2.2.1, (a0.2.2.2.1, (a0.2.2.2.2.1, (a0.2.2.2.2.2.1, (a0.2.2.2.2.2.2.1, a0.2.2.2.2.2.2.2))))))))).bind fun x0 =>
  bif (!x0) then
    some (false, false)
  else
  ((Cg (a1.1, (a1.2.1, (a1.2.2.1, a1.2.2.2))))).bind fun x1 =>
  bif (!x1) then
    some (false, false)
  else
  ((C8 (a0.1, (a0.2.1, (a0.2.2.1, (a0.2.2.2.1, (a0.2.2.2.2.1, (a0.2.2.2.2.2.1, (a0.2.2.2.2.2.2.1, a0.2.2.2.2.2.2.2))))))) (a1.1, (a1.2.1, (a1.2.2.1, a1.2.2.2))))).bind fun x2 =>
  some (x2, true)
noncomputable def Le : Ent := ⟨Lz, fun x => CY x.1 x.2⟩
noncomputable def Qq : TX := ⟨tyTab, codTab, [], [4], [En, Fo, Ix], Lz⟩
set_option maxHeartbeats 2000000 in
theorem Xy (a0 : (Bool × List (Int) × Bool × List (Int) × Bool × List (Int) × Bool × List (Int))) (a1 : (Bool × List (Int) × Bool × List (Int))) : wtF Qq Tryz.f62 (a0, a1) = CY a0 a1 := by kernel_rfl
theorem Oj : EntOK RR Le := Ab (X := Qq) ⟨tyOK, boolOK, eqOK⟩ (Ad (by exact ⟨⟨Ff, rfl⟩, ⟨⟨FN, rfl⟩, ⟨⟨KM, rfl⟩, trivial⟩⟩⟩)) (Ae (by kernel_rfl)) ⟨Tryz.func62, rfl, by kernel_rfl, rfl⟩ (fun x => by exact Xy x.1 x.2)
noncomputable def AY (a0 : (Bool × ((List Int) × (Bool × ((List Int) × (Bool × ((List Int) × (Bool × (List Int))))))))) (a1 : (Bool × ((List Int) × (Bool × (List Int))))) : Option (Bool) :=
  ((CY (a0.1, (a0.2.1, (a0.2.2.1, (a0.2.2.2.1, (a0.2.2.2.2.1, (a0.2.2.2.2.2.1, (a0.2.2.2.2.2.2.1, a0.2.2.2.2.2.2.2))))))) (a1.1, (a1.2.1, (a1.2.2.1, a1.2.2.2))))).bind fun x0 =>
  bif x0.2 then
    some x0.1
  else
  some false
noncomputable def Q7 : Ent := ⟨Lj, fun x => AY x.1 x.2⟩
noncomputable def QA : TX := ⟨tyTab, codTab, [], [4], [Le], Lj⟩
set_option maxHeartbeats 2000000 in
theorem X7 (a0 : (Bool × List (Int) × Bool × List (Int) × Bool × List (Int) × Bool × List (Int))) (a1 : (Bool × List (Int) × Bool × List (Int))) : wtF QA Tryz.f41 (a0, a1) = AY a0 a1 := by kernel_rfl
theorem WI : EntOK RR Q7 := Ab (X := QA) ⟨tyOK, boolOK, eqOK⟩ (Ad (by exact ⟨⟨Oj, rfl⟩, trivial⟩)) (Ae (by kernel_rfl)) ⟨Tryz.func41, rfl, by kernel_rfl, rfl⟩ (fun x => by exact X7 x.1 x.2)
noncomputable def FO (a0 : (Bool × ((List Int) × (Bool × (List Int))))) (a1 : (Bool × ((List Int) × (Bool × (List Int))))) : Option ((Bool × List (Int) × Bool × List (Int))) :=
  ((BR (a0.1, a0.2.1) (a1.1, a1.2.1))).bind fun x0 =>
  ((BR (a0.2.2.1, a0.2.2.2) (a1.2.2.1, a1.2.2.2))).bind fun x1 =>
  ((Bh (x0.1, x0.2) (x1.1, x1.2))).bind fun x2 =>
  some (x2.1, (x2.2.1, (x2.2.2.1, x2.2.2.2)))
noncomputable def M8 : Ent := ⟨Nj, fun x => FO x.1 x.2⟩
noncomputable def TD : TX := ⟨tyTab, codTab, [], [4], [Hn, DH], Nj⟩
set_option maxHeartbeats 2000000 in
theorem Z0 (a0 : (Bool × List (Int) × Bool × List (Int))) (a1 : (Bool × List (Int) × Bool × List (Int))) : wtF TD Tryz.f152 (a0, a1) = FO a0 a1 := by kernel_rfl
theorem Q0 : EntOK RR M8 := Ab (X := TD) ⟨tyOK, boolOK, eqOK⟩ (Ad (by exact ⟨⟨HN, rfl⟩, ⟨⟨DO, rfl⟩, trivial⟩⟩)) (Ae (by kernel_rfl)) ⟨Tryz.func152, rfl, by kernel_rfl, rfl⟩ (fun x => by exact Z0 x.1 x.2)
noncomputable def Ha (a0 : Int) : Option ((Bool × List (Int) × Bool × List (Int))) :=
  ((BF a0)).bind fun x0 =>
  ((BF (1 : Int))).bind fun x1 =>
  some (x0.1, (x0.2, (x1.1, x1.2)))
noncomputable def TK : Ent := ⟨Np, fun x => Ha x⟩
noncomputable def SC : TX := ⟨tyTab, codTab, [], [4], [FR], Np⟩
set_option maxHeartbeats 2000000 in
theorem Zw (a0 : Int) : wtF SC Tryz.f119 (a0) = Ha a0 := by kernel_rfl
theorem XR : EntOK RR TK := Ab (X := SC) ⟨tyOK, boolOK, eqOK⟩ (Ad (by exact ⟨⟨Gw, rfl⟩, trivial⟩)) (Ae (by kernel_rfl)) ⟨Tryz.func119, rfl, by kernel_rfl, rfl⟩ (fun x => by exact Zw x)
noncomputable def BG (a0 : (List Int)) : Option ((Bool × List (Int) × Bool × List (Int)) × Int) :=
  ((Bn (a0, ((0 : Int), (0 : Int))))).bind fun x0 =>
  ((A9 (x0.2.1, (x0.2.2.1, (x0.2.2.2.1, x0.2.2.2.2))))).bind fun x1 =>
  bif x1 then
    ((AQ (x0.1.1, (x0.1.2.1, x0.1.2.2)) (3 : Int))).bind fun x2 =>
    bif x2.2 then
      ((FO (x0.2.1, (x0.2.2.1, (x0.2.2.2.1, x0.2.2.2.2))) (x0.2.1, (x0.2.2.1, (x0.2.2.2.1, x0.2.2.2.2))))).bind fun x3 =>
      bif decide ((((List.length x3.2.1) : Nat) : Int) > (40 : Int)) then
        ((Ha (4 : Int))).bind fun x4 =>
        ((Aq (x2.1.1, (x2.1.2.1, x2.1.2.2)) (List.cons (-(1 : Int)) (List.cons (0 : Int) (List.cons (1 : Int) (List.cons (4 : Int) (List.cons (16 : Int) (List.cons (64 : Int) (List.cons (65 : Int) (List.nil : List Int)))))))))).bind fun x5 =>
        some ((x4.1, (x4.2.1, (x4.2.2.1, x4.2.2.2))), x5.2)
      else
      ((Aq (x2.1.1, (x2.1.2.1, x2.1.2.2)) (List.cons (-(1 : Int)) (List.cons (0 : Int) (List.cons (1 : Int) (List.cons (4 : Int) (List.cons (16 : Int) (List.cons (64 : Int) (List.cons (65 : Int) (List.nil : List Int)))))))))).bind fun x6 =>
      some ((x3.1, (x3.2.1, (x3.2.2.1, x3.2.2.2))), x6.2)
    else
    ((Aq (x2.1.1, (x2.1.2.1, x2.1.2.2)) (List.cons (-(1 : Int)) (List.cons (0 : Int) (List.cons (1 : Int) (List.cons (4 : Int) (List.cons (16 : Int) (List.cons (64 : Int) (List.cons (65 : Int) (List.nil : List Int)))))))))).bind fun x7 =>
    some ((x0.2.1, (x0.2.2.1, (x0.2.2.2.1, x0.2.2.2.2))), x7.2)
  else
  ((Aq (x0.1.1, (x0.1.2.1, x0.1.2.2)) (List.cons (-(1 : Int)) (List.cons (0 : Int) (List.cons (1 : Int) (List.cons (4 : Int) (List.cons (16 : Int) (List.cons (64 : Int) (List.cons (65 : Int) (List.nil : List Int)))))))))).bind fun x8 =>
  some ((x0.2.1, (x0.2.2.1, (x0.2.2.2.1, x0.2.2.2.2))), x8.2)
noncomputable def Hz : Ent := ⟨EL, fun x => BG x⟩
noncomputable def Hl : TX := ⟨tyTab, codTab, [], [4], [DA, CW, Dv, M8, TK, DC], EL⟩
set_option maxHeartbeats 2000000 in
theorem Nn (a0 : List (Int)) : wtF Hl Tryz.f54 (a0) = BG a0 := by kernel_rfl
theorem Mv : EntOK RR Hz := Ab (X := Hl) ⟨tyOK, boolOK, eqOK⟩ (Ad (by exact ⟨⟨Eu, rfl⟩, ⟨⟨C3, rfl⟩, ⟨⟨Er, rfl⟩, ⟨⟨Q0, rfl⟩, ⟨⟨XR, rfl⟩, ⟨⟨ER, rfl⟩, trivial⟩⟩⟩⟩⟩⟩)) (Ae (by kernel_rfl)) ⟨Tryz.func54, rfl, by kernel_rfl, rfl⟩ (fun x => by exact Nn x)
noncomputable def Et (a0 : (Bool × ((List Int) × (Bool × (List Int))))) : Option (Int) :=
  ((AG (a0.1, a0.2.1))).bind fun x0 =>
  some x0
noncomputable def M0 : Ent := ⟨HY, fun x => Et x⟩
noncomputable def LG : TX := ⟨tyTab, codTab, [], [4], [De], HY⟩
set_option maxHeartbeats 2000000 in
theorem Ux (a0 : (Bool × List (Int) × Bool × List (Int))) : wtF LG Tryz.f110 (a0) = Et a0 := by kernel_rfl
theorem Su : EntOK RR M0 := Ab (X := LG) ⟨tyOK, boolOK, eqOK⟩ (Ad (by exact ⟨⟨Dt, rfl⟩, trivial⟩)) (Ae (by kernel_rfl)) ⟨Tryz.func110, rfl, by kernel_rfl, rfl⟩ (fun x => by exact Ux x)
noncomputable def EC (s0 : (Bool × (List Int))) (s1 : (Bool × (List Int))) (s2 : Bool) (s3 : (List Int)) : Option (((Bool × (List Int)) × ((Bool × (List Int)) × (Bool × (List Int)))) ⊕ (Bool × (List Int))) :=
  ((BU (s0.1, s0.2) (s2, s3))).bind fun x0 =>
  ((CX (s2, s3) (x0.1.1, x0.1.2))).bind fun x1 =>
  ((A7 (2 : Int))).bind fun x2 =>
  ((BU (x1.1, x1.2) (x2.1, x2.2))).bind fun x3 =>
  ((BL (x3.1.1, x3.1.2) (s2, s3))).bind fun x4 =>
  bif decide (x4 ≥ (0 : Int)) then
    some (Sum.inr (s2, s3))
  else
  some (Sum.inl ((s0.1, s0.2), ((s1.1, s1.2), (x3.1.1, x3.1.2))))
noncomputable def EQ (a0 : (Bool × (List Int))) : Option ((Bool × List (Int))) :=
  ((AG (a0.1, a0.2))).bind fun x0 =>
  bif (x0 == (0 : Int)) then
    some (false, (List.nil : List Int))
  else
  ((lenI (Go.IntKind.wrap Go.IntKind.i64 (Int.tdiv (Go.IntKind.wrap Go.IntKind.i64 ((((List.length a0.2) : Nat) : Int) + (1 : Int))) (2 : Int))) 8 1)).bind fun x1 =>
  ((appL 8 1 (List.replicate x1 (0 : Int)) (List.cons (1 : Int) (List.nil : List Int)))).bind fun x2 =>
  ((AD false x2)).bind fun x3 =>
  (loopM (fun (s : ((Bool × (List Int)) × ((Bool × (List Int)) × (Bool × (List Int))))) => EC s.1 s.2.1 s.2.2.1 s.2.2.2) ((a0.1, a0.2), ((false, (List.nil : List Int)), (x3.2, x3.1)))).bind fun x4 =>
  some (x4.1, x4.2)
noncomputable def RW : Ent := ⟨K5, fun x => EQ x⟩
noncomputable def Qm : TX := ⟨tyTab, codTab, [], [4], [De, B5, GH, GQ, D3, Ei], K5⟩
set_option maxHeartbeats 2000000 in
theorem Xm (a0 : (Bool × List (Int))) : wtF Qm Tryz.f166 (a0) = EQ a0 := by kernel_rfl
theorem WZ : EntOK RR RW := Ab (X := Qm) ⟨tyOK, boolOK, eqOK⟩ (Ad (by exact ⟨⟨Dt, rfl⟩, ⟨⟨BW, rfl⟩, ⟨⟨HW, rfl⟩, ⟨⟨Iy, rfl⟩, ⟨⟨DM, rfl⟩, ⟨⟨FF, rfl⟩, trivial⟩⟩⟩⟩⟩⟩)) (Ae (by kernel_rfl)) ⟨Tryz.func166, rfl, by kernel_rfl, rfl⟩ (fun x => by exact Xm x)
noncomputable def EB (a0 : (Bool × ((List Int) × (Bool × (List Int))))) (a1 : (Bool × ((List Int) × (Bool × (List Int))))) : Option (Bool) :=
  ((Bq (a0.1, (a0.2.1, (a0.2.2.1, a0.2.2.2))) (a1.1, (a1.2.1, (a1.2.2.1, a1.2.2.2))))).bind fun x0 =>
  some (x0 == (0 : Int))
noncomputable def Mb : Ent := ⟨HU, fun x => EB x.1 x.2⟩
noncomputable def L7 : TX := ⟨tyTab, codTab, [], [4], [CM], HU⟩
set_option maxHeartbeats 2000000 in
theorem U7 (a0 : (Bool × List (Int) × Bool × List (Int))) (a1 : (Bool × List (Int) × Bool × List (Int))) : wtF L7 Tryz.f167 (a0, a1) = EB a0 a1 := by kernel_rfl
theorem Sf : EntOK RR Mb := Ab (X := L7) ⟨tyOK, boolOK, eqOK⟩ (Ad (by exact ⟨⟨DF, rfl⟩, trivial⟩)) (Ae (by kernel_rfl)) ⟨Tryz.func167, rfl, by kernel_rfl, rfl⟩ (fun x => by exact U7 x.1 x.2)
noncomputable def BA (a0 : (Bool × ((List Int) × (Bool × (List Int))))) (a1 : Int) : Option ((Bool × List (Int) × Bool × List (Int) × Bool × List (Int) × Bool × List (Int)) × Bool) :=
  ((Cg (a0.1, (a0.2.1, (a0.2.2.1, a0.2.2.2))))).bind fun x0 =>
  bif (!x0) then
    some ((false, ((List.nil : List Int), (false, ((List.nil : List Int), (false, ((List.nil : List Int), (false, (List.nil : List Int)))))))), false)
  else
  ((Et (a0.1, (a0.2.1, (a0.2.2.1, a0.2.2.2))))).bind fun x1 =>
  bif decide (x1 < (0 : Int)) then
    some ((false, ((List.nil : List Int), (false, ((List.nil : List Int), (false, ((List.nil : List Int), (false, (List.nil : List Int)))))))), false)
  else
  ((Cm a1 (0 : Int) (64 : Int))).bind fun x2 =>
  bif (!x2) then
    some ((false, ((List.nil : List Int), (false, ((List.nil : List Int), (false, ((List.nil : List Int), (false, (List.nil : List Int)))))))), false)
  else
  ((DZ a1)).bind fun x3 =>
  ((Bs (a0.1, (a0.2.1, (a0.2.2.1, a0.2.2.2))) (x3.1, (x3.2.1, (x3.2.2.1, x3.2.2.2))))).bind fun x4 =>
  ((Bs (x4.1, (x4.2.1, (x4.2.2.1, x4.2.2.2))) (x3.1, (x3.2.1, (x3.2.2.1, x3.2.2.2))))).bind fun x5 =>
  ((BV (x5.1, (x5.2.1, (x5.2.2.1, x5.2.2.2))))).bind fun x6 =>
  ((EQ (x6.1, x6.2))).bind fun x7 =>
  ((E6 (x7.1, x7.2))).bind fun x8 =>
  ((Ce (x8.1, (x8.2.1, (x8.2.2.1, x8.2.2.2))) (x3.1, (x3.2.1, (x3.2.2.1, x3.2.2.2))))).bind fun x9 =>
  (((Bs (x9.1, (x9.2.1, (x9.2.2.1, x9.2.2.2))) (x9.1, (x9.2.1, (x9.2.2.1, x9.2.2.2))))).bind fun x10 =>
    ((EB (x10.1, (x10.2.1, (x10.2.2.1, x10.2.2.2))) (a0.1, (a0.2.1, (a0.2.2.1, a0.2.2.2))))).bind fun x11 =>
    bif (!x11) then
      ((Cz (1 : Int))).bind fun x12 =>
      ((Ce (x12.1, (x12.2.1, (x12.2.2.1, x12.2.2.2))) (x3.1, (x3.2.1, (x3.2.2.1, x3.2.2.2))))).bind fun x13 =>
      ((CK (x9.1, (x9.2.1, (x9.2.2.1, x9.2.2.2))) (x13.1, (x13.2.1, (x13.2.2.1, x13.2.2.2))))).bind fun x14 =>
      some (Sum.inr ((false, ((List.nil : List Int), (false, ((List.nil : List Int), (false, ((List.nil : List Int), (false, (List.nil : List Int)))))))), ((x9.1, (x9.2.1, (x9.2.2.1, x9.2.2.2))), (x14.1, (x14.2.1, (x14.2.2.1, x14.2.2.2))))))
    else
    some (Sum.inr ((false, ((List.nil : List Int), (false, ((List.nil : List Int), (false, ((List.nil : List Int), (false, (List.nil : List Int)))))))), ((x9.1, (x9.2.1, (x9.2.2.1, x9.2.2.2))), (x9.1, (x9.2.1, (x9.2.2.1, x9.2.2.2))))))).bind fun x15 =>
  Sum.elim
    (fun x16 =>
    some x16)
    (fun x17 =>
    ((Ba (x17.2.1.1, (x17.2.1.2.1, (x17.2.1.2.2.1, x17.2.1.2.2.2))) (x17.2.2.1, (x17.2.2.2.1, (x17.2.2.2.2.1, x17.2.2.2.2.2))))).bind fun x18 =>
    some ((x18.1.1, (x18.1.2.1, (x18.1.2.2.1, (x18.1.2.2.2.1, (x18.1.2.2.2.2.1, (x18.1.2.2.2.2.2.1, (x18.1.2.2.2.2.2.2.1, x18.1.2.2.2.2.2.2.2))))))), x18.2))
    x15
noncomputable def LJ : Ent := ⟨Ir, fun x => BA x.1 x.2⟩
noncomputable def Mg : TX := ⟨tyTab, codTab, [], [4], [Fo, M0, Gs, Jy, GD, G6, RW, N3, JZ, Mb, Kg, GF, Ct], Ir⟩
set_option maxHeartbeats 2000000 in
theorem T3 (a0 : (Bool × List (Int) × Bool × List (Int))) (a1 : Int) : wtF Mg Tryz.f55 (a0, a1) = BA a0 a1 := by kernel_rfl
theorem Sp : EntOK RR LJ := Ab (X := Mg) ⟨tyOK, boolOK, eqOK⟩ (Ad (by exact ⟨⟨FN, rfl⟩, ⟨⟨Su, rfl⟩, ⟨⟨GR, rfl⟩, ⟨⟨MO, rfl⟩, ⟨⟨Id, rfl⟩, ⟨⟨IP, rfl⟩, ⟨⟨WZ, rfl⟩, ⟨⟨QL, rfl⟩, ⟨⟨Ma, rfl⟩, ⟨⟨Sf, rfl⟩, ⟨⟨K0, rfl⟩, ⟨⟨Im, rfl⟩, ⟨⟨C4, rfl⟩, trivial⟩⟩⟩⟩⟩⟩⟩⟩⟩⟩⟩⟩⟩)) (Ae (by kernel_rfl)) ⟨Tryz.func55, rfl, by kernel_rfl, rfl⟩ (fun x => by exact T3 x.1 x.2)
noncomputable def A4 (s0 : (Bool × ((List Int) × (Bool × (List Int))))) (s1 : (Bool × ((List Int) × (Bool × ((List Int) × (Bool × ((List Int) × (Bool × (List Int))))))))) (s2 : (Bool × (List Int))) (s3 : (Bool × (List Int))) (s4 : (Bool × (List Int))) (s5 : Int) : Option (((Bool × ((List Int) × (Bool × (List Int)))) × ((Bool × ((List Int) × (Bool × ((List Int) × (Bool × ((List Int) × (Bool × (List Int)))))))) × ((Bool × (List Int)) × ((Bool × (List Int)) × ((Bool × (List Int)) × Int))))) ⊕ ((Bool × ((List Int) × (Bool × (List Int)))) × ((Bool × ((List Int) × (Bool × ((List Int) × (Bool × ((List Int) × (Bool × (List Int)))))))) × ((Bool × (List Int)) × (Bool × (List Int)))))) :=
  bif decide (s5 ≥ (0 : Int)) then
    ((CN s5)).bind fun x0 =>
    ((DU (s4.1, s4.2) (x0.1, x0.2))).bind fun x1 =>
    ((BR (x1.1, x1.2) (x1.1, x1.2))).bind fun x2 =>
    ((Df (x2.1, x2.2) (s3.1, s3.2))).bind fun x3 =>
    bif decide (x3 ≤ (0 : Int)) then
      some (Sum.inl ((s0.1, (s0.2.1, (s0.2.2.1, s0.2.2.2))), ((s1.1, (s1.2.1, (s1.2.2.1, (s1.2.2.2.1, (s1.2.2.2.2.1, (s1.2.2.2.2.2.1, (s1.2.2.2.2.2.2.1, s1.2.2.2.2.2.2.2))))))), ((s2.1, s2.2), ((s3.1, s3.2), ((x1.1, x1.2), (Go.IntKind.wrap Go.IntKind.i64 (s5 - (1 : Int)))))))))
    else
    some (Sum.inl ((s0.1, (s0.2.1, (s0.2.2.1, s0.2.2.2))), ((s1.1, (s1.2.1, (s1.2.2.1, (s1.2.2.2.1, (s1.2.2.2.2.1, (s1.2.2.2.2.2.1, (s1.2.2.2.2.2.2.1, s1.2.2.2.2.2.2.2))))))), ((s2.1, s2.2), ((s3.1, s3.2), ((s4.1, s4.2), (Go.IntKind.wrap Go.IntKind.i64 (s5 - (1 : Int)))))))))
  else
  some (Sum.inr ((s0.1, (s0.2.1, (s0.2.2.1, s0.2.2.2))), ((s1.1, (s1.2.1, (s1.2.2.1, (s1.2.2.2.1, (s1.2.2.2.2.1, (s1.2.2.2.2.2.1, (s1.2.2.2.2.2.2.1, s1.2.2.2.2.2.2.2))))))), ((s2.1, s2.2), (s4.1, s4.2)))))
noncomputable def Bw (a0 : (Bool × ((List Int) × (Bool × (List Int))))) (a1 : Int) : Option ((Bool × List (Int) × Bool × List (Int) × Bool × List (Int) × Bool × List (Int)) × Bool) :=
  ((A9 (a0.1, (a0.2.1, (a0.2.2.1, a0.2.2.2))))).bind fun x0 =>
  bif (!x0) then
    some ((false, ((List.nil : List Int), (false, ((List.nil : List Int), (false, ((List.nil : List Int), (false, (List.nil : List Int)))))))), false)
  else
  bif a0.1 then
    some ((false, ((List.nil : List Int), (false, ((List.nil : List Int), (false, ((List.nil : List Int), (false, (List.nil : List Int)))))))), false)
  else
  ((Em a1 (0 : Int) (64 : Int))).bind fun x1 =>
  bif (!x1) then
    some ((false, ((List.nil : List Int), (false, ((List.nil : List Int), (false, ((List.nil : List Int), (false, (List.nil : List Int)))))))), false)
  else
  ((CN a1)).bind fun x2 =>
  ((BR (x2.1, x2.2) (x2.1, x2.2))).bind fun x3 =>
  ((BR (a0.1, a0.2.1) (x3.1, x3.2))).bind fun x4 =>
  ((Bh (x4.1, x4.2) (a0.2.2.1, a0.2.2.2))).bind fun x5 =>
  ((D0 (x5.1, (x5.2.1, (x5.2.2.1, x5.2.2.2))))).bind fun x6 =>
  ((BF (0 : Int))).bind fun x7 =>
  (loopM (fun (s : ((Bool × ((List Int) × (Bool × (List Int)))) × ((Bool × ((List Int) × (Bool × ((List Int) × (Bool × ((List Int) × (Bool × (List Int)))))))) × ((Bool × (List Int)) × ((Bool × (List Int)) × ((Bool × (List Int)) × Int)))))) => A4 s.1 s.2.1 s.2.2.1 s.2.2.2.1 s.2.2.2.2.1 s.2.2.2.2.2) ((a0.1, (a0.2.1, (a0.2.2.1, a0.2.2.2))), ((false, ((List.nil : List Int), (false, ((List.nil : List Int), (false, ((List.nil : List Int), (false, (List.nil : List Int)))))))), ((x2.1, x2.2), ((x6.1, x6.2), ((x7.1, x7.2), (Go.IntKind.wrap Go.IntKind.i64 ((Go.IntKind.wrap Go.IntKind.i64 ((8 : Int) * (((List.length x6.2) : Nat) : Int))) + (1 : Int))))))))).bind fun x8 =>
  ((Bh (x8.2.2.2.1, x8.2.2.2.2) (x8.2.2.1.1, x8.2.2.1.2))).bind fun x9 =>
  ((BF (1 : Int))).bind fun x10 =>
  ((DU (x8.2.2.2.1, x8.2.2.2.2) (x10.1, x10.2))).bind fun x11 =>
  ((Bh (x11.1, x11.2) (x8.2.2.1.1, x8.2.2.1.2))).bind fun x12 =>
  ((FO (x9.1, (x9.2.1, (x9.2.2.1, x9.2.2.2))) (x9.1, (x9.2.1, (x9.2.2.1, x9.2.2.2))))).bind fun x13 =>
  ((C9 (x13.1, (x13.2.1, (x13.2.2.1, x13.2.2.2))) (x8.1.1, (x8.1.2.1, (x8.1.2.2.1, x8.1.2.2.2))))).bind fun x14 =>
  bif (x14 == (0 : Int)) then
    ((CI (x9.1, (x9.2.1, (x9.2.2.1, (x9.2.2.2, (x9.1, (x9.2.1, (x9.2.2.1, x9.2.2.2))))))))).bind fun x15 =>
    some ((x15.1.1, (x15.1.2.1, (x15.1.2.2.1, (x15.1.2.2.2.1, (x15.1.2.2.2.2.1, (x15.1.2.2.2.2.2.1, (x15.1.2.2.2.2.2.2.1, x15.1.2.2.2.2.2.2.2))))))), x15.2)
  else
  ((CI (x9.1, (x9.2.1, (x9.2.2.1, (x9.2.2.2, (x12.1, (x12.2.1, (x12.2.2.1, x12.2.2.2))))))))).bind fun x16 =>
  some ((x16.1.1, (x16.1.2.1, (x16.1.2.2.1, (x16.1.2.2.2.1, (x16.1.2.2.2.2.1, (x16.1.2.2.2.2.2.1, (x16.1.2.2.2.2.2.2.1, x16.1.2.2.2.2.2.2.2))))))), x16.2)
noncomputable def L4 : Ent := ⟨Iz, fun x => Bw x.1 x.2⟩
noncomputable def L9 : TX := ⟨tyTab, codTab, [], [4], [CW, JW, Ji, Hn, DH, JY, FR, Kv, Iq, M8, Hx, It], Iz⟩
set_option maxHeartbeats 2000000 in
theorem US (a0 : (Bool × List (Int) × Bool × List (Int))) (a1 : Int) : wtF L9 Tryz.f56 (a0, a1) = Bw a0 a1 := by kernel_rfl
theorem Sm : EntOK RR L4 := Ab (X := L9) ⟨tyOK, boolOK, eqOK⟩ (Ad (by exact ⟨⟨C3, rfl⟩, ⟨⟨Ks, rfl⟩, ⟨⟨L1, rfl⟩, ⟨⟨HN, rfl⟩, ⟨⟨DO, rfl⟩, ⟨⟨LY, rfl⟩, ⟨⟨Gw, rfl⟩, ⟨⟨K9, rfl⟩, ⟨⟨KE, rfl⟩, ⟨⟨Q0, rfl⟩, ⟨⟨Ig, rfl⟩, ⟨⟨JC, rfl⟩, trivial⟩⟩⟩⟩⟩⟩⟩⟩⟩⟩⟩⟩)) (Ae (by kernel_rfl)) ⟨Tryz.func56, rfl, by kernel_rfl, rfl⟩ (fun x => by exact US x.1 x.2)
noncomputable def Al (s0 : (Bool × ((List Int) × (Bool × (List Int))))) (s1 : (Bool × ((List Int) × (Bool × (List Int))))) (s2 : (List ((Bool × (List Int)) × (Bool × (List Int))))) (s3 : Int) : Option (((Bool × ((List Int) × (Bool × (List Int)))) × ((Bool × ((List Int) × (Bool × (List Int)))) × ((List ((Bool × (List Int)) × (Bool × (List Int)))) × Int))) ⊕ ((Bool × ((List Int) × (Bool × (List Int)))) × (Bool × ((List Int) × (Bool × (List Int)))))) :=
  bif decide (s3 < (((List.length s2) : Nat) : Int)) then
    ((getI s2 s3)).bind fun x0 =>
    ((Bq (x0.1.1, (x0.1.2, (x0.2.1, x0.2.2))) (s1.1, (s1.2.1, (s1.2.2.1, s1.2.2.2))))).bind fun x1 =>
    bif decide (x1 < (0 : Int)) then
      ((getI s2 s3)).bind fun x2 =>
      some (Sum.inl ((s0.1, (s0.2.1, (s0.2.2.1, s0.2.2.2))), ((x2.1.1, (x2.1.2, (x2.2.1, x2.2.2))), (s2, (Go.IntKind.wrap Go.IntKind.i64 (s3 + (1 : Int)))))))
    else
    some (Sum.inl ((s0.1, (s0.2.1, (s0.2.2.1, s0.2.2.2))), ((s1.1, (s1.2.1, (s1.2.2.1, s1.2.2.2))), (s2, (Go.IntKind.wrap Go.IntKind.i64 (s3 + (1 : Int)))))))
  else
  some (Sum.inr ((s0.1, (s0.2.1, (s0.2.2.1, s0.2.2.2))), (s1.1, (s1.2.1, (s1.2.2.1, s1.2.2.2)))))
noncomputable def AA (a0 : (List ((Bool × (List Int)) × (Bool × (List Int))))) : Option ((Bool × List (Int) × Bool × List (Int))) :=
  bif decide ((((List.length a0) : Nat) : Int) < (1 : Int)) then
    none
  else
  ((getI a0 (0 : Int))).bind fun x0 =>
  (loopM (fun (s : ((Bool × ((List Int) × (Bool × (List Int)))) × ((Bool × ((List Int) × (Bool × (List Int)))) × ((List ((Bool × (List Int)) × (Bool × (List Int)))) × Int)))) => Al s.1 s.2.1 s.2.2.1 s.2.2.2) ((false, ((List.nil : List Int), (false, (List.nil : List Int)))), ((x0.1.1, (x0.1.2, (x0.2.1, x0.2.2))), (a0, (1 : Int))))).bind fun x1 =>
  some (x1.2.1, (x1.2.2.1, (x1.2.2.2.1, x1.2.2.2.2)))
noncomputable def Cl : Ent := ⟨Br, fun x => AA x⟩
noncomputable def Cf : TX := ⟨tyTab, codTab, [], [4], [CM], Br⟩
set_option maxHeartbeats 2000000 in
theorem Fg (a0 : List (((Bool × List (Int)) × (Bool × List (Int))))) : wtF Cf Tryz.f244 (a0) = AA a0 := by kernel_rfl
theorem E4 : EntOK RR Cl := Ab (X := Cf) ⟨tyOK, boolOK, eqOK⟩ (Ad (by exact ⟨⟨DF, rfl⟩, trivial⟩)) (Ae (by kernel_rfl)) ⟨Tryz.func244, rfl, by kernel_rfl, rfl⟩ (fun x => by exact Fg x)
noncomputable def Am (s0 : (Bool × ((List Int) × (Bool × (List Int))))) (s1 : (Bool × ((List Int) × (Bool × (List Int))))) (s2 : (List ((Bool × (List Int)) × (Bool × (List Int))))) (s3 : Int) : Option (((Bool × ((List Int) × (Bool × (List Int)))) × ((Bool × ((List Int) × (Bool × (List Int)))) × ((List ((Bool × (List Int)) × (Bool × (List Int)))) × Int))) ⊕ ((Bool × ((List Int) × (Bool × (List Int)))) × (Bool × ((List Int) × (Bool × (List Int)))))) :=
  bif decide (s3 < (((List.length s2) : Nat) : Int)) then
    ((getI s2 s3)).bind fun x0 =>
    ((Bq (x0.1.1, (x0.1.2, (x0.2.1, x0.2.2))) (s1.1, (s1.2.1, (s1.2.2.1, s1.2.2.2))))).bind fun x1 =>
    bif decide (x1 > (0 : Int)) then
      ((getI s2 s3)).bind fun x2 =>
      some (Sum.inl ((s0.1, (s0.2.1, (s0.2.2.1, s0.2.2.2))), ((x2.1.1, (x2.1.2, (x2.2.1, x2.2.2))), (s2, (Go.IntKind.wrap Go.IntKind.i64 (s3 + (1 : Int)))))))
    else
    some (Sum.inl ((s0.1, (s0.2.1, (s0.2.2.1, s0.2.2.2))), ((s1.1, (s1.2.1, (s1.2.2.1, s1.2.2.2))), (s2, (Go.IntKind.wrap Go.IntKind.i64 (s3 + (1 : Int)))))))
  else
  some (Sum.inr ((s0.1, (s0.2.1, (s0.2.2.1, s0.2.2.2))), (s1.1, (s1.2.1, (s1.2.2.1, s1.2.2.2)))))
noncomputable def Ay (a0 : (List ((Bool × (List Int)) × (Bool × (List Int))))) : Option ((Bool × List (Int) × Bool × List (Int))) :=
  bif decide ((((List.length a0) : Nat) : Int) < (1 : Int)) then
    none
  else
  ((getI a0 (0 : Int))).bind fun x0 =>
  (loopM (fun (s : ((Bool × ((List Int) × (Bool × (List Int)))) × ((Bool × ((List Int) × (Bool × (List Int)))) × ((List ((Bool × (List Int)) × (Bool × (List Int)))) × Int)))) => Am s.1 s.2.1 s.2.2.1 s.2.2.2) ((false, ((List.nil : List Int), (false, (List.nil : List Int)))), ((x0.1.1, (x0.1.2, (x0.2.1, x0.2.2))), (a0, (1 : Int))))).bind fun x1 =>
  some (x1.2.1, (x1.2.2.1, (x1.2.2.2.1, x1.2.2.2.2)))
noncomputable def Ck : Ent := ⟨Bp, fun x => Ay x⟩
noncomputable def Cj : TX := ⟨tyTab, codTab, [], [4], [CM], Bp⟩
set_option maxHeartbeats 2000000 in
theorem Fn (a0 : List (((Bool × List (Int)) × (Bool × List (Int))))) : wtF Cj Tryz.f245 (a0) = Ay a0 := by kernel_rfl
theorem EV : EntOK RR Ck := Ab (X := Cj) ⟨tyOK, boolOK, eqOK⟩ (Ad (by exact ⟨⟨DF, rfl⟩, trivial⟩)) (Ae (by kernel_rfl)) ⟨Tryz.func245, rfl, by kernel_rfl, rfl⟩ (fun x => by exact Fn x)
noncomputable def CP (a0 : (List ((Bool × (List Int)) × (Bool × (List Int))))) : Option ((Bool × List (Int) × Bool × List (Int) × Bool × List (Int) × Bool × List (Int)) × Bool) :=
  ((AA a0)).bind fun x0 =>
  ((Ay a0)).bind fun x1 =>
  ((Ba (x0.1, (x0.2.1, (x0.2.2.1, x0.2.2.2))) (x1.1, (x1.2.1, (x1.2.2.1, x1.2.2.2))))).bind fun x2 =>
  some ((x2.1.1, (x2.1.2.1, (x2.1.2.2.1, (x2.1.2.2.2.1, (x2.1.2.2.2.2.1, (x2.1.2.2.2.2.2.1, (x2.1.2.2.2.2.2.2.1, x2.1.2.2.2.2.2.2.2))))))), x2.2)
noncomputable def QK : Ent := ⟨Li, fun x => CP x⟩
noncomputable def P2 : TX := ⟨tyTab, codTab, [], [4], [Cl, Ck, Ct], Li⟩
set_option maxHeartbeats 2000000 in
theorem Ya (a0 : List (((Bool × List (Int)) × (Bool × List (Int))))) : wtF P2 Tryz.f150 (a0) = CP a0 := by kernel_rfl
theorem V4 : EntOK RR QK := Ab (X := P2) ⟨tyOK, boolOK, eqOK⟩ (Ad (by exact ⟨⟨E4, rfl⟩, ⟨⟨EV, rfl⟩, ⟨⟨C4, rfl⟩, trivial⟩⟩⟩)) (Ae (by kernel_rfl)) ⟨Tryz.func150, rfl, by kernel_rfl, rfl⟩ (fun x => by exact Ya x)
noncomputable def BK (a0 : (Bool × ((List Int) × (Bool × ((List Int) × (Bool × ((List Int) × (Bool × (List Int))))))))) : Option ((Bool × List (Int) × Bool × List (Int) × Bool × List (Int) × Bool × List (Int)) × Bool) :=
  ((Bx (a0.1, (a0.2.1, (a0.2.2.1, (a0.2.2.2.1, (a0.2.2.2.2.1, (a0.2.2.2.2.2.1, (a0.2.2.2.2.2.2.1, a0.2.2.2.2.2.2.2))))))))).bind fun x0 =>
  bif (!x0) then
    some ((false, ((List.nil : List Int), (false, ((List.nil : List Int), (false, ((List.nil : List Int), (false, (List.nil : List Int)))))))), false)
  else
  ((Bs (a0.1, (a0.2.1, (a0.2.2.1, a0.2.2.2.1))) (a0.1, (a0.2.1, (a0.2.2.1, a0.2.2.2.1))))).bind fun x1 =>
  ((Bs (a0.2.2.2.2.1, (a0.2.2.2.2.2.1, (a0.2.2.2.2.2.2.1, a0.2.2.2.2.2.2.2))) (a0.2.2.2.2.1, (a0.2.2.2.2.2.1, (a0.2.2.2.2.2.2.1, a0.2.2.2.2.2.2.2))))).bind fun x2 =>
  ((Cz (0 : Int))).bind fun x3 =>
  ((C8 (a0.1, (a0.2.1, (a0.2.2.1, (a0.2.2.2.1, (a0.2.2.2.2.1, (a0.2.2.2.2.2.1, (a0.2.2.2.2.2.2.1, a0.2.2.2.2.2.2.2))))))) (x3.1, (x3.2.1, (x3.2.2.1, x3.2.2.2))))).bind fun x4 =>
  bif x4 then
    ((Cz (0 : Int))).bind fun x5 =>
    ((appL 64 4 (List.cons ((x1.1, x1.2.1), (x1.2.2.1, x1.2.2.2)) (List.cons ((x2.1, x2.2.1), (x2.2.2.1, x2.2.2.2)) (List.nil : List ((Bool × (List Int)) × (Bool × (List Int)))))) (List.cons ((x5.1, x5.2.1), (x5.2.2.1, x5.2.2.2)) (List.nil : List ((Bool × (List Int)) × (Bool × (List Int))))))).bind fun x6 =>
    ((CP x6)).bind fun x7 =>
    some ((x7.1.1, (x7.1.2.1, (x7.1.2.2.1, (x7.1.2.2.2.1, (x7.1.2.2.2.2.1, (x7.1.2.2.2.2.2.1, (x7.1.2.2.2.2.2.2.1, x7.1.2.2.2.2.2.2.2))))))), x7.2)
  else
  ((CP (List.cons ((x1.1, x1.2.1), (x1.2.2.1, x1.2.2.2)) (List.cons ((x2.1, x2.2.1), (x2.2.2.1, x2.2.2.2)) (List.nil : List ((Bool × (List Int)) × (Bool × (List Int)))))))).bind fun x8 =>
  some ((x8.1.1, (x8.1.2.1, (x8.1.2.2.1, (x8.1.2.2.2.1, (x8.1.2.2.2.2.1, (x8.1.2.2.2.2.2.1, (x8.1.2.2.2.2.2.2.1, x8.1.2.2.2.2.2.2.2))))))), x8.2)
noncomputable def JE : Ent := ⟨Gg, fun x => BK x⟩
noncomputable def I7 : TX := ⟨tyTab, codTab, [], [4], [En, GD, Kg, Ix, QK], Gg⟩
set_option maxHeartbeats 2000000 in
theorem Rb (a0 : (Bool × List (Int) × Bool × List (Int) × Bool × List (Int) × Bool × List (Int))) : wtF I7 Tryz.f45 (a0) = BK a0 := by kernel_rfl
theorem Pv : EntOK RR JE := Ab (X := I7) ⟨tyOK, boolOK, eqOK⟩ (Ad (by exact ⟨⟨Ff, rfl⟩, ⟨⟨Id, rfl⟩, ⟨⟨K0, rfl⟩, ⟨⟨KM, rfl⟩, ⟨⟨V4, rfl⟩, trivial⟩⟩⟩⟩⟩)) (Ae (by kernel_rfl)) ⟨Tryz.func45, rfl, by kernel_rfl, rfl⟩ (fun x => by exact Rb x)
noncomputable def Fk (a0 : (Bool × ((List Int) × (Bool × (List Int))))) (a1 : (Bool × ((List Int) × (Bool × (List Int))))) : Option ((Bool × List (Int) × Bool × List (Int))) :=
  ((CJ (a1.1, (a1.2.1, (a1.2.2.1, a1.2.2.2))))).bind fun x0 =>
  ((CK (a0.1, (a0.2.1, (a0.2.2.1, a0.2.2.2))) (x0.1, (x0.2.1, (x0.2.2.1, x0.2.2.2))))).bind fun x1 =>
  some (x1.1, (x1.2.1, (x1.2.2.1, x1.2.2.2)))
noncomputable def OZ : Ent := ⟨I0, fun x => Fk x.1 x.2⟩
noncomputable def Og : TX := ⟨tyTab, codTab, [], [4], [Jn, GF], I0⟩
set_option maxHeartbeats 2000000 in
theorem WN (a0 : (Bool × List (Int) × Bool × List (Int))) (a1 : (Bool × List (Int) × Bool × List (Int))) : wtF Og Tryz.f108 (a0, a1) = Fk a0 a1 := by kernel_rfl
theorem UU : EntOK RR OZ := Ab (X := Og) ⟨tyOK, boolOK, eqOK⟩ (Ad (by exact ⟨⟨MN, rfl⟩, ⟨⟨Im, rfl⟩, trivial⟩⟩)) (Ae (by kernel_rfl)) ⟨Tryz.func108, rfl, by kernel_rfl, rfl⟩ (fun x => by exact WN x.1 x.2)
noncomputable def CL (a0 : (Bool × ((List Int) × (Bool × (List Int))))) : Option ((Bool × List (Int) × Bool × List (Int)) × Bool) :=
  ((Bu (a0.1, (a0.2.1, (a0.2.2.1, a0.2.2.2))) (40 : Int))).bind fun x0 =>
  bif (!x0) then
    some ((false, ((List.nil : List Int), (false, (List.nil : List Int)))), false)
  else
  some ((a0.1, (a0.2.1, (a0.2.2.1, a0.2.2.2))), true)
noncomputable def JH : Ent := ⟨F4, fun x => CL x⟩
noncomputable def Jl : TX := ⟨tyTab, codTab, [], [4], [FA], F4⟩
set_option maxHeartbeats 2000000 in
theorem Rn (a0 : (Bool × List (Int) × Bool × List (Int))) : wtF Jl Tryz.f127 (a0) = CL a0 := by kernel_rfl
theorem Pn : EntOK RR JH := Ab (X := Jl) ⟨tyOK, boolOK, eqOK⟩ (Ad (by exact ⟨⟨Hf, rfl⟩, trivial⟩)) (Ae (by kernel_rfl)) ⟨Tryz.func127, rfl, by kernel_rfl, rfl⟩ (fun x => by exact Rn x)
noncomputable def CQ (a0 : (Bool × ((List Int) × (Bool × ((List Int) × (Bool × ((List Int) × (Bool × (List Int))))))))) : Option ((Bool × List (Int) × Bool × List (Int)) × Bool) :=
  ((Bx (a0.1, (a0.2.1, (a0.2.2.1, (a0.2.2.2.1, (a0.2.2.2.2.1, (a0.2.2.2.2.2.1, (a0.2.2.2.2.2.2.1, a0.2.2.2.2.2.2.2))))))))).bind fun x0 =>
  bif (!x0) then
    some ((false, ((List.nil : List Int), (false, (List.nil : List Int)))), false)
  else
  ((Fk (a0.2.2.2.2.1, (a0.2.2.2.2.2.1, (a0.2.2.2.2.2.2.1, a0.2.2.2.2.2.2.2))) (a0.1, (a0.2.1, (a0.2.2.1, a0.2.2.2.1))))).bind fun x1 =>
  ((CL (x1.1, (x1.2.1, (x1.2.2.1, x1.2.2.2))))).bind fun x2 =>
  some ((x2.1.1, (x2.1.2.1, (x2.1.2.2.1, x2.1.2.2.2))), x2.2)
noncomputable def O5 : Ent := ⟨Jx, fun x => CQ x⟩
noncomputable def OB : TX := ⟨tyTab, codTab, [], [4], [En, OZ, JH], Jx⟩
set_option maxHeartbeats 2000000 in
theorem Wr (a0 : (Bool × List (Int) × Bool × List (Int) × Bool × List (Int) × Bool × List (Int))) : wtF OB Tryz.f49 (a0) = CQ a0 := by kernel_rfl
theorem UD : EntOK RR O5 := Ab (X := OB) ⟨tyOK, boolOK, eqOK⟩ (Ad (by exact ⟨⟨Ff, rfl⟩, ⟨⟨UU, rfl⟩, ⟨⟨Pn, rfl⟩, trivial⟩⟩⟩)) (Ae (by kernel_rfl)) ⟨Tryz.func49, rfl, by kernel_rfl, rfl⟩ (fun x => by exact Wr x)
noncomputable def EM (a0 : Int) (a1 : Int) : Option ((Bool × List (Int) × Bool × List (Int)) × Bool) :=
  bif (a1 == (0 : Int)) then
    some ((false, ((List.nil : List Int), (false, (List.nil : List Int)))), false)
  else
  ((Cm a0 (-(4611686018427387904 : Int)) (4611686018427387904 : Int))).bind fun x0 =>
  bif (!x0) then
    some ((false, ((List.nil : List Int), (false, (List.nil : List Int)))), false)
  else
  ((Cm a1 (-(4611686018427387904 : Int)) (4611686018427387904 : Int))).bind fun x1 =>
  bif (!x1) then
    some ((false, ((List.nil : List Int), (false, (List.nil : List Int)))), false)
  else
  ((A7 a0)).bind fun x2 =>
  ((A7 a1)).bind fun x3 =>
  ((D1 (x2.1, x2.2) (x3.1, x3.2))).bind fun x4 =>
  some ((x4.1, (x4.2.1, (x4.2.2.1, x4.2.2.2))), true)
noncomputable def ST : Ent := ⟨Nq, fun x => EM x.1 x.2⟩
noncomputable def Tt : TX := ⟨tyTab, codTab, [], [4], [Gs, D3, Hr], Nq⟩
set_option maxHeartbeats 2000000 in
theorem Z1 (a0 : Int) (a1 : Int) : wtF Tt Tryz.f22 (a0, a1) = EM a0 a1 := by kernel_rfl
theorem Yl : EntOK RR ST := Ab (X := Tt) ⟨tyOK, boolOK, eqOK⟩ (Ad (by exact ⟨⟨GR, rfl⟩, ⟨⟨DM, rfl⟩, ⟨⟨HR, rfl⟩, trivial⟩⟩⟩)) (Ae (by kernel_rfl)) ⟨Tryz.func22, rfl, by kernel_rfl, rfl⟩ (fun x => by exact Z1 x.1 x.2)
noncomputable def AV (a0 : (Bool × (List Int))) : Option (Bool) :=
  some ((((List.length a0.2) : Nat) : Int) == (0 : Int))
noncomputable def Oy : Ent := ⟨IY, fun x => AV x⟩
noncomputable def Ob : TX := ⟨tyTab, codTab, [], [4], [], IY⟩
set_option maxHeartbeats 2000000 in
theorem WA (a0 : (Bool × List (Int))) : wtF Ob Tryz.f57 (a0) = AV a0 := by kernel_rfl
theorem UK : EntOK RR Oy := Ab (X := Ob) ⟨tyOK, boolOK, eqOK⟩ (Ad (by exact trivial)) (Ae (by kernel_rfl)) ⟨Tryz.func57, rfl, by kernel_rfl, rfl⟩ (fun x => by exact WA x)
noncomputable def Cs (a0 : (List Int)) : Option ((Bool × List (Int) × Bool × List (Int))) :=
  ((Bn (a0, ((0 : Int), (0 : Int))))).bind fun x0 =>
  some (x0.2.1, (x0.2.2.1, (x0.2.2.2.1, x0.2.2.2.2)))
noncomputable def IN : Ent := ⟨Fu, fun x => Cs x⟩
noncomputable def ID : TX := ⟨tyTab, codTab, [], [4], [DA], Fu⟩
set_option maxHeartbeats 2000000 in
theorem Pu (a0 : List (Int)) : wtF ID Tryz.f104 (a0) = Cs a0 := by kernel_rfl
theorem Ny : EntOK RR IN := Ab (X := ID) ⟨tyOK, boolOK, eqOK⟩ (Ad (by exact ⟨⟨Eu, rfl⟩, trivial⟩)) (Ae (by kernel_rfl)) ⟨Tryz.func104, rfl, by kernel_rfl, rfl⟩ (fun x => by exact Pu x)
noncomputable def Bt (a0 : (List Int)) : Option ((Bool × List (Int) × Bool × List (Int))) :=
  ((Cs a0)).bind fun x0 =>
  some (x0.1, (x0.2.1, (x0.2.2.1, x0.2.2.2)))
noncomputable def GT : Ent := ⟨Ez, fun x => Bt x⟩
noncomputable def GM : TX := ⟨tyTab, codTab, [], [4], [IN], Ez⟩
set_option maxHeartbeats 2000000 in
theorem MH (a0 : List (Int)) : wtF GM Tryz.f58 (a0) = Bt a0 := by kernel_rfl
theorem Lm : EntOK RR GT := Ab (X := GM) ⟨tyOK, boolOK, eqOK⟩ (Ad (by exact ⟨⟨Ny, rfl⟩, trivial⟩)) (Ae (by kernel_rfl)) ⟨Tryz.func58, rfl, by kernel_rfl, rfl⟩ (fun x => by exact MH x)
noncomputable def Bm (a0 : (Bool × ((List Int) × (Bool × (List Int))))) : Option ((Bool × List (Int) × Bool × List (Int) × Bool × List (Int) × Bool × List (Int)) × Bool) :=
  ((Cg (a0.1, (a0.2.1, (a0.2.2.1, a0.2.2.2))))).bind fun x0 =>
  bif (!x0) then
    some ((false, ((List.nil : List Int), (false, ((List.nil : List Int), (false, ((List.nil : List Int), (false, (List.nil : List Int)))))))), false)
  else
  ((Ba (a0.1, (a0.2.1, (a0.2.2.1, a0.2.2.2))) (a0.1, (a0.2.1, (a0.2.2.1, a0.2.2.2))))).bind fun x1 =>
  some ((x1.1.1, (x1.1.2.1, (x1.1.2.2.1, (x1.1.2.2.2.1, (x1.1.2.2.2.2.1, (x1.1.2.2.2.2.2.1, (x1.1.2.2.2.2.2.2.1, x1.1.2.2.2.2.2.2.2))))))), x1.2)
noncomputable def KF : Ent := ⟨G8, fun x => Bm x⟩
noncomputable def KT : TX := ⟨tyTab, codTab, [], [4], [Fo, Ct], G8⟩
set_option maxHeartbeats 2000000 in
theorem Sd (a0 : (Bool × List (Int) × Bool × List (Int))) : wtF KT Tryz.f59 (a0) = Bm a0 := by kernel_rfl
theorem PS : EntOK RR KF := Ab (X := KT) ⟨tyOK, boolOK, eqOK⟩ (Ad (by exact ⟨⟨FN, rfl⟩, ⟨⟨C4, rfl⟩, trivial⟩⟩)) (Ae (by kernel_rfl)) ⟨Tryz.func59, rfl, by kernel_rfl, rfl⟩ (fun x => by exact Sd x)
noncomputable def Bl (a0 : (Bool × ((List Int) × (Bool × (List Int))))) : Option ((Bool × List (Int) × Bool × List (Int) × Bool × List (Int) × Bool × List (Int)) × Bool) :=
  ((A9 (a0.1, (a0.2.1, (a0.2.2.1, a0.2.2.2))))).bind fun x0 =>
  bif (!x0) then
    some ((false, ((List.nil : List Int), (false, ((List.nil : List Int), (false, ((List.nil : List Int), (false, (List.nil : List Int)))))))), false)
  else
  ((CI (a0.1, (a0.2.1, (a0.2.2.1, (a0.2.2.2, (a0.1, (a0.2.1, (a0.2.2.1, a0.2.2.2))))))))).bind fun x1 =>
  some ((x1.1.1, (x1.1.2.1, (x1.1.2.2.1, (x1.1.2.2.2.1, (x1.1.2.2.2.2.1, (x1.1.2.2.2.2.2.1, (x1.1.2.2.2.2.2.2.1, x1.1.2.2.2.2.2.2.2))))))), x1.2)
noncomputable def KH : Ent := ⟨GY, fun x => Bl x⟩
noncomputable def KK : TX := ⟨tyTab, codTab, [], [4], [CW, It], GY⟩
set_option maxHeartbeats 2000000 in
theorem Sb (a0 : (Bool × List (Int) × Bool × List (Int))) : wtF KK Tryz.f60 (a0) = Bl a0 := by kernel_rfl
theorem RG : EntOK RR KH := Ab (X := KK) ⟨tyOK, boolOK, eqOK⟩ (Ad (by exact ⟨⟨C3, rfl⟩, ⟨⟨JC, rfl⟩, trivial⟩⟩)) (Ae (by kernel_rfl)) ⟨Tryz.func60, rfl, by kernel_rfl, rfl⟩ (fun x => by exact Sb x)
noncomputable def B6 (a0 : (List Int)) : Option ((Bool × List (Int) × Bool × List (Int) × Bool × List (Int) × Bool × List (Int)) × (Bool × List (Int) × Bool × List (Int))) :=
  ((Cc (a0, ((0 : Int), (0 : Int))))).bind fun x0 =>
  ((Bn (x0.1.1, (x0.1.2.1, x0.1.2.2)))).bind fun x1 =>
  some ((x0.2.1, (x0.2.2.1, (x0.2.2.2.1, (x0.2.2.2.2.1, (x0.2.2.2.2.2.1, (x0.2.2.2.2.2.2.1, (x0.2.2.2.2.2.2.2.1, x0.2.2.2.2.2.2.2.2))))))), (x1.2.1, (x1.2.2.1, (x1.2.2.2.1, x1.2.2.2.2))))
noncomputable def IZ : Ent := ⟨F6, fun x => B6 x⟩
noncomputable def JI : TX := ⟨tyTab, codTab, [], [4], [Gr, DA], F6⟩
set_option maxHeartbeats 2000000 in
theorem Qi (a0 : List (Int)) : wtF JI Tryz.f61 (a0) = B6 a0 := by kernel_rfl
theorem Ps : EntOK RR IZ := Ab (X := JI) ⟨tyOK, boolOK, eqOK⟩ (Ad (by exact ⟨⟨IG, rfl⟩, ⟨⟨Eu, rfl⟩, trivial⟩⟩)) (Ae (by kernel_rfl)) ⟨Tryz.func61, rfl, by kernel_rfl, rfl⟩ (fun x => by exact Qi x)
noncomputable def Jk (a0 : (Bool × ((List Int) × (Bool × ((List Int) × (Bool × ((List Int) × (Bool × (List Int))))))))) (a1 : (Bool × ((List Int) × (Bool × (List Int))))) : Option (Bool) :=
  ((C9 (a0.1, (a0.2.1, (a0.2.2.1, a0.2.2.2.1))) (a1.1, (a1.2.1, (a1.2.2.1, a1.2.2.2))))).bind fun x0 =>
  bif decide (x0 ≤ (0 : Int)) then
    ((C9 (a1.1, (a1.2.1, (a1.2.2.1, a1.2.2.2))) (a0.2.2.2.2.1, (a0.2.2.2.2.2.1, (a0.2.2.2.2.2.2.1, a0.2.2.2.2.2.2.2))))).bind fun x1 =>
    some (decide (x1 ≤ (0 : Int)))
  else
  some false
noncomputable def V5 : Ent := ⟨QI, fun x => Jk x.1 x.2⟩
noncomputable def WE : TX := ⟨tyTab, codTab, [], [4], [Hx], QI⟩
set_option maxHeartbeats 2000000 in
theorem Af9 (a0 : (Bool × List (Int) × Bool × List (Int) × Bool × List (Int) × Bool × List (Int))) (a1 : (Bool × List (Int) × Bool × List (Int))) : wtF WE Tryz.f155 (a0, a1) = Jk a0 a1 := by kernel_rfl
theorem ZO : EntOK RR V5 := Ab (X := WE) ⟨tyOK, boolOK, eqOK⟩ (Ad (by exact ⟨⟨Ig, rfl⟩, trivial⟩)) (Ae (by kernel_rfl)) ⟨Tryz.func155, rfl, by kernel_rfl, rfl⟩ (fun x => by exact Af9 x.1 x.2)
noncomputable def EU (a0 : (Bool × ((List Int) × (Bool × ((List Int) × (Bool × ((List Int) × (Bool × (List Int))))))))) (a1 : (Bool × ((List Int) × (Bool × (List Int))))) : Option (Bool × Bool) :=
  ((Cp (a0.1, (a0.2.1, (a0.2.2.1, (a0.2.2.2.1, (a0.2.2.2.2.1, (a0.2.2.2.2.2.1, (a0.2.2.2.2.2.2.1, a0.2.2.2.2.2.2.2))))))))).bind fun x0 =>
  bif (!x0) then
    some (false, false)
  else
  ((A9 (a1.1, (a1.2.1, (a1.2.2.1, a1.2.2.2))))).bind fun x1 =>
  bif (!x1) then
    some (false, false)
  else
  ((Jk (a0.1, (a0.2.1, (a0.2.2.1, (a0.2.2.2.1, (a0.2.2.2.2.1, (a0.2.2.2.2.2.1, (a0.2.2.2.2.2.2.1, a0.2.2.2.2.2.2.2))))))) (a1.1, (a1.2.1, (a1.2.2.1, a1.2.2.2))))).bind fun x2 =>
  some (x2, true)
noncomputable def RU : Ent := ⟨Ld, fun x => EU x.1 x.2⟩
noncomputable def P4 : TX := ⟨tyTab, codTab, [], [4], [H7, CW, V5], Ld⟩
set_option maxHeartbeats 2000000 in
theorem Xj (a0 : (Bool × List (Int) × Bool × List (Int) × Bool × List (Int) × Bool × List (Int))) (a1 : (Bool × List (Int) × Bool × List (Int))) : wtF P4 Tryz.f63 (a0, a1) = EU a0 a1 := by kernel_rfl
theorem WH : EntOK RR RU := Ab (X := P4) ⟨tyOK, boolOK, eqOK⟩ (Ad (by exact ⟨⟨KC, rfl⟩, ⟨⟨C3, rfl⟩, ⟨⟨ZO, rfl⟩, trivial⟩⟩⟩)) (Ae (by kernel_rfl)) ⟨Tryz.func63, rfl, by kernel_rfl, rfl⟩ (fun x => by exact Xj x.1 x.2)
end Go.Proofs.YtgfchmagglhohaaGreat.Ev

end
