/- What the theorem of this claim leans on, part 4. -/
import Derived.Test.YthipdlhknbhiiaaGreatKC
import Derived.WalkKit
import Derived.SizedLaws
import Derived.IntWalk
import Derived.Test.YthipdlhknbhiiaaGreatProg
import Derived.KernelRfl
set_option linter.unusedVariables false
set_option linter.unusedSimpArgs false
set_option linter.unusedSectionVars false
section
namespace Go.Proofs.YthipdlhknbhiiaaGreat.Ev
open Go
section
variable {P:Program} {R:Rel} {cf:Cfg} {X:TX} {g:FuncId}
def EntsOK (R:Rel) (cf:Cfg) (X:TX):Prop:=∀ g E,findF X.ents g=some E→EntOK R E∧E.a.g=g∧cf.byref g=(slotsA E.a.params).map refA
theorem AI0 {α:Type} {op:Op} {b:Nat} {tm:TTm} {m:Tm} {hp hpm:THp} {hvm:Hp} {K:SV→THp→Cls→Option α} {z : α} (hX:XOK P X) (hisr:isR op=true) (hr:RT hp tm m) (hh:RHm hpm hp hvm) (h:wtOp X op b tm hpm K=some z):Looks P R cf op b m hp hpm hvm K z:=by
 cases op with
 | load t a=>exact AI7 hX hr hh h
 | indexAddr t x i=>exact AQ5 hX hr hh h
 | convert s d x=>exact AA5 hX hr hh h
 | slice t x lo hi mx =>
  cases mx with
  | none=>exact Al6 hX hr hh h
  | some m' =>
   cases hi with
   | none=>simp[wtOp] at h
   | some h'=>exact Zg hX hr h
 | _=>simp[isR] at hisr
theorem AL3 {α:Type} {op:Op} {b:Nat} {tm:TTm} {m:Tm} {hp:THp} {hv:Hp} {K:SV→THp→Cls→Option α} {z : α} (hX:XOK P X) (hE:EntsOK R cf X) (hh:RH hp hv) (hr:RT hp tm m) (h:wtOp X op b tm hp K=some z):Done P R cf op b tm m hv K z:=by
 cases op with
 | move x=>exact (AS5 hr h).done hh hr
 | assign x=>exact (AG9 hr h).done hh hr
 | pick c x y=>exact (AS3 hr h).done hh hr
 | alloc t=>exact AK8 hX hh hr h
 | box t x=>exact AU9 hX hh hr h
 | build t parts=>exact (AN6 hX hr h).done hh hr
 | buildSlice t len parts=>exact AL5 hX hh hr h
 | load t a=>exact (AI7 hX hr hh.toM h).done hh hr
 | store t a x=>exact AM2 hX hh hr h
 | nilCheck x=>exact (AU6 hr h).done hh hr
 | binOp op t x y yt=>exact (AV2 hX hr h).done hh hr
 | unOp u t x=>exact (l_un hr h).done hh hr
 | convert s d x=>exact (AA5 hX hr hh.toM h).done hh hr
 | makeSlice t l c=>exact AT0 hX hh hr h
 | slice t x lo hi mx =>
  cases mx with
  | none=>exact (Al6 hX hr hh.toM h).done hh hr
  | some m' =>
   cases hi with
   | none=>simp[wtOp] at h
   | some h'=>exact (Zg hX hr h).done hh hr
 | fieldAddr t x k=>exact (YM hX hr h).done hh hr
 | field t x k=>exact (AM0 hX hr h).done hh hr
 | indexAddr t x i=>exact (AQ5 hX hr hh.toM h).done hh hr
 | index t x i=>exact (AM9 hX hr h).done hh hr
 | extract x k=>exact (Ax4 hr h).done hh hr
 | makeFunc fn first caps =>
  cases fn with
  | func f=>exact (AU2 hr h).done hh hr
  | _=>simp[wtOp] at h
 | call c =>
  obtain ⟨callee,args,ts⟩:=c
  cases callee with
  | builtin bi =>
   cases bi with
   | append=>exact AE1 hX hh hr h
   | len=>exact (AU4 hX hr hh.toM h).done hh hr
   | min=>exact (AU5 hr h).done hh hr
   | max=>exact (AV1 hr h).done hh hr
   | _=>simp[wtOp] at h
  | value f =>
   simp only[wtOp] at h
   split at h
   ·rename_i g caps hf
    have hc:=Ay hr f
    rw[hf] at hc
    obtain ⟨us,hfv,hcs⟩:=Ak5 hc
    obtain ⟨x,hp',cls,y,hv',h1,h2,h3,h4,h5⟩:=Ax8 hE hh hr (RC.append (GK hr args.toList) (hcs.mono fun _ _ _ h=>h.to1.to2)) h
    refine ⟨x,hp',cls,y,hv',h1,h2,h3,h4,fun KV hk=>?_⟩
    show (match opnd m f with | .cl g caps=>weInv R cf g (args.toList.map (opnd m)++caps) hv b KV | _=>False)
    rw[hfv]
    exact h5 KV hk
   ·cases h
  | _=>simp[wtOp] at h
 | _=>simp[wtOp] at h
theorem AF0 {b:Nat}:∀ (hp:THp) (id:Nat),getB (maskT b hp) id=if id<b then getB hp id else none
 | [],id=>by simp[maskT,getB]
 | (k,x)::l,id=>by
  have ih:=AF0 (b:=b) l id
  unfold maskT at ih ⊢
  rw[List.filter_cons]
  by_cases hk:k<b
  ·have:Nat.blt k b=true:=Nat.ble_eq_true_of_le hk
   simp only[this,if_true]
   rw[An,An]
   by_cases hi:id=k
   ·subst hi; rw[if_pos rfl,if_pos rfl,if_pos hk]
   ·rw[if_neg hi,if_neg hi]; exact ih
  ·have:Nat.blt k b=false:=by
    cases hb:Nat.blt k b with
    | false=>rfl
    | true=>exact absurd (Nat.lt_of_succ_le (Nat.le_of_ble_eq_true hb)) hk
   simp only[this,Bool.false_eq_true,if_false]
   rw[An]
   by_cases hi:id=k
   ·subst hi; rw[if_neg hk] at ih ⊢; exact ih
   ·rw[if_neg hi]; exact ih
theorem AN7 {α:Type} {draw:Bool} {op:Op} {b:Nat} {tm:TTm} {m:Tm} {hp:THp} {hv:Hp} {K:SV→THp→Cls→Option α} {z : α} (hX:XOK P X) (hE:EntsOK R cf X) (hh:RH hp hv) (hr:RT hp tm m) (h:wtAt X draw op b tm hp K=some z) :
  ∃ x hp' cls y hv',K x hp' cls=some z∧RV2 hp' x y∧RH hp' hv'∧RT hp' tm m∧∀ KV:Cont,KV y hv' cls→opAt P R cf draw op b (opnd m) hv KV:=by
 unfold wtAt at h
 cases hd:draw&&isR op with
 | true =>
  rw[hd] at h
  have hi:isR op=true:=by simp only[Bool.and_eq_true] at hd; exact hd.2
  obtain ⟨x,y,cls,h1,h2,h3⟩:=AI0 (R:=R) (cf:=cf) (hp:=hp) (hpm:=maskT b hp) (hvm:=mask b hv) hX hi hr (fun id bb hb=>by
   rw[AF0] at hb
   split at hb
   ·rename_i hlt
    obtain ⟨k,hk,hrb⟩:=hh id bb hb
    exact ⟨hb,k,by simp only[mask,if_pos hlt,hk],hrb⟩
   ·cases hb) h
  refine ⟨x,hp,cls,y,hv,h1,h2,hh,hr,fun KV hk=>?_⟩
  unfold opAt
  rw[hd]
  exact h3 (fun x _ cls=>KV x hv cls) hk
 | false =>
  rw[hd] at h
  obtain ⟨x,hp',cls,y,hv',h1,h2,h3,h4,h5⟩:=AL3 hX hE hh hr h
  refine ⟨x,hp',cls,y,hv',h1,h2,h3,h4,fun KV hk=>?_⟩
  unfold opAt
  rw[hd]
  exact h5 KV hk
theorem Ak6 {hp:THp} {tm:TTm} {m:Tm} {x:SV} {y:V} (h:RT hp tm m) (hx:RV2 hp x y) (dst:Option Tmp):RT hp (putTm tm dst x) (put m dst y):=by
 cases dst with
 | none=>exact h
 | some d =>
  intro t
  simp only[putTm,put]
  rw[Eg]
  unfold upd
  split
  ·exact hx
  ·exact h t
theorem AD0 {hp:THp} {tm:TTm} {m:Tm} {op:Op} (hr:RT hp tm m) (h:sureOp tm op=true):opIds m op=idsOp tm op:=by
 unfold opIds idsOp
 unfold sureOp at h
 generalize op.operands.toList=l at h ⊢
 induction l with
 | nil=>rfl
 | cons y l ih =>
  simp only[List.map_cons,List.all_cons,Bool.and_eq_true] at h
  simp only[List.flatMap_cons,List.map_cons]
  rw[ih h.2,(Fu h.1 (Ay hr y)).2.2.1]
theorem MU {α β:Type} {f g : α→List β}:∀ {l:List α},(∀ x∈l,f x=g x)→l.flatMap f=l.flatMap g
 | [],_=>rfl
 | x::l,h=>by
  rw[List.flatMap_cons,List.flatMap_cons,h x (List.mem_cons_self ..),MU fun y hy=>h y (List.mem_cons_of_mem _ hy)]
theorem XW {hp:THp} {hv:Hp} {tm:TTm} {m:Tm} {op:Op} {ids:List Nat} (hE:EntsOK R cf X) (hh:RH hp hv) (hr:RT hp tm m) (h:touchedT X op tm hp=some ids):touched cf op (opnd m) hv=some ids:=by
 unfold touchedT at h
 split at h
 ·rename_i t a x
  split at h
  ·rename_i hc
   cases h
   simp only[Bool.and_eq_true] at hc
   simp only[touched]
   rw[(Fu hc.1 (Ay hr a)).2.2.1,(Fu hc.2 (Ay hr x)).2.2.1]
  ·cases h
 ·rename_i f args tys
  split at h
  case h_2=>cases h
  rename_i g caps hf
  split at h
  case h_2=>cases h
  rename_i E hfe
  obtain ⟨_,_,hbr⟩:=hE g E hfe
  split at h
  case h_2=>cases h
  rename_i args' hargs'
  split at h
  case isFalse=>cases h
  rename_i s1
  split at h
  case h_2=>cases h
  rename_i o ho
  cases h
  have hc:=Ay hr f
  rw[hf] at hc
  obtain ⟨us,hfv,hcs⟩:=Ak5 hc
  obtain ⟨ys',hV,hargs2,hlent⟩:=Mc hh hargs' (RC.append (GK hr args.toList) (hcs.mono fun _ _ _ h=>h.to1.to2))
  obtain ⟨a1,a2,a3,a4⟩:=RC.all1 s1 hargs2
  rw[←hbr] at hV hlent
  have hclose:close hv 64 (ys'.flatMap refs1) []=some o:=by rw[a2]; exact Fg hh _ _ _ ho
  have hcloseC:closeC hv (ys'.flatMap refs1)=some o:=by
   unfold closeC
   rw[hclose]
   simp only
   rw[if_pos (by rw[a2]; exact Nb hh ho)]
  simp only[touched,hfv,hV,hcloseC,hlent]
 ·rename_i t n parts
  split at h
  ·rename_i hc
   cases h
   simp only[touched]
   congr 1
   refine MU fun p hp=>?_
   exact (Fu (List.all_eq_true.1 hc p hp) (Ay hr p.2)).2.2.1
  ·cases h
 ·cases h
theorem AK4 {hp:THp} {hv:Hp} {tm:TTm} {m:Tm} {all:List Oper} {i:Nat} (hE:EntsOK R cf X) (hh:RH hp hv) (hr:RT hp tm m) (h:farT X all tm hp i=true):farOK cf all m hv i=true:=by
 unfold farT at h
 unfold farOK
 cases ha:all[i]? with
 | none=>rw[ha] at h; cases h
 | some a =>
  rw[ha] at h
  simp only[Bool.and_eq_true] at h ⊢
  refine ⟨h.1,?_⟩
  replace h:=h.2
  cases ht:touchedT X a.op tm hp with
  | none=>rw[ht] at h; cases h
  | some ids =>
   rw[ht] at h
   rw[XW hE hh hr ht]
   simp only at h ⊢
   refine List.all_eq_true.2 fun j hj=>?_
   have h4:=List.all_eq_true.1 h j hj
   cases ho:all[j]? with
   | none=>simp
   | some o =>
    rw[ho] at h4
    simp only[Bool.or_eq_true,Bool.and_eq_true] at h4 ⊢
    rcases h4 with h4 | h4 | ⟨h4,h5,h6⟩
    ·exact .inl h4
    ·exact .inr (.inl h4)
    ·exact .inr (.inr ⟨h4,by rw[AD0 hr h5]; exact h6⟩)
theorem AR0 {hp:THp} {hv:Hp} {tm:TTm} {m:Tm} {all:List Oper} {i:Nat} (hE:EntsOK R cf X) (hh:RH hp hv) (hr:RT hp tm m) (h:(eOK all i || farT X all tm hp i)=true):(eOK all i || farOK cf all m hv i)=true:=by
 simp only[Bool.or_eq_true] at h ⊢
 exact h.imp (fun h=>h) (AK4 hE hh hr)
theorem AH5 {α:Type} {draw ok ok':Bool} {cls:Cls} {A:Option α} {z : α} (hok:ok=true→ok'=true) (h:drawnT draw ok cls A=some z):A=some z∧∀ B:Prop,B→drawn draw ok' cls B:=by
 cases draw <;> cases cls <;> first | exact ⟨h,fun B hb=>hb⟩ | (obtain ⟨h1,h2⟩:=BT h; exact ⟨h2,fun B hb=>⟨hok h1,hb⟩⟩)
theorem SH {α:Type} {all:List Oper} {draw:Bool} (hX:XOK P X) (hE:EntsOK R cf X):∀ (l:List Oper) (i:Nat) {st:TSt} {s:St} {K:TSt→Option α} {z : α},RS st s→wtOps X all draw l i st K=some z →
  ∃ st' s',K st'=some z∧RS st' s'∧st'.c=st.c∧∀ KV:St→Prop,KV s'→weOps P R cf all draw l i s KV
 | [],i,st,s,K,z,hs,h=>⟨st,s,h,hs,rfl,fun KV hk=>hk⟩
 | o::l,i,st,s,K,z,hs,h=>by
  have go:∀ (tm:TTm),RT st.hp tm s.tm→(wtAt X draw o.op (16*(st.c + i)) tm st.hp fun x hp cls=>drawnT draw (eOK all i || farT X all tm st.hp i) cls (wtOps X all draw l (i + 1) { tm:=putTm tm o.dst x,hp:=hp,c:=st.c } K))=some z →
    ∃ st' s',K st'=some z∧RS st' s'∧st'.c=st.c∧∀ KV:St→Prop,KV s'→opAt P R cf draw o.op (16*(s.c + i)) (opnd s.tm) s.hp fun x hp cls=>drawn draw (eOK all i || farOK cf all s.tm s.hp i) cls (weOps P R cf all draw l (i + 1) { tm:=put s.tm o.dst x,hp:=hp,c:=s.c } KV):=by
   intro tm hr h
   obtain ⟨x,hp',cls,y,hv',h1,h2,h3,h4,h5⟩:=AN7 (R:=R) (cf:=cf) hX hE hs.hp hr h
   obtain ⟨h6,h7⟩:=AH5 (AR0 hE hs.hp hr) h1
   obtain ⟨st',s',q1,q2,q3,q4⟩:=SH hX hE l (i + 1) (st:={ tm:=putTm tm o.dst x,hp:=hp',c:=st.c }) (s:={ tm:=put s.tm o.dst y,hp:=hv',c:=s.c }) ⟨Ak6 h4 h2 o.dst,h3,hs.c⟩ h6
   exact ⟨st',s',q1,q2,q3,fun KV hk=>by rw[hs.c]; exact h5 _ (by have:=h7 _ (q4 KV hk); rw[hs.c] at this; exact this)⟩
  have no:∀ (tm:TTm),RT st.hp tm s.tm→wtOps X all draw l (i + 1) { tm:=putTm tm o.dst (.tup []),hp:=st.hp,c:=st.c } K=some z →
    ∃ st' s',K st'=some z∧RS st' s'∧st'.c=st.c∧∀ KV:St→Prop,KV s'→weOps P R cf all draw l (i + 1) { tm:=put s.tm o.dst (.tup []),hp:=s.hp,c:=s.c } KV:=by
   intro tm hr h
   exact SH hX hE l (i + 1) (st:={ tm:=putTm tm o.dst (.tup []),hp:=st.hp,c:=st.c }) (s:={ tm:=put s.tm o.dst (.tup []),hp:=s.hp,c:=s.c }) ⟨Ak6 (x:=.tup []) (y:=.tup []) hr ⟨[],rfl,trivial⟩ o.dst,hs.hp,hs.c⟩ h
  simp only[wtOps] at h
  cases hg:o.guard with
  | none =>
   rw[hg] at h
   obtain ⟨st',s',q1,q2,q3,q4⟩:=go st.tm hs.tm h
   exact ⟨st',s',q1,q2,q3,fun KV hk=>by unfold weOps; rw[hg]; exact q4 KV hk⟩
  | some jw =>
   obtain ⟨j,want⟩:=jw
   rw[hg] at h
   simp only at h
   cases hd:(all[j]?).bind (·.dst) with
   | none=>rw[hd] at h; cases h
   | some d =>
    rw[hd] at h
    simp only at h
    have htd:=hs.tm d
    have fin:∀ w:Bool,guardC (s.tm d) want=some w→(∃ st' s',K st'=some z∧RS st' s'∧st'.c=st.c∧∀ KV:St→Prop,KV s'→(if w=true then opAt P R cf draw o.op (16*(s.c + i)) (opnd s.tm) s.hp fun x hp cls=>drawn draw (eOK all i || farOK cf all s.tm s.hp i) cls (weOps P R cf all draw l (i + 1) { tm:=put s.tm o.dst x,hp:=hp,c:=s.c } KV) else weOps P R cf all draw l (i + 1) { tm:=put s.tm o.dst (.tup []),hp:=s.hp,c:=s.c } KV)) →
      ∃ st' s',K st'=some z∧RS st' s'∧st'.c=st.c∧∀ KV:St→Prop,KV s'→weOps P R cf all draw (o::l) i s KV:=by
     intro w hw ⟨st',s',q1,q2,q3,q4⟩
     refine ⟨st',s',q1,q2,q3,fun KV hk=>?_⟩
     unfold weOps
     rw[hg]
     simp only[hd,Option.map_some,Ai,hw]
     exact q4 KV hk
    have same:∀ t:Bool,s.tm d = .v (.bool t)→RT st.hp ((d,.bool t)::st.tm) s.tm:=by
     intro t ht t'
     rw[Eg]
     split
     ·rename_i he; rw[he,ht]; rfl
     ·exact hs.tm t'
    split at h
    ·rename_i t hv
     rw[hv] at htd
     have htd:=Lp htd
     cases want with
     | true =>
      simp only at h
      cases t with
      | true =>
       obtain ⟨st',s',q1,q2,q3,q4⟩:=go _ (same true htd) h
       exact fin true (by rw[htd]; rfl) ⟨st',s',q1,q2,q3,fun KV hk=>by rw[if_pos rfl]; exact q4 KV hk⟩
      | false =>
       obtain ⟨st',s',q1,q2,q3,q4⟩:=no _ (same false htd) h
       exact fin false (by rw[htd]; rfl) ⟨st',s',q1,q2,q3,fun KV hk=>by rw[if_neg (by simp)]; exact q4 KV hk⟩
     | false =>
      simp only at h
      cases t with
      | true =>
       obtain ⟨st',s',q1,q2,q3,q4⟩:=no _ (same true htd) h
       exact fin false (by rw[htd]; rfl) ⟨st',s',q1,q2,q3,fun KV hk=>by rw[if_neg (by simp)]; exact q4 KV hk⟩
      | false =>
       obtain ⟨st',s',q1,q2,q3,q4⟩:=go _ (same false htd) h
       exact fin true (by rw[htd]; rfl) ⟨st',s',q1,q2,q3,fun KV hk=>by rw[if_pos rfl]; exact q4 KV hk⟩
    ·rename_i hv
     rw[hv] at htd
     obtain ⟨us,hus,hc⟩:=(show ∃ us,s.tm d = .tup us∧RC (RV1 st.hp) [] us from htd)
     cases us with
     | cons a l=>exact hc.elim
     | nil =>
      obtain ⟨st',s',q1,q2,q3,q4⟩:=no _ hs.tm h
      exact fin false (by rw[hus]; rfl) ⟨st',s',q1,q2,q3,fun KV hk=>by rw[if_neg (by simp)]; exact q4 KV hk⟩
    ·cases h
structure CfOK (cf:Cfg) (g:FuncId) (X:TX):Prop where
 live:∀ r an,findN X.ann.heads r=some an→cf.live g r=keepI an
 out:∀ r outs ex an,findN X.ann.outs r=some outs→findE outs ex=some an→cf.out g r ex=keepI an
 join:∀ r an,findN X.ann.joins r=some an→cf.join g r=some (keepI an)
 nojoin:∀ r,findN X.ann.joins r=none→cf.join g r=none
 res:cf.res g=(keepI X.ann.res).map (·.2)
 par:cf.par g=keepI X.ann.params
 rts:cf.rts g=mdsL (rtsT (blksI X.ann.res) X.ann.e 0 (blksI X.ann.res))
theorem Vo {a b:Ex} (h:exEq a b=true):a=b:=by
 cases a <;> cases b <;> simp[exEq] at h
 ·rfl
 ·rw[h]
 ·rfl
theorem Ao6 {α:Type} {e:Nat} {Q:TPost α} {ex:Ex} {st:TSt} {z : α}:∀ {l:List (Ex×List Item)} {d:denX l},injX e l ex st=some d→elimX Q l d=some z→∃ an dd,findE l ex=some an∧decSt e an st=some dd∧Q ex (encSt an dd)=some z
 | [],d,h,_=>by cases h
 | [a],d,h,hz=>by
  simp only[injX] at h
  obtain ⟨h1,h2⟩:=BT h
  have:=Vo h1
  subst this
  refine ⟨a.2,d,?_,h2,hz⟩
  show cond (exEq a.1 a.1) (some a.2) _=_
  rw[h1]; rfl
 | a::b::l,d,h,hz=>by
  simp only[injX] at h
  cases hc:exEq a.1 ex with
  | true =>
   rw[hc] at h
   simp only[cond_true,Option.map_eq_some_iff] at h
   obtain ⟨dd,h1,rfl⟩:=h
   have:=Vo hc
   subst this
   refine ⟨a.2,dd,?_,h1,hz⟩
   show cond (exEq a.1 a.1) (some a.2) _=_
   rw[hc]; rfl
  | false =>
   rw[hc] at h
   simp only[cond_false,Option.map_eq_some_iff] at h
   obtain ⟨dd,h1,rfl⟩:=h
   obtain ⟨an,d2,q1,q2,q3⟩:=Ao6 (l:=b::l) h1 hz
   refine ⟨an,d2,?_,q2,q3⟩
   show cond (exEq a.1 ex) (some a.2) (findE (b::l) ex)=_
   rw[hc]; exact q1
theorem Dw (hX:XOK P X) (hE:EntsOK R cf X) (hcf:CfOK cf g X):∀ (c:Code) {α:Type} {st:TSt} {s:St} {Q:TPost α} {z : α},RS st s→wtC X c st Q=some z →
  ∃ ex st' s',Q ex st'=some z∧RS st' s'∧∀ QV:Post,QV ex s'→we P R cf g X.e c s QV
 | .skip,α,st,s,Q,z,hs,h=>⟨.normal,st,s,h,hs,fun QV hq=>hq⟩
 | .exit id,α,st,s,Q,z,hs,h=>⟨.exit id,st,s,h,hs,fun QV hq=>hq⟩
 | .ret,α,st,s,Q,z,hs,h=>⟨.ret,st,s,h,hs,fun QV hq=>hq⟩
 | .region id ops draw,α,st,s,Q,z,hs,h=>by
  obtain ⟨st',s',h1,h2,h3,h4⟩:=SH (R:=R) (cf:=cf) hX hE _ 0 hs h
  refine ⟨.normal,_,{ s' with c:=s'.c + ops.size },h1,⟨h2.tm,h2.hp,by show s'.c + _=st'.c + _; rw[h2.c]⟩,fun QV hq=>?_⟩
  unfold we
  exact h4 _ hq
 | .seq a b,α,st,s,Q,z,hs,h=>by
  unfold wtC at h
  cases hj:findN X.ann.joins (rid b) with
  | none =>
   rw[hj] at h
   simp only at h
   obtain ⟨ex,st1,s1,h1,h2,h3⟩:=Dw hX hE hcf a hs h
   cases ex with
   | normal =>
    obtain ⟨ex,st2,s2,q1,q2,q3⟩:=Dw hX hE hcf b h2 h1
    exact ⟨ex,st2,s2,q1,q2,fun QV hq=>by unfold we; exact h3 _ (by show meet _ _ _ _; rw[hcf.nojoin _ hj]; exact q3 QV hq)⟩
   | exit id=>exact ⟨.exit id,st1,s1,h1,h2,fun QV hq=>by unfold we; exact h3 _ hq⟩
   | ret=>exact ⟨.ret,st1,s1,h1,h2,fun QV hq=>by unfold we; exact h3 _ hq⟩
  | some an =>
   rw[hj] at h
   simp only at h
   obtain ⟨w,hw,hz⟩:=AM h
   obtain ⟨ex,st1,s1,h1,h2,h3⟩:=Dw hX hE hcf a hs hw
   have other:∀ ex',ex'≠.normal→ex=ex'→(Q ex' st1).map Sum.inl=some w→∃ ex st' s',Q ex st'=some z∧RS st' s'∧∀ QV:Post,QV ex s'→we P R cf g X.e (a.seq b) s QV:=by
    intro ex' hne he h1
    subst he
    simp only[Option.map_eq_some_iff] at h1
    obtain ⟨r,hr,rfl⟩:=h1
    simp only[Sum.elim_inl,Option.some.injEq] at hz
    subst hz
    refine ⟨ex,st1,s1,hr,h2,fun QV hq=>?_⟩
    unfold we
    refine h3 _ ?_
    cases ex with
    | normal=>exact absurd rfl hne
    | exit id=>exact hq
    | ret=>exact hq
   cases ex with
   | normal =>
    simp only[Option.map_eq_some_iff] at h1
    obtain ⟨d,hd,rfl⟩:=h1
    simp only[Sum.elim_inr] at hz
    obtain ⟨s2,c1,c2⟩:=H3 h2 hd
    obtain ⟨ex,st3,s3,q1,q2,q3⟩:=Dw hX hE hcf b c2 hz
    exact ⟨ex,st3,s3,q1,q2,fun QV hq=>by unfold we; exact h3 _ (by show meet _ _ _ _; rw[hcf.join _ _ hj]; exact c1 _ (q3 QV hq))⟩
   | exit id=>exact other (.exit id) (by simp) rfl h1
   | ret=>exact other .ret (by simp) rfl h1
 | .cond c x y,α,st,s,Q,z,hs,h=>by
  unfold wtC at h
  have hc:=Ay hs.tm c
  split at h
  ·rename_i t ht
   rw[ht] at hc
   have hc:=Lp hc
   cases t with
   | true =>
    obtain ⟨ex,st1,s1,h1,h2,h3⟩:=Dw hX hE hcf x hs h
    exact ⟨ex,st1,s1,h1,h2,fun QV hq=>by unfold we; rw[hc]; exact h3 QV hq⟩
   | false =>
    obtain ⟨ex,st1,s1,h1,h2,h3⟩:=Dw hX hE hcf y hs h
    exact ⟨ex,st1,s1,h1,h2,fun QV hq=>by unfold we; rw[hc]; exact h3 QV hq⟩
  ·cases h
 | .block id c,α,st,s,Q,z,hs,h=>by
  unfold wtC at h
  obtain ⟨ex,st1,s1,h1,h2,h3⟩:=Dw hX hE hcf c hs h
  cases ex with
  | normal=>exact ⟨.normal,st1,s1,h1,h2,fun QV hq=>by unfold we; exact h3 _ hq⟩
  | ret=>exact ⟨.ret,st1,s1,h1,h2,fun QV hq=>by unfold we; exact h3 _ hq⟩
  | exit j =>
   simp only at h1
   cases hj:Nat.beq j id with
   | true =>
    rw[hj] at h1
    have hji:=Nat.eq_of_beq_eq_true hj
    exact ⟨.normal,st1,s1,h1,h2,fun QV hq=>by unfold we; exact h3 _ (by show (if j=id then _ else _); rw[if_pos hji]; exact hq)⟩
   | false =>
    rw[hj] at h1
    have hji:j≠id:=fun he=>by subst he; rw[Nat.beq_refl] at hj; cases hj
    exact ⟨.exit j,st1,s1,h1,h2,fun QV hq=>by unfold we; exact h3 _ (by show (if j=id then _ else _); rw[if_neg hji]; exact hq)⟩
 | .loop c,α,st,s,Q,z,hs,h=>by
  unfold wtC at h
  split at h
  ·rename_i an outs ha ho
   obtain ⟨d0,hd0,h⟩:=AM h
   obtain ⟨w,hw,hz⟩:=AM h
   obtain ⟨n,hn⟩:=IW hw
   obtain ⟨s0,c1,c2⟩:=H3 hs hd0
   have key:∀ (n:Nat) (d:denI an) (s0:St),loopF (fun d=>wtC X c (encSt an d) fun ex s=>match ex with | .normal=>(decSt X.e an s).map .inl | ex=>(injX X.e outs ex s).map .inr) n d=some w→RS (encSt an d) s0 →
     ∃ ex st' s',Q ex st'=some z∧RS st' s'∧∀ QV:Post,QV ex s'→loopAt P R cf g X.e c s0 QV:=by
    intro n
    induction n with
    | zero=>intro d s0 h _; cases h
    | succ n ih =>
     intro d s0 h hs0
     simp only[loopF] at h
     obtain ⟨o,hb,h⟩:=AM h
     obtain ⟨ex,st1,s1,h1,h2,h3⟩:=Dw hX hE hcf c hs0 hb
     have other:∀ ex',ex'≠.normal→ex=ex'→(injX X.e outs ex' st1).map Sum.inr=some o→∃ ex st' s',Q ex st'=some z∧RS st' s'∧∀ QV:Post,QV ex s'→loopAt P R cf g X.e c s0 QV:=by
      intro ex' hne he h1
      subst he
      simp only[Option.map_eq_some_iff] at h1
      obtain ⟨w',hw',rfl⟩:=h1
      simp only[Sum.elim_inr,Option.some.injEq] at h
      subst h
      obtain ⟨an2,dd,q1,q2,q3⟩:=Ao6 hw' hz
      obtain ⟨s2,e1,e2⟩:=H3 h2 q2
      refine ⟨ex,_,s2,q3,e2,fun QV hq=>?_⟩
      rw[T1]
      refine h3 _ ?_
      cases ex with
      | normal=>exact absurd rfl hne
      | exit id=>show canon _ _ _ _; rw[hcf.out _ _ _ _ ho q1]; exact e1 _ hq
      | ret=>show canon _ _ _ _; rw[hcf.out _ _ _ _ ho q1]; exact e1 _ hq
     cases ex with
     | normal =>
      simp only[Option.map_eq_some_iff] at h1
      obtain ⟨d',hd',rfl⟩:=h1
      simp only[Sum.elim_inl] at h
      obtain ⟨s2,e1,e2⟩:=H3 h2 hd'
      obtain ⟨ex,st3,s3,q1,q2,q3⟩:=ih d' s2 h e2
      refine ⟨ex,st3,s3,q1,q2,fun QV hq=>?_⟩
      rw[T1]
      refine h3 _ ?_
      show canon _ _ _ _
      rw[hcf.live _ _ ha]
      exact e1 _ (q3 QV hq)
     | exit id=>exact other (.exit id) (by simp) rfl h1
     | ret=>exact other .ret (by simp) rfl h1
   obtain ⟨ex,st',s',q1,q2,q3⟩:=key n d0 s0 hn c2
   exact ⟨ex,st',s',q1,q2,fun QV hq=>by rw[AL2,hcf.live _ _ ha]; exact c1 _ (q3 QV hq)⟩
  ·cases h
 | .scope c,α,st,s,Q,z,hs,h=>by simp[wtC] at h
 | .label l,α,st,s,Q,z,hs,h=>by simp[wtC] at h
 | .goto l,α,st,s,Q,z,hs,h=>by simp[wtC] at h
 | .rangeFunc ..,α,st,s,Q,z,hs,h=>by simp[wtC] at h
 | .refuse _,α,st,s,Q,z,hs,h=>by simp[wtC] at h
end
end Go.Proofs.YthipdlhknbhiiaaGreat.Ev

end
section
namespace Go.Proofs.YthipdlhknbhiiaaGreat.Ev
open Go
section
variable {P:Program} {X:TX} {g:FuncId}
structure FnOK (P:Program) (cf:Cfg) (X:TX) (fn:Func) (c:Code):Prop where
 get:P.funcs[X.ann.g]? = some fn
 body:fn.body=some c
 ok:bodyOK fn c (slotsI X.ann.params).length=true
 ext:cf.isExt X.ann.g=false
theorem Ab {cf:Cfg} {ext:Rel} {fn:Func} {c:Code} {F:denI X.ann.params→Option (denI X.ann.res)} (hX:XOK P X) (hE:EntsOK (Runs P cf ext) cf X) (hcf:CfOK cf X.ann.g X) (hf:FnOK P cf X fn c)
  (hF:∀ x,wtF X fn x=F x):EntOK (Runs P cf ext) ⟨X.ann,F⟩:=by
 intro x y args blks st0 hy hs0 hd hid hl he _
 have hy:wtF X fn x=some y:=by rw[hF]; exact hy
 unfold wtF at hy
 rw[hf.body] at hy
 simp only at hy
 have he:(args.flatMap refs1).eraseDups.length=X.e:=he
 obtain ⟨s0,k1,hs⟩:=H3 hs0 hd
 obtain ⟨ex,st',s',h1,h2,h3⟩:=Dw hX hE hcf c hs hy
 have main:∀ ex',ex=ex'→(∀ i,ex'≠.exit i)→(tRes X st'.tm st'.hp fn.results.toList fun xs=>outT X.ann.res X.e st' xs)=some y →
   ∃ r blks',Runs P cf ext X.ann.g args blks r blks'∧ResRel X.ann.res y r blks':=by
  intro ex' hex hno h1
  obtain ⟨r,blks',q1,q2⟩:=AH7 (e:=X.e) (res:=X.ann.res) (rs:=fn.results.toList) (y:=y) hX h2 h1
  refine ⟨r,blks',Runs.intro hf.ext hf.get hf.body (by rw[hl]; exact hf.ok) hid ?_,q2⟩
  rw[he,hcf.par]
  refine k1 _ (h3 _ ?_)
  rw[hcf.res,hcf.rts]
  subst hex
  cases ex with
  | exit i=>exact absurd rfl (hno i)
  | normal=>exact q1
  | ret=>exact q1
 cases ex with
 | exit i=>cases h1
 | normal=>exact main .normal rfl (by simp) h1
 | ret=>exact main .ret rfl (by simp) h1
theorem AJ5 {R:Rel} {cf:Cfg} {X:TX} (h:X.ents = []):EntsOK R cf X:=by
 intro g E hE
 rw[h] at hE
 cases hE
def AllEnt (R:Rel) (cf:Cfg):List Ent→Prop
 | []=>True
 | E::l=>(EntOK R E∧cf.byref E.a.g=(slotsA E.a.params).map refA)∧AllEnt R cf l
theorem Ad {R:Rel} {cf:Cfg} {X:TX} (h:AllEnt R cf X.ents):EntsOK R cf X:=by
 intro g E hE
 generalize X.ents=l at h hE
 induction l with
 | nil=>cases hE
 | cons a l ih =>
  simp only[findF] at hE
  cases hg:Nat.beq a.a.g g with
  | true =>
   rw[hg] at hE
   simp only[cond_true,Option.some.injEq] at hE
   subst hE
   have:=Nat.eq_of_beq_eq_true hg
   subst this
   exact ⟨h.1.1,rfl,h.1.2⟩
  | false =>
   rw[hg] at hE
   exact ih h.2 hE
theorem Ae {tab:List FAnn} {ext:FuncId→Bool} {X:TX} (h:findA tab X.ann.g=some X.ann):CfOK (cfOf tab ext) X.ann.g X where
 live r an hr:=by simp only[cfOf,h,Option.bind_some,hr]
 out r outs ex an hr he:=by simp only[cfOf,h,Option.bind_some,hr,he]
 join r an hr:=by simp only[cfOf,h,Option.bind_some,hr]
 nojoin r hr:=by simp only[cfOf,h,Option.bind_some,hr]
 res:=by simp only[cfOf,h]
 par:=by simp only[cfOf,h]
 rts:=by simp only[cfOf,h]
end
end Go.Proofs.YthipdlhknbhiiaaGreat.Ev

end
section
namespace Go.Proofs.YthipdlhknbhiiaaGreat.Ev
open Go Go.RowKit
def shT:Sh→Ty
 | .int k=>.int k
 | .str=>.str
 | .bool=>.bool
 | .sl _ e=>.sl (shT e)
 | .pair a b=>.pair (shT a) (shT b)
def WFS:(s:Sh)→(shT s).den→Prop
 | .int k,n=>(Lit.int k n).wf=true
 | .str,s=>s.length≤maxBytes
 | .bool,_=>True
 | .sl bytes e,l=>(∀ a∈(show List (shT e).den from l),WFS e a)∧(show List (shT e).den from l).length*bytes≤maxBytes
 | .pair a b,x=>WFS a (show (shT a).den×(shT b).den from x).1∧WFS b (show (shT a).den×(shT b).den from x).2
theorem Am3:∀ {s:Sh} {xs:List V},DV s xs→∃ x,RE (shT s) x xs∧WFS s x
 | .int k,xs,h=>by obtain ⟨n,rfl,hn⟩:=h; exact ⟨n,rfl,hn⟩
 | .str,xs,h=>by obtain ⟨s,rfl,hs⟩:=h; exact ⟨s.data.toList,by simp[RE,shT],by show s.data.toList.length≤maxBytes; rw[Array.length_toList]; exact hs⟩
 | .bool,xs,h=>by obtain ⟨b,rfl⟩:=h; exact ⟨b,rfl,trivial⟩
 | .sl bytes e,xs,h=>by
  obtain ⟨rows,rfl,hr,hb⟩:=h
  have key:∀ rows:List (List V),(∀ r∈rows,DV e r)→∃ l:List (shT e).den,RLx (RE (shT e)) l rows∧∀ a∈l,WFS e a:=by
   intro rows
   induction rows with
   | nil=>intro _; exact ⟨[],RLx.nil,by simp⟩
   | cons r rows ih =>
    intro h
    obtain ⟨a,h1,h2⟩:=Am3 (h r (by simp))
    obtain ⟨l,h3,h4⟩:=ih fun r' hr'=>h r' (by simp[hr'])
    refine ⟨a::l,RLx.cons h1 h3,fun b hb=>?_⟩
    rcases List.mem_cons.1 hb with rfl | hb
    ·exact h2
    ·exact h4 b hb
  obtain ⟨l,h1,h2⟩:=key rows hr
  exact ⟨l,.inr ⟨rows,rfl,h1⟩,h2,by rw[←h1.1]; exact hb⟩
 | .pair a b,xs,h=>by
  obtain ⟨l,r,rfl,h1,h2⟩:=h
  obtain ⟨x,q1,q2⟩:=Am3 h1
  obtain ⟨y,q3,q4⟩:=Am3 h2
  exact ⟨(x,y),⟨l,r,rfl,q1,q3⟩,q2,q4⟩
def acOf:Sh→AC
 | .int k=>.int k
 | .str=>.str
 | .bool=>.bool
 | .sl _ e=>.im (shT e)
 | .pair _ _=>.bool
def oneS:Sh→Bool
 | .pair _ _=>false
 | _=>true
def WFC:(s:Sh)→(acOf s).den→Prop
 | .int k,n=>WFS (.int k) n
 | .str,s=>WFS .str s
 | .bool,b=>True
 | .sl n e,l=>WFS (.sl n e) l
 | .pair _ _,_=>True
theorem AQ2 {s:Sh} {x:V} (ho:oneS s=true) (h:DV s [x]):∃ d:(acOf s).den,WFC s d∧∀ hp,RV2 hp (encC (acOf s) d) x:=by
 obtain ⟨d,h1,h2⟩:=Am3 h
 cases s with
 | int k =>
  have h1:[x] = [V.v (.int k d)]:=h1
  cases h1
  exact ⟨d,h2,fun hp=>rfl⟩
 | str =>
  have h1:[x] = [V.v (.string ⟨Array.mk d⟩)]:=h1
  cases h1
  exact ⟨d,h2,fun hp=>rfl⟩
 | bool =>
  have h1:[x] = [V.v (.bool d)]:=h1
  cases h1
  exact ⟨d,trivial,fun hp=>rfl⟩
 | sl n e =>
  refine ⟨d,h2,fun hp=>?_⟩
  rcases h1 with ⟨e1,e2⟩ | ⟨rows,e2,e3⟩
  ·cases e2; exact .inl ⟨e1,rfl⟩
  ·cases e2; exact .inr ⟨rows,rfl,e3⟩
 | pair a b=>cases ho
def parI:Nat→List Sh→List Item
 | _,[]=>[]
 | i,s::l=>.slot i (.cell (acOf s))::parI (i + 1) l
def WFP:(i:Nat)→(l:List Sh)→denI (parI i l)→Prop
 | _,[],_=>True
 | i,s::l,d=>WFC s (hdI (.slot i (.cell (acOf s))) (parI (i + 1) l) d)∧WFP (i + 1) l (tlI (.slot i (.cell (acOf s))) (parI (i + 1) l) d)
def DVs:List Sh→List V→Prop
 | [],[]=>True
 | s::l,x::xs=>DV s [x]∧DVs l xs
 | _,_=>False
theorem DVs.length:∀ {l:List Sh} {xs:List V},DVs l xs→xs.length=l.length
 | [],[],_=>rfl
 | _::l,_::xs,h=>by simp[DVs.length h.2]
 | [],_::_,h=>h.elim
 | _::_,[],h=>h.elim
theorem Aj6:∀ (l:List Sh) (i:Nat) {xs:List V},l.all oneS=true→DVs l xs→∃ d:denI (parI i l),WFP i l d∧(∀ k,(encI k (parI i l) d).2 = [])∧∀ k hp,RT hp (encI k (parI i l) d).1 (lk .any (enum i xs))
 | [],i,[],_,_=>⟨(),trivial,fun _=>rfl,fun k hp t=>trivial⟩
 | s::l,i,x::xs,ho,h=>by
  simp only[List.all_cons,Bool.and_eq_true] at ho
  obtain ⟨a,h1,h2⟩:=AQ2 ho.1 h.1
  obtain ⟨d,h3,h4,h5⟩:=Aj6 l (i + 1) ho.2 h.2
  refine ⟨consI (.slot i (.cell (acOf s))) (parI (i + 1) l) a d,⟨?_,?_⟩,fun k=>?_,fun k hp=>?_⟩
  ·rw[Rj (.slot i (.cell (acOf s)))]; exact h1
  ·rw[MX (.slot i (.cell (acOf s)))]; exact h3
  ·simp only[parI,encI]
   rw[MX (.slot i (.cell (acOf s)))]
   exact h4 k
  ·simp only[parI,encI]
   rw[MX (.slot i (.cell (acOf s))),Rj (.slot i (.cell (acOf s)))]
   intro t
   show RV2 hp (getV ((i,encSV (.cell (acOf s)) a)::_) t) (if t=i then x else lk .any (enum (i + 1) xs) t)
   rw[Eg]
   split
   ·exact h2 hp
   ·exact h5 k hp t
 | [],_,_::_,_,h=>h.elim
 | _::_,_,[],_,h=>h.elim
section
variable {P:Program}
def FitsL (P:Program):List TypeId→List Sh→Prop
 | [],[]=>True
 | t::ts,s::l=>Fits P t s∧FitsL P ts l
 | _,_=>False
theorem V6 {H:Type} {enc:TypeId×Value→H} {W:World}:∀ {ts:List TypeId} {l:List Sh} {vs:List Value} {ds:List (DataW H)} {p:List MemPlace},FitsL P ts l→l.all oneS=true→DataW.TrodAll enc P W 0 (fun _=>true) true ts vs ds p →
  (∀ (j:Nat) t v,ts[j]? = some t→vs[j]? = some v→∃ base,Value.okWide P W .any base t v)→(∀ n∈DataW.weightsEach P ts ds,n≤reachBytes)→∃ xs,DVs l xs∧Told W xs vs
 | [],[],vs,ds,p,_,_,h,_,_=>by
  obtain ⟨rfl,rfl,rfl⟩:=ChangeShapes.trodAll_nil h
  exact ⟨[],trivial,trivial⟩
 | t::ts,s::l,vs,ds,p,hf,ho,h,hv,hw=>by
  obtain ⟨v,vs',d,ds',p1,q,rfl,rfl,rfl,⟨fuel,h1⟩,h2⟩:=ChangeShapes.trodAll_cons h
  simp only[List.all_cons,Bool.and_eq_true] at ho
  obtain ⟨xs,q1,q2,q3⟩:=Ld fuel t s _ _ hf.1 h1 fun n hn=>hw n (by simp[DataW.weightsEach,hn])
  obtain ⟨ys,q4,q5⟩:=V6 hf.2 ho.2 h2 (fun j t v h1 h2=>hv (j + 1) t v (by simpa using h1) (by simpa using h2)) fun n hn=>hw n (by simp[DataW.weightsEach,hn])
  have hs1:s.size=1:=by cases s <;> first | rfl | (cases ho.1)
  obtain ⟨x,rfl⟩:=List.length_eq_one_iff.1 (by rw[q2,hs1])
  refine ⟨x::ys,⟨q1,q4⟩,?_,q5⟩
  obtain ⟨base,hok⟩:=hv 0 t v rfl rfl
  have hc:v.cells.toList = [v]:=by
   cases hf.1 with
   | int ht=>simp only[Value.okWide,ht,Cell.okWide] at hok; cases v <;> simp_all [Cell.ok,Value.cells]
   | str ht=>simp only[Value.okWide,ht,Cell.okWide] at hok; cases v <;> simp_all [Cell.ok,Value.cells]
   | bool ht=>simp only[Value.okWide,ht,Cell.okWide] at hok; cases v <;> simp_all [Cell.ok,Value.cells]
   | sl ht=>obtain ⟨a,n,c,rfl⟩:=WideShapes.okWide_slice ht hok; rfl
   | st=>cases ho.1
  rw[hc] at q3
  exact q3.1
 | [],_::_,_,_,_,h,_,_,_,_=>h.elim
 | _::_,[],_,_,_,h,_,_,_,_=>h.elim
theorem Uc {H:Type} {enc:TypeId×Value→H} {W W':World} (hl:laidOutB P=true) (hb:Below W.heap.size W W'):∀ {ts:List TypeId} {vs:List Value} {ds:List (DataW H)} {p:List MemPlace},(∀ t∈ts,P.readableRec t=true∧t<P.types.size)→DataW.TrodAll enc P W 0 (fun _=>true) true ts vs ds p →
  ∃ q,DataW.TrodAll enc P W' 0 (fun b=>decide (b<W.heap.size)) true ts vs ds q
 | [],vs,ds,p,_,h=>by
  obtain ⟨rfl,rfl,rfl⟩:=ChangeShapes.trodAll_nil h
  exact ⟨[],ChangeShapes.trodAll_mk0⟩
 | t::ts,vs,ds,p,hr,h=>by
  obtain ⟨v,vs',d,ds',p1,q,rfl,rfl,rfl,h1,h2⟩:=ChangeShapes.trodAll_cons h
  obtain ⟨q',h3⟩:=Uc hl hb (fun t ht=>hr t (by simp[ht])) h2
  have hlt:∀ x∈p1,x.block<W.heap.size:=by obtain ⟨m,hm⟩:=h1; exact DataW.trod_lt m _ _ _ hm
  obtain ⟨r1,r2⟩:=hr t (by simp)
  exact ⟨_,trodAll_cons_mk (Below.trod hl r1 r2 h1 hb hlt) h3⟩
end
end Go.Proofs.YthipdlhknbhiiaaGreat.Ev

end
section
namespace Go.Proofs.YthipdlhknbhiiaaGreat.Ev
open Go Go.RowKit
theorem Vh:∀ (l:List Sh) (i:Nat),(slotsI (parI i l)).length=l.length
 | [],_=>rfl
 | s::l,i=>by simp[parI,slotsI,Vh l (i + 1)]
section
variable {P:Program} {J:Tabs}
def TabOK (P:Program):List (Nat×TyD)→Prop
 | []=>True
 | x::l=>tyOf P x.1=some x.2∧TabOK P l
theorem AS7 {l:List (Nat×TyD)} (h:TabOK P l):∀ t d,getD l t=some d→tyOf P t=some d:=by
 intro t d hd
 induction l with
 | nil=>cases hd
 | cons x l ih =>
  obtain ⟨k,y⟩:=x
  simp only[getD] at hd
  cases hk:Nat.beq t k with
  | true =>
   rw[hk] at hd
   simp only[cond_true,Option.some.injEq] at hd
   have:=Nat.eq_of_beq_eq_true hk
   subst this
   subst hd
   exact h.1
  | false =>
   rw[hk] at hd
   exact ih h.2 hd
theorem AI9 {cf:Cfg} {ext:Rel} {g:FuncId} {shs:List Sh} {heads joins:List (Nat×List Item)} {outs:List (Nat×List (Ex×List Item))} {F:denI (parI 0 shs)→Option Bool}
  (hm:P.follows .mixedOrders=true) (hext:∀ g args blks r blks',ext g args blks r blks'→CSpec P J g args blks r blks')
  (hE:EntOK (Runs P cf ext) ⟨⟨g,0,parI 0 shs,[.slot 0 (.cell .bool)],heads,outs,joins⟩,F⟩) (hD:∀ d,decSt 0 (parI 0 shs) (encSt (parI 0 shs) d)=some d) (hF:∀ d,WFP 0 shs d→F d=some true) (ho:shs.all oneS=true)
  {w:World} (hJ:∀ x∈J,w.heap[x.1]? = some x.2) {xs:List V} {vals:Array Value} (hx:DVs shs xs) (hv:Told w xs vals.toList):Calls P g vals w fun e w'=>e = .returned (.bool true)∧Below w.heap.size w w':=by
 obtain ⟨d,h1,h2,h3⟩:=Aj6 shs 0 ho hx
 have hrefs:=U6 hv
 obtain ⟨r,blks',q1,q2⟩:=hE d true xs [] (encSt (parI 0 shs) d) (hF d h1) ⟨h3 0 _,(fun id b hb=>by
  rw[show (encSt (parI 0 shs) d).hp=(encI 0 (parI 0 shs) d).2 from rfl,h2] at hb
  exact absurd hb (by simp[getB])),rfl⟩ (hD d) (Yb hv) (by rw[hx.length]; exact (Vh shs 0).symm) (by rw[hrefs]; rfl) (fun _=>rfl)
 have hr:r = .v (.bool true):=q2.val
 have hb:blks' = []:=List.eq_nil_of_length_eq_zero q2.len
 subst hr
 subst hb
 exact Aq3 hm hext hJ hv q1
theorem WW {H:Type} {enc:TypeId×Value→H} {cf:Cfg} {ext:Rel} {g:FuncId} {shs:List Sh} {heads joins:List (Nat×List Item)} {outs:List (Nat×List (Ex×List Item))} {F:denI (parI 0 shs)→Option Bool} {fn:Func} {s:ChangeSpec} {ts:List TypeId} {rt:TypeId}
  (hm:P.follows .mixedOrders=true) (hext:∀ g args blks r blks',ext g args blks r blks'→CSpec P J g args blks r blks')
  (hE:EntOK (Runs P cf ext) ⟨⟨g,0,parI 0 shs,[.slot 0 (.cell .bool)],heads,outs,joins⟩,F⟩) (hD:∀ d,decSt 0 (parI 0 shs) (encSt (parI 0 shs) d)=some d) (hF:∀ d,WFP 0 shs d→F d=some true) (ho:shs.all oneS=true)
  (hp:fn.params.toList=ts) (hr:fn.resultTypes.toList = [rt]) (hrt:P.underlying rt=some .bool) (hf:FitsL P ts shs) (hl:laidOutB P=true) (hread:∀ t∈ts,P.readableRec t=true∧t<P.types.size) (hvars:s.vars = [])
  (hs:∀ ds:List (DataW H),ds.length=ts.length→s.fn H (ds ++ []) = { results:=[.lit (.bool true)],args:=ds,vars:=[] })
  {W:World} (hJ:∀ x∈J,W.heap[x.1]? = some x.2) {base:Nat} {args:Array Value} {ds gs:List (DataW H)} {before:List MemPlace}
  (hval:∀ (j:Nat) t v,fn.params[j]? = some t→args[j]? = some v→Value.okWide P W .any base t v) (hW:DataW.Whole enc P fn.params.toList s.vars false W args.toList ds gs before)
  (hsz:(DataW.weightsEach P (fn.params.toList++s.plain.varTypes P) (ds++gs)).all (· ≤ reachBytes)=true) :
  Calls P g args W fun e W'=>∃ v,e = .returned v∧s.post enc P fn false true false false W args v W':=by
 have hW':=hW
 obtain ⟨p,q,hA,hV,rfl,hfz,hnd⟩:=hW
 rw[hvars] at hV
 obtain ⟨rfl,rfl⟩:=ChangeShapes.trodVars_none hV
 rw[hp] at hA
 have hlen:∀ {ts:List TypeId} {vs:List Value} {ds:List (DataW H)} {p:List MemPlace},DataW.TrodAll enc P W 0 (fun _=>true) true ts vs ds p→ds.length=ts.length:=by
  intro ts
  induction ts with
  | nil=>intro vs ds p h; obtain ⟨_,rfl,_⟩:=ChangeShapes.trodAll_nil h; rfl
  | cons t ts ih=>intro vs ds p h; obtain ⟨v,vs',d,ds',p1,q,rfl,rfl,rfl,h1,h2⟩:=ChangeShapes.trodAll_cons h; simp[ih h2]
 have hdl:=hlen hA
 have hwt:∀ n∈DataW.weightsEach P ts ds,n≤reachBytes:=by
  intro n hn
  have hmem:∀ (a b:List TypeId) (c d:List (DataW H)),∀ n∈DataW.weightsEach P a c,c.length=a.length→n∈DataW.weightsEach P (a++b) (c++d):=by
   intro a
   induction a with
   | nil=>intro b c d n hn hl; cases c <;> simp[DataW.weightsEach] at hn hl
   | cons t a ih =>
    intro b c d n hn hl
    cases c with
    | nil=>simp[DataW.weightsEach] at hn
    | cons x c =>
     simp only[DataW.weightsEach,List.mem_append,List.cons_append] at hn ⊢
     rcases hn with hn | hn
     ·exact .inl hn
     ·exact .inr (ih b c d n hn (by simpa using hl))
  rw[hp] at hsz
  have:=List.all_eq_true.1 hsz n (hmem ts _ ds _ n hn hdl)
  simpa using this
 obtain ⟨xs,h1,h2⟩:=V6 hf ho hA (fun j t v h1 h2=>⟨base,hval j t v (by rw[←hp] at h1; simpa using h1) (by simpa using h2)⟩) hwt
 refine (AI9 hm hext hE hD hF ho hJ h1 h2).mono fun e W' ⟨he,bel⟩=>?_
 subst he
 obtain ⟨q',hq⟩:=Uc hl bel hread hA
 refine ⟨_,rfl,ds,[],_,[],q',[],hW',?_,?_,?_,bel.frame _,fun h=>by cases h⟩
 ·rw[hs ds hdl,hr]
  have:((Value.bool true).resultList fn.resultTypes.size) = [.bool true]:=by
   have:fn.resultTypes.size=1:=by rw[←Array.length_toList,hr]; rfl
   rw[this]; rfl
  rw[this]
  exact ChangeShapes.trodAll_mk1 (shut_bool hrt true)
 ·rw[hs ds hdl,hp]
  exact hq
 ·rw[hs ds hdl,hvars]
  rfl
end
end Go.Proofs.YthipdlhknbhiiaaGreat.Ev

end
section
namespace Go.Proofs.YthipdlhknbhiiaaGreat.Ev
open Go
theorem wrapI {n:Int} (h1 : -9223372036854775808≤n) (h2:n≤9223372036854775807):IntKind.wrap .i64 n=n:=by rw[IntKind.wrap_i64]; omega
section
variable {σ τ ρ ρ':Type} {f : σ→Option (σ ⊕ ρ)} {g : τ→Option (τ ⊕ ρ')}
theorem AX {s s' : σ} (h:f s=some (.inl s')):loopM f s=loopM f s':=by rw[ZT,h]; rfl
theorem Ap {s : σ} {r : ρ} (h:f s=some (.inr r)):loopM f s=some r:=by rw[ZT,h]; rfl
theorem EL {I : σ→Prop} {R : ρ→Prop} (m : σ→Nat) (h:∀ s,I s→(∃ s',f s=some (.inl s')∧I s'∧m s'<m s)∨∃ r,f s=some (.inr r)∧R r):∀ s,I s→∃ r,loopM f s=some r∧R r:=by
 have:∀ n s,m s<n→I s→∃ r,loopM f s=some r∧R r:=by
  intro n
  induction n with
  | zero=>intro s h; omega
  | succ n ih =>
   intro s hn hs
   rcases h s hs with ⟨s',h1,h2,h3⟩ | ⟨r,h1,h2⟩
   ·obtain ⟨r,h4,h5⟩:=ih s' (by omega) h2
    exact ⟨r,by rw[AX h1,h4],h5⟩
   ·exact ⟨r,Ap h1,h2⟩
 exact fun s hs=>this (m s + 1) s (by omega) hs
end
section
variable {α β γ:Type}
theorem Ak (l:List α) (i:Nat):getI l (i:Int)=l[i]? := by
 unfold getI
 rw[if_pos (by omega)]
 simp
theorem Ak4 {l:List α} {i:Int} (h0 : 0≤i) (h1:i<l.length):∃ a,getI l i=some a∧l[i.toNat]? = some a:=by
 unfold getI
 rw[if_pos h0]
 have:i.toNat<l.length:=by omega
 exact ⟨l[i.toNat],List.getElem?_eq_getElem this,List.getElem?_eq_getElem this⟩
theorem AQ {i n:Nat} (h:i<n):idxI (i:Int) n=some i:=by
 unfold idxI
 rw[if_pos (by omega)]
 simp
theorem FD {n b s:Nat} (h1:n*b≤maxBytes) (h2:n*s≤maxBytes):lenI (n:Int) b s=some n:=by
 unfold lenI
 rw[if_pos (by simp; omega)]
 simp
end
section
variable {α σ ρ:Type} {body : σ→Option (σ ⊕ ρ)}
theorem GV {l:List α} {st:Nat→σ} {p : α→Bool} {fin : ρ} {bad:Nat→ρ} (hgo:∀ k a,l[k]? = some a→p a=true→body (st k)=some (.inl (st (k + 1)))) (hbad:∀ k a,l[k]? = some a→p a=false→body (st k)=some (.inr (bad k))) (hend:body (st l.length)=some (.inr fin)) :
  (l.all p=true→loopM body (st 0)=some fin)∧(l.all p=false→∃ k,k<l.length∧loopM body (st 0)=some (bad k)):=by
 have key:∀ (n k:Nat),k + n=l.length→((l.drop k).all p=true→loopM body (st k)=some fin)∧((l.drop k).all p=false→∃ j,j<l.length∧loopM body (st k)=some (bad j)):=by
  intro n
  induction n with
  | zero =>
   intro k hk
   have:k=l.length:=by omega
   subst this
   rw[List.drop_length]
   exact ⟨fun _=>Ap hend,(fun h=>by cases h)⟩
  | succ n ih =>
   intro k hk
   have hlt:k<l.length:=by omega
   have hd:l.drop k=l[k]::l.drop (k + 1):=List.drop_eq_getElem_cons hlt
   have he:l[k]? = some l[k]:=List.getElem?_eq_getElem hlt
   rw[hd,List.all_cons]
   cases hp:p l[k] with
   | true =>
    have h1:=hgo k _ he hp
    obtain ⟨q1,q2⟩:=ih (k + 1) (by omega)
    rw[Bool.true_and,AX h1]
    exact ⟨q1,q2⟩
   | false =>
    rw[Bool.false_and]
    exact ⟨(fun h=>by cases h),fun _=>⟨k,hlt,Ap (hbad k _ he hp)⟩⟩
 have:=key l.length 0 (by omega)
 rwa [List.drop_zero] at this
end
section
theorem wrap1 {k:Nat} (h:k<4611686018427387904):IntKind.wrap .i64 ((k:Int) + 1)=((k + 1:Nat):Int):=by rw[wrapI (by omega) (by omega)]; omega
end
theorem Rq {β:Type} {b s:Nat} {l m:List β} (h1:(l.length + m.length)*b≤maxBytes) (h2:(l.length + m.length)*s≤maxBytes):appL b s l m=some (l++m):=by
 unfold appL
 rw[if_pos ⟨h1,h2⟩]
end Go.Proofs.YthipdlhknbhiiaaGreat.Ev

end
section
namespace Go.Proofs.YthipdlhknbhiiaaGreat.Ev
open Go
variable {P:Program} {J:Tabs}
def nilS:Value:=.slice none 0 0
def cloneBody (t tb:TypeId):Code :=
 .seq (.region 0 #[⟨some 2,.assign (.const nilS),t, "slices.go:355", #[],none⟩] false)
  (.seq (.seq (.region 1 #[⟨some 3,.move (.tmp 0),t, "slices.go:357", #[],none⟩,⟨some 4,.binOp .eql t (.tmp 3) (.const nilS) t,tb, "slices.go:357", #[⟨0,.data⟩],none⟩] false)
    (.cond (.tmp 4) (.seq (.region 2 #[⟨some 2,.assign (.const nilS),t, "slices.go:358", #[],none⟩] false) .ret) .skip))
   (.seq (.region 3 #[⟨some 5,.buildSlice t 0 #[],t, "slices.go:362", #[],none⟩,⟨some 6,.move (.tmp 0),t, "slices.go:362", #[],none⟩,
     ⟨some 7,.call ⟨.builtin .append,#[.tmp 5,.tmp 6],#[t,t]⟩,t, "slices.go:362", #[⟨0,.data⟩,⟨1,.data⟩],none⟩,
     ⟨some 2,.assign (.tmp 7),t, "slices.go:362", #[⟨2,.data⟩,⟨2,.chain⟩,⟨0,.phase⟩,⟨1,.phase⟩,⟨2,.phase⟩],none⟩] false) .ret))
def cfN (e size:Nat) (deep:Bool):Cfg:={ live:=fun _ _=>[],out:=fun _ _ _=>[],join:=fun _ _=>none,res:=fun _=>[.one (.own e size deep)],par:=fun _=>[(0,.one .keep)],rts:=fun _=>[],byref:=fun _=>[],isExt:=fun _=>false }
theorem Au9 {g:FuncId} {fn:Func} {t tb e:TypeId} {d de:TyD} (hfn:P.funcs[g]? = some fn) (hb:fn.body=some (cloneBody t tb)) (hok:bodyOK fn (cloneBody t tb) 1=true) (hr:fn.results.toList = [.tmp 2])
  (hd:tyOf P t=some d) (he:d.elem=some e) (hde:tyOf P e=some de) (hst:isStr P t=false) (a:Option Addr) (c:Nat) :
  Runs P (cfN e de.size (de.zero.all isVB)) (fun _ _ _ _ _=>False) g [.v (.slice a 0 c)] [] (.ar 0 0 0) [arrOf e de.size (de.zero.all isVB) []]:=by
 refine Runs.intro rfl hfn hb hok rfl ?_
 rw[hr]
 have hsl:isSl P t=true:=by unfold isSl; rw[hd]; simp[he]
 cases a with
 | none =>
  simp[canon,normS,normV,normC,caseO,entry,enum,lk,upd,canon0,close,refs2,refs1,refs0,ren2,ren1,ren0,lkB,blksOf,cloneBody,we,reo,weOps,opAt,isR,weOp,nevT,nilEq,opnd,Ev.put,drawn,ofConst,ofCell,nilS,hsl,meet,caseB,toVal,cfN,outs,rootsOK,resVs,resV,normR,rootVs,outL,out1,idx,renB,arrOf,refsB]
 | some a =>
  simp[canon,normS,normV,normC,caseO,entry,enum,lk,upd,canon0,close,refs2,refs1,refs0,ren2,ren1,ren0,lkB,blksOf,cloneBody,we,reo,weOps,opAt,isR,weOp,nevT,nilEq,opnd,Ev.put,drawn,ofConst,ofCell,nilS,hsl,meet,caseB,toVal,cfN,outs,rootsOK,resVs,resV,normR,rootVs,outL,out1,idx,renB,arrOf,refsB,weBuildSlice,hd,he,hde,weAppend,srcRows,nodupB]
structure CloneOK (P:Program) (x:FuncId×TypeId×Nat×Bool):Prop where
 ok:∃ (fn:Func) (t tb:TypeId) (d de:TyD),P.funcs[x.1]? = some fn∧fn.body=some (cloneBody t tb)∧bodyOK fn (cloneBody t tb) 1=true∧fn.results.toList = [.tmp 2] ∧
  tyOf P t=some d∧d.elem=some x.2.1∧tyOf P x.2.1=some de∧isStr P t=false∧de.size=x.2.2.1∧de.zero.all isVB=x.2.2.2
theorem Qq (hm:P.follows .mixedOrders=true) {x:FuncId×TypeId×Nat×Bool} (h:CloneOK P x) {v:V} (hv:v = .em∨v = .im []):CSpec P J x.1 [v] [] (.ar 0 0 0) [arrOf x.2.1 x.2.2.1 x.2.2.2 []]:=by
 obtain ⟨fn,t,tb,d,de,h1,h2,h3,h4,h5,h6,h7,h8,h9,h10⟩:=h.ok
 have key:∀ (a:Option Addr) (c:Nat),CSpec P J x.1 [.v (.slice a 0 c)] [] (.ar 0 0 0) [arrOf x.2.1 x.2.2.1 x.2.2.2 []]:=by
  intro a c
  obtain ⟨k,hk⟩:=Au9 h1 h2 h3 h4 h5 h6 h7 h8 a c
  rw[←h9,←h10]
  exact K5 hm (fun _ _ _ _ _ h=>h.elim) k _ _ _ _ _ hk
 refine ⟨(key none 0).enter,fun _ w A E vals hT hI hvl=>?_⟩
 obtain ⟨y,hy⟩:∃ y,vals.toList = [y]:=by
  match hl:vals.toList with
  | []=>rw[hl] at hvl; exact hvl.elim
  | [y]=>exact ⟨y,rfl⟩
  | _::_::_=>rw[hl] at hvl; exact hvl.2.elim
 rw[hy] at hvl
 have hv1:=hvl.1
 obtain ⟨a,c,hyc⟩:∃ a c,y = .slice a 0 c:=by
  rcases hv with rfl | rfl
  ·have hv1:Rep w A .em y:=hv1
   cases hv1 with
   | em a=>exact ⟨a,0,rfl⟩
  ·have hv1:Rep w A (.im []) y:=hv1
   cases hv1 with
   | im0 a c=>exact ⟨a,c,rfl⟩
   | im b off cap=>exact ⟨some ⟨b,off,none⟩,cap,rfl⟩
 subst hyc
 have hk:=(key a c).calls rfl w A E vals hT hI (by rw[hy]; exact ⟨.v _ rfl,trivial⟩)
 refine hk.mono fun e w' he=>?_
 obtain ⟨y',E',G',q1,q2,q3,q4⟩:=he
 refine ⟨y',E',G',q1,q2,q3,fun j hj=>?_⟩
 rcases hv with rfl | rfl <;> simp[refs1,refs0] at hj
def cloneRel (Rc:Rel) (tab:List (FuncId×TypeId×Nat×Bool)):Rel:=fun g args blks r blks' =>
 Rc g args blks r blks'∨∃ x∈tab,g=x.1∧(args = [.em]∨args = [.im []])∧blks = []∧r = .ar 0 0 0∧blks' = [arrOf x.2.1 x.2.2.1 x.2.2.2 []]
theorem UI {cf:Cfg} {tab:List (FuncId×TypeId×Nat×Bool)} (hm:P.follows .mixedOrders=true) (ht:∀ x∈tab,CloneOK P x) :
  ∀ g args blks r blks',cloneRel (Runs P cf fun _ _ _ _ _=>False) tab g args blks r blks'→CSpec P J g args blks r blks':=by
 intro g args blks r blks' h
 rcases h with ⟨k,hk⟩ | ⟨x,hx,rfl,ha,rfl,rfl,rfl⟩
 ·exact K5 hm (fun _ _ _ _ _ h=>h.elim) k _ _ _ _ _ hk
 ·rcases ha with rfl | rfl
  ·exact Qq hm (ht x hx) (.inl rfl)
  ·exact Qq hm (ht x hx) (.inr rfl)
theorem AT2 {t:Ty} {st:TSt} {x:denI [.slot 0 (.cell (.im t))]} (h:decSt 0 [.slot 0 (.cell (.im t))] st=some x):asLh st.hp t (getV st.tm 0)=some (show List t.den from x):=by
 unfold decSt at h
 split at h
 case isFalse=>cases h
 simp only[keepT,blksI,tmS,tmC,tnS,tnV,tnC] at h
 cases ha:asLh st.hp t (getV st.tm 0) with
 | none=>rw[ha] at h; cases h
 | some l =>
  rw[ha] at h
  simp only[Nat.zero_le,Nat.ble_eq,if_true] at h
  have hc:∀ c,canonT 0 (slotsI [.slot 0 (.cell (.im t))]) { tm:=(0,.im t l)::st.tm,hp:=freezeT st.hp (frV (getV st.tm 0)),c:=c }=some { tm:=[(0,.im t l)],hp:=[],c:=1 }:=fun c=>rfl
  rw[hc] at h
  simp only[rdI,rdS,rdC,Nat.beq_refl,if_true,dite_true] at h
  rw[←Option.some.inj h]
  rfl
def orNil {α β:Type} (F:List α→Option (List β)) (l:List α):Option (List β):=match l with | []=>some [] | a::l=>F (a::l)
theorem Aj3 {ext:Rel} {cf:Cfg} {Rc:Rel} {tab:List (FuncId×TypeId×Nat×Bool)} {g:FuncId} {e:TypeId} {deep:Bool} {t:Ty} {heads joins:List (Nat×List Item)} {outs:List (Nat×List (Ex×List Item))} {F:List t.den→Option (List t.den)}
  (h:EntOK Rc ⟨⟨g,0,[.slot 0 (.cell (.im t))],[.blk (.arr e deep t),.slot 0 (.ref 0 false)],heads,outs,joins⟩,F⟩) (hmem:(g,e,t.size,deep)∈tab) (hext:∀ g args blks r blks',cloneRel Rc tab g args blks r blks'→ext g args blks r blks') :
  EntOK (Runs P cf ext) ⟨⟨g,0,[.slot 0 (.cell (.im t))],[.blk (.arr e deep t),.slot 0 (.ref 0 false)],heads,outs,joins⟩,fun l=>orNil F l⟩:=by
 intro x y args blks st hF hs hd hid hlen href hb0
 have ha:=AT2 hd
 cases hx:(show List t.den from x) with
 | cons a l =>
  have hx':x=(show denI [.slot 0 (.cell (.im t))] from (a::l:List t.den)):=hx
  subst hx'
  obtain ⟨r,blks',q1,q2⟩:=h _ y args blks st hF hs hd hid hlen href hb0
  exact ⟨r,blks',Runs.ext (hext _ _ _ _ _ (.inl q1)),q2⟩
 | nil =>
  have hx':x=(show denI [.slot 0 (.cell (.im t))] from ([]:List t.den)):=hx
  subst hx'
  have hy:y=(show denI [.blk (.arr e deep t),.slot 0 (.ref 0 false)] from ([]:List t.den)):=(Option.some.inj hF).symm
  subst hy
  obtain ⟨v,rfl⟩:∃ v,args = [v]:=by
   match args,hlen with
   | [v],_=>exact ⟨v,rfl⟩
  have hrefs:([v]:List V).flatMap refs1 = []:=by
   cases hr:([v]:List V).flatMap refs1 with
   | nil=>rfl
   | cons i l=>rw[hr] at href; simp[List.eraseDups_cons] at href
  have hv:=hs.tm 0
  have hv:RV2 st.hp (getV st.tm 0) v:=hv
  have hcase:v = .em∨v = .im []:=by
   generalize getV st.tm 0=u at ha hv
   cases u with
   | em=>exact .inl hv
   | im t' l =>
    simp only[asLh,asL] at ha
    rcases hv with ⟨_,hv⟩ | ⟨rows,hv,hl⟩
    ·exact .inl hv
    ·split at ha
     ·rename_i ht
      subst ht
      have h0:l = []:=by have:=Option.some.inj ha; exact this
      subst h0
      have:rows = []:=List.eq_nil_of_length_eq_zero (by have:=hl.1; simpa using this)
      subst this
      exact .inr hv
     ·cases ha
   | ow id =>
    obtain ⟨n,rfl,_⟩:=hv
    simp[refs1,refs0] at hrefs
   | ar id lo n =>
    have hv:v = .ar id lo n:=hv
    subst hv
    simp[refs1,refs0] at hrefs
   | _=>simp[asLh,asL] at ha
  have hblks:blks = []:=hb0 rfl
  subst hblks
  refine ⟨.ar 0 0 0,[arrOf e t.size deep []],Runs.ext (hext _ _ _ _ _ (.inr ⟨_,hmem,rfl,?_,rfl,rfl,rfl⟩)),?_,?_,rfl⟩
  ·rcases hcase with rfl | rfl
   ·exact .inl rfl
   ·exact .inr rfl
  ·exact ⟨0,rfl,fun b hb=>by cases hb; rfl⟩
  ·intro id b hb
   have hb:getB [(0,some (TB.arr e deep t []))] id=some b:=hb
   simp only[getB] at hb
   cases hi:Nat.beq id 0 with
   | false=>rw[hi] at hb; cases hb
   | true =>
    rw[hi] at hb
    have hb:some (TB.arr e deep t [])=some b:=hb
    cases hb
    have:id=0:=Nat.eq_of_beq_eq_true hi
    subst this
    exact ⟨_,rfl,rfl,rfl,rfl,rfl,RLx.nil⟩
theorem At2 {cf:Cfg} {Rc:Rel} {tab:List (FuncId×TypeId×Nat×Bool)} {g:FuncId} {e:TypeId} {deep:Bool} {t:Ty} {heads joins:List (Nat×List Item)} {outs:List (Nat×List (Ex×List Item))} {F:List t.den→Option (List t.den)}
  (h:EntOK Rc ⟨⟨g,0,[.slot 0 (.cell (.im t))],[.blk (.arr e deep t),.slot 0 (.ref 0 false)],heads,outs,joins⟩,F⟩) (hmem:(g,e,t.size,deep)∈tab) :
  EntOK (Runs P cf (cloneRel Rc tab)) ⟨⟨g,0,[.slot 0 (.cell (.im t))],[.blk (.arr e deep t),.slot 0 (.ref 0 false)],heads,outs,joins⟩,fun l=>orNil F l⟩:=Aj3 h hmem fun _ _ _ _ _ h=>h
end Go.Proofs.YthipdlhknbhiiaaGreat.Ev

end
section
namespace Go.Proofs.YthipdlhknbhiiaaGreat.Ev
open Go
set_option maxRecDepth 100000
def tyD3:TyD:=⟨1,8,false,[(.v (.int .i64 0))],none,false,(some .i64),[],false⟩
def tyD4:TyD:=⟨1,1,false,[(.v (.bool false))],none,false,none,[],false⟩
def tyD5:TyD:=⟨1,1,false,[(.v (.int .u8 0))],none,false,(some .u8),[],false⟩
def tyD22:TyD:=⟨1,24,false,[.em],(some 5),false,none,[],false⟩
def tyD23:TyD:=⟨1,24,false,[.em],(some 30),false,none,[],false⟩
def tyD24:TyD:=⟨1,24,false,[.em],(some 3),false,none,[],false⟩
def tyD26:TyD:=⟨2,32,true,[(.v (.bool false)),.em],none,false,none,[⟨0,4,1,false⟩,⟨1,24,1,false⟩],false⟩
def tyD28:TyD:=⟨4,64,true,[(.v (.bool false)),.em,(.v (.bool false)),.em],none,false,none,[⟨0,26,2,true⟩,⟨2,26,2,true⟩],false⟩
def tyD30:TyD:=⟨8,128,true,[(.v (.bool false)),.em,(.v (.bool false)),.em,(.v (.bool false)),.em,(.v (.bool false)),.em],none,false,none,[⟨0,28,4,true⟩,⟨4,28,4,true⟩],false⟩
def tyD40:TyD:=⟨1,24,false,[.em],(some 116),false,none,[],false⟩
def tyD66:TyD:=⟨1,24,false,[.em],(some 28),false,none,[],false⟩
def tyD92:TyD:=⟨1,8,false,[(.v (.int .u64 0))],none,false,(some .u64),[],false⟩
def tyD94:TyD:=⟨3,40,true,[.em,(.v (.int .i64 0)),(.v (.int .u64 0))],none,false,none,[⟨0,22,1,false⟩,⟨1,3,1,false⟩,⟨2,92,1,false⟩],false⟩
def tyD116:TyD:=⟨2,16,true,[(.v (.int .i64 0)),(.v (.int .i64 0))],none,false,none,[⟨0,3,1,false⟩,⟨1,3,1,false⟩],false⟩
def tyD170:TyD:=⟨1,24,false,[.em],(some 26),false,none,[],false⟩
def tyD184:TyD:=⟨1,8,false,[(.v (.int .u64 0))],none,false,(some .u64),[],false⟩
theorem ty3:tyOf Tryz.prog 3=some tyD3:=by kernel_rfl
theorem ty4:tyOf Tryz.prog 4=some tyD4:=by kernel_rfl
theorem ty5:tyOf Tryz.prog 5=some tyD5:=by kernel_rfl
theorem ty22:tyOf Tryz.prog 22=some tyD22:=by kernel_rfl
theorem ty23:tyOf Tryz.prog 23=some tyD23:=by kernel_rfl
theorem ty24:tyOf Tryz.prog 24=some tyD24:=by kernel_rfl
theorem ty26:tyOf Tryz.prog 26=some tyD26:=by kernel_rfl
theorem ty28:tyOf Tryz.prog 28=some tyD28:=by kernel_rfl
theorem ty30:tyOf Tryz.prog 30=some tyD30:=by kernel_rfl
theorem ty40:tyOf Tryz.prog 40=some tyD40:=by kernel_rfl
theorem ty66:tyOf Tryz.prog 66=some tyD66:=by kernel_rfl
theorem ty92:tyOf Tryz.prog 92=some tyD92:=by kernel_rfl
theorem ty94:tyOf Tryz.prog 94=some tyD94:=by kernel_rfl
theorem ty116:tyOf Tryz.prog 116=some tyD116:=by kernel_rfl
theorem ty170:tyOf Tryz.prog 170=some tyD170:=by kernel_rfl
theorem ty184:tyOf Tryz.prog 184=some tyD184:=by kernel_rfl
def tyTab:List (Nat×TyD):=[(3,tyD3),(4,tyD4),(5,tyD5),(22,tyD22),(23,tyD23),(24,tyD24),(26,tyD26),(28,tyD28),(30,tyD30),(40,tyD40),(66,tyD66),(92,tyD92),(94,tyD94),(116,tyD116),(170,tyD170),(184,tyD184)]
def codTab:List (Nat×Ty):=[(3,.int .i64),(5,.int .u8),(26,.pair (.bool) (.sl (.int .i64))),(28,.pair (.pair (.bool) (.sl (.int .i64))) (.pair (.bool) (.sl (.int .i64)))),(30,.pair (.pair (.pair (.bool) (.sl (.int .i64))) (.pair (.bool) (.sl (.int .i64)))) (.pair (.pair (.bool) (.sl (.int .i64))) (.pair (.bool) (.sl (.int .i64))))),(116,.pair (.int .i64) (.int .i64))]
theorem tyOK:∀ t d,getD tyTab t=some d→tyOf Tryz.prog t=some d:=AS7 (by unfold tyTab; exact ⟨ty3,⟨ty4,⟨ty5,⟨ty22,⟨ty23,⟨ty24,⟨ty26,⟨ty28,⟨ty30,⟨ty40,⟨ty66,⟨ty92,⟨ty94,⟨ty116,⟨ty170,⟨ty184,trivial⟩⟩⟩⟩⟩⟩⟩⟩⟩⟩⟩⟩⟩⟩⟩⟩)
theorem bool4:Tryz.prog.underlying 4=some .bool:=by kernel_rfl
theorem boolOK:∀ t,([4]:List Nat).contains t=true→Tryz.prog.underlying t=some .bool:=by
 intro t h
 simp at h
 rcases h with rfl
 all_goals first | exact bool4
theorem eqOK:∀ t,([]:List Nat).contains t=true→EqOK Tryz.prog t:=by
 intro t h
 simp at h
 try exact h.elim
def G5:FAnn:=⟨168,1,[.blk (.box 94 [.im (.int .u8),.int .i64,.int .u64]),.slot 0 (.ref 0 true)],[.blk (.box 94 [.im (.int .u8),.int .i64,.int .u64]),.slot 0 (.cell (.int .i64))],
 [],
 [],
 [(4,[.blk (.box 94 [.im (.int .u8),.int .i64,.int .u64]),.slot 0 (.ref 0 true),.slot 3 (.cell (.int .i64))])]⟩
def Ho:FAnn:=⟨77,1,[.blk (.box 94 [.im (.int .u8),.int .i64,.int .u64]),.slot 0 (.ref 0 true),.slot 1 (.cell (.int .i64))],[.blk (.box 94 [.im (.int .u8),.int .i64,.int .u64]),.slot 0 (.cell (.int .i64))],
 [],
 [],
 []⟩
def HV:FAnn:=⟨141,1,[.blk (.box 94 [.im (.int .u8),.int .i64,.int .u64]),.slot 0 (.ref 0 true),.slot 1 (.cell (.int .i64))],[.blk (.box 94 [.im (.int .u8),.int .i64,.int .u64]),.slot 0 (.cell (.bool))],
 [],
 [],
 []⟩
def FX:FAnn:=⟨139,1,[.blk (.box 94 [.im (.int .u8),.int .i64,.int .u64]),.slot 0 (.ref 0 true),.slot 1 (.cell (.im (.int .i64)))],[.blk (.box 94 [.im (.int .u8),.int .i64,.int .u64]),.slot 0 (.cell (.int .i64))],
 [],
 [],
 []⟩
def Ji:FAnn:=⟨132,1,[.blk (.box 94 [.im (.int .u8),.int .i64,.int .u64]),.slot 0 (.ref 0 true)],[.blk (.box 94 [.im (.int .u8),.int .i64,.int .u64]),.slot 0 (.agg [.int .i64,.int .i64])],
 [],
 [],
 []⟩
def HK:FAnn:=⟨97,1,[.blk (.box 94 [.im (.int .u8),.int .i64,.int .u64]),.slot 0 (.ref 0 true)],[.blk (.box 94 [.im (.int .u8),.int .i64,.int .u64]),.blk (.arr 116 true (.pair (.int .i64) (.int .i64))),.slot 0 (.ref 1 false)],
 [(8,[.blk (.box 94 [.im (.int .u8),.int .i64,.int .u64]),.blk (.arr 116 true (.pair (.int .i64) (.int .i64))),.slot 0 (.ref 0 true),.slot 3 (.ref 1 false),.slot 4 (.cell (.int .i64))]),(12,[.blk (.box 94 [.im (.int .u8),.int .i64,.int .u64]),.blk (.arr 116 true (.pair (.int .i64) (.int .i64))),.slot 0 (.ref 0 true),.slot 3 (.ref 1 false)])],
 [(8,[(.exit 1,[.blk (.box 94 [.im (.int .u8),.int .i64,.int .u64]),.blk (.arr 116 true (.pair (.int .i64) (.int .i64))),.slot 0 (.ref 0 true),.slot 3 (.ref 1 false)])]),(12,[(.exit 3,[.blk (.box 94 [.im (.int .u8),.int .i64,.int .u64]),.blk (.arr 116 true (.pair (.int .i64) (.int .i64))),.slot 3 (.ref 1 false)])])],
 []⟩
def T7:FAnn:=⟨118,0,[.slot 0 (.cell (.int .i64)),.slot 1 (.cell (.int .i64)),.slot 2 (.cell (.int .i64))],[.slot 0 (.cell (.bool))],
 [],
 [],
 []⟩
def Mj:FAnn:=⟨202,0,[.slot 0 (.agg [.int .i64,.int .i64])],[.slot 0 (.cell (.bool))],
 [],
 [],
 []⟩
def OB:FAnn:=⟨134,0,[.slot 0 (.cell (.im (.pair (.int .i64) (.int .i64))))],[.slot 0 (.cell (.bool))],
 [(2,[.slot 5 (.cell (.im (.pair (.int .i64) (.int .i64)))),.slot 6 (.cell (.int .i64)),.slot 7 (.cell (.int .i64))])],
 [(2,[(.exit 0,[]),(.ret,[.slot 2 (.cell (.bool))])])],
 []⟩
def OH:FAnn:=⟨100,0,[.slot 0 (.cell (.im (.pair (.int .i64) (.int .i64))))],[.slot 0 (.cell (.bool))],
 [],
 [],
 []⟩
def O8:FAnn:=⟨248,0,[.slot 0 (.cell (.im (.int .i64)))],[.blk (.arr 3 true (.int .i64)),.slot 0 (.ref 0 false)],
 [(1,[.slot 0 (.cell (.im (.int .i64)))])],
 [(1,[(.exit 0,[.slot 0 (.cell (.im (.int .i64)))])])],
 []⟩
def MC:FAnn:=⟨195,0,[.slot 0 (.cell (.bool)),.slot 1 (.cell (.im (.int .i64)))],[.blk (.arr 3 true (.int .i64)),.slot 0 (.agg [.bool,.at 0])],
 [],
 [],
 []⟩
def Oz:FAnn:=⟨167,0,[.slot 0 (.cell (.int .i64))],[.slot 0 (.agg [.bool,.im (.int .i64)])],
 [(3,[.blk (.box 26 [.bool,.im (.int .i64)]),.blk (.arr 3 true (.int .i64)),.slot 0 (.cell (.int .i64)),.slot 2 (.ref 0 true),.slot 3 (.ref 1 false),.slot 4 (.cell (.int .i64))])],
 [(3,[(.exit 0,[.blk (.box 26 [.bool,.im (.int .i64)]),.blk (.arr 3 true (.int .i64)),.slot 0 (.cell (.int .i64)),.slot 2 (.ref 0 true),.slot 3 (.ref 1 false)])])],
 []⟩
def OC:FAnn:=⟨76,0,[.slot 0 (.cell (.int .i64))],[.slot 0 (.agg [.bool,.im (.int .i64),.bool,.im (.int .i64)])],
 [],
 [],
 []⟩
def OV:FAnn:=⟨101,0,[.slot 0 (.agg [.int .i64,.int .i64])],[.slot 0 (.agg [.bool,.im (.int .i64),.bool,.im (.int .i64),.bool,.im (.int .i64),.bool,.im (.int .i64)])],
 [],
 [],
 []⟩
def Mh:FAnn:=⟨18,0,[.slot 0 (.cell (.im (.pair (.int .i64) (.int .i64))))],[.blk (.arr 30 false (.pair (.pair (.pair (.bool) (.sl (.int .i64))) (.pair (.bool) (.sl (.int .i64)))) (.pair (.pair (.bool) (.sl (.int .i64))) (.pair (.bool) (.sl (.int .i64)))))),.slot 0 (.ref 0 false),.slot 1 (.cell (.bool))],
 [(5,[.blk (.arr 30 false (.pair (.pair (.pair (.bool) (.sl (.int .i64))) (.pair (.bool) (.sl (.int .i64)))) (.pair (.pair (.bool) (.sl (.int .i64))) (.pair (.bool) (.sl (.int .i64)))))),.slot 4 (.ref 0 false),.slot 10 (.cell (.im (.pair (.int .i64) (.int .i64)))),.slot 11 (.cell (.int .i64)),.slot 12 (.cell (.int .i64))])],
 [(5,[(.exit 0,[.blk (.arr 30 false (.pair (.pair (.pair (.bool) (.sl (.int .i64))) (.pair (.bool) (.sl (.int .i64)))) (.pair (.pair (.bool) (.sl (.int .i64))) (.pair (.bool) (.sl (.int .i64)))))),.slot 4 (.ref 0 false)])])],
 []⟩
def HX:FAnn:=⟨204,1,[.blk (.box 94 [.im (.int .u8),.int .i64,.int .u64]),.slot 0 (.ref 0 true)],[.blk (.box 94 [.im (.int .u8),.int .i64,.int .u64]),.slot 0 (.agg [.bool,.im (.int .i64)])],
 [(5,[.blk (.box 94 [.im (.int .u8),.int .i64,.int .u64]),.blk (.box 26 [.bool,.im (.int .i64)]),.blk (.arr 3 true (.int .i64)),.slot 0 (.ref 0 true),.slot 2 (.ref 1 true),.slot 3 (.cell (.int .i64)),.slot 4 (.ref 2 false)])],
 [(5,[(.exit 0,[.blk (.box 94 [.im (.int .u8),.int .i64,.int .u64]),.blk (.box 26 [.bool,.im (.int .i64)]),.blk (.arr 3 true (.int .i64)),.slot 0 (.ref 0 true),.slot 2 (.ref 1 true),.slot 4 (.ref 2 false)])])],
 [(4,[.blk (.box 94 [.im (.int .u8),.int .i64,.int .u64]),.blk (.box 26 [.bool,.im (.int .i64)]),.slot 0 (.ref 0 true),.slot 2 (.ref 1 true),.slot 3 (.cell (.int .i64))])]⟩
def Kp:FAnn:=⟨205,0,[.slot 0 (.agg [.bool,.im (.int .i64)])],[.slot 0 (.cell (.bool))],
 [(2,[.blk (.box 26 [.bool,.im (.int .i64)]),.slot 1 (.ref 0 true),.slot 7 (.cell (.im (.int .i64))),.slot 8 (.cell (.int .i64)),.slot 9 (.cell (.int .i64))])],
 [(2,[(.exit 0,[.blk (.box 26 [.bool,.im (.int .i64)]),.slot 1 (.ref 0 true)]),(.ret,[.slot 2 (.cell (.bool))])])],
 []⟩
def OL:FAnn:=⟨206,0,[.slot 0 (.cell (.im (.int .i64))),.slot 1 (.cell (.im (.int .i64)))],[.slot 0 (.cell (.int .i64))],
 [(6,[.slot 0 (.cell (.im (.int .i64))),.slot 1 (.cell (.im (.int .i64))),.slot 5 (.cell (.int .i64))])],
 [(6,[(.exit 0,[]),(.ret,[.slot 4 (.cell (.int .i64))])])],
 []⟩
def Ku:FAnn:=⟨266,0,[.slot 0 (.cell (.im (.int .i64))),.slot 1 (.cell (.int .i64))],[.blk (.arr 3 true (.int .i64)),.blk (.arr 3 true (.int .i64)),.slot 0 (.ref 0 false),.slot 1 (.ref 1 false)],
 [(4,[.blk (.arr 3 true (.int .i64)),.slot 0 (.cell (.im (.int .i64))),.slot 1 (.cell (.int .i64)),.slot 6 (.ref 0 false),.slot 7 (.cell (.int .i64)),.slot 8 (.cell (.int .i64))])],
 [(4,[(.exit 0,[.blk (.arr 3 true (.int .i64)),.slot 6 (.ref 0 false),.slot 7 (.cell (.int .i64))])])],
 []⟩
def R5:FAnn:=⟨267,0,[.slot 0 (.cell (.im (.int .i64))),.slot 1 (.cell (.int .i64))],[.blk (.arr 3 true (.int .i64)),.slot 0 (.ref 0 false)],
 [(3,[.blk (.arr 3 true (.int .i64)),.slot 1 (.cell (.int .i64)),.slot 5 (.ref 0 false),.slot 13 (.cell (.im (.int .i64))),.slot 14 (.cell (.int .i64)),.slot 15 (.cell (.int .i64))])],
 [(3,[(.exit 0,[.blk (.arr 3 true (.int .i64)),.slot 5 (.ref 0 false)])])],
 []⟩
def KT:FAnn:=⟨268,0,[.slot 0 (.cell (.im (.int .i64))),.slot 1 (.cell (.im (.int .i64))),.slot 2 (.cell (.int .i64))],[.slot 0 (.cell (.int .i64))],
 [(5,[.slot 0 (.cell (.im (.int .i64))),.slot 1 (.cell (.im (.int .i64))),.slot 2 (.cell (.int .i64)),.slot 7 (.cell (.int .i64)),.slot 9 (.cell (.int .i64)),.slot 10 (.cell (.int .i64))])],
 [(5,[(.exit 0,[.slot 9 (.cell (.int .i64))])])],
 [(6,[.slot 0 (.cell (.im (.int .i64))),.slot 1 (.cell (.im (.int .i64))),.slot 2 (.cell (.int .i64)),.slot 7 (.cell (.int .i64)),.slot 9 (.cell (.int .i64)),.slot 10 (.cell (.int .i64))])]⟩
def Mg:FAnn:=⟨259,0,[.slot 0 (.cell (.im (.int .i64))),.slot 1 (.cell (.int .i64))],[.slot 0 (.cell (.int .i64))],
 [],
 [],
 []⟩
def MH:FAnn:=⟨269,1,[.blk (.arr 3 true (.int .i64)),.slot 0 (.ref 0 false),.slot 1 (.cell (.im (.int .i64))),.slot 2 (.cell (.int .i64)),.slot 3 (.cell (.int .i64))],[.blk (.arr 3 true (.int .i64)),.slot 0 (.cell (.int .i64))],
 [(3,[.blk (.arr 3 true (.int .i64)),.slot 0 (.ref 0 false),.slot 1 (.cell (.im (.int .i64))),.slot 2 (.cell (.int .i64)),.slot 3 (.cell (.int .i64)),.slot 9 (.cell (.int .i64)),.slot 10 (.cell (.int .i64))])],
 [(3,[(.exit 0,[.blk (.arr 3 true (.int .i64)),.slot 9 (.cell (.int .i64))])])],
 [(10,[.blk (.arr 3 true (.int .i64)),.slot 0 (.ref 0 false),.slot 1 (.cell (.im (.int .i64))),.slot 2 (.cell (.int .i64)),.slot 3 (.cell (.int .i64)),.slot 9 (.cell (.int .i64)),.slot 10 (.cell (.int .i64)),.slot 11 (.cell (.int .i64))])]⟩
def Mw:FAnn:=⟨270,1,[.blk (.arr 3 true (.int .i64)),.slot 0 (.ref 0 false),.slot 1 (.cell (.im (.int .i64))),.slot 2 (.cell (.int .i64))],[.blk (.arr 3 true (.int .i64))],
 [(2,[.blk (.arr 3 true (.int .i64)),.slot 0 (.ref 0 false),.slot 1 (.cell (.im (.int .i64))),.slot 2 (.cell (.int .i64)),.slot 6 (.cell (.int .i64)),.slot 7 (.cell (.int .i64))])],
 [(2,[(.exit 0,[.blk (.arr 3 true (.int .i64))])])],
 []⟩
def L7:FAnn:=⟨271,0,[.slot 0 (.cell (.im (.int .i64))),.slot 1 (.cell (.int .i64))],[.blk (.arr 3 true (.int .i64)),.slot 0 (.ref 0 false)],
 [(3,[.blk (.arr 3 true (.int .i64)),.slot 0 (.cell (.im (.int .i64))),.slot 1 (.cell (.int .i64)),.slot 5 (.ref 0 false),.slot 11 (.cell (.int .i64)),.slot 12 (.cell (.int .i64))])],
 [(3,[(.exit 0,[.blk (.arr 3 true (.int .i64)),.slot 5 (.ref 0 false)])])],
 []⟩
def Hf:FAnn:=⟨252,0,[.slot 0 (.cell (.im (.int .i64))),.slot 1 (.cell (.im (.int .i64)))],[.blk (.arr 3 true (.int .i64)),.blk (.arr 3 true (.int .i64)),.slot 0 (.ref 0 false),.slot 1 (.ref 1 false)],
 [(7,[.blk (.arr 3 true (.int .i64)),.slot 0 (.ref 0 false),.slot 1 (.cell (.im (.int .i64))),.slot 6 (.cell (.int .i64))]),(13,[.blk (.arr 3 true (.int .i64)),.blk (.arr 3 true (.int .i64)),.blk (.arr 3 true (.int .i64)),.slot 6 (.cell (.int .i64)),.slot 7 (.ref 0 false),.slot 8 (.ref 1 false),.slot 9 (.ref 2 false),.slot 10 (.cell (.int .i64))])],
 [(7,[(.exit 0,[.blk (.arr 3 true (.int .i64)),.slot 0 (.ref 0 false),.slot 1 (.cell (.im (.int .i64))),.slot 6 (.cell (.int .i64))])]),(13,[(.exit 2,[.blk (.arr 3 true (.int .i64)),.blk (.arr 3 true (.int .i64)),.slot 6 (.cell (.int .i64)),.slot 7 (.ref 0 false),.slot 9 (.ref 1 false)])])],
 []⟩
def Ol:FAnn:=⟨207,0,[.slot 0 (.cell (.im (.int .i64))),.slot 1 (.cell (.im (.int .i64)))],[.blk (.arr 3 true (.int .i64)),.slot 0 (.ref 0 false)],
 [(1,[.slot 0 (.cell (.im (.int .i64))),.slot 1 (.cell (.im (.int .i64)))])],
 [(1,[(.exit 0,[.slot 0 (.cell (.im (.int .i64)))])])],
 []⟩
def OQ:FAnn:=⟨218,0,[.slot 0 (.agg [.bool,.im (.int .i64)]),.slot 1 (.agg [.bool,.im (.int .i64)])],[.slot 0 (.agg [.bool,.im (.int .i64)]),.slot 1 (.agg [.bool,.im (.int .i64)])],
 [],
 [],
 []⟩
def O2:FAnn:=⟨219,0,[.slot 0 (.agg [.bool,.im (.int .i64)])],[.slot 0 (.agg [.bool,.im (.int .i64)])],
 [],
 [],
 []⟩
def MI:FAnn:=⟨164,0,[.slot 0 (.agg [.bool,.im (.int .i64)]),.slot 1 (.agg [.bool,.im (.int .i64)])],[.slot 0 (.agg [.bool,.im (.int .i64),.bool,.im (.int .i64)])],
 [],
 [],
 []⟩
def Pv:FAnn:=⟨163,0,[.slot 0 (.cell (.int .i64)),.slot 1 (.cell (.int .i64))],[.slot 0 (.agg [.bool,.im (.int .i64),.bool,.im (.int .i64)]),.slot 1 (.cell (.bool))],
 [],
 [],
 []⟩
def HN:FAnn:=⟨142,1,[.blk (.box 94 [.im (.int .u8),.int .i64,.int .u64]),.slot 0 (.ref 0 true)],[.blk (.box 94 [.im (.int .u8),.int .i64,.int .u64]),.slot 0 (.agg [.bool,.im (.int .i64),.bool,.im (.int .i64)])],
 [],
 [],
 []⟩
def HR:FAnn:=⟨129,1,[.blk (.box 94 [.im (.int .u8),.int .i64,.int .u64]),.slot 0 (.ref 0 true)],[.blk (.box 94 [.im (.int .u8),.int .i64,.int .u64]),.slot 0 (.agg [.bool,.im (.int .i64),.bool,.im (.int .i64),.bool,.im (.int .i64),.bool,.im (.int .i64)])],
 [],
 [],
 []⟩
def GJ:FAnn:=⟨73,1,[.blk (.box 94 [.im (.int .u8),.int .i64,.int .u64]),.slot 0 (.ref 0 true)],[.blk (.box 94 [.im (.int .u8),.int .i64,.int .u64]),.blk (.arr 30 false (.pair (.pair (.pair (.bool) (.sl (.int .i64))) (.pair (.bool) (.sl (.int .i64)))) (.pair (.pair (.bool) (.sl (.int .i64))) (.pair (.bool) (.sl (.int .i64)))))),.slot 0 (.ref 1 false)],
 [(8,[.blk (.box 94 [.im (.int .u8),.int .i64,.int .u64]),.blk (.arr 30 false (.pair (.pair (.pair (.bool) (.sl (.int .i64))) (.pair (.bool) (.sl (.int .i64)))) (.pair (.pair (.bool) (.sl (.int .i64))) (.pair (.bool) (.sl (.int .i64)))))),.slot 0 (.ref 0 true),.slot 5 (.ref 1 false),.slot 6 (.cell (.int .i64))])],
 [(8,[(.exit 0,[.blk (.box 94 [.im (.int .u8),.int .i64,.int .u64]),.blk (.arr 30 false (.pair (.pair (.pair (.bool) (.sl (.int .i64))) (.pair (.bool) (.sl (.int .i64)))) (.pair (.pair (.bool) (.sl (.int .i64))) (.pair (.bool) (.sl (.int .i64)))))),.slot 5 (.ref 1 false)])])],
 [(8,[.blk (.box 94 [.im (.int .u8),.int .i64,.int .u64]),.blk (.arr 30 false (.pair (.pair (.pair (.bool) (.sl (.int .i64))) (.pair (.bool) (.sl (.int .i64)))) (.pair (.pair (.bool) (.sl (.int .i64))) (.pair (.bool) (.sl (.int .i64)))))),.slot 0 (.ref 0 true),.slot 5 (.ref 1 false),.slot 6 (.cell (.int .i64))])]⟩
def FT:FAnn:=⟨74,1,[.blk (.box 94 [.im (.int .u8),.int .i64,.int .u64]),.slot 0 (.ref 0 true)],[.blk (.box 94 [.im (.int .u8),.int .i64,.int .u64]),.slot 0 (.agg [.bool,.im (.int .i64),.bool,.im (.int .i64)])],
 [],
 [],
 []⟩
def G4:FAnn:=⟨235,0,[.slot 0 (.cell (.im (.int .i64))),.slot 1 (.cell (.im (.int .i64)))],[.blk (.arr 3 true (.int .i64)),.slot 0 (.ref 0 false)],
 [(3,[.blk (.arr 3 true (.int .i64)),.slot 1 (.cell (.im (.int .i64))),.slot 5 (.ref 0 false),.slot 18 (.cell (.im (.int .i64))),.slot 19 (.cell (.int .i64)),.slot 20 (.cell (.int .i64))]),(7,[.blk (.arr 3 true (.int .i64)),.slot 1 (.cell (.im (.int .i64))),.slot 5 (.ref 0 false),.slot 6 (.cell (.int .i64)),.slot 7 (.cell (.int .i64)),.slot 8 (.cell (.int .i64)),.slot 9 (.cell (.int .i64)),.slot 18 (.cell (.im (.int .i64))),.slot 19 (.cell (.int .i64)),.slot 20 (.cell (.int .i64))])],
 [(3,[(.exit 0,[.blk (.arr 3 true (.int .i64)),.slot 5 (.ref 0 false)])]),(7,[(.exit 2,[.blk (.arr 3 true (.int .i64)),.slot 1 (.cell (.im (.int .i64))),.slot 5 (.ref 0 false),.slot 18 (.cell (.im (.int .i64))),.slot 19 (.cell (.int .i64)),.slot 20 (.cell (.int .i64))])])],
 [(9,[.blk (.arr 3 true (.int .i64)),.slot 1 (.cell (.im (.int .i64))),.slot 5 (.ref 0 false),.slot 6 (.cell (.int .i64)),.slot 7 (.cell (.int .i64)),.slot 8 (.cell (.int .i64)),.slot 9 (.cell (.int .i64)),.slot 18 (.cell (.im (.int .i64))),.slot 19 (.cell (.int .i64)),.slot 20 (.cell (.int .i64))])]⟩
def Pt:FAnn:=⟨166,0,[.slot 0 (.agg [.bool,.im (.int .i64)]),.slot 1 (.agg [.bool,.im (.int .i64)])],[.slot 0 (.agg [.bool,.im (.int .i64)])],
 [],
 [],
 []⟩
def Ht:FAnn:=⟨233,0,[.slot 0 (.cell (.im (.int .i64))),.slot 1 (.cell (.im (.int .i64)))],[.blk (.arr 3 true (.int .i64)),.slot 0 (.ref 0 false)],
 [(4,[.blk (.arr 3 true (.int .i64)),.slot 0 (.cell (.im (.int .i64))),.slot 1 (.cell (.im (.int .i64))),.slot 5 (.ref 0 false),.slot 6 (.cell (.int .i64)),.slot 7 (.cell (.int .i64))])],
 [(4,[(.exit 0,[.blk (.arr 3 true (.int .i64)),.slot 5 (.ref 0 false)])])],
 [(6,[.blk (.arr 3 true (.int .i64)),.slot 0 (.cell (.im (.int .i64))),.slot 1 (.cell (.im (.int .i64))),.slot 5 (.ref 0 false),.slot 6 (.cell (.int .i64)),.slot 7 (.cell (.int .i64))])]⟩
def GE:FAnn:=⟨234,0,[.slot 0 (.cell (.im (.int .i64))),.slot 1 (.cell (.im (.int .i64)))],[.blk (.arr 3 true (.int .i64)),.slot 0 (.ref 0 false)],
 [(4,[.blk (.arr 3 true (.int .i64)),.slot 0 (.cell (.im (.int .i64))),.slot 1 (.cell (.im (.int .i64))),.slot 5 (.ref 0 false),.slot 6 (.cell (.int .i64)),.slot 10 (.cell (.int .i64)),.slot 11 (.cell (.int .i64))])],
 [(4,[(.exit 0,[.blk (.arr 3 true (.int .i64)),.slot 5 (.ref 0 false)])])],
 []⟩
def O7:FAnn:=⟨165,0,[.slot 0 (.agg [.bool,.im (.int .i64)]),.slot 1 (.agg [.bool,.im (.int .i64)])],[.slot 0 (.agg [.bool,.im (.int .i64)])],
 [],
 [],
 []⟩
def OR:FAnn:=⟨75,0,[.slot 0 (.agg [.bool,.im (.int .i64),.bool,.im (.int .i64)]),.slot 1 (.agg [.bool,.im (.int .i64),.bool,.im (.int .i64)])],[.slot 0 (.agg [.bool,.im (.int .i64),.bool,.im (.int .i64)])],
 [],
 [],
 []⟩
def FV:FAnn:=⟨8,0,[.slot 0 (.cell (.im (.int .u8)))],[.blk (.arr 30 false (.pair (.pair (.pair (.bool) (.sl (.int .i64))) (.pair (.bool) (.sl (.int .i64)))) (.pair (.pair (.bool) (.sl (.int .i64))) (.pair (.bool) (.sl (.int .i64)))))),.slot 0 (.ref 0 false),.slot 1 (.agg [.bool,.im (.int .i64),.bool,.im (.int .i64),.bool,.im (.int .i64),.bool,.im (.int .i64)]),.slot 2 (.agg [.bool,.im (.int .i64),.bool,.im (.int .i64),.bool,.im (.int .i64),.bool,.im (.int .i64)])],
 [],
 [],
 []⟩
def Me:FAnn:=⟨103,0,[.slot 0 (.cell (.int .i64)),.slot 1 (.cell (.int .i64)),.slot 2 (.cell (.int .i64))],[.slot 0 (.cell (.bool))],
 [],
 [],
 []⟩
def HU:FAnn:=⟨258,0,[.slot 0 (.cell (.int .i64))],[.slot 0 (.cell (.bool))],
 [],
 [],
 []⟩
def BH:FAnn:=⟨221,0,[.slot 0 (.cell (.im (.int .i64))),.slot 1 (.clo 258)],[.slot 0 (.cell (.int .i64))],
 [(2,[.slot 0 (.cell (.im (.int .i64))),.slot 1 (.clo 258),.slot 7 (.cell (.int .i64)),.slot 8 (.cell (.int .i64))])],
 [(2,[(.exit 0,[]),(.ret,[.slot 4 (.cell (.int .i64))])])],
 []⟩
def Bq:FAnn:=⟨155,0,[.slot 0 (.cell (.im (.int .i64))),.slot 1 (.clo 258)],[.slot 0 (.cell (.bool))],
 [],
 [],
 []⟩
def Ks:FAnn:=⟨231,0,[.slot 0 (.agg [.bool,.im (.int .i64)])],[.slot 0 (.cell (.bool))],
 [],
 [],
 []⟩
def Jh:FAnn:=⟨261,0,[.slot 0 (.agg [.bool,.im (.int .i64)])],[.slot 0 (.cell (.bool))],
 [],
 [],
 []⟩
def Bm:FAnn:=⟨257,0,[.slot 0 (.cell (.im (.pair (.bool) (.sl (.int .i64))))),.slot 1 (.clo 261)],[.slot 0 (.cell (.int .i64))],
 [(2,[.slot 0 (.cell (.im (.pair (.bool) (.sl (.int .i64))))),.slot 1 (.clo 261),.slot 7 (.cell (.int .i64)),.slot 8 (.cell (.int .i64))])],
 [(2,[(.exit 0,[]),(.ret,[.slot 4 (.cell (.int .i64))])])],
 []⟩
def A7:FAnn:=⟨229,0,[.slot 0 (.cell (.im (.pair (.bool) (.sl (.int .i64))))),.slot 1 (.clo 261)],[.slot 0 (.cell (.bool))],
 [],
 [],
 []⟩
def L5:FAnn:=⟨241,0,[.slot 0 (.cell (.im (.pair (.bool) (.sl (.int .i64)))))],[.slot 0 (.cell (.bool))],
 [],
 [],
 []⟩
def I5:FAnn:=⟨212,0,[.slot 0 (.agg [.bool,.im (.int .i64)])],[.slot 0 (.cell (.int .i64))],
 [],
 [],
 []⟩
def FW:FAnn:=⟨263,0,[.slot 0 (.cell (.int .i64))],[.slot 0 (.cell (.bool))],
 [],
 [],
 []⟩
def EH:FAnn:=⟨245,0,[.slot 0 (.cell (.int .i64)),.slot 1 (.cell (.int .i64))],[.slot 0 (.cell (.int .i64))],
 [],
 [],
 []⟩
def E8:FAnn:=⟨184,0,[.slot 0 (.cell (.im (.int .i64))),.slot 1 (.cell (.im (.int .i64)))],[.slot 0 (.cell (.int .i64))],
 [(4,[.slot 0 (.cell (.im (.int .i64))),.slot 1 (.cell (.im (.int .i64))),.slot 5 (.cell (.int .i64))])],
 [(4,[(.exit 0,[]),(.ret,[.slot 4 (.cell (.int .i64))])])],
 []⟩
def W8:FAnn:=⟨243,0,[.slot 0 (.cell (.im (.int .i64)))],[.slot 0 (.cell (.im (.int .i64)))],
 [(2,[.slot 0 (.cell (.im (.int .i64))),.slot 3 (.cell (.int .i64))])],
 [(2,[(.exit 0,[.slot 0 (.cell (.im (.int .i64))),.slot 3 (.cell (.int .i64))])])],
 []⟩
def Jg:FAnn:=⟨262,0,[.slot 0 (.cell (.im (.int .i64))),.slot 1 (.cell (.int .i64))],[.slot 0 (.cell (.im (.int .i64))),.slot 1 (.cell (.int .i64))],
 [(4,[.blk (.arr 3 true (.int .i64)),.slot 0 (.cell (.im (.int .i64))),.slot 1 (.cell (.int .i64)),.slot 6 (.ref 0 false),.slot 7 (.cell (.int .i64)),.slot 8 (.cell (.int .i64))])],
 [(4,[(.exit 0,[.blk (.arr 3 true (.int .i64)),.slot 6 (.ref 0 false),.slot 7 (.cell (.int .i64))])])],
 []⟩
def Bb:FAnn:=⟨242,0,[.slot 0 (.cell (.im (.int .i64)))],[.blk (.arr 3 true (.int .i64)),.slot 0 (.ref 0 false)],
 [],
 [],
 []⟩
def ON:FAnn:=⟨177,0,[.slot 0 (.cell (.bool)),.slot 1 (.cell (.im (.int .i64)))],[.blk (.arr 3 true (.int .i64)),.slot 0 (.agg [.bool,.at 0])],
 [],
 [],
 []⟩
def Ok:FAnn:=⟨104,0,[.slot 0 (.cell (.int .i64))],[.slot 0 (.agg [.bool,.im (.int .i64)])],
 [(6,[.blk (.box 26 [.bool,.im (.int .i64)]),.blk (.arr 3 true (.int .i64)),.slot 2 (.ref 0 true),.slot 3 (.cell (.bool)),.slot 4 (.cell (.int .u64)),.slot 5 (.ref 1 false)])],
 [(6,[(.exit 0,[.blk (.box 26 [.bool,.im (.int .i64)]),.blk (.arr 3 true (.int .i64)),.slot 2 (.ref 0 true),.slot 3 (.cell (.bool)),.slot 5 (.ref 1 false)])])],
 [(5,[.blk (.box 26 [.bool,.im (.int .i64)]),.slot 2 (.ref 0 true),.slot 3 (.cell (.bool)),.slot 4 (.cell (.int .u64))])]⟩
def KC:FAnn:=⟨179,0,[.slot 0 (.agg [.bool,.im (.int .i64)]),.slot 1 (.agg [.bool,.im (.int .i64)])],[.blk (.arr 3 true (.int .i64)),.slot 0 (.agg [.bool,.at 0])],
 [(3,[.blk (.box 26 [.bool,.im (.int .i64)]),.blk (.box 26 [.bool,.im (.int .i64)]),.blk (.box 26 [.bool,.im (.int .i64)]),.blk (.arr 3 true (.int .i64)),.slot 2 (.ref 0 true),.slot 3 (.ref 1 true),.slot 4 (.ref 2 true),.slot 5 (.ref 3 false),.slot 20 (.cell (.im (.int .i64))),.slot 21 (.cell (.int .i64)),.slot 22 (.cell (.int .i64))]),(7,[.blk (.box 26 [.bool,.im (.int .i64)]),.blk (.box 26 [.bool,.im (.int .i64)]),.blk (.box 26 [.bool,.im (.int .i64)]),.blk (.arr 3 true (.int .i64)),.slot 2 (.ref 0 true),.slot 3 (.ref 1 true),.slot 4 (.ref 2 true),.slot 5 (.ref 3 false),.slot 6 (.cell (.int .i64)),.slot 7 (.cell (.int .i64)),.slot 8 (.cell (.int .i64)),.slot 20 (.cell (.im (.int .i64))),.slot 21 (.cell (.int .i64)),.slot 22 (.cell (.int .i64)),.slot 28 (.cell (.im (.int .i64))),.slot 29 (.cell (.int .i64)),.slot 30 (.cell (.int .i64))])],
 [(3,[(.exit 0,[.blk (.box 26 [.bool,.im (.int .i64)]),.blk (.box 26 [.bool,.im (.int .i64)]),.blk (.box 26 [.bool,.im (.int .i64)]),.blk (.arr 3 true (.int .i64)),.slot 2 (.ref 0 true),.slot 3 (.ref 1 true),.slot 4 (.ref 2 true),.slot 5 (.ref 3 false)])]),(7,[(.exit 2,[.blk (.box 26 [.bool,.im (.int .i64)]),.blk (.box 26 [.bool,.im (.int .i64)]),.blk (.box 26 [.bool,.im (.int .i64)]),.blk (.arr 3 true (.int .i64)),.slot 2 (.ref 0 true),.slot 3 (.ref 1 true),.slot 4 (.ref 2 true),.slot 5 (.ref 3 false),.slot 6 (.cell (.int .i64)),.slot 8 (.cell (.int .i64)),.slot 20 (.cell (.im (.int .i64))),.slot 21 (.cell (.int .i64)),.slot 22 (.cell (.int .i64))])])],
 []⟩
def IP:FAnn:=⟨244,0,[.slot 0 (.cell (.im (.int .i64))),.slot 1 (.cell (.im (.int .i64)))],[.slot 0 (.cell (.im (.int .i64))),.slot 1 (.cell (.im (.int .i64)))],
 [(10,[.blk (.arr 3 true (.int .i64)),.blk (.arr 3 true (.int .i64)),.slot 0 (.cell (.im (.int .i64))),.slot 6 (.cell (.int .i64)),.slot 9 (.cell (.int .i64)),.slot 10 (.ref 0 false),.slot 11 (.ref 1 false)]),(14,[.blk (.arr 3 true (.int .i64)),.blk (.arr 3 true (.int .i64)),.blk (.arr 3 true (.int .i64)),.slot 6 (.cell (.int .i64)),.slot 9 (.cell (.int .i64)),.slot 10 (.ref 0 false),.slot 11 (.ref 1 false),.slot 12 (.ref 2 false),.slot 13 (.cell (.int .i64))]),(18,[.blk (.arr 3 true (.int .i64)),.blk (.arr 3 true (.int .i64)),.blk (.arr 3 true (.int .i64)),.slot 6 (.cell (.int .i64)),.slot 9 (.cell (.int .i64)),.slot 10 (.ref 0 false),.slot 11 (.ref 1 false),.slot 12 (.ref 2 false),.slot 13 (.cell (.int .i64)),.slot 15 (.cell (.int .i64)),.slot 16 (.cell (.int .i64))]),(23,[.blk (.arr 3 true (.int .i64)),.blk (.arr 3 true (.int .i64)),.blk (.arr 3 true (.int .i64)),.slot 6 (.cell (.int .i64)),.slot 9 (.cell (.int .i64)),.slot 10 (.ref 0 false),.slot 11 (.ref 1 false),.slot 12 (.ref 2 false),.slot 13 (.cell (.int .i64)),.slot 15 (.cell (.int .i64)),.slot 17 (.cell (.int .i64)),.slot 153 (.cell (.int .i64)),.slot 154 (.cell (.int .i64))]),(37,[.blk (.arr 3 true (.int .i64)),.blk (.arr 3 true (.int .i64)),.blk (.arr 3 true (.int .i64)),.slot 6 (.cell (.int .i64)),.slot 9 (.cell (.int .i64)),.slot 10 (.ref 0 false),.slot 11 (.ref 1 false),.slot 12 (.ref 2 false),.slot 13 (.cell (.int .i64)),.slot 15 (.cell (.int .i64)),.slot 20 (.cell (.int .i64)),.slot 208 (.cell (.int .i64)),.slot 209 (.cell (.int .i64))])],
 [(10,[(.exit 0,[.blk (.arr 3 true (.int .i64)),.blk (.arr 3 true (.int .i64)),.slot 6 (.cell (.int .i64)),.slot 9 (.cell (.int .i64)),.slot 10 (.ref 0 false),.slot 11 (.ref 1 false)])]),(14,[(.exit 2,[.blk (.arr 3 true (.int .i64)),.blk (.arr 3 true (.int .i64)),.slot 6 (.cell (.int .i64)),.slot 9 (.cell (.int .i64)),.slot 10 (.ref 0 false),.slot 12 (.ref 1 false)])]),(18,[(.exit 4,[.blk (.arr 3 true (.int .i64)),.blk (.arr 3 true (.int .i64)),.blk (.arr 3 true (.int .i64)),.slot 6 (.cell (.int .i64)),.slot 9 (.cell (.int .i64)),.slot 10 (.ref 0 false),.slot 11 (.ref 1 false),.slot 12 (.ref 2 false),.slot 13 (.cell (.int .i64)),.slot 15 (.cell (.int .i64))])]),(23,[(.exit 6,[.blk (.arr 3 true (.int .i64)),.blk (.arr 3 true (.int .i64)),.blk (.arr 3 true (.int .i64)),.slot 6 (.cell (.int .i64)),.slot 9 (.cell (.int .i64)),.slot 10 (.ref 0 false),.slot 11 (.ref 1 false),.slot 12 (.ref 2 false),.slot 13 (.cell (.int .i64)),.slot 15 (.cell (.int .i64)),.slot 17 (.cell (.int .i64))])]),(37,[(.exit 8,[.blk (.arr 3 true (.int .i64)),.blk (.arr 3 true (.int .i64)),.blk (.arr 3 true (.int .i64)),.slot 6 (.cell (.int .i64)),.slot 9 (.cell (.int .i64)),.slot 10 (.ref 0 false),.slot 11 (.ref 1 false),.slot 12 (.ref 2 false),.slot 13 (.cell (.int .i64)),.slot 15 (.cell (.int .i64)),.slot 20 (.cell (.int .i64))])])],
 [(19,[.blk (.arr 3 true (.int .i64)),.blk (.arr 3 true (.int .i64)),.blk (.arr 3 true (.int .i64)),.slot 6 (.cell (.int .i64)),.slot 9 (.cell (.int .i64)),.slot 10 (.ref 0 false),.slot 11 (.ref 1 false),.slot 12 (.ref 2 false),.slot 13 (.cell (.int .i64)),.slot 15 (.cell (.int .i64)),.slot 16 (.cell (.int .i64))]),(30,[.blk (.arr 3 true (.int .i64)),.blk (.arr 3 true (.int .i64)),.blk (.arr 3 true (.int .i64)),.slot 6 (.cell (.int .i64)),.slot 9 (.cell (.int .i64)),.slot 10 (.ref 0 false),.slot 11 (.ref 1 false),.slot 12 (.ref 2 false),.slot 13 (.cell (.int .i64)),.slot 15 (.cell (.int .i64)),.slot 17 (.cell (.int .i64)),.slot 18 (.cell (.int .i64)),.slot 19 (.cell (.int .i64)),.slot 153 (.cell (.int .i64)),.slot 154 (.cell (.int .i64))])]⟩
def J9:FAnn:=⟨180,0,[.slot 0 (.agg [.bool,.im (.int .i64)]),.slot 1 (.agg [.bool,.im (.int .i64)])],[.slot 0 (.agg [.bool,.im (.int .i64)])],
 [(2,[.blk (.box 26 [.bool,.im (.int .i64)]),.slot 4 (.ref 0 true),.slot 5 (.cell (.im (.int .i64))),.slot 6 (.cell (.im (.int .i64)))])],
 [(2,[(.exit 0,[.blk (.box 26 [.bool,.im (.int .i64)]),.slot 4 (.ref 0 true),.slot 5 (.cell (.im (.int .i64)))])])],
 []⟩
def GY:FAnn:=⟨236,0,[.slot 0 (.agg [.bool,.im (.int .i64)]),.slot 1 (.agg [.bool,.im (.int .i64)])],[.slot 0 (.cell (.int .i64))],
 [],
 [],
 []⟩
def Kj:FAnn:=⟨176,0,[.slot 0 (.agg [.bool,.im (.int .i64),.bool,.im (.int .i64)])],[.slot 0 (.cell (.bool))],
 [],
 [],
 []⟩
def Kq:FAnn:=⟨88,0,[.slot 0 (.cell (.im (.pair (.pair (.bool) (.sl (.int .i64))) (.pair (.bool) (.sl (.int .i64))))))],[.slot 0 (.cell (.bool))],
 [(2,[.slot 5 (.cell (.im (.pair (.pair (.bool) (.sl (.int .i64))) (.pair (.bool) (.sl (.int .i64)))))),.slot 6 (.cell (.int .i64)),.slot 7 (.cell (.int .i64))])],
 [(2,[(.exit 0,[]),(.ret,[.slot 2 (.cell (.bool))])])],
 []⟩
def FY:FAnn:=⟨170,0,[.slot 0 (.agg [.bool,.im (.int .i64),.bool,.im (.int .i64)]),.slot 1 (.cell (.int .i64))],[.slot 0 (.cell (.bool))],
 [],
 [],
 []⟩
def Pe:FAnn:=⟨79,0,[.slot 0 (.agg [.bool,.im (.int .i64),.bool,.im (.int .i64),.bool,.im (.int .i64),.bool,.im (.int .i64)]),.slot 1 (.cell (.int .i64))],[.slot 0 (.cell (.bool))],
 [],
 [],
 []⟩
def Hg:FAnn:=⟨169,0,[.slot 0 (.agg [.bool,.im (.int .i64),.bool,.im (.int .i64),.bool,.im (.int .i64),.bool,.im (.int .i64)])],[.slot 0 (.cell (.bool))],
 [],
 [],
 []⟩
def Bl:FAnn:=⟨190,0,[.slot 0 (.cell (.im (.pair (.pair (.pair (.bool) (.sl (.int .i64))) (.pair (.bool) (.sl (.int .i64)))) (.pair (.pair (.bool) (.sl (.int .i64))) (.pair (.bool) (.sl (.int .i64))))))),.slot 1 (.clo 169)],[.slot 0 (.cell (.int .i64))],
 [(2,[.slot 0 (.cell (.im (.pair (.pair (.pair (.bool) (.sl (.int .i64))) (.pair (.bool) (.sl (.int .i64)))) (.pair (.pair (.bool) (.sl (.int .i64))) (.pair (.bool) (.sl (.int .i64))))))),.slot 1 (.clo 169),.slot 7 (.cell (.int .i64)),.slot 8 (.cell (.int .i64))])],
 [(2,[(.exit 0,[]),(.ret,[.slot 4 (.cell (.int .i64))])])],
 []⟩
def A6:FAnn:=⟨116,0,[.slot 0 (.cell (.im (.pair (.pair (.pair (.bool) (.sl (.int .i64))) (.pair (.bool) (.sl (.int .i64)))) (.pair (.pair (.bool) (.sl (.int .i64))) (.pair (.bool) (.sl (.int .i64))))))),.slot 1 (.clo 169)],[.slot 0 (.cell (.bool))],
 [],
 [],
 []⟩
def IJ:FAnn:=⟨78,0,[.slot 0 (.cell (.im (.pair (.pair (.pair (.bool) (.sl (.int .i64))) (.pair (.bool) (.sl (.int .i64)))) (.pair (.pair (.bool) (.sl (.int .i64))) (.pair (.bool) (.sl (.int .i64)))))))],[.slot 0 (.cell (.bool))],
 [],
 [],
 []⟩
def G7:FAnn:=⟨171,0,[.slot 0 (.agg [.bool,.im (.int .i64),.bool,.im (.int .i64)]),.slot 1 (.agg [.bool,.im (.int .i64),.bool,.im (.int .i64)])],[.slot 0 (.cell (.int .i64))],
 [],
 [],
 []⟩
def I3:FAnn:=⟨80,0,[.slot 0 (.agg [.bool,.im (.int .i64),.bool,.im (.int .i64)]),.slot 1 (.agg [.bool,.im (.int .i64),.bool,.im (.int .i64)])],[.slot 0 (.cell (.bool))],
 [],
 [],
 []⟩
def DQ:FAnn:=⟨238,0,[.slot 0 (.agg [.bool,.im (.int .i64),.bool,.im (.int .i64),.bool,.im (.int .i64),.bool,.im (.int .i64)]),.slot 1 (.cell (.bool))],[.slot 0 (.agg [.bool,.im (.int .i64),.bool,.im (.int .i64)])],
 [],
 [],
 []⟩
def MD:FAnn:=⟨237,3,[.blk (.box 4 [.bool]),.blk (.box 4 [.bool]),.blk (.box 28 [.bool,.im (.int .i64),.bool,.im (.int .i64)]),.slot 0 (.agg [.bool,.im (.int .i64),.bool,.im (.int .i64),.bool,.im (.int .i64),.bool,.im (.int .i64)]),.slot 1 (.ref 0 true),.slot 2 (.ref 1 true),.slot 3 (.ref 2 true)],[.blk (.box 4 [.bool]),.blk (.box 4 [.bool]),.blk (.box 28 [.bool,.im (.int .i64),.bool,.im (.int .i64)]),.slot 0 (.cell (.bool))],
 [],
 [],
 []⟩
def KY:FAnn:=⟨181,0,[.slot 0 (.agg [.bool,.im (.int .i64)])],[.slot 0 (.agg [.bool,.im (.int .i64)])],
 [],
 [],
 []⟩
def Kb:FAnn:=⟨246,0,[.slot 0 (.agg [.bool,.im (.int .i64),.bool,.im (.int .i64)])],[.slot 0 (.agg [.bool,.im (.int .i64),.bool,.im (.int .i64)])],
 [],
 [],
 []⟩
def IU:FAnn:=⟨183,0,[.slot 0 (.cell (.im (.int .i64))),.slot 1 (.cell (.im (.int .i64)))],[.blk (.arr 3 true (.int .i64)),.slot 0 (.ref 0 false)],
 [(4,[.blk (.arr 3 true (.int .i64)),.slot 0 (.cell (.im (.int .i64))),.slot 1 (.cell (.im (.int .i64))),.slot 5 (.ref 0 false),.slot 6 (.cell (.int .i64)),.slot 7 (.cell (.int .i64))])],
 [(4,[(.exit 0,[.blk (.arr 3 true (.int .i64)),.slot 5 (.ref 0 false)])])],
 [(6,[.blk (.arr 3 true (.int .i64)),.slot 0 (.cell (.im (.int .i64))),.slot 1 (.cell (.im (.int .i64))),.slot 5 (.ref 0 false),.slot 6 (.cell (.int .i64)),.slot 7 (.cell (.int .i64))]),(8,[.blk (.arr 3 true (.int .i64)),.slot 0 (.cell (.im (.int .i64))),.slot 1 (.cell (.im (.int .i64))),.slot 5 (.ref 0 false),.slot 6 (.cell (.int .i64)),.slot 7 (.cell (.int .i64))]),(10,[.blk (.arr 3 true (.int .i64)),.slot 0 (.cell (.im (.int .i64))),.slot 1 (.cell (.im (.int .i64))),.slot 5 (.ref 0 false),.slot 6 (.cell (.int .i64)),.slot 7 (.cell (.int .i64))])]⟩
def IL:FAnn:=⟨185,0,[.slot 0 (.cell (.im (.int .i64))),.slot 1 (.cell (.im (.int .i64)))],[.slot 0 (.cell (.im (.int .i64)))],
 [(4,[.blk (.arr 3 true (.int .i64)),.slot 1 (.cell (.im (.int .i64))),.slot 5 (.ref 0 false),.slot 6 (.cell (.int .i64)),.slot 11 (.cell (.int .i64)),.slot 12 (.cell (.int .i64))])],
 [(4,[(.exit 0,[.blk (.arr 3 true (.int .i64)),.slot 5 (.ref 0 false)])])],
 [(9,[.blk (.arr 3 true (.int .i64)),.slot 1 (.cell (.im (.int .i64))),.slot 5 (.ref 0 false),.slot 7 (.cell (.int .i64)),.slot 11 (.cell (.int .i64)),.slot 12 (.cell (.int .i64))])]⟩
def JJ:FAnn:=⟨95,0,[.slot 0 (.agg [.bool,.im (.int .i64)]),.slot 1 (.agg [.bool,.im (.int .i64)])],[.slot 0 (.agg [.bool,.im (.int .i64)])],
 [],
 [],
 []⟩
def JE:FAnn:=⟨182,0,[.slot 0 (.agg [.bool,.im (.int .i64)]),.slot 1 (.agg [.bool,.im (.int .i64)])],[.slot 0 (.agg [.bool,.im (.int .i64)]),.slot 1 (.agg [.bool,.im (.int .i64)])],
 [],
 [],
 []⟩
def Pk:FAnn:=⟨94,0,[.slot 0 (.agg [.bool,.im (.int .i64)]),.slot 1 (.agg [.bool,.im (.int .i64)])],[.slot 0 (.agg [.bool,.im (.int .i64),.bool,.im (.int .i64)])],
 [],
 [],
 [(4,[.blk (.box 26 [.bool,.im (.int .i64)]),.blk (.box 26 [.bool,.im (.int .i64)]),.blk (.box 28 [.bool,.im (.int .i64),.bool,.im (.int .i64)]),.blk (.box 26 [.bool,.im (.int .i64)]),.slot 2 (.ref 0 true),.slot 3 (.ref 1 true),.slot 4 (.ref 2 true),.slot 5 (.ref 3 true)])]⟩
def KP:FAnn:=⟨91,0,[.slot 0 (.agg [.bool,.im (.int .i64),.bool,.im (.int .i64)]),.slot 1 (.agg [.bool,.im (.int .i64),.bool,.im (.int .i64)])],[.slot 0 (.agg [.bool,.im (.int .i64),.bool,.im (.int .i64)])],
 [],
 [],
 []⟩
def JM:FAnn:=⟨186,0,[.slot 0 (.agg [.bool,.im (.int .i64),.bool,.im (.int .i64)]),.slot 1 (.agg [.bool,.im (.int .i64),.bool,.im (.int .i64)])],[.slot 0 (.agg [.bool,.im (.int .i64),.bool,.im (.int .i64)])],
 [],
 [],
 []⟩
def JT:FAnn:=⟨121,0,[.slot 0 (.agg [.bool,.im (.int .i64),.bool,.im (.int .i64)]),.slot 1 (.agg [.bool,.im (.int .i64),.bool,.im (.int .i64)])],[.slot 0 (.agg [.bool,.im (.int .i64),.bool,.im (.int .i64)])],
 [],
 [],
 []⟩
def OG:FAnn:=⟨92,0,[.slot 0 (.cell (.int .i64))],[.slot 0 (.agg [.bool,.im (.int .i64),.bool,.im (.int .i64)])],
 [],
 [],
 []⟩
def KZ:FAnn:=⟨119,0,[.slot 0 (.agg [.bool,.im (.int .i64),.bool,.im (.int .i64)]),.slot 1 (.agg [.bool,.im (.int .i64),.bool,.im (.int .i64)])],[.slot 0 (.agg [.bool,.im (.int .i64),.bool,.im (.int .i64)])],
 [],
 [],
 []⟩
def XJ:FAnn:=⟨120,0,[.slot 0 (.agg [.bool,.im (.int .i64),.bool,.im (.int .i64),.bool,.im (.int .i64),.bool,.im (.int .i64)]),.slot 1 (.agg [.bool,.im (.int .i64),.bool,.im (.int .i64),.bool,.im (.int .i64),.bool,.im (.int .i64)]),.slot 2 (.agg [.bool,.im (.int .i64),.bool,.im (.int .i64)])],[.slot 0 (.agg [.bool,.im (.int .i64),.bool,.im (.int .i64),.bool,.im (.int .i64),.bool,.im (.int .i64)])],
 [],
 [],
 []⟩
def S0:FAnn:=⟨172,0,[.slot 0 (.cell (.im (.pair (.pair (.pair (.bool) (.sl (.int .i64))) (.pair (.bool) (.sl (.int .i64)))) (.pair (.pair (.bool) (.sl (.int .i64))) (.pair (.bool) (.sl (.int .i64))))))),.slot 1 (.cell (.bool)),.slot 2 (.cell (.bool)),.slot 3 (.agg [.bool,.im (.int .i64),.bool,.im (.int .i64)])],[.blk (.arr 30 false (.pair (.pair (.pair (.bool) (.sl (.int .i64))) (.pair (.bool) (.sl (.int .i64)))) (.pair (.pair (.bool) (.sl (.int .i64))) (.pair (.bool) (.sl (.int .i64)))))),.slot 0 (.ref 0 false)],
 [(4,[.blk (.box 4 [.bool]),.blk (.box 28 [.bool,.im (.int .i64),.bool,.im (.int .i64)]),.blk (.box 4 [.bool]),.blk (.arr 30 false (.pair (.pair (.pair (.bool) (.sl (.int .i64))) (.pair (.bool) (.sl (.int .i64)))) (.pair (.pair (.bool) (.sl (.int .i64))) (.pair (.bool) (.sl (.int .i64)))))),.slot 0 (.cell (.im (.pair (.pair (.pair (.bool) (.sl (.int .i64))) (.pair (.bool) (.sl (.int .i64)))) (.pair (.pair (.bool) (.sl (.int .i64))) (.pair (.bool) (.sl (.int .i64))))))),.slot 5 (.ref 0 true),.slot 7 (.ref 1 true),.slot 9 (.cap 237 [2,0,1]),.slot 10 (.ref 3 false),.slot 17 (.cell (.im (.pair (.pair (.pair (.bool) (.sl (.int .i64))) (.pair (.bool) (.sl (.int .i64)))) (.pair (.pair (.bool) (.sl (.int .i64))) (.pair (.bool) (.sl (.int .i64))))))),.slot 18 (.cell (.int .i64)),.slot 19 (.cell (.int .i64))])],
 [(4,[(.exit 0,[.blk (.arr 30 false (.pair (.pair (.pair (.bool) (.sl (.int .i64))) (.pair (.bool) (.sl (.int .i64)))) (.pair (.pair (.bool) (.sl (.int .i64))) (.pair (.bool) (.sl (.int .i64)))))),.slot 10 (.ref 0 false)])])],
 [(10,[.blk (.box 4 [.bool]),.blk (.box 28 [.bool,.im (.int .i64),.bool,.im (.int .i64)]),.blk (.box 4 [.bool]),.blk (.arr 30 false (.pair (.pair (.pair (.bool) (.sl (.int .i64))) (.pair (.bool) (.sl (.int .i64)))) (.pair (.pair (.bool) (.sl (.int .i64))) (.pair (.bool) (.sl (.int .i64)))))),.blk (.box 30 [.bool,.im (.int .i64),.bool,.im (.int .i64),.bool,.im (.int .i64),.bool,.im (.int .i64)]),.slot 0 (.cell (.im (.pair (.pair (.pair (.bool) (.sl (.int .i64))) (.pair (.bool) (.sl (.int .i64)))) (.pair (.pair (.bool) (.sl (.int .i64))) (.pair (.bool) (.sl (.int .i64))))))),.slot 5 (.ref 0 true),.slot 7 (.ref 1 true),.slot 9 (.cap 237 [2,0,1]),.slot 10 (.ref 3 false),.slot 12 (.ref 4 true),.slot 17 (.cell (.im (.pair (.pair (.pair (.bool) (.sl (.int .i64))) (.pair (.bool) (.sl (.int .i64)))) (.pair (.pair (.bool) (.sl (.int .i64))) (.pair (.bool) (.sl (.int .i64))))))),.slot 18 (.cell (.int .i64)),.slot 19 (.cell (.int .i64))])]⟩
def Kt:FAnn:=⟨82,0,[.slot 0 (.cell (.im (.pair (.pair (.pair (.bool) (.sl (.int .i64))) (.pair (.bool) (.sl (.int .i64)))) (.pair (.pair (.bool) (.sl (.int .i64))) (.pair (.bool) (.sl (.int .i64))))))),.slot 1 (.agg [.bool,.im (.int .i64),.bool,.im (.int .i64),.bool,.im (.int .i64),.bool,.im (.int .i64)]),.slot 2 (.agg [.bool,.im (.int .i64),.bool,.im (.int .i64),.bool,.im (.int .i64),.bool,.im (.int .i64)])],[.blk (.arr 30 false (.pair (.pair (.pair (.bool) (.sl (.int .i64))) (.pair (.bool) (.sl (.int .i64)))) (.pair (.pair (.bool) (.sl (.int .i64))) (.pair (.bool) (.sl (.int .i64)))))),.slot 0 (.ref 0 false)],
 [],
 [],
 []⟩
def Ml:FAnn:=⟨224,0,[.slot 0 (.agg [.bool,.im (.int .i64),.bool,.im (.int .i64)])],[.slot 0 (.agg [.bool,.im (.int .i64),.bool,.im (.int .i64)])],
 [],
 [],
 []⟩
def Mb:FAnn:=⟨189,0,[.slot 0 (.agg [.bool,.im (.int .i64),.bool,.im (.int .i64),.bool,.im (.int .i64),.bool,.im (.int .i64)])],[.slot 0 (.agg [.bool,.im (.int .i64),.bool,.im (.int .i64),.bool,.im (.int .i64),.bool,.im (.int .i64)])],
 [],
 [],
 []⟩
def JN:FAnn:=⟨109,0,[.slot 0 (.cell (.im (.pair (.pair (.pair (.bool) (.sl (.int .i64))) (.pair (.bool) (.sl (.int .i64)))) (.pair (.pair (.bool) (.sl (.int .i64))) (.pair (.bool) (.sl (.int .i64)))))))],[.blk (.arr 30 false (.pair (.pair (.pair (.bool) (.sl (.int .i64))) (.pair (.bool) (.sl (.int .i64)))) (.pair (.pair (.bool) (.sl (.int .i64))) (.pair (.bool) (.sl (.int .i64)))))),.slot 0 (.ref 0 false)],
 [(3,[.blk (.arr 30 false (.pair (.pair (.pair (.bool) (.sl (.int .i64))) (.pair (.bool) (.sl (.int .i64)))) (.pair (.pair (.bool) (.sl (.int .i64))) (.pair (.bool) (.sl (.int .i64)))))),.slot 3 (.ref 0 false),.slot 7 (.cell (.im (.pair (.pair (.pair (.bool) (.sl (.int .i64))) (.pair (.bool) (.sl (.int .i64)))) (.pair (.pair (.bool) (.sl (.int .i64))) (.pair (.bool) (.sl (.int .i64))))))),.slot 8 (.cell (.int .i64)),.slot 9 (.cell (.int .i64))])],
 [(3,[(.exit 0,[.blk (.arr 30 false (.pair (.pair (.pair (.bool) (.sl (.int .i64))) (.pair (.bool) (.sl (.int .i64)))) (.pair (.pair (.bool) (.sl (.int .i64))) (.pair (.bool) (.sl (.int .i64)))))),.slot 3 (.ref 0 false)])])],
 []⟩
def FS:FAnn:=⟨81,0,[.slot 0 (.cell (.im (.pair (.pair (.pair (.bool) (.sl (.int .i64))) (.pair (.bool) (.sl (.int .i64)))) (.pair (.pair (.bool) (.sl (.int .i64))) (.pair (.bool) (.sl (.int .i64)))))))],[.blk (.arr 30 false (.pair (.pair (.pair (.bool) (.sl (.int .i64))) (.pair (.bool) (.sl (.int .i64)))) (.pair (.pair (.bool) (.sl (.int .i64))) (.pair (.bool) (.sl (.int .i64)))))),.slot 0 (.ref 0 false),.slot 1 (.cell (.bool))],
 [],
 [],
 []⟩
def J4:FAnn:=⟨9,0,[.slot 0 (.cell (.im (.pair (.pair (.pair (.bool) (.sl (.int .i64))) (.pair (.bool) (.sl (.int .i64)))) (.pair (.pair (.bool) (.sl (.int .i64))) (.pair (.bool) (.sl (.int .i64))))))),.slot 1 (.agg [.bool,.im (.int .i64),.bool,.im (.int .i64),.bool,.im (.int .i64),.bool,.im (.int .i64)]),.slot 2 (.agg [.bool,.im (.int .i64),.bool,.im (.int .i64),.bool,.im (.int .i64),.bool,.im (.int .i64)])],[.blk (.arr 30 false (.pair (.pair (.pair (.bool) (.sl (.int .i64))) (.pair (.bool) (.sl (.int .i64)))) (.pair (.pair (.bool) (.sl (.int .i64))) (.pair (.bool) (.sl (.int .i64)))))),.slot 0 (.ref 0 false),.slot 1 (.cell (.bool))],
 [],
 [],
 []⟩
def K2:FAnn:=⟨143,0,[.slot 0 (.agg [.bool,.im (.int .i64),.bool,.im (.int .i64)])],[.slot 0 (.cell (.bool))],
 [],
 [],
 []⟩
def JV:FAnn:=⟨173,0,[.slot 0 (.agg [.bool,.im (.int .i64),.bool,.im (.int .i64)])],[.slot 0 (.cell (.bool))],
 [],
 [],
 []⟩
def I8:FAnn:=⟨83,0,[.slot 0 (.cell (.im (.pair (.pair (.pair (.bool) (.sl (.int .i64))) (.pair (.bool) (.sl (.int .i64)))) (.pair (.pair (.bool) (.sl (.int .i64))) (.pair (.bool) (.sl (.int .i64)))))))],[.slot 0 (.cell (.bool))],
 [(2,[.slot 0 (.cell (.im (.pair (.pair (.pair (.bool) (.sl (.int .i64))) (.pair (.bool) (.sl (.int .i64)))) (.pair (.pair (.bool) (.sl (.int .i64))) (.pair (.bool) (.sl (.int .i64))))))),.slot 5 (.cell (.im (.pair (.pair (.pair (.bool) (.sl (.int .i64))) (.pair (.bool) (.sl (.int .i64)))) (.pair (.pair (.bool) (.sl (.int .i64))) (.pair (.bool) (.sl (.int .i64))))))),.slot 6 (.cell (.int .i64)),.slot 7 (.cell (.int .i64))])],
 [(2,[(.exit 0,[.slot 0 (.cell (.im (.pair (.pair (.pair (.bool) (.sl (.int .i64))) (.pair (.bool) (.sl (.int .i64)))) (.pair (.pair (.bool) (.sl (.int .i64))) (.pair (.bool) (.sl (.int .i64)))))))]),(.ret,[.slot 2 (.cell (.bool))])])],
 []⟩
def IX:FAnn:=⟨110,0,[.slot 0 (.agg [.bool,.im (.int .i64),.bool,.im (.int .i64)])],[.slot 0 (.cell (.bool))],
 [],
 [],
 []⟩
def Oj:FAnn:=⟨84,0,[.slot 0 (.agg [.bool,.im (.int .i64),.bool,.im (.int .i64),.bool,.im (.int .i64),.bool,.im (.int .i64)])],[.slot 0 (.cell (.bool))],
 [],
 [],
 []⟩
def I1:FAnn:=⟨174,0,[.slot 0 (.agg [.bool,.im (.int .i64)]),.slot 1 (.agg [.bool,.im (.int .i64)])],[.slot 0 (.cell (.int .i64))],
 [],
 [],
 []⟩
def Ow:FAnn:=⟨85,0,[.slot 0 (.agg [.bool,.im (.int .i64),.bool,.im (.int .i64)]),.slot 1 (.agg [.bool,.im (.int .i64),.bool,.im (.int .i64)])],[.slot 0 (.cell (.int .i64))],
 [],
 [],
 []⟩
def IK:FAnn:=⟨260,0,[.slot 0 (.agg [.bool,.im (.int .i64),.bool,.im (.int .i64),.bool,.im (.int .i64),.bool,.im (.int .i64)]),.slot 1 (.cell (.bool))],[.slot 0 (.agg [.bool,.im (.int .i64),.bool,.im (.int .i64)])],
 [],
 [],
 []⟩
def KG:FAnn:=⟨239,0,[.slot 0 (.agg [.bool,.im (.int .i64),.bool,.im (.int .i64),.bool,.im (.int .i64),.bool,.im (.int .i64)]),.slot 1 (.cell (.bool)),.slot 2 (.agg [.bool,.im (.int .i64),.bool,.im (.int .i64)]),.slot 3 (.cell (.bool))],[.slot 0 (.cell (.int .i64))],
 [],
 [],
 []⟩
def Oy:FAnn:=⟨249,0,[.slot 0 (.agg [.bool,.im (.int .i64),.bool,.im (.int .i64)])],[.slot 0 (.agg [.bool,.im (.int .i64),.bool,.im (.int .i64)])],
 [],
 [],
 []⟩
def Pz:FAnn:=⟨196,0,[.slot 0 (.agg [.bool,.im (.int .i64),.bool,.im (.int .i64)]),.slot 1 (.agg [.bool,.im (.int .i64),.bool,.im (.int .i64)])],[.slot 0 (.agg [.bool,.im (.int .i64),.bool,.im (.int .i64)])],
 [],
 [],
 []⟩
def Ov:FAnn:=⟨251,0,[.slot 0 (.agg [.bool,.im (.int .i64),.bool,.im (.int .i64)]),.slot 1 (.agg [.bool,.im (.int .i64),.bool,.im (.int .i64)])],[.slot 0 (.agg [.bool,.im (.int .i64),.bool,.im (.int .i64)])],
 [],
 [],
 []⟩
def Pg:FAnn:=⟨197,0,[.slot 0 (.agg [.bool,.im (.int .i64),.bool,.im (.int .i64)]),.slot 1 (.agg [.bool,.im (.int .i64),.bool,.im (.int .i64)])],[.slot 0 (.agg [.bool,.im (.int .i64),.bool,.im (.int .i64)])],
 [],
 [],
 []⟩
def JG:FAnn:=⟨198,0,[.slot 0 (.agg [.bool,.im (.int .i64),.bool,.im (.int .i64)]),.slot 1 (.agg [.bool,.im (.int .i64),.bool,.im (.int .i64)]),.slot 2 (.agg [.bool,.im (.int .i64),.bool,.im (.int .i64)])],[.slot 0 (.agg [.bool,.im (.int .i64),.bool,.im (.int .i64)])],
 [],
 [],
 []⟩
def Mv:FAnn:=⟨131,0,[.slot 0 (.agg [.bool,.im (.int .i64),.bool,.im (.int .i64),.bool,.im (.int .i64),.bool,.im (.int .i64)]),.slot 1 (.agg [.bool,.im (.int .i64),.bool,.im (.int .i64),.bool,.im (.int .i64),.bool,.im (.int .i64)]),.slot 2 (.agg [.bool,.im (.int .i64),.bool,.im (.int .i64)])],[.slot 0 (.agg [.bool,.im (.int .i64),.bool,.im (.int .i64),.bool,.im (.int .i64),.bool,.im (.int .i64)])],
 [],
 [],
 []⟩
def Mu:FAnn:=⟨240,0,[.slot 0 (.agg [.bool,.im (.int .i64),.bool,.im (.int .i64),.bool,.im (.int .i64),.bool,.im (.int .i64)]),.slot 1 (.agg [.bool,.im (.int .i64),.bool,.im (.int .i64),.bool,.im (.int .i64),.bool,.im (.int .i64)]),.slot 2 (.cell (.bool)),.slot 3 (.agg [.bool,.im (.int .i64),.bool,.im (.int .i64)])],[.slot 0 (.agg [.bool,.im (.int .i64),.bool,.im (.int .i64),.bool,.im (.int .i64),.bool,.im (.int .i64)])],
 [],
 [],
 []⟩
def KA:FAnn:=⟨175,0,[.slot 0 (.cell (.im (.pair (.pair (.pair (.bool) (.sl (.int .i64))) (.pair (.bool) (.sl (.int .i64)))) (.pair (.pair (.bool) (.sl (.int .i64))) (.pair (.bool) (.sl (.int .i64))))))),.slot 1 (.cell (.bool)),.slot 2 (.agg [.bool,.im (.int .i64),.bool,.im (.int .i64)]),.slot 3 (.cell (.bool))],[.blk (.arr 30 false (.pair (.pair (.pair (.bool) (.sl (.int .i64))) (.pair (.bool) (.sl (.int .i64)))) (.pair (.pair (.bool) (.sl (.int .i64))) (.pair (.bool) (.sl (.int .i64)))))),.slot 0 (.ref 0 false)],
 [(3,[.blk (.box 28 [.bool,.im (.int .i64),.bool,.im (.int .i64)]),.blk (.arr 30 false (.pair (.pair (.pair (.bool) (.sl (.int .i64))) (.pair (.bool) (.sl (.int .i64)))) (.pair (.pair (.bool) (.sl (.int .i64))) (.pair (.bool) (.sl (.int .i64)))))),.slot 0 (.cell (.im (.pair (.pair (.pair (.bool) (.sl (.int .i64))) (.pair (.bool) (.sl (.int .i64)))) (.pair (.pair (.bool) (.sl (.int .i64))) (.pair (.bool) (.sl (.int .i64))))))),.slot 1 (.cell (.bool)),.slot 3 (.cell (.bool)),.slot 6 (.ref 0 true),.slot 9 (.ref 1 false),.slot 15 (.cell (.im (.pair (.pair (.pair (.bool) (.sl (.int .i64))) (.pair (.bool) (.sl (.int .i64)))) (.pair (.pair (.bool) (.sl (.int .i64))) (.pair (.bool) (.sl (.int .i64))))))),.slot 16 (.cell (.int .i64)),.slot 17 (.cell (.int .i64))])],
 [(3,[(.exit 0,[.blk (.arr 30 false (.pair (.pair (.pair (.bool) (.sl (.int .i64))) (.pair (.bool) (.sl (.int .i64)))) (.pair (.pair (.bool) (.sl (.int .i64))) (.pair (.bool) (.sl (.int .i64)))))),.slot 9 (.ref 0 false)])])],
 []⟩
def Mx:FAnn:=⟨87,0,[.slot 0 (.cell (.im (.pair (.pair (.pair (.bool) (.sl (.int .i64))) (.pair (.bool) (.sl (.int .i64)))) (.pair (.pair (.bool) (.sl (.int .i64))) (.pair (.bool) (.sl (.int .i64))))))),.slot 1 (.agg [.bool,.im (.int .i64),.bool,.im (.int .i64),.bool,.im (.int .i64),.bool,.im (.int .i64)]),.slot 2 (.agg [.bool,.im (.int .i64),.bool,.im (.int .i64),.bool,.im (.int .i64),.bool,.im (.int .i64)])],[.blk (.arr 30 false (.pair (.pair (.pair (.bool) (.sl (.int .i64))) (.pair (.bool) (.sl (.int .i64)))) (.pair (.pair (.bool) (.sl (.int .i64))) (.pair (.bool) (.sl (.int .i64)))))),.slot 0 (.ref 0 false)],
 [],
 [],
 []⟩
def Mi:FAnn:=⟨127,0,[.slot 0 (.agg [.bool,.im (.int .i64),.bool,.im (.int .i64)])],[.slot 0 (.agg [.bool,.im (.int .i64),.bool,.im (.int .i64)]),.slot 1 (.cell (.bool))],
 [],
 [],
 []⟩
def KH:FAnn:=⟨115,0,[.slot 0 (.agg [.bool,.im (.int .i64),.bool,.im (.int .i64),.bool,.im (.int .i64),.bool,.im (.int .i64)])],[.slot 0 (.agg [.bool,.im (.int .i64),.bool,.im (.int .i64),.bool,.im (.int .i64),.bool,.im (.int .i64)]),.slot 1 (.cell (.bool))],
 [],
 [],
 []⟩
def Mp:FAnn:=⟨112,0,[.slot 0 (.cell (.im (.pair (.pair (.pair (.bool) (.sl (.int .i64))) (.pair (.bool) (.sl (.int .i64)))) (.pair (.pair (.bool) (.sl (.int .i64))) (.pair (.bool) (.sl (.int .i64)))))))],[.slot 0 (.cell (.im (.pair (.pair (.pair (.bool) (.sl (.int .i64))) (.pair (.bool) (.sl (.int .i64)))) (.pair (.pair (.bool) (.sl (.int .i64))) (.pair (.bool) (.sl (.int .i64))))))),.slot 1 (.cell (.bool))],
 [(3,[.blk (.arr 30 false (.pair (.pair (.pair (.bool) (.sl (.int .i64))) (.pair (.bool) (.sl (.int .i64)))) (.pair (.pair (.bool) (.sl (.int .i64))) (.pair (.bool) (.sl (.int .i64)))))),.slot 4 (.ref 0 false),.slot 9 (.cell (.im (.pair (.pair (.pair (.bool) (.sl (.int .i64))) (.pair (.bool) (.sl (.int .i64)))) (.pair (.pair (.bool) (.sl (.int .i64))) (.pair (.bool) (.sl (.int .i64))))))),.slot 10 (.cell (.int .i64)),.slot 11 (.cell (.int .i64))])],
 [(3,[(.exit 0,[.blk (.arr 30 false (.pair (.pair (.pair (.bool) (.sl (.int .i64))) (.pair (.bool) (.sl (.int .i64)))) (.pair (.pair (.bool) (.sl (.int .i64))) (.pair (.bool) (.sl (.int .i64)))))),.slot 4 (.ref 0 false)]),(.ret,[.slot 2 (.cell (.im (.pair (.pair (.pair (.bool) (.sl (.int .i64))) (.pair (.bool) (.sl (.int .i64)))) (.pair (.pair (.bool) (.sl (.int .i64))) (.pair (.bool) (.sl (.int .i64))))))),.slot 3 (.cell (.bool))])])],
 []⟩
def JI:FAnn:=⟨86,0,[.slot 0 (.cell (.im (.pair (.pair (.pair (.bool) (.sl (.int .i64))) (.pair (.bool) (.sl (.int .i64)))) (.pair (.pair (.bool) (.sl (.int .i64))) (.pair (.bool) (.sl (.int .i64)))))))],[.slot 0 (.cell (.im (.pair (.pair (.pair (.bool) (.sl (.int .i64))) (.pair (.bool) (.sl (.int .i64)))) (.pair (.pair (.bool) (.sl (.int .i64))) (.pair (.bool) (.sl (.int .i64))))))),.slot 1 (.cell (.bool))],
 [],
 [],
 []⟩
def Kz:FAnn:=⟨10,0,[.slot 0 (.cell (.im (.pair (.pair (.pair (.bool) (.sl (.int .i64))) (.pair (.bool) (.sl (.int .i64)))) (.pair (.pair (.bool) (.sl (.int .i64))) (.pair (.bool) (.sl (.int .i64))))))),.slot 1 (.agg [.bool,.im (.int .i64),.bool,.im (.int .i64),.bool,.im (.int .i64),.bool,.im (.int .i64)]),.slot 2 (.agg [.bool,.im (.int .i64),.bool,.im (.int .i64),.bool,.im (.int .i64),.bool,.im (.int .i64)])],[.slot 0 (.cell (.im (.pair (.pair (.pair (.bool) (.sl (.int .i64))) (.pair (.bool) (.sl (.int .i64)))) (.pair (.pair (.bool) (.sl (.int .i64))) (.pair (.bool) (.sl (.int .i64))))))),.slot 1 (.cell (.bool))],
 [],
 [],
 []⟩
def IM:FAnn:=⟨154,0,[.slot 0 (.cell (.im (.int .i64))),.slot 1 (.cell (.im (.int .i64)))],[.slot 0 (.cell (.bool))],
 [(4,[.slot 0 (.cell (.im (.int .i64))),.slot 1 (.cell (.im (.int .i64))),.slot 12 (.cell (.int .i64)),.slot 13 (.cell (.int .i64))])],
 [(4,[(.exit 0,[]),(.ret,[.slot 4 (.cell (.bool))])])],
 []⟩
def KE:FAnn:=⟨64,0,[.slot 0 (.agg [.bool,.im (.int .i64)]),.slot 1 (.agg [.bool,.im (.int .i64)])],[.slot 0 (.cell (.bool))],
 [],
 [],
 []⟩
def KR:FAnn:=⟨15,0,[.slot 0 (.agg [.bool,.im (.int .i64),.bool,.im (.int .i64)]),.slot 1 (.agg [.bool,.im (.int .i64),.bool,.im (.int .i64)])],[.slot 0 (.cell (.bool))],
 [],
 [],
 []⟩
def HW:FAnn:=⟨11,0,[.slot 0 (.cell (.im (.pair (.pair (.pair (.bool) (.sl (.int .i64))) (.pair (.bool) (.sl (.int .i64)))) (.pair (.pair (.bool) (.sl (.int .i64))) (.pair (.bool) (.sl (.int .i64))))))),.slot 1 (.cell (.im (.pair (.pair (.pair (.bool) (.sl (.int .i64))) (.pair (.bool) (.sl (.int .i64)))) (.pair (.pair (.bool) (.sl (.int .i64))) (.pair (.bool) (.sl (.int .i64)))))))],[.slot 0 (.cell (.bool))],
 [(4,[.slot 0 (.cell (.im (.pair (.pair (.pair (.bool) (.sl (.int .i64))) (.pair (.bool) (.sl (.int .i64)))) (.pair (.pair (.bool) (.sl (.int .i64))) (.pair (.bool) (.sl (.int .i64))))))),.slot 1 (.cell (.im (.pair (.pair (.pair (.bool) (.sl (.int .i64))) (.pair (.bool) (.sl (.int .i64)))) (.pair (.pair (.bool) (.sl (.int .i64))) (.pair (.bool) (.sl (.int .i64))))))),.slot 12 (.cell (.int .i64)),.slot 13 (.cell (.int .i64))])],
 [(4,[(.exit 0,[]),(.ret,[.slot 4 (.cell (.bool))])])],
 []⟩
def JU:FAnn:=⟨213,0,[.slot 0 (.agg [.bool,.im (.int .i64)]),.slot 1 (.agg [.bool,.im (.int .i64)])],[.slot 0 (.agg [.bool,.im (.int .i64)])],
 [],
 [],
 []⟩
def Fc:FAnn:=⟨178,0,[.slot 0 (.agg [.bool,.im (.int .i64)]),.slot 1 (.agg [.bool,.im (.int .i64)])],[.slot 0 (.agg [.bool,.im (.int .i64)])],
 [],
 [],
 []⟩
def HM:FAnn:=⟨90,0,[.slot 0 (.agg [.bool,.im (.int .i64),.bool,.im (.int .i64)])],[.slot 0 (.agg [.bool,.im (.int .i64)])],
 [],
 [],
 []⟩
def OW:FAnn:=⟨89,0,[.slot 0 (.agg [.bool,.im (.int .i64)])],[.slot 0 (.agg [.bool,.im (.int .i64),.bool,.im (.int .i64)])],
 [],
 [],
 []⟩
def Hh:FAnn:=⟨93,0,[.slot 0 (.agg [.bool,.im (.int .i64),.bool,.im (.int .i64)])],[.slot 0 (.agg [.bool,.im (.int .i64),.bool,.im (.int .i64)]),.slot 1 (.cell (.bool))],
 [],
 [],
 []⟩
def Hc:FAnn:=⟨12,0,[.slot 0 (.agg [.bool,.im (.int .i64),.bool,.im (.int .i64)]),.slot 1 (.agg [.bool,.im (.int .i64),.bool,.im (.int .i64)])],[.slot 0 (.agg [.bool,.im (.int .i64),.bool,.im (.int .i64)]),.slot 1 (.cell (.bool))],
 [(8,[.blk (.box 28 [.bool,.im (.int .i64),.bool,.im (.int .i64)]),.blk (.box 28 [.bool,.im (.int .i64),.bool,.im (.int .i64)]),.blk (.box 28 [.bool,.im (.int .i64),.bool,.im (.int .i64)]),.blk (.box 28 [.bool,.im (.int .i64),.bool,.im (.int .i64)]),.blk (.box 28 [.bool,.im (.int .i64),.bool,.im (.int .i64)]),.slot 2 (.ref 0 true),.slot 3 (.ref 1 true),.slot 4 (.ref 2 true),.slot 6 (.ref 3 true),.slot 7 (.ref 4 true),.slot 34 (.cell (.int .i64))])],
 [(8,[(.exit 0,[.blk (.box 28 [.bool,.im (.int .i64),.bool,.im (.int .i64)]),.slot 4 (.ref 0 true)]),(.ret,[.blk (.box 28 [.bool,.im (.int .i64),.bool,.im (.int .i64)]),.slot 4 (.ref 0 true),.slot 5 (.cell (.bool))])])],
 []⟩
def IZ:FAnn:=⟨126,0,[.slot 0 (.agg [.bool,.im (.int .i64),.bool,.im (.int .i64)])],[.slot 0 (.agg [.bool,.im (.int .i64),.bool,.im (.int .i64)])],
 [],
 [],
 []⟩
def Jl:FAnn:=⟨96,0,[.slot 0 (.cell (.im (.pair (.pair (.pair (.bool) (.sl (.int .i64))) (.pair (.bool) (.sl (.int .i64)))) (.pair (.pair (.bool) (.sl (.int .i64))) (.pair (.bool) (.sl (.int .i64)))))))],[.slot 0 (.agg [.bool,.im (.int .i64),.bool,.im (.int .i64)])],
 [(3,[.blk (.box 28 [.bool,.im (.int .i64),.bool,.im (.int .i64)]),.blk (.box 28 [.bool,.im (.int .i64),.bool,.im (.int .i64)]),.slot 0 (.cell (.im (.pair (.pair (.pair (.bool) (.sl (.int .i64))) (.pair (.bool) (.sl (.int .i64)))) (.pair (.pair (.bool) (.sl (.int .i64))) (.pair (.bool) (.sl (.int .i64))))))),.slot 2 (.ref 0 true),.slot 3 (.ref 1 true),.slot 8 (.cell (.im (.pair (.pair (.pair (.bool) (.sl (.int .i64))) (.pair (.bool) (.sl (.int .i64)))) (.pair (.pair (.bool) (.sl (.int .i64))) (.pair (.bool) (.sl (.int .i64))))))),.slot 9 (.cell (.int .i64)),.slot 10 (.cell (.int .i64))])],
 [(3,[(.exit 0,[.blk (.box 28 [.bool,.im (.int .i64),.bool,.im (.int .i64)]),.blk (.box 28 [.bool,.im (.int .i64),.bool,.im (.int .i64)]),.slot 2 (.ref 0 true),.slot 3 (.ref 1 true)])])],
 []⟩
def I2:FAnn:=⟨13,0,[.slot 0 (.cell (.im (.pair (.pair (.pair (.bool) (.sl (.int .i64))) (.pair (.bool) (.sl (.int .i64)))) (.pair (.pair (.bool) (.sl (.int .i64))) (.pair (.bool) (.sl (.int .i64)))))))],[.slot 0 (.agg [.bool,.im (.int .i64),.bool,.im (.int .i64)]),.slot 1 (.cell (.bool))],
 [],
 [],
 []⟩
def Mq:FAnn:=⟨14,0,[.slot 0 (.agg [.bool,.im (.int .i64),.bool,.im (.int .i64)]),.slot 1 (.agg [.bool,.im (.int .i64),.bool,.im (.int .i64)])],[.slot 0 (.agg [.bool,.im (.int .i64),.bool,.im (.int .i64)]),.slot 1 (.cell (.bool))],
 [],
 [],
 []⟩
def G8:FAnn:=⟨16,0,[.slot 0 (.cell (.im (.int .u8)))],[.blk (.arr 116 true (.pair (.int .i64) (.int .i64))),.slot 0 (.ref 0 false)],
 [],
 [],
 []⟩
def MM:FAnn:=⟨201,0,[.slot 0 (.agg [.int .i64,.int .i64])],[.slot 0 (.cell (.bool))],
 [],
 [],
 []⟩
def Jb:FAnn:=⟨200,0,[.slot 0 (.agg [.int .i64,.int .i64])],[.slot 0 (.cell (.bool))],
 [],
 [],
 []⟩
def BA:FAnn:=⟨250,0,[.slot 0 (.cell (.im (.pair (.int .i64) (.int .i64)))),.slot 1 (.clo 200)],[.slot 0 (.cell (.int .i64))],
 [(2,[.slot 0 (.cell (.im (.pair (.int .i64) (.int .i64)))),.slot 1 (.clo 200),.slot 7 (.cell (.int .i64)),.slot 8 (.cell (.int .i64))])],
 [(2,[(.exit 0,[]),(.ret,[.slot 4 (.cell (.int .i64))])])],
 []⟩
def Bh:FAnn:=⟨199,0,[.slot 0 (.cell (.im (.pair (.int .i64) (.int .i64)))),.slot 1 (.clo 200)],[.slot 0 (.cell (.bool))],
 [],
 [],
 []⟩
def MB:FAnn:=⟨133,0,[.slot 0 (.cell (.im (.pair (.int .i64) (.int .i64))))],[.slot 0 (.cell (.bool))],
 [],
 [],
 []⟩
def On:FAnn:=⟨98,0,[.slot 0 (.cell (.im (.pair (.int .i64) (.int .i64))))],[.slot 0 (.cell (.bool))],
 [],
 [],
 []⟩
def Mn:FAnn:=⟨99,0,[.slot 0 (.cell (.im (.pair (.int .i64) (.int .i64))))],[.blk (.arr 30 false (.pair (.pair (.pair (.bool) (.sl (.int .i64))) (.pair (.bool) (.sl (.int .i64)))) (.pair (.pair (.bool) (.sl (.int .i64))) (.pair (.bool) (.sl (.int .i64)))))),.slot 0 (.ref 0 false)],
 [(3,[.blk (.arr 30 false (.pair (.pair (.pair (.bool) (.sl (.int .i64))) (.pair (.bool) (.sl (.int .i64)))) (.pair (.pair (.bool) (.sl (.int .i64))) (.pair (.bool) (.sl (.int .i64)))))),.slot 3 (.ref 0 false),.slot 7 (.cell (.im (.pair (.int .i64) (.int .i64)))),.slot 8 (.cell (.int .i64)),.slot 9 (.cell (.int .i64))])],
 [(3,[(.exit 0,[.blk (.arr 30 false (.pair (.pair (.pair (.bool) (.sl (.int .i64))) (.pair (.bool) (.sl (.int .i64)))) (.pair (.pair (.bool) (.sl (.int .i64))) (.pair (.bool) (.sl (.int .i64)))))),.slot 3 (.ref 0 false)])])],
 []⟩
def L8:FAnn:=⟨17,0,[.slot 0 (.cell (.im (.pair (.int .i64) (.int .i64))))],[.blk (.arr 30 false (.pair (.pair (.pair (.bool) (.sl (.int .i64))) (.pair (.bool) (.sl (.int .i64)))) (.pair (.pair (.bool) (.sl (.int .i64))) (.pair (.bool) (.sl (.int .i64)))))),.slot 0 (.ref 0 false),.slot 1 (.cell (.bool))],
 [],
 [],
 []⟩
def Pi:FAnn:=⟨187,0,[.slot 0 (.cell (.im (.pair (.int .i64) (.int .i64)))),.slot 1 (.cell (.int .i64))],[.slot 0 (.cell (.int .i64))],
 [],
 [],
 []⟩
def HZ:FAnn:=⟨102,0,[.slot 0 (.cell (.im (.pair (.int .i64) (.int .i64))))],[.slot 0 (.cell (.int .i64))],
 [(3,[.slot 0 (.cell (.im (.pair (.int .i64) (.int .i64)))),.slot 3 (.cell (.int .i64)),.slot 7 (.cell (.im (.pair (.int .i64) (.int .i64)))),.slot 8 (.cell (.int .i64)),.slot 9 (.cell (.int .i64))])],
 [(3,[(.exit 0,[.slot 3 (.cell (.int .i64))])])],
 []⟩
def HP:FAnn:=⟨19,0,[.slot 0 (.cell (.im (.pair (.int .i64) (.int .i64))))],[.slot 0 (.cell (.int .i64)),.slot 1 (.cell (.bool))],
 [],
 [],
 []⟩
def Pa:FAnn:=⟨20,0,[.slot 0 (.cell (.int .i64)),.slot 1 (.cell (.int .i64))],[.slot 0 (.agg [.bool,.im (.int .i64),.bool,.im (.int .i64)]),.slot 1 (.cell (.bool))],
 [],
 [],
 []⟩
def KI:FAnn:=⟨3,0,[.slot 0 (.cell (.im (.int .u8))),.slot 1 (.cell (.im (.int .u8)))],[.slot 0 (.cell (.bool))],
 [],
 [],
 [(20,[.blk (.box 30 [.bool,.im (.int .i64),.bool,.im (.int .i64),.bool,.im (.int .i64),.bool,.im (.int .i64)]),.blk (.box 30 [.bool,.im (.int .i64),.bool,.im (.int .i64),.bool,.im (.int .i64),.bool,.im (.int .i64)]),.slot 1 (.cell (.im (.int .u8))),.slot 6 (.ref 0 true),.slot 7 (.ref 1 true),.slot 8 (.cell (.im (.pair (.pair (.pair (.bool) (.sl (.int .i64))) (.pair (.bool) (.sl (.int .i64)))) (.pair (.pair (.bool) (.sl (.int .i64))) (.pair (.bool) (.sl (.int .i64)))))))]),(23,[.slot 1 (.cell (.im (.int .u8)))])]⟩
def annTab:List FAnn:=[G5,Ho,HV,FX,Ji,HK,T7,Mj,OB,OH,O8,MC,Oz,OC,OV,Mh,HX,Kp,OL,Ku,R5,KT,Mg,MH,Mw,L7,Hf,Ol,OQ,O2,MI,Pv,HN,HR,GJ,FT,G4,Pt,Ht,GE,O7,OR,FV,Me,HU,BH,Bq,Ks,Jh,Bm,A7,L5,I5,FW,EH,E8,W8,Jg,Bb,ON,Ok,KC,IP,J9,GY,Kj,Kq,FY,Pe,Hg,Bl,A6,IJ,G7,I3,DQ,MD,KY,Kb,IU,IL,JJ,JE,Pk,KP,JM,JT,OG,KZ,XJ,S0,Kt,Ml,Mb,JN,FS,J4,K2,JV,I8,IX,Oj,I1,Ow,IK,KG,Oy,Pz,Ov,Pg,JG,Mv,Mu,KA,Mx,Mi,KH,Mp,JI,Kz,IM,KE,KR,HW,JU,Fc,HM,OW,Hh,Hc,IZ,Jl,I2,Mq,G8,MM,Jb,BA,Bh,MB,On,Mn,L8,Pi,HZ,HP,Pa,KI]
def noExt:Rel:=fun _ _ _ _ _=>False
def cfC:Cfg:=cfOf [Bb] fun _=>false
def cloneTab:List (FuncId×TypeId×Nat×Bool):=[(242,3,Ty.size (.int .i64),true)]
theorem HL:CloneOK Tryz.prog (242,3,Ty.size (.int .i64),true):=⟨Tryz.f242,24,4,tyD24,tyD3,Tryz.func242,by kernel_rfl,by kernel_rfl,rfl,ty24,rfl,ty3,by kernel_rfl,rfl,rfl⟩
theorem Av2:∀ x∈cloneTab,CloneOK Tryz.prog x:=by
 intro x hx
 simp only[cloneTab,List.mem_cons,List.not_mem_nil,or_false] at hx
 rcases hx with rfl
 exact HL
def ext0:Rel:=cloneRel (Runs Tryz.prog cfC noExt) cloneTab
theorem AA8 {J:Tabs}:∀ g args blks r blks',ext0 g args blks r blks'→CSpec Tryz.prog J g args blks r blks':=UI (by kernel_rfl) Av2
def cf0:Cfg:=cfOf annTab fun g=>([242]:List Nat).contains g
abbrev RR:Rel:=Runs Tryz.prog cf0 ext0
noncomputable def Ci (a0:((List Int)×(Int×Int))):Option ((List (Int)×Int×Int)×Int) :=
 (bif decide (a0.2.1<(((List.length a0.1):Nat):Int)) then
   ((getI a0.1 a0.2.1)).bind fun x0 =>
   some (Sum.inr ((a0.1,(a0.2.1,a0.2.2)),(Go.IntKind.wrap Go.IntKind.i64 x0)))
  else
  some (Sum.inr ((a0.1,(a0.2.1,a0.2.2)),(0:Int)))).bind fun x1 =>
 Sum.elim
  (fun x2 =>
  some x2)
  (fun x3 =>
  bif decide ((Go.IntKind.wrap Go.IntKind.i64 (x3.1.2.1 + (1:Int)))≤(((List.length x3.1.1):Nat):Int)) then
   some ((x3.1.1,((Go.IntKind.wrap Go.IntKind.i64 (x3.1.2.1 + (1:Int))),(Go.IntKind.wrap Go.IntKind.u64 ((Go.IntKind.wrap Go.IntKind.u64 ((Go.IntKind.wrap Go.IntKind.u64 (x3.1.2.2*(6364136223846793005:Int))) + (Go.IntKind.wrap Go.IntKind.u64 x3.2))) + (1442695040888963407:Int))))),x3.2)
  else
  some ((x3.1.1,((Go.IntKind.wrap Go.IntKind.i64 (x3.1.2.1 + (1:Int))),(Go.IntKind.wrap Go.IntKind.u64 ((Go.IntKind.wrap Go.IntKind.u64 ((Go.IntKind.wrap Go.IntKind.u64 (x3.1.2.2*(6364136223846793005:Int))) + (Go.IntKind.wrap Go.IntKind.u64 x3.2))) + (1442695040888963407:Int))))),(Go.IntKind.wrap Go.IntKind.i64 (andI Go.IntKind.u64 (shrI Go.IntKind.u64 (Go.IntKind.wrap Go.IntKind.u64 ((Go.IntKind.wrap Go.IntKind.u64 ((Go.IntKind.wrap Go.IntKind.u64 (x3.1.2.2*(6364136223846793005:Int))) + (Go.IntKind.wrap Go.IntKind.u64 x3.2))) + (1442695040888963407:Int))) (40:Int)) (255:Int)))))
  x1
noncomputable def JO:Ent:=⟨G5,fun x=>Ci x⟩
noncomputable def J5:TX:=⟨tyTab,codTab,[],[4],[],G5⟩
set_option maxHeartbeats 2000000 in
theorem SN (a0:(List (Int)×Int×Int)):wtF J5 Tryz.f168 (a0)=Ci a0:=by kernel_rfl
theorem Rd:EntOK RR JO:=Ab (X:=J5) ⟨tyOK,boolOK,eqOK⟩ (Ad (by exact trivial)) (Ae (by kernel_rfl)) ⟨Tryz.func168,rfl,by kernel_rfl,rfl⟩ (fun x=>by exact SN x)
noncomputable def Af (a0:((List Int)×(Int×Int))) (a1:Int):Option ((List (Int)×Int×Int)×Int) :=
 bif decide (a1≤(1:Int)) then
  some ((a0.1,(a0.2.1,a0.2.2)),(0:Int))
 else
 ((Ci (a0.1,(a0.2.1,a0.2.2)))).bind fun x0 =>
 bif decide (a1>(200:Int)) then
  ((Ci (x0.1.1,(x0.1.2.1,x0.1.2.2)))).bind fun x1 =>
  bif (a1==(0:Int)) then
   none
  else
  some ((x1.1.1,(x1.1.2.1,x1.1.2.2)),(Int.tmod (Go.IntKind.wrap Go.IntKind.i64 ((Go.IntKind.wrap Go.IntKind.i64 (x0.2*(256:Int))) + x1.2)) a1))
 else
 bif (a1==(0:Int)) then
  none
 else
 some ((x0.1.1,(x0.1.2.1,x0.1.2.2)),(Int.tmod x0.2 a1))
noncomputable def AT:Ent:=⟨Ho,fun x=>Af x.1 x.2⟩
noncomputable def KU:TX:=⟨tyTab,codTab,[],[4],[JO],Ho⟩
set_option maxHeartbeats 2000000 in
theorem Si (a0:(List (Int)×Int×Int)) (a1:Int):wtF KU Tryz.f77 (a0,a1)=Af a0 a1:=by kernel_rfl
theorem AW:EntOK RR AT:=Ab (X:=KU) ⟨tyOK,boolOK,eqOK⟩ (Ad (by exact ⟨⟨Rd,rfl⟩,trivial⟩)) (Ae (by kernel_rfl)) ⟨Tryz.func77,rfl,by kernel_rfl,rfl⟩ (fun x=>by exact Si x.1 x.2)
noncomputable def Au (a0:((List Int)×(Int×Int))) (a1:Int):Option ((List (Int)×Int×Int)×Bool) :=
 ((Af (a0.1,(a0.2.1,a0.2.2)) a1)).bind fun x0 =>
 some ((x0.1.1,(x0.1.2.1,x0.1.2.2)),(x0.2==(0:Int)))
noncomputable def B6:Ent:=⟨HV,fun x=>Au x.1 x.2⟩
noncomputable def LL:TX:=⟨tyTab,codTab,[],[4],[AT],HV⟩
set_option maxHeartbeats 2000000 in
theorem UA (a0:(List (Int)×Int×Int)) (a1:Int):wtF LL Tryz.f141 (a0,a1)=Au a0 a1:=by kernel_rfl
theorem Cd:EntOK RR B6:=Ab (X:=LL) ⟨tyOK,boolOK,eqOK⟩ (Ad (by exact ⟨⟨AW,rfl⟩,trivial⟩)) (Ae (by kernel_rfl)) ⟨Tryz.func141,rfl,by kernel_rfl,rfl⟩ (fun x=>by exact UA x.1 x.2)
noncomputable def A2 (a0:((List Int)×(Int×Int))) (a1:(List Int)):Option ((List (Int)×Int×Int)×Int) :=
 ((Af (a0.1,(a0.2.1,a0.2.2)) (((List.length a1):Nat):Int))).bind fun x0 =>
 ((getI a1 x0.2)).bind fun x1 =>
 some ((x0.1.1,(x0.1.2.1,x0.1.2.2)),x1)
noncomputable def FQ:Ent:=⟨FX,fun x=>A2 x.1 x.2⟩
noncomputable def Jq:TX:=⟨tyTab,codTab,[],[4],[AT],FX⟩
set_option maxHeartbeats 2000000 in
theorem Q8 (a0:(List (Int)×Int×Int)) (a1:List (Int)):wtF Jq Tryz.f139 (a0,a1)=A2 a0 a1:=by kernel_rfl
theorem IB:EntOK RR FQ:=Ab (X:=Jq) ⟨tyOK,boolOK,eqOK⟩ (Ad (by exact ⟨⟨AW,rfl⟩,trivial⟩)) (Ae (by kernel_rfl)) ⟨Tryz.func139,rfl,by kernel_rfl,rfl⟩ (fun x=>by exact Q8 x.1 x.2)
noncomputable def Du (a0:((List Int)×(Int×Int))):Option ((List (Int)×Int×Int)×(Int×Int)) :=
 ((Au (a0.1,(a0.2.1,a0.2.2)) (40:Int))).bind fun x0 =>
 bif x0.2 then
  ((A2 (x0.1.1,(x0.1.2.1,x0.1.2.2)) (List.cons (-(1000:Int)) (List.cons (1000:Int) (List.cons (1001:Int) (List.nil:List Int)))))).bind fun x1 =>
  ((Af (x1.1.1,(x1.1.2.1,x1.1.2.2)) (5:Int))).bind fun x2 =>
  some ((x2.1.1,(x2.1.2.1,x2.1.2.2)),(x1.2,x2.2))
 else
 ((Af (x0.1.1,(x0.1.2.1,x0.1.2.2)) (9:Int))).bind fun x3 =>
 ((Af (x3.1.1,(x3.1.2.1,x3.1.2.2)) (9:Int))).bind fun x4 =>
 some ((x4.1.1,(x4.1.2.1,x4.1.2.2)),((Go.IntKind.wrap Go.IntKind.i64 (x3.2-(2:Int))),(Go.IntKind.wrap Go.IntKind.i64 (x4.2-(2:Int)))))
noncomputable def N1:Ent:=⟨Ji,fun x=>Du x⟩
noncomputable def ND:TX:=⟨tyTab,codTab,[],[4],[B6,FQ,AT],Ji⟩
set_option maxHeartbeats 2000000 in
theorem Xu (a0:(List (Int)×Int×Int)):wtF ND Tryz.f132 (a0)=Du a0:=by kernel_rfl
theorem UJ:EntOK RR N1:=Ab (X:=ND) ⟨tyOK,boolOK,eqOK⟩ (Ad (by exact ⟨⟨Cd,rfl⟩,⟨⟨IB,rfl⟩,⟨⟨AW,rfl⟩,trivial⟩⟩⟩)) (Ae (by kernel_rfl)) ⟨Tryz.func132,rfl,by kernel_rfl,rfl⟩ (fun x=>by exact Xu x)
noncomputable def DO (s0:((List Int)×(Int×Int))) (s1:(List (Int×Int))) (s2:Int):Option ((((List Int)×(Int×Int))×((List (Int×Int))×Int)) ⊕ (((List Int)×(Int×Int))×(List (Int×Int)))) :=
 bif decide (s2>(0:Int)) then
  ((Du (s0.1,(s0.2.1,s0.2.2)))).bind fun x0 =>
  ((appL 16 2 s1 (List.cons (x0.2.1,x0.2.2) (List.nil:List (Int×Int))))).bind fun x1 =>
  some (Sum.inl ((x0.1.1,(x0.1.2.1,x0.1.2.2)),(x1,(Go.IntKind.wrap Go.IntKind.i64 (s2-(1:Int))))))
 else
 some (Sum.inr ((s0.1,(s0.2.1,s0.2.2)),s1))
noncomputable def FM (s0:((List Int)×(Int×Int))) (s1:(List (Int×Int))):Option ((((List Int)×(Int×Int))×(List (Int×Int))) ⊕ (((List Int)×(Int×Int))×(List (Int×Int)))) :=
 ((Af (s0.1,(s0.2.1,s0.2.2)) (2:Int))).bind fun x0 =>
 bif decide ((((List.length s1):Nat):Int)<(Go.IntKind.wrap Go.IntKind.i64 ((12:Int) + x0.2))) then
  ((Du (x0.1.1,(x0.1.2.1,x0.1.2.2)))).bind fun x1 =>
  ((appL 16 2 s1 (List.cons (x1.2.1,x1.2.2) (List.nil:List (Int×Int))))).bind fun x2 =>
  some (Sum.inl ((x1.1.1,(x1.1.2.1,x1.1.2.2)),x2))
 else
 some (Sum.inr ((x0.1.1,(x0.1.2.1,x0.1.2.2)),s1))
noncomputable def CQ (a0:((List Int)×(Int×Int))):Option ((List (Int)×Int×Int)×List ((Int×Int))) :=
 ((Af (a0.1,(a0.2.1,a0.2.2)) (4:Int))).bind fun x0 =>
 bif (x0.2==(0:Int)) then
  ((Af (x0.1.1,(x0.1.2.1,x0.1.2.2)) (6:Int))).bind fun x1 =>
  ((Af (x1.1.1,(x1.1.2.1,x1.1.2.2)) (2:Int))).bind fun x2 =>
  ((Af (x2.1.1,(x2.1.2.1,x2.1.2.2)) (3:Int))).bind fun x3 =>
  ((Af (x3.1.1,(x3.1.2.1,x3.1.2.2)) (5:Int))).bind fun x4 =>
  ((Af (x4.1.1,(x4.1.2.1,x4.1.2.2)) (2:Int))).bind fun x5 =>
  ((Af (x5.1.1,(x5.1.2.1,x5.1.2.2)) (5:Int))).bind fun x6 =>
  some ((x6.1.1,(x6.1.2.1,x6.1.2.2)),(List.cons ((0:Int),(0:Int)) (List.cons ((Go.IntKind.wrap Go.IntKind.i64 ((2:Int) + x1.2)),x2.2) (List.cons ((Go.IntKind.wrap Go.IntKind.i64 ((3:Int) + x3.2)),(Go.IntKind.wrap Go.IntKind.i64 ((3:Int) + x4.2))) (List.cons (x5.2,(Go.IntKind.wrap Go.IntKind.i64 ((2:Int) + x6.2))) (List.nil:List (Int×Int)))))))
 else
 bif (x0.2==(1:Int)) then
  ((Af (x0.1.1,(x0.1.2.1,x0.1.2.2)) (4:Int))).bind fun x7 =>
  ((Af (x7.1.1,(x7.1.2.1,x7.1.2.2)) (4:Int))).bind fun x8 =>
  some ((x8.1.1,(x8.1.2.1,x8.1.2.2)),(List.cons ((0:Int),(0:Int)) (List.cons ((6:Int),(0:Int)) (List.cons ((6:Int),(6:Int)) (List.cons ((4:Int),(6:Int)) (List.cons ((4:Int),(Go.IntKind.wrap Go.IntKind.i64 ((1:Int) + x7.2))) (List.cons ((2:Int),(Go.IntKind.wrap Go.IntKind.i64 ((1:Int) + x8.2))) (List.cons ((2:Int),(6:Int)) (List.cons ((0:Int),(6:Int)) (List.nil:List (Int×Int)))))))))))
 else
 ((Af (x0.1.1,(x0.1.2.1,x0.1.2.2)) (4:Int))).bind fun x9 =>
 (loopM (fun (s:(((List Int)×(Int×Int))×((List (Int×Int))×Int)))=>DO s.1 s.2.1 s.2.2) ((x9.1.1,(x9.1.2.1,x9.1.2.2)),((List.nil:List (Int×Int)),(Go.IntKind.wrap Go.IntKind.i64 ((3:Int) + x9.2))))).bind fun x10 =>
 ((Au (x10.1.1,(x10.1.2.1,x10.1.2.2)) (20:Int))).bind fun x11 =>
 bif x11.2 then
  (loopM (fun (s:(((List Int)×(Int×Int))×(List (Int×Int))))=>FM s.1 s.2) ((x11.1.1,(x11.1.2.1,x11.1.2.2)),x10.2)).bind fun x12 =>
  some ((x12.1.1,(x12.1.2.1,x12.1.2.2)),x12.2)
 else
 some ((x11.1.1,(x11.1.2.1,x11.1.2.2)),x10.2)
noncomputable def HO:Ent:=⟨HK,fun x=>CQ x⟩
noncomputable def L0:TX:=⟨tyTab,codTab,[],[4],[AT,N1,B6],HK⟩
set_option maxHeartbeats 2000000 in
theorem Ur (a0:(List (Int)×Int×Int)):wtF L0 Tryz.f97 (a0)=CQ a0:=by kernel_rfl
theorem JS:EntOK RR HO:=Ab (X:=L0) ⟨tyOK,boolOK,eqOK⟩ (Ad (by exact ⟨⟨AW,rfl⟩,⟨⟨UJ,rfl⟩,⟨⟨Cd,rfl⟩,trivial⟩⟩⟩)) (Ae (by kernel_rfl)) ⟨Tryz.func97,rfl,by kernel_rfl,rfl⟩ (fun x=>by exact Ur x)
noncomputable def CI (a0:Int) (a1:Int) (a2:Int):Option (Bool) :=
 bif decide (a0≥a1) then
  some (decide (a0≤a2))
 else
 some false
noncomputable def J8:Ent:=⟨T7,fun x=>CI x.1 x.2.1 x.2.2⟩
noncomputable def Yj:TX:=⟨tyTab,codTab,[],[4],[],T7⟩
set_option maxHeartbeats 2000000 in
theorem AB2 (a0:Int) (a1:Int) (a2:Int):wtF Yj Tryz.f118 (a0,a1,a2)=CI a0 a1 a2:=by kernel_rfl
theorem Lk:EntOK RR J8:=Ab (X:=Yj) ⟨tyOK,boolOK,eqOK⟩ (Ad (by exact trivial)) (Ae (by kernel_rfl)) ⟨Tryz.func118,rfl,by kernel_rfl,rfl⟩ (fun x=>by exact AB2 x.1 x.2.1 x.2.2)
noncomputable def D0 (a0:(Int×Int)):Option (Bool) :=
 ((CI a0.1 (-(1000:Int)) (1000:Int))).bind fun x0 =>
 bif x0 then
  ((CI a0.2 (-(1000:Int)) (1000:Int))).bind fun x1 =>
  some x1
 else
 some false
noncomputable def SY:Ent:=⟨Mj,fun x=>D0 x⟩
noncomputable def Sl:TX:=⟨tyTab,codTab,[],[4],[J8],Mj⟩
set_option maxHeartbeats 2000000 in
theorem Ae4 (a0:(Int×Int)):wtF Sl Tryz.f202 (a0)=D0 a0:=by kernel_rfl
theorem YK:EntOK RR SY:=Ab (X:=Sl) ⟨tyOK,boolOK,eqOK⟩ (Ad (by exact ⟨⟨Lk,rfl⟩,trivial⟩)) (Ae (by kernel_rfl)) ⟨Tryz.func202,rfl,by kernel_rfl,rfl⟩ (fun x=>by exact Ae4 x)
noncomputable def Bk (s0:(List (Int×Int))) (s1:Int) (s2:Int):Option (((List (Int×Int))×(Int×Int)) ⊕ (Unit ⊕ Bool)) :=
 bif decide (s2<s1) then
  ((getI s0 s2)).bind fun x0 =>
  ((D0 (x0.1,x0.2))).bind fun x1 =>
  bif (!x1) then
   some (Sum.inr (Sum.inr false))
  else
  some (Sum.inl (s0,(s1,(Go.IntKind.wrap Go.IntKind.i64 (s2 + (1:Int))))))
 else
 some (Sum.inr (Sum.inl ()))
noncomputable def Ff (a0:(List (Int×Int))):Option (Bool) :=
 (loopM (fun (s:((List (Int×Int))×(Int×Int)))=>Bk s.1 s.2.1 s.2.2) (a0,((((List.length a0):Nat):Int),(0:Int)))).bind fun x0 =>
 Sum.elim
  (fun x1 =>
  some true)
  (fun x2 =>
  some x2)
  x0
noncomputable def U1:Ent:=⟨OB,fun x=>Ff x⟩
noncomputable def VX:TX:=⟨tyTab,codTab,[],[4],[SY],OB⟩
set_option maxHeartbeats 2000000 in
theorem Ar2 (a0:List ((Int×Int))):wtF VX Tryz.f134 (a0)=Ff a0:=by kernel_rfl
theorem Ae9:EntOK RR U1:=Ab (X:=VX) ⟨tyOK,boolOK,eqOK⟩ (Ad (by exact ⟨⟨YK,rfl⟩,trivial⟩)) (Ae (by kernel_rfl)) ⟨Tryz.func134,rfl,by kernel_rfl,rfl⟩ (fun x=>by exact Ar2 x)
noncomputable def E6 (a0:(List (Int×Int))):Option (Bool) :=
 ((CI (((List.length a0):Nat):Int) (3:Int) (12:Int))).bind fun x0 =>
 bif x0 then
  ((Ff a0)).bind fun x1 =>
  some x1
 else
 some false
noncomputable def V7:Ent:=⟨OH,fun x=>E6 x⟩
noncomputable def Vm:TX:=⟨tyTab,codTab,[],[4],[J8,U1],OH⟩
set_option maxHeartbeats 2000000 in
theorem As5 (a0:List ((Int×Int))):wtF Vm Tryz.f100 (a0)=E6 a0:=by kernel_rfl
theorem Aa6:EntOK RR V7:=Ab (X:=Vm) ⟨tyOK,boolOK,eqOK⟩ (Ad (by exact ⟨⟨Lk,rfl⟩,⟨⟨Ae9,rfl⟩,trivial⟩⟩)) (Ae (by kernel_rfl)) ⟨Tryz.func100,rfl,by kernel_rfl,rfl⟩ (fun x=>by exact As5 x)
noncomputable def HB (s0:(List Int)):Option ((List Int) ⊕ (List Int)) :=
 bif decide ((((List.length s0):Nat):Int)>(0:Int)) then
  ((getI s0 (Go.IntKind.wrap Go.IntKind.i64 ((((List.length s0):Nat):Int)-(1:Int))))).bind fun x0 =>
  bif (x0==(0:Int)) then
   ((subI (0:Int) (Go.IntKind.wrap Go.IntKind.i64 ((((List.length s0):Nat):Int)-(1:Int))) (List.length s0))).bind fun x1 =>
   some (Sum.inl (List.drop x1.1 (List.take x1.2 s0)))
  else
  some (Sum.inr s0)
 else
 some (Sum.inr s0)
noncomputable def Br (a0:(List Int)):Option (List (Int)) :=
 (loopM (fun (s:(List Int))=>HB s) a0).bind fun x0 =>
 bif (roomI (List.length x0) 8 1) then
  some x0
 else
 none
noncomputable def Ea:Ent:=⟨O8,fun x=>Br x⟩
noncomputable def VN:TX:=⟨tyTab,codTab,[],[4],[],O8⟩
set_option maxHeartbeats 2000000 in
theorem Aw9 (a0:List (Int)):wtF VN Tryz.f248 (a0)=Br a0:=by kernel_rfl
theorem DZ:EntOK RR Ea:=Ab (X:=VN) ⟨tyOK,boolOK,eqOK⟩ (Ad (by exact trivial)) (Ae (by kernel_rfl)) ⟨Tryz.func248,rfl,by kernel_rfl,rfl⟩ (fun x=>by exact Aw9 x)
noncomputable def AH (a0:Bool) (a1:(List Int)):Option (List (Int)×(Bool)) :=
 ((Br a1)).bind fun x0 =>
 bif a0 then
  some (x0,decide ((((List.length x0):Nat):Int)>(0:Int)))
 else
 some (x0,false)
noncomputable def CA:Ent:=⟨MC,fun x=>AH x.1 x.2⟩
noncomputable def Sn:TX:=⟨tyTab,codTab,[],[4],[Ea],MC⟩
set_option maxHeartbeats 2000000 in
theorem Af8 (a0:Bool) (a1:List (Int)):wtF Sn Tryz.f195 (a0,a1)=AH a0 a1:=by kernel_rfl
theorem Cu:EntOK RR CA:=Ab (X:=Sn) ⟨tyOK,boolOK,eqOK⟩ (Ad (by exact ⟨⟨DZ,rfl⟩,trivial⟩)) (Ae (by kernel_rfl)) ⟨Tryz.func195,rfl,by kernel_rfl,rfl⟩ (fun x=>by exact Af8 x.1 x.2)
noncomputable def Hy (s0:(Bool×(List Int))) (s1:(List Int)) (s2:Int) (s3:Int):Option (((Bool×(List Int))×((List Int)×(Int×Int))) ⊕ ((Bool×(List Int))×((List Int)×Int))) :=
 bif (s3 != (0:Int)) then
  bif decide ((Int.tmod s3 (65536:Int))<(0:Int)) then
   ((appL 8 1 s1 (List.cons (Go.IntKind.wrap Go.IntKind.i64 ((0:Int)-(Int.tmod s3 (65536:Int)))) (List.nil:List Int)))).bind fun x0 =>
   some (Sum.inl ((s0.1,s0.2),(x0,(s2,(Go.IntKind.wrap Go.IntKind.i64 (Int.tdiv s3 (65536:Int)))))))
  else
  ((appL 8 1 s1 (List.cons (Int.tmod s3 (65536:Int)) (List.nil:List Int)))).bind fun x1 =>
  some (Sum.inl ((s0.1,s0.2),(x1,(s2,(Go.IntKind.wrap Go.IntKind.i64 (Int.tdiv s3 (65536:Int)))))))
 else
 some (Sum.inr ((s0.1,s0.2),(s1,s2)))
noncomputable def Dv (a0:Int):Option ((Bool×List (Int))) :=
 (loopM (fun (s:((Bool×(List Int))×((List Int)×(Int×Int))))=>Hy s.1 s.2.1 s.2.2.1 s.2.2.2) ((false,(List.nil:List Int)),((List.nil:List Int),(a0,a0)))).bind fun x0 =>
 ((AH (decide (x0.2.2<(0:Int))) x0.2.1)).bind fun x1 =>
 some (x1.2,x1.1)
noncomputable def O4:Ent:=⟨Oz,fun x=>Dv x⟩
noncomputable def U3:TX:=⟨tyTab,codTab,[],[4],[CA],Oz⟩
set_option maxHeartbeats 2000000 in
theorem Au4 (a0:Int):wtF U3 Tryz.f167 (a0)=Dv a0:=by kernel_rfl
theorem SW:EntOK RR O4:=Ab (X:=U3) ⟨tyOK,boolOK,eqOK⟩ (Ad (by exact ⟨⟨Cu,rfl⟩,trivial⟩)) (Ae (by kernel_rfl)) ⟨Tryz.func167,rfl,by kernel_rfl,rfl⟩ (fun x=>by exact Au4 x)
noncomputable def D9 (a0:Int):Option ((Bool×List (Int)×Bool×List (Int))) :=
 ((Dv a0)).bind fun x0 =>
 ((Dv (1:Int))).bind fun x1 =>
 some (x0.1,(x0.2,(x1.1,x1.2)))
noncomputable def Pq:Ent:=⟨OC,fun x=>D9 x⟩
noncomputable def Vq:TX:=⟨tyTab,codTab,[],[4],[O4],OC⟩
set_option maxHeartbeats 2000000 in
theorem Ar6 (a0:Int):wtF Vq Tryz.f76 (a0)=D9 a0:=by kernel_rfl
theorem SI:EntOK RR Pq:=Ab (X:=Vq) ⟨tyOK,boolOK,eqOK⟩ (Ad (by exact ⟨⟨SW,rfl⟩,trivial⟩)) (Ae (by kernel_rfl)) ⟨Tryz.func76,rfl,by kernel_rfl,rfl⟩ (fun x=>by exact Ar6 x)
noncomputable def EY (a0:(Int×Int)):Option ((Bool×List (Int)×Bool×List (Int)×Bool×List (Int)×Bool×List (Int))) :=
 ((D9 a0.1)).bind fun x0 =>
 ((D9 a0.2)).bind fun x1 =>
 some (x0.1,(x0.2.1,(x0.2.2.1,(x0.2.2.2,(x1.1,(x1.2.1,(x1.2.2.1,x1.2.2.2)))))))
noncomputable def Wf:Ent:=⟨OV,fun x=>EY x⟩
noncomputable def VB:TX:=⟨tyTab,codTab,[],[4],[Pq],OV⟩
set_option maxHeartbeats 2000000 in
theorem Ax3 (a0:(Int×Int)):wtF VB Tryz.f101 (a0)=EY a0:=by kernel_rfl
theorem Aa2:EntOK RR Wf:=Ab (X:=VB) ⟨tyOK,boolOK,eqOK⟩ (Ad (by exact ⟨⟨SI,rfl⟩,trivial⟩)) (Ae (by kernel_rfl)) ⟨Tryz.func101,rfl,by kernel_rfl,rfl⟩ (fun x=>by exact Ax3 x)
noncomputable def AF (s0:(List (((Bool×(List Int))×(Bool×(List Int)))×((Bool×(List Int))×(Bool×(List Int)))))) (s1:(List (Int×Int))) (s2:Int) (s3:Int):Option (((List (((Bool×(List Int))×(Bool×(List Int)))×((Bool×(List Int))×(Bool×(List Int)))))×((List (Int×Int))×(Int×Int))) ⊕ (List (((Bool×(List Int))×(Bool×(List Int)))×((Bool×(List Int))×(Bool×(List Int)))))) :=
 bif decide (s3<s2) then
  ((getI s1 s3)).bind fun x0 =>
  ((EY (x0.1,x0.2))).bind fun x1 =>
  ((appL 128 8 s0 (List.cons (((x1.1,x1.2.1),(x1.2.2.1,x1.2.2.2.1)),((x1.2.2.2.2.1,x1.2.2.2.2.2.1),(x1.2.2.2.2.2.2.1,x1.2.2.2.2.2.2.2))) (List.nil:List (((Bool×(List Int))×(Bool×(List Int)))×((Bool×(List Int))×(Bool×(List Int)))))))).bind fun x2 =>
  some (Sum.inl (x2,(s1,(s2,(Go.IntKind.wrap Go.IntKind.i64 (s3 + (1:Int)))))))
 else
 some (Sum.inr s0)
noncomputable def B8 (a0:(List (Int×Int))):Option (List ((((Bool×List (Int))×(Bool×List (Int)))×((Bool×List (Int))×(Bool×List (Int)))))×Bool) :=
 ((E6 a0)).bind fun x0 =>
 bif (!x0) then
  some ((List.nil:List (((Bool×(List Int))×(Bool×(List Int)))×((Bool×(List Int))×(Bool×(List Int))))),false)
 else
 (loopM (fun (s:((List (((Bool×(List Int))×(Bool×(List Int)))×((Bool×(List Int))×(Bool×(List Int)))))×((List (Int×Int))×(Int×Int))))=>AF s.1 s.2.1 s.2.2.1 s.2.2.2) ((List.nil:List (((Bool×(List Int))×(Bool×(List Int)))×((Bool×(List Int))×(Bool×(List Int))))),(a0,((((List.length a0):Nat):Int),(0:Int))))).bind fun x1 =>
 some (x1,true)
noncomputable def MA:Ent:=⟨Mh,fun x=>B8 x⟩
noncomputable def Tg:TX:=⟨tyTab,codTab,[],[4],[V7,Wf],Mh⟩
set_option maxHeartbeats 2000000 in
theorem Ab1 (a0:List ((Int×Int))):wtF Tg Tryz.f18 (a0)=B8 a0:=by kernel_rfl
theorem PF:EntOK RR MA:=Ab (X:=Tg) ⟨tyOK,boolOK,eqOK⟩ (Ad (by exact ⟨⟨Aa6,rfl⟩,⟨⟨Aa2,rfl⟩,trivial⟩⟩)) (Ae (by kernel_rfl)) ⟨Tryz.func18,rfl,by kernel_rfl,rfl⟩ (fun x=>by exact Ab1 x)
noncomputable def CH (s0:((List Int)×(Int×Int))) (s1:(Bool×(List Int))) (s2:(List Int)) (s3:Int):Option ((((List Int)×(Int×Int))×((Bool×(List Int))×((List Int)×Int))) ⊕ (((List Int)×(Int×Int))×((Bool×(List Int))×(List Int)))) :=
 bif decide (s3>(0:Int)) then
  ((Af (s0.1,(s0.2.1,s0.2.2)) (256:Int))).bind fun x0 =>
  ((Af (x0.1.1,(x0.1.2.1,x0.1.2.2)) (256:Int))).bind fun x1 =>
  ((A2 (x1.1.1,(x1.1.2.1,x1.1.2.2)) (List.cons (0:Int) (List.cons (1:Int) (List.cons (65535:Int) (List.cons (32768:Int) (List.cons (Go.IntKind.wrap Go.IntKind.i64 ((Go.IntKind.wrap Go.IntKind.i64 ((256:Int)*x0.2)) + x1.2)) (List.cons (7:Int) (List.nil:List Int))))))))).bind fun x2 =>
  ((appL 8 1 s2 (List.cons x2.2 (List.nil:List Int)))).bind fun x3 =>
  some (Sum.inl ((x2.1.1,(x2.1.2.1,x2.1.2.2)),((s1.1,s1.2),(x3,(Go.IntKind.wrap Go.IntKind.i64 (s3-(1:Int)))))))
 else
 some (Sum.inr ((s0.1,(s0.2.1,s0.2.2)),((s1.1,s1.2),s2)))
noncomputable def CR (a0:((List Int)×(Int×Int))):Option ((List (Int)×Int×Int)×(Bool×List (Int))) :=
 ((Af (a0.1,(a0.2.1,a0.2.2)) (6:Int))).bind fun x0 =>
 (((Au (x0.1.1,(x0.1.2.1,x0.1.2.2)) (12:Int))).bind fun x1 =>
  bif x1.2 then
   ((A2 (x1.1.1,(x1.1.2.1,x1.1.2.2)) (List.cons (20:Int) (List.cons (39:Int) (List.cons (40:Int) (List.cons (41:Int) (List.nil:List Int))))))).bind fun x2 =>
   some (Sum.inr ((x2.1.1,(x2.1.2.1,x2.1.2.2)),((false,(List.nil:List Int)),x2.2)))
  else
  some (Sum.inr ((x1.1.1,(x1.1.2.1,x1.1.2.2)),((false,(List.nil:List Int)),x0.2)))).bind fun x3 =>
 Sum.elim
  (fun x4 =>
  some x4)
  (fun x5 =>
  (loopM (fun (s:(((List Int)×(Int×Int))×((Bool×(List Int))×((List Int)×Int))))=>CH s.1 s.2.1 s.2.2.1 s.2.2.2) ((x5.1.1,(x5.1.2.1,x5.1.2.2)),((x5.2.1.1,x5.2.1.2),((List.nil:List Int),x5.2.2)))).bind fun x6 =>
  ((Au (x6.1.1,(x6.1.2.1,x6.1.2.2)) (3:Int))).bind fun x7 =>
  ((AH x7.2 x6.2.2)).bind fun x8 =>
  ((Au (x7.1.1,(x7.1.2.1,x7.1.2.2)) (40:Int))).bind fun x9 =>
  bif x9.2 then
   ((A2 (x9.1.1,(x9.1.2.1,x9.1.2.2)) (List.cons (0:Int) (List.cons (-(1:Int)) (List.cons (65536:Int) (List.nil:List Int)))))).bind fun x10 =>
   ((appL 8 1 x8.1 (List.cons x10.2 (List.nil:List Int)))).bind fun x11 =>
   some ((x10.1.1,(x10.1.2.1,x10.1.2.2)),(x8.2,x11))
  else
  some ((x9.1.1,(x9.1.2.1,x9.1.2.2)),(x8.2,x8.1)))
  x3
noncomputable def LM:Ent:=⟨HX,fun x=>CR x⟩
noncomputable def LV:TX:=⟨tyTab,codTab,[],[4],[AT,B6,FQ,CA],HX⟩
set_option maxHeartbeats 2000000 in
theorem UM (a0:(List (Int)×Int×Int)):wtF LV Tryz.f204 (a0)=CR a0:=by kernel_rfl
theorem S8:EntOK RR LM:=Ab (X:=LV) ⟨tyOK,boolOK,eqOK⟩ (Ad (by exact ⟨⟨AW,rfl⟩,⟨⟨Cd,rfl⟩,⟨⟨IB,rfl⟩,⟨⟨Cu,rfl⟩,trivial⟩⟩⟩⟩)) (Ae (by kernel_rfl)) ⟨Tryz.func204,rfl,by kernel_rfl,rfl⟩ (fun x=>by exact UM x)
noncomputable def DJ (s0:(Bool×(List Int))) (s1:(List Int)) (s2:Int) (s3:Int):Option (((Bool×(List Int))×((List Int)×(Int×Int))) ⊕ ((Bool×(List Int)) ⊕ Bool)) :=
 bif decide (s3<s2) then
  ((getI s1 s3)).bind fun x0 =>
  ((CI x0 (0:Int) (65535:Int))).bind fun x1 =>
  bif (!x1) then
   some (Sum.inr (Sum.inr false))
  else
  some (Sum.inl ((s0.1,s0.2),(s1,(s2,(Go.IntKind.wrap Go.IntKind.i64 (s3 + (1:Int)))))))
 else
 some (Sum.inr (Sum.inl (s0.1,s0.2)))
noncomputable def Cr (a0:(Bool×(List Int))):Option (Bool) :=
 (loopM (fun (s:((Bool×(List Int))×((List Int)×(Int×Int))))=>DJ s.1 s.2.1 s.2.2.1 s.2.2.2) ((a0.1,a0.2),(a0.2,((((List.length a0.2):Nat):Int),(0:Int))))).bind fun x0 =>
 Sum.elim
  (fun x1 =>
  bif ((((List.length x1.2):Nat):Int)==(0:Int)) then
   some (!x1.1)
  else
  bif decide ((((List.length x1.2):Nat):Int)≤(40:Int)) then
   ((getI x1.2 (Go.IntKind.wrap Go.IntKind.i64 ((((List.length x1.2):Nat):Int)-(1:Int))))).bind fun x2 =>
   some (x2 != (0:Int))
  else
  some false)
  (fun x3 =>
  some x3)
  x0
noncomputable def Ke:Ent:=⟨Kp,fun x=>Cr x⟩
noncomputable def PY:TX:=⟨tyTab,codTab,[],[4],[J8],Kp⟩
set_option maxHeartbeats 2000000 in
theorem X0 (a0:(Bool×List (Int))):wtF PY Tryz.f205 (a0)=Cr a0:=by kernel_rfl
theorem NF:EntOK RR Ke:=Ab (X:=PY) ⟨tyOK,boolOK,eqOK⟩ (Ad (by exact ⟨⟨Lk,rfl⟩,trivial⟩)) (Ae (by kernel_rfl)) ⟨Tryz.func205,rfl,by kernel_rfl,rfl⟩ (fun x=>by exact X0 x)
noncomputable def B3 (s0:(List Int)) (s1:(List Int)) (s2:Int):Option (((List Int)×((List Int)×Int)) ⊕ (Unit ⊕ Int)) :=
 bif decide (s2≥(0:Int)) then
  ((getI s0 s2)).bind fun x0 =>
  ((getI s1 s2)).bind fun x1 =>
  bif decide (x0<x1) then
   some (Sum.inr (Sum.inr (-(1:Int))))
  else
  ((getI s0 s2)).bind fun x2 =>
  ((getI s1 s2)).bind fun x3 =>
  bif decide (x2>x3) then
   some (Sum.inr (Sum.inr (1:Int)))
  else
  some (Sum.inl (s0,(s1,(Go.IntKind.wrap Go.IntKind.i64 (s2-(1:Int))))))
 else
 some (Sum.inr (Sum.inl ()))
noncomputable def Bo (a0:(List Int)) (a1:(List Int)):Option (Int) :=
 bif ((((List.length a0):Nat):Int) != (((List.length a1):Nat):Int)) then
  bif decide ((((List.length a0):Nat):Int)<(((List.length a1):Nat):Int)) then
   some (-(1:Int))
  else
  some (1:Int)
 else
 (loopM (fun (s:((List Int)×((List Int)×Int)))=>B3 s.1 s.2.1 s.2.2) (a0,(a1,(Go.IntKind.wrap Go.IntKind.i64 ((((List.length a0):Nat):Int)-(1:Int)))))).bind fun x0 =>
 Sum.elim
  (fun x1 =>
  some (0:Int))
  (fun x2 =>
  some x2)
  x0
noncomputable def Id:Ent:=⟨OL,fun x=>Bo x.1 x.2⟩
noncomputable def VY:TX:=⟨tyTab,codTab,[],[4],[],OL⟩
set_option maxHeartbeats 2000000 in
theorem Ap7 (a0:List (Int)) (a1:List (Int)):wtF VY Tryz.f206 (a0,a1)=Bo a0 a1:=by kernel_rfl
theorem IG:EntOK RR Id:=Ab (X:=VY) ⟨tyOK,boolOK,eqOK⟩ (Ad (by exact trivial)) (Ae (by kernel_rfl)) ⟨Tryz.func206,rfl,by kernel_rfl,rfl⟩ (fun x=>by exact Ap7 x.1 x.2)
noncomputable def DG (s0:(List Int)) (s1:(List Int)) (s2:Int) (s3:Int) (s4:Int):Option (((List Int)×((List Int)×(Int×(Int×Int)))) ⊕ ((List Int)×Int)) :=
 bif decide (s4≥(0:Int)) then
  ((getI s1 s4)).bind fun x0 =>
  bif (s2==(0:Int)) then
   none
  else
  ((idxI s4 (List.length s0))).bind fun x1 =>
  ((getN s0 x1)).bind fun x2 =>
  bif (s2==(0:Int)) then
   none
  else
  some (Sum.inl ((List.set s0 x1 (Go.IntKind.wrap Go.IntKind.i64 (Int.tdiv (Go.IntKind.wrap Go.IntKind.i64 ((Go.IntKind.wrap Go.IntKind.i64 (s3*(65536:Int))) + x0)) s2))),(s1,(s2,((Int.tmod (Go.IntKind.wrap Go.IntKind.i64 ((Go.IntKind.wrap Go.IntKind.i64 (s3*(65536:Int))) + x0)) s2),(Go.IntKind.wrap Go.IntKind.i64 (s4-(1:Int))))))))
 else
 some (Sum.inr (s0,s3))
noncomputable def FC (a0:(List Int)) (a1:Int):Option (List (Int)×List (Int)) :=
 ((lenI (((List.length a0):Nat):Int) 8 1)).bind fun x0 =>
 (loopM (fun (s:((List Int)×((List Int)×(Int×(Int×Int)))))=>DG s.1 s.2.1 s.2.2.1 s.2.2.2.1 s.2.2.2.2) ((List.replicate x0 (0:Int)),(a0,(a1,((0:Int),(Go.IntKind.wrap Go.IntKind.i64 ((((List.length a0):Nat):Int)-(1:Int)))))))).bind fun x1 =>
 ((Br x1.1)).bind fun x2 =>
 ((Br (List.cons x1.2 (List.nil:List Int)))).bind fun x3 =>
 some (x2,x3)
noncomputable def Qb:Ent:=⟨Ku,fun x=>FC x.1 x.2⟩
noncomputable def PM:TX:=⟨tyTab,codTab,[],[4],[Ea],Ku⟩
set_option maxHeartbeats 2000000 in
theorem Zi (a0:List (Int)) (a1:Int):wtF PM Tryz.f266 (a0,a1)=FC a0 a1:=by kernel_rfl
theorem XN:EntOK RR Qb:=Ab (X:=PM) ⟨tyOK,boolOK,eqOK⟩ (Ad (by exact ⟨⟨DZ,rfl⟩,trivial⟩)) (Ae (by kernel_rfl)) ⟨Tryz.func266,rfl,by kernel_rfl,rfl⟩ (fun x=>by exact Zi x.1 x.2)
noncomputable def IY (s0:(List Int)) (s1:Int) (s2:(List Int)) (s3:Int) (s4:Int):Option (((List Int)×(Int×((List Int)×(Int×Int)))) ⊕ (List Int)) :=
 bif decide (s4<s3) then
  ((getI s2 s4)).bind fun x0 =>
  bif decide ((Go.IntKind.wrap Go.IntKind.u64 s1)<(0:Int)) then
   none
  else
  ((idxI s4 (List.length s0))).bind fun x1 =>
  ((getN s0 x1)).bind fun x2 =>
  ((idxI s4 (List.length s0))).bind fun x3 =>
  ((getN s0 x3)).bind fun x4 =>
  ((idxI (Go.IntKind.wrap Go.IntKind.i64 (s4 + (1:Int))) (List.length (List.set s0 x3 (orI Go.IntKind.i64 x2 (Int.tmod (shlI Go.IntKind.i64 x0 (Go.IntKind.wrap Go.IntKind.u64 s1)) (65536:Int))))))).bind fun x5 =>
  ((getN (List.set s0 x3 (orI Go.IntKind.i64 x2 (Int.tmod (shlI Go.IntKind.i64 x0 (Go.IntKind.wrap Go.IntKind.u64 s1)) (65536:Int)))) x5)).bind fun x6 =>
  some (Sum.inl ((List.set (List.set s0 x3 (orI Go.IntKind.i64 x2 (Int.tmod (shlI Go.IntKind.i64 x0 (Go.IntKind.wrap Go.IntKind.u64 s1)) (65536:Int)))) x5 (Go.IntKind.wrap Go.IntKind.i64 (Int.tdiv (shlI Go.IntKind.i64 x0 (Go.IntKind.wrap Go.IntKind.u64 s1)) (65536:Int)))),(s1,(s2,(s3,(Go.IntKind.wrap Go.IntKind.i64 (s4 + (1:Int))))))))
 else
 some (Sum.inr s0)
noncomputable def Ih (a0:(List Int)) (a1:Int):Option (List (Int)) :=
 ((lenI (Go.IntKind.wrap Go.IntKind.i64 ((((List.length a0):Nat):Int) + (1:Int))) 8 1)).bind fun x0 =>
 (loopM (fun (s:((List Int)×(Int×((List Int)×(Int×Int)))))=>IY s.1 s.2.1 s.2.2.1 s.2.2.2.1 s.2.2.2.2) ((List.replicate x0 (0:Int)),(a1,(a0,((((List.length a0):Nat):Int),(0:Int)))))).bind fun x1 =>
 some x1
noncomputable def Zn:Ent:=⟨R5,fun x=>Ih x.1 x.2⟩
noncomputable def Zr:TX:=⟨tyTab,codTab,[],[4],[],R5⟩
set_option maxHeartbeats 2000000 in
theorem AC1 (a0:List (Int)) (a1:Int):wtF Zr Tryz.f267 (a0,a1)=Ih a0 a1:=by kernel_rfl
theorem At8:EntOK RR Zn:=Ab (X:=Zr) ⟨tyOK,boolOK,eqOK⟩ (Ad (by exact trivial)) (Ae (by kernel_rfl)) ⟨Tryz.func267,rfl,by kernel_rfl,rfl⟩ (fun x=>by exact AC1 x.1 x.2)
noncomputable def CK (s0:(List Int)) (s1:(List Int)) (s2:Int) (s3:Int) (s4:Int) (s5:Int):Option (((List Int)×((List Int)×(Int×(Int×(Int×Int))))) ⊕ Int) :=
 (bif decide (s5<(65536:Int)) then
   bif decide (s4≥(65536:Int)) then
    some (Sum.inr (s0,(s1,(s2,(s3,(s4,s5))))))
   else
   ((getI s1 (Go.IntKind.wrap Go.IntKind.i64 (s3-(2:Int))))).bind fun x0 =>
   ((getI s0 (Go.IntKind.wrap Go.IntKind.i64 ((Go.IntKind.wrap Go.IntKind.i64 (s2 + s3))-(2:Int))))).bind fun x1 =>
   bif decide ((Go.IntKind.wrap Go.IntKind.i64 (s4*x0))>(Go.IntKind.wrap Go.IntKind.i64 ((Go.IntKind.wrap Go.IntKind.i64 (s5*(65536:Int))) + x1))) then
    some (Sum.inr (s0,(s1,(s2,(s3,(s4,s5))))))
   else
   some (Sum.inl (Sum.inr s4))
  else
  some (Sum.inl (Sum.inr s4))).bind fun x2 =>
 Sum.elim
  (fun x3 =>
  some x3)
  (fun x4 =>
  ((getI x4.2.1 (Go.IntKind.wrap Go.IntKind.i64 (x4.2.2.2.1-(1:Int))))).bind fun x5 =>
  some (Sum.inl (x4.1,(x4.2.1,(x4.2.2.1,(x4.2.2.2.1,((Go.IntKind.wrap Go.IntKind.i64 (x4.2.2.2.2.1-(1:Int))),(Go.IntKind.wrap Go.IntKind.i64 (x4.2.2.2.2.2 + x5)))))))))
  x2
noncomputable def FA (a0:(List Int)) (a1:(List Int)) (a2:Int):Option (Int) :=
 ((getI a0 (Go.IntKind.wrap Go.IntKind.i64 (a2 + (((List.length a1):Nat):Int))))).bind fun x0 =>
 ((getI a0 (Go.IntKind.wrap Go.IntKind.i64 ((Go.IntKind.wrap Go.IntKind.i64 (a2 + (((List.length a1):Nat):Int)))-(1:Int))))).bind fun x1 =>
 ((getI a1 (Go.IntKind.wrap Go.IntKind.i64 ((((List.length a1):Nat):Int)-(1:Int))))).bind fun x2 =>
 bif (x2==(0:Int)) then
  none
 else
 ((getI a1 (Go.IntKind.wrap Go.IntKind.i64 ((((List.length a1):Nat):Int)-(1:Int))))).bind fun x3 =>
 bif (x3==(0:Int)) then
  none
 else
 (loopM (fun (s:((List Int)×((List Int)×(Int×(Int×(Int×Int))))))=>CK s.1 s.2.1 s.2.2.1 s.2.2.2.1 s.2.2.2.2.1 s.2.2.2.2.2) (a0,(a1,(a2,((((List.length a1):Nat):Int),((Go.IntKind.wrap Go.IntKind.i64 (Int.tdiv (Go.IntKind.wrap Go.IntKind.i64 ((Go.IntKind.wrap Go.IntKind.i64 (x0*(65536:Int))) + x1)) x2)),(Int.tmod (Go.IntKind.wrap Go.IntKind.i64 ((Go.IntKind.wrap Go.IntKind.i64 (x0*(65536:Int))) + x1)) x3))))))).bind fun x4 =>
 some x4
noncomputable def Qn:Ent:=⟨KT,fun x=>FA x.1 x.2.1 x.2.2⟩
noncomputable def Qm:TX:=⟨tyTab,codTab,[],[4],[],KT⟩
set_option maxHeartbeats 2000000 in
theorem Zv (a0:List (Int)) (a1:List (Int)) (a2:Int):wtF Qm Tryz.f268 (a0,a1,a2)=FA a0 a1 a2:=by kernel_rfl
theorem Xm:EntOK RR Qn:=Ab (X:=Qm) ⟨tyOK,boolOK,eqOK⟩ (Ad (by exact trivial)) (Ae (by kernel_rfl)) ⟨Tryz.func268,rfl,by kernel_rfl,rfl⟩ (fun x=>by exact Zv x.1 x.2.1 x.2.2)
noncomputable def BR (a0:(List Int)) (a1:Int):Option (Int) :=
 bif decide (a1<(((List.length a0):Nat):Int)) then
  ((getI a0 a1)).bind fun x0 =>
  some x0
 else
 some (0:Int)
noncomputable def D1:Ent:=⟨Mg,fun x=>BR x.1 x.2⟩
noncomputable def Sc:TX:=⟨tyTab,codTab,[],[4],[],Mg⟩
set_option maxHeartbeats 2000000 in
theorem Aa0 (a0:List (Int)) (a1:Int):wtF Sc Tryz.f259 (a0,a1)=BR a0 a1:=by kernel_rfl
theorem D2:EntOK RR D1:=Ab (X:=Sc) ⟨tyOK,boolOK,eqOK⟩ (Ad (by exact trivial)) (Ae (by kernel_rfl)) ⟨Tryz.func259,rfl,by kernel_rfl,rfl⟩ (fun x=>by exact Aa0 x.1 x.2)
noncomputable def F9 (s0:(List Int)) (s1:(List Int)) (s2:Int) (s3:Int) (s4:Int) (s5:Int):Option (((List Int)×((List Int)×(Int×(Int×(Int×Int))))) ⊕ ((List Int)×Int)) :=
 bif decide (s5≤(((List.length s1):Nat):Int)) then
  ((idxI (Go.IntKind.wrap Go.IntKind.i64 (s2 + s5)) (List.length s0))).bind fun x0 =>
  ((getN s0 x0)).bind fun x1 =>
  ((BR s1 s5)).bind fun x2 =>
  (bif decide ((Go.IntKind.wrap Go.IntKind.i64 ((Go.IntKind.wrap Go.IntKind.i64 (x1-(Go.IntKind.wrap Go.IntKind.i64 (s3*x2))))-s4))<(0:Int)) then
    some (Sum.inr (s0,(s1,(s2,(s3,((Go.IntKind.wrap Go.IntKind.i64 (Int.tdiv (Go.IntKind.wrap Go.IntKind.i64 ((Go.IntKind.wrap Go.IntKind.i64 ((Go.IntKind.wrap Go.IntKind.i64 ((0:Int)-(Go.IntKind.wrap Go.IntKind.i64 ((Go.IntKind.wrap Go.IntKind.i64 (x1-(Go.IntKind.wrap Go.IntKind.i64 (s3*x2))))-s4)))) + (65536:Int)))-(1:Int))) (65536:Int))),(s5,(Go.IntKind.wrap Go.IntKind.i64 ((Go.IntKind.wrap Go.IntKind.i64 ((Go.IntKind.wrap Go.IntKind.i64 (x1-(Go.IntKind.wrap Go.IntKind.i64 (s3*x2))))-s4)) + (Go.IntKind.wrap Go.IntKind.i64 ((Go.IntKind.wrap Go.IntKind.i64 (Int.tdiv (Go.IntKind.wrap Go.IntKind.i64 ((Go.IntKind.wrap Go.IntKind.i64 ((Go.IntKind.wrap Go.IntKind.i64 ((0:Int)-(Go.IntKind.wrap Go.IntKind.i64 ((Go.IntKind.wrap Go.IntKind.i64 (x1-(Go.IntKind.wrap Go.IntKind.i64 (s3*x2))))-s4)))) + (65536:Int)))-(1:Int))) (65536:Int)))*(65536:Int))))))))))))
   else
   some (Sum.inr (s0,(s1,(s2,(s3,((0:Int),(s5,(Go.IntKind.wrap Go.IntKind.i64 ((Go.IntKind.wrap Go.IntKind.i64 (x1-(Go.IntKind.wrap Go.IntKind.i64 (s3*x2))))-s4)))))))))).bind fun x3 =>
  Sum.elim
   (fun x4 =>
   some x4)
   (fun x5 =>
   ((idxI (Go.IntKind.wrap Go.IntKind.i64 (x5.2.2.1 + x5.2.2.2.2.2.1)) (List.length x5.1))).bind fun x6 =>
   ((getN x5.1 x6)).bind fun x7 =>
   some (Sum.inl ((List.set x5.1 x6 x5.2.2.2.2.2.2),(x5.2.1,(x5.2.2.1,(x5.2.2.2.1,(x5.2.2.2.2.1,(Go.IntKind.wrap Go.IntKind.i64 (x5.2.2.2.2.2.1 + (1:Int))))))))))
   x3
 else
 some (Sum.inr (s0,s4))
noncomputable def GO (a0:(List Int)) (a1:(List Int)) (a2:Int) (a3:Int):Option (List (Int)×Int) :=
 (loopM (fun (s:((List Int)×((List Int)×(Int×(Int×(Int×Int))))))=>F9 s.1 s.2.1 s.2.2.1 s.2.2.2.1 s.2.2.2.2.1 s.2.2.2.2.2) (a0,(a1,(a2,(a3,((0:Int),(0:Int))))))).bind fun x0 =>
 some (x0.1,x0.2)
noncomputable def TS:Ent:=⟨MH,fun x=>GO x.1 x.2.1 x.2.2.1 x.2.2.2⟩
noncomputable def T3:TX:=⟨tyTab,codTab,[],[4],[D1],MH⟩
set_option maxHeartbeats 2000000 in
theorem Aa1 (a0:List (Int)) (a1:List (Int)) (a2:Int) (a3:Int):wtF T3 Tryz.f269 (a0,a1,a2,a3)=GO a0 a1 a2 a3:=by kernel_rfl
theorem Zz:EntOK RR TS:=Ab (X:=T3) ⟨tyOK,boolOK,eqOK⟩ (Ad (by exact ⟨⟨D2,rfl⟩,trivial⟩)) (Ae (by kernel_rfl)) ⟨Tryz.func269,rfl,by kernel_rfl,rfl⟩ (fun x=>by exact Aa1 x.1 x.2.1 x.2.2.1 x.2.2.2)
noncomputable def F6 (s0:(List Int)) (s1:(List Int)) (s2:Int) (s3:Int) (s4:Int):Option (((List Int)×((List Int)×(Int×(Int×Int)))) ⊕ (List Int)) :=
 bif decide (s4≤(((List.length s1):Nat):Int)) then
  ((idxI (Go.IntKind.wrap Go.IntKind.i64 (s2 + s4)) (List.length s0))).bind fun x0 =>
  ((getN s0 x0)).bind fun x1 =>
  ((BR s1 s4)).bind fun x2 =>
  ((idxI (Go.IntKind.wrap Go.IntKind.i64 (s2 + s4)) (List.length s0))).bind fun x3 =>
  ((getN s0 x3)).bind fun x4 =>
  some (Sum.inl ((List.set s0 x3 (Int.tmod (Go.IntKind.wrap Go.IntKind.i64 ((Go.IntKind.wrap Go.IntKind.i64 (x1 + x2)) + s3)) (65536:Int))),(s1,(s2,((Go.IntKind.wrap Go.IntKind.i64 (Int.tdiv (Go.IntKind.wrap Go.IntKind.i64 ((Go.IntKind.wrap Go.IntKind.i64 (x1 + x2)) + s3)) (65536:Int))),(Go.IntKind.wrap Go.IntKind.i64 (s4 + (1:Int))))))))
 else
 some (Sum.inr s0)
noncomputable def GD (a0:(List Int)) (a1:(List Int)) (a2:Int):Option (List (Int)) :=
 (loopM (fun (s:((List Int)×((List Int)×(Int×(Int×Int)))))=>F6 s.1 s.2.1 s.2.2.1 s.2.2.2.1 s.2.2.2.2) (a0,(a1,(a2,((0:Int),(0:Int)))))).bind fun x0 =>
 some x0
noncomputable def RU:Ent:=⟨Mw,fun x=>GD x.1 x.2.1 x.2.2⟩
noncomputable def Tr:TX:=⟨tyTab,codTab,[],[4],[D1],Mw⟩
set_option maxHeartbeats 2000000 in
theorem Ai1 (a0:List (Int)) (a1:List (Int)) (a2:Int):wtF Tr Tryz.f270 (a0,a1,a2)=GD a0 a1 a2:=by kernel_rfl
theorem Zw:EntOK RR RU:=Ab (X:=Tr) ⟨tyOK,boolOK,eqOK⟩ (Ad (by exact ⟨⟨D2,rfl⟩,trivial⟩)) (Ae (by kernel_rfl)) ⟨Tryz.func270,rfl,by kernel_rfl,rfl⟩ (fun x=>by exact Ai1 x.1 x.2.1 x.2.2)
noncomputable def Gc (s0:(List Int)) (s1:(List Int)) (s2:Int) (s3:Int) (s4:Int):Option (((List Int)×((List Int)×(Int×(Int×Int)))) ⊕ (List Int)) :=
 bif decide (s4<s3) then
  ((getI s1 s4)).bind fun x0 =>
  ((BR s1 (Go.IntKind.wrap Go.IntKind.i64 (s4 + (1:Int))))).bind fun x1 =>
  bif decide ((Go.IntKind.wrap Go.IntKind.u64 s2)<(0:Int)) then
   none
  else
  ((idxI s4 (List.length s0))).bind fun x2 =>
  ((getN s0 x2)).bind fun x3 =>
  some (Sum.inl ((List.set s0 x2 (Int.tmod (shrI Go.IntKind.i64 (orI Go.IntKind.i64 x0 (shlI Go.IntKind.i64 x1 (16:Int))) (Go.IntKind.wrap Go.IntKind.u64 s2)) (65536:Int))),(s1,(s2,(s3,(Go.IntKind.wrap Go.IntKind.i64 (s4 + (1:Int))))))))
 else
 some (Sum.inr s0)
noncomputable def G9 (a0:(List Int)) (a1:Int):Option (List (Int)) :=
 ((lenI (((List.length a0):Nat):Int) 8 1)).bind fun x0 =>
 (loopM (fun (s:((List Int)×((List Int)×(Int×(Int×Int)))))=>Gc s.1 s.2.1 s.2.2.1 s.2.2.2.1 s.2.2.2.2) ((List.replicate x0 (0:Int)),(a0,(a1,((((List.length a0):Nat):Int),(0:Int)))))).bind fun x1 =>
 ((Br x1)).bind fun x2 =>
 some x2
noncomputable def SA:Ent:=⟨L7,fun x=>G9 x.1 x.2⟩
noncomputable def Ts:TX:=⟨tyTab,codTab,[],[4],[D1,Ea],L7⟩
set_option maxHeartbeats 2000000 in
theorem Ac3 (a0:List (Int)) (a1:Int):wtF Ts Tryz.f271 (a0,a1)=G9 a0 a1:=by kernel_rfl
theorem Za:EntOK RR SA:=Ab (X:=Ts) ⟨tyOK,boolOK,eqOK⟩ (Ad (by exact ⟨⟨D2,rfl⟩,⟨⟨DZ,rfl⟩,trivial⟩⟩)) (Ae (by kernel_rfl)) ⟨Tryz.func271,rfl,by kernel_rfl,rfl⟩ (fun x=>by exact Ac3 x.1 x.2)
noncomputable def Ch (s0:(List Int)) (s1:(List Int)) (s2:Int):Option (((List Int)×((List Int)×Int)) ⊕ ((List Int)×((List Int)×Int))) :=
 ((getI s1 (Go.IntKind.wrap Go.IntKind.i64 ((((List.length s1):Nat):Int)-(1:Int))))).bind fun x0 =>
 bif decide ((Go.IntKind.wrap Go.IntKind.u64 s2)<(0:Int)) then
  none
 else
 bif decide ((shlI Go.IntKind.i64 x0 (Go.IntKind.wrap Go.IntKind.u64 s2))<(32768:Int)) then
  some (Sum.inl (s0,(s1,(Go.IntKind.wrap Go.IntKind.i64 (s2 + (1:Int))))))
 else
 some (Sum.inr (s0,(s1,s2)))
noncomputable def Bs (s0:(List Int)) (s1:(List Int)) (s2:(List Int)) (s3:Int) (s4:Int):Option (((List Int)×((List Int)×((List Int)×(Int×Int)))) ⊕ ((List Int)×((List Int)×Int))) :=
 bif decide (s4≥(0:Int)) then
  ((FA s0 s1 s4)).bind fun x0 =>
  ((GO s0 s1 s4 x0)).bind fun x1 =>
  bif decide ((List.length x1.1)=(List.length s0)) then
   bif decide (x1.2>(0:Int)) then
    ((GD x1.1 s1 s4)).bind fun x2 =>
    bif decide ((List.length x2)=(List.length x1.1)) then
     ((idxI s4 (List.length s2))).bind fun x3 =>
     ((getN s2 x3)).bind fun x4 =>
     some (Sum.inl (x2,(s1,((List.set s2 x3 (Go.IntKind.wrap Go.IntKind.i64 (x0-(1:Int)))),(s3,(Go.IntKind.wrap Go.IntKind.i64 (s4-(1:Int))))))))
    else
    none
   else
   ((idxI s4 (List.length s2))).bind fun x5 =>
   ((getN s2 x5)).bind fun x6 =>
   some (Sum.inl (x1.1,(s1,((List.set s2 x5 x0),(s3,(Go.IntKind.wrap Go.IntKind.i64 (s4-(1:Int))))))))
  else
  none
 else
 some (Sum.inr (s0,(s2,s3)))
noncomputable def Cf (a0:(List Int)) (a1:(List Int)):Option (List (Int)×List (Int)) :=
 ((Br a0)).bind fun x0 =>
 ((Bo x0 a1)).bind fun x1 =>
 bif decide (x1<(0:Int)) then
  some ((List.nil:List Int),x0)
 else
 bif ((((List.length a1):Nat):Int)==(1:Int)) then
  ((getI a1 (0:Int))).bind fun x2 =>
  ((FC x0 x2)).bind fun x3 =>
  some (x3.1,x3.2)
 else
 (loopM (fun (s:((List Int)×((List Int)×Int)))=>Ch s.1 s.2.1 s.2.2) (x0,(a1,(0:Int)))).bind fun x4 =>
 ((Ih x4.1 x4.2.2)).bind fun x5 =>
 ((Ih x4.2.1 x4.2.2)).bind fun x6 =>
 ((Br x6)).bind fun x7 =>
 ((lenI (Go.IntKind.wrap Go.IntKind.i64 ((Go.IntKind.wrap Go.IntKind.i64 ((((List.length x4.1):Nat):Int)-(((List.length x4.2.1):Nat):Int))) + (1:Int))) 8 1)).bind fun x8 =>
 (loopM (fun (s:((List Int)×((List Int)×((List Int)×(Int×Int)))))=>Bs s.1 s.2.1 s.2.2.1 s.2.2.2.1 s.2.2.2.2) (x5,(x7,((List.replicate x8 (0:Int)),(x4.2.2,(Go.IntKind.wrap Go.IntKind.i64 ((((List.length x4.1):Nat):Int)-(((List.length x4.2.1):Nat):Int)))))))).bind fun x9 =>
 ((Br x9.2.1)).bind fun x10 =>
 ((Br x9.1)).bind fun x11 =>
 ((G9 x11 x9.2.2)).bind fun x12 =>
 some (x10,x12)
noncomputable def Hs:Ent:=⟨Hf,fun x=>Cf x.1 x.2⟩
noncomputable def Kl:TX:=⟨tyTab,codTab,[],[4],[Ea,Id,Qb,Zn,Qn,TS,RU,SA],Hf⟩
set_option maxHeartbeats 2000000 in
theorem TC (a0:List (Int)) (a1:List (Int)):wtF Kl Tryz.f252 (a0,a1)=Cf a0 a1:=by kernel_rfl
theorem Jr:EntOK RR Hs:=Ab (X:=Kl) ⟨tyOK,boolOK,eqOK⟩ (Ad (by exact ⟨⟨DZ,rfl⟩,⟨⟨IG,rfl⟩,⟨⟨XN,rfl⟩,⟨⟨At8,rfl⟩,⟨⟨Xm,rfl⟩,⟨⟨Zz,rfl⟩,⟨⟨Zw,rfl⟩,⟨⟨Za,rfl⟩,trivial⟩⟩⟩⟩⟩⟩⟩⟩)) (Ae (by kernel_rfl)) ⟨Tryz.func252,rfl,by kernel_rfl,rfl⟩ (fun x=>by exact TC x.1 x.2)
noncomputable def Hz (s0:(List Int)) (s1:(List Int)):Option (((List Int)×(List Int)) ⊕ (List Int)) :=
 bif decide ((((List.length s1):Nat):Int)>(0:Int)) then
  ((Cf s0 s1)).bind fun x0 =>
  some (Sum.inl (s1,x0.2))
 else
 some (Sum.inr s0)
noncomputable def Gx (a0:(List Int)) (a1:(List Int)):Option (List (Int)) :=
 (loopM (fun (s:((List Int)×(List Int)))=>Hz s.1 s.2) (a0,a1)).bind fun x0 =>
 ((Br x0)).bind fun x1 =>
 some x1
noncomputable def Pd:Ent:=⟨Ol,fun x=>Gx x.1 x.2⟩
noncomputable def Vv:TX:=⟨tyTab,codTab,[],[4],[Hs,Ea],Ol⟩
set_option maxHeartbeats 2000000 in
theorem At7 (a0:List (Int)) (a1:List (Int)):wtF Vv Tryz.f207 (a0,a1)=Gx a0 a1:=by kernel_rfl
theorem Sb:EntOK RR Pd:=Ab (X:=Vv) ⟨tyOK,boolOK,eqOK⟩ (Ad (by exact ⟨⟨Jr,rfl⟩,⟨⟨DZ,rfl⟩,trivial⟩⟩)) (Ae (by kernel_rfl)) ⟨Tryz.func207,rfl,by kernel_rfl,rfl⟩ (fun x=>by exact At7 x.1 x.2)
noncomputable def Gm (a0:(Bool×(List Int))) (a1:(Bool×(List Int))):Option ((Bool×List (Int))×(Bool×List (Int))) :=
 ((Cf a0.2 a1.2)).bind fun x0 =>
 ((AH (!(a0.1==a1.1)) x0.1)).bind fun x1 =>
 ((AH a0.1 x0.2)).bind fun x2 =>
 some ((x1.2,x1.1),(x2.2,x2.1))
noncomputable def Vw:Ent:=⟨OQ,fun x=>Gm x.1 x.2⟩
noncomputable def Vg:TX:=⟨tyTab,codTab,[],[4],[Hs,CA],OQ⟩
set_option maxHeartbeats 2000000 in
theorem Av4 (a0:(Bool×List (Int))) (a1:(Bool×List (Int))):wtF Vg Tryz.f218 (a0,a1)=Gm a0 a1:=by kernel_rfl
theorem Ac2:EntOK RR Vw:=Ab (X:=Vg) ⟨tyOK,boolOK,eqOK⟩ (Ad (by exact ⟨⟨Jr,rfl⟩,⟨⟨Cu,rfl⟩,trivial⟩⟩)) (Ae (by kernel_rfl)) ⟨Tryz.func218,rfl,by kernel_rfl,rfl⟩ (fun x=>by exact Av4 x.1 x.2)
noncomputable def E7 (a0:(Bool×(List Int))):Option ((Bool×List (Int))) :=
 ((AH (!a0.1) a0.2)).bind fun x0 =>
 some (x0.2,x0.1)
noncomputable def Pu:Ent:=⟨O2,fun x=>E7 x⟩
noncomputable def Vc:TX:=⟨tyTab,codTab,[],[4],[CA],O2⟩
set_option maxHeartbeats 2000000 in
theorem Ay1 (a0:(Bool×List (Int))):wtF Vc Tryz.f219 (a0)=E7 a0:=by kernel_rfl
theorem Tz:EntOK RR Pu:=Ab (X:=Vc) ⟨tyOK,boolOK,eqOK⟩ (Ad (by exact ⟨⟨Cu,rfl⟩,trivial⟩)) (Ae (by kernel_rfl)) ⟨Tryz.func219,rfl,by kernel_rfl,rfl⟩ (fun x=>by exact Ay1 x)
noncomputable def CC (a0:(Bool×(List Int))) (a1:(Bool×(List Int))):Option ((Bool×List (Int)×Bool×List (Int))) :=
 ((Gx a0.2 a1.2)).bind fun x0 =>
 ((AH false x0)).bind fun x1 =>
 ((Gm (a0.1,a0.2) (x1.2,x1.1))).bind fun x2 =>
 ((Gm (a1.1,a1.2) (x1.2,x1.1))).bind fun x3 =>
 bif x3.1.1 then
  ((E7 (x2.1.1,x2.1.2))).bind fun x4 =>
  ((E7 (x3.1.1,x3.1.2))).bind fun x5 =>
  some (x4.1,(x4.2,(x5.1,x5.2)))
 else
 some (x2.1.1,(x2.1.2,(x3.1.1,x3.1.2)))
noncomputable def EZ:Ent:=⟨MI,fun x=>CC x.1 x.2⟩
noncomputable def Sj:TX:=⟨tyTab,codTab,[],[4],[Pd,CA,Vw,Pu],MI⟩
set_option maxHeartbeats 2000000 in
theorem Aa3 (a0:(Bool×List (Int))) (a1:(Bool×List (Int))):wtF Sj Tryz.f164 (a0,a1)=CC a0 a1:=by kernel_rfl
theorem FE:EntOK RR EZ:=Ab (X:=Sj) ⟨tyOK,boolOK,eqOK⟩ (Ad (by exact ⟨⟨Sb,rfl⟩,⟨⟨Cu,rfl⟩,⟨⟨Ac2,rfl⟩,⟨⟨Tz,rfl⟩,trivial⟩⟩⟩⟩)) (Ae (by kernel_rfl)) ⟨Tryz.func164,rfl,by kernel_rfl,rfl⟩ (fun x=>by exact Aa3 x.1 x.2)
noncomputable def D7 (a0:Int) (a1:Int):Option ((Bool×List (Int)×Bool×List (Int))×Bool) :=
 ((CI a0 (-(4611686018427387904:Int)) (4611686018427387904:Int))).bind fun x0 =>
 bif (!x0) then
  some ((false,((List.nil:List Int),(false,(List.nil:List Int)))),false)
 else
 ((CI a1 (-(4611686018427387904:Int)) (4611686018427387904:Int))).bind fun x1 =>
 bif (!x1) then
  some ((false,((List.nil:List Int),(false,(List.nil:List Int)))),false)
 else
 bif (a1==(0:Int)) then
  some ((false,((List.nil:List Int),(false,(List.nil:List Int)))),false)
 else
 ((Dv a0)).bind fun x2 =>
 ((Dv a1)).bind fun x3 =>
 ((CC (x2.1,x2.2) (x3.1,x3.2))).bind fun x4 =>
 some ((x4.1,(x4.2.1,(x4.2.2.1,x4.2.2.2))),true)
noncomputable def K4:Ent:=⟨Pv,fun x=>D7 x.1 x.2⟩
noncomputable def VC:TX:=⟨tyTab,codTab,[],[4],[J8,O4,EZ],Pv⟩
set_option maxHeartbeats 2000000 in
theorem Ar9 (a0:Int) (a1:Int):wtF VC Tryz.f163 (a0,a1)=D7 a0 a1:=by kernel_rfl
theorem L9:EntOK RR K4:=Ab (X:=VC) ⟨tyOK,boolOK,eqOK⟩ (Ad (by exact ⟨⟨Lk,rfl⟩,⟨⟨SW,rfl⟩,⟨⟨FE,rfl⟩,trivial⟩⟩⟩)) (Ae (by kernel_rfl)) ⟨Tryz.func163,rfl,by kernel_rfl,rfl⟩ (fun x=>by exact Ar9 x.1 x.2)
noncomputable def CO (a0:((List Int)×(Int×Int))):Option ((List (Int)×Int×Int)×(Bool×List (Int)×Bool×List (Int))) :=
 ((Au (a0.1,(a0.2.1,a0.2.2)) (12:Int))).bind fun x0 =>
 bif x0.2 then
  ((CR (x0.1.1,(x0.1.2.1,x0.1.2.2)))).bind fun x1 =>
  ((CR (x1.1.1,(x1.1.2.1,x1.1.2.2)))).bind fun x2 =>
  ((Cr (x1.2.1,x1.2.2))).bind fun x3 =>
  bif x3 then
   ((Cr (x2.2.1,x2.2.2))).bind fun x4 =>
   bif x4 then
    bif decide ((((List.length x2.2.2):Nat):Int)>(0:Int)) then
     ((CC (x1.2.1,x1.2.2) (x2.2.1,x2.2.2))).bind fun x5 =>
     some ((x2.1.1,(x2.1.2.1,x2.1.2.2)),(x5.1,(x5.2.1,(x5.2.2.1,x5.2.2.2))))
    else
    some ((x2.1.1,(x2.1.2.1,x2.1.2.2)),(x1.2.1,(x1.2.2,(x2.2.1,x2.2.2))))
   else
   some ((x2.1.1,(x2.1.2.1,x2.1.2.2)),(x1.2.1,(x1.2.2,(x2.2.1,x2.2.2))))
  else
  some ((x2.1.1,(x2.1.2.1,x2.1.2.2)),(x1.2.1,(x1.2.2,(x2.2.1,x2.2.2))))
 else
 ((Af (x0.1.1,(x0.1.2.1,x0.1.2.2)) (41:Int))).bind fun x6 =>
 ((Af (x6.1.1,(x6.1.2.1,x6.1.2.2)) (12:Int))).bind fun x7 =>
 ((D7 (Go.IntKind.wrap Go.IntKind.i64 (x6.2-(20:Int))) (Go.IntKind.wrap Go.IntKind.i64 ((1:Int) + x7.2)))).bind fun x8 =>
 some ((x7.1.1,(x7.1.2.1,x7.1.2.2)),(x8.1.1,(x8.1.2.1,(x8.1.2.2.1,x8.1.2.2.2))))
noncomputable def LI:Ent:=⟨HN,fun x=>CO x⟩
noncomputable def LO:TX:=⟨tyTab,codTab,[],[4],[B6,LM,Ke,EZ,AT,K4],HN⟩
set_option maxHeartbeats 2000000 in
theorem Uw (a0:(List (Int)×Int×Int)):wtF LO Tryz.f142 (a0)=CO a0:=by kernel_rfl
theorem TJ:EntOK RR LI:=Ab (X:=LO) ⟨tyOK,boolOK,eqOK⟩ (Ad (by exact ⟨⟨Cd,rfl⟩,⟨⟨S8,rfl⟩,⟨⟨NF,rfl⟩,⟨⟨FE,rfl⟩,⟨⟨AW,rfl⟩,⟨⟨L9,rfl⟩,trivial⟩⟩⟩⟩⟩⟩)) (Ae (by kernel_rfl)) ⟨Tryz.func142,rfl,by kernel_rfl,rfl⟩ (fun x=>by exact Uw x)
noncomputable def DA (a0:((List Int)×(Int×Int))):Option ((List (Int)×Int×Int)×(Bool×List (Int)×Bool×List (Int)×Bool×List (Int)×Bool×List (Int))) :=
 ((Au (a0.1,(a0.2.1,a0.2.2)) (40:Int))).bind fun x0 =>
 bif x0.2 then
  ((CO (x0.1.1,(x0.1.2.1,x0.1.2.2)))).bind fun x1 =>
  ((CO (x1.1.1,(x1.1.2.1,x1.1.2.2)))).bind fun x2 =>
  some ((x2.1.1,(x2.1.2.1,x2.1.2.2)),(x1.2.1,(x1.2.2.1,(x1.2.2.2.1,(x1.2.2.2.2,(x2.2.1,(x2.2.2.1,(x2.2.2.2.1,x2.2.2.2.2))))))))
 else
 ((Af (x0.1.1,(x0.1.2.1,x0.1.2.2)) (17:Int))).bind fun x3 =>
 ((Af (x3.1.1,(x3.1.2.1,x3.1.2.2)) (3:Int))).bind fun x4 =>
 ((D7 (Go.IntKind.wrap Go.IntKind.i64 (x3.2-(4:Int))) (Go.IntKind.wrap Go.IntKind.i64 ((1:Int) + x4.2)))).bind fun x5 =>
 ((Af (x4.1.1,(x4.1.2.1,x4.1.2.2)) (17:Int))).bind fun x6 =>
 ((Af (x6.1.1,(x6.1.2.1,x6.1.2.2)) (3:Int))).bind fun x7 =>
 ((D7 (Go.IntKind.wrap Go.IntKind.i64 (x6.2-(4:Int))) (Go.IntKind.wrap Go.IntKind.i64 ((1:Int) + x7.2)))).bind fun x8 =>
 some ((x7.1.1,(x7.1.2.1,x7.1.2.2)),(x5.1.1,(x5.1.2.1,(x5.1.2.2.1,(x5.1.2.2.2,(x8.1.1,(x8.1.2.1,(x8.1.2.2.1,x8.1.2.2.2))))))))
noncomputable def LP:Ent:=⟨HR,fun x=>DA x⟩
noncomputable def LQ:TX:=⟨tyTab,codTab,[],[4],[B6,LI,AT,K4],HR⟩
set_option maxHeartbeats 2000000 in
theorem Uu (a0:(List (Int)×Int×Int)):wtF LQ Tryz.f129 (a0)=DA a0:=by kernel_rfl
theorem Rz:EntOK RR LP:=Ab (X:=LQ) ⟨tyOK,boolOK,eqOK⟩ (Ad (by exact ⟨⟨Cd,rfl⟩,⟨⟨TJ,rfl⟩,⟨⟨AW,rfl⟩,⟨⟨L9,rfl⟩,trivial⟩⟩⟩⟩)) (Ae (by kernel_rfl)) ⟨Tryz.func129,rfl,by kernel_rfl,rfl⟩ (fun x=>by exact Uu x)
noncomputable def Ba (s0:((List Int)×(Int×Int))) (s1:(List (((Bool×(List Int))×(Bool×(List Int)))×((Bool×(List Int))×(Bool×(List Int)))))) (s2:Int):Option ((((List Int)×(Int×Int))×((List (((Bool×(List Int))×(Bool×(List Int)))×((Bool×(List Int))×(Bool×(List Int)))))×Int)) ⊕ (((List Int)×(Int×Int))×(List (((Bool×(List Int))×(Bool×(List Int)))×((Bool×(List Int))×(Bool×(List Int))))))) :=
 bif decide (s2>(0:Int)) then
  ((DA (s0.1,(s0.2.1,s0.2.2)))).bind fun x0 =>
  ((appL 128 8 s1 (List.cons (((x0.2.1,x0.2.2.1),(x0.2.2.2.1,x0.2.2.2.2.1)),((x0.2.2.2.2.2.1,x0.2.2.2.2.2.2.1),(x0.2.2.2.2.2.2.2.1,x0.2.2.2.2.2.2.2.2))) (List.nil:List (((Bool×(List Int))×(Bool×(List Int)))×((Bool×(List Int))×(Bool×(List Int)))))))).bind fun x1 =>
  some (Sum.inl ((x0.1.1,(x0.1.2.1,x0.1.2.2)),(x1,(Go.IntKind.wrap Go.IntKind.i64 (s2-(1:Int))))))
 else
 some (Sum.inr ((s0.1,(s0.2.1,s0.2.2)),s1))
noncomputable def C7 (a0:((List Int)×(Int×Int))):Option ((List (Int)×Int×Int)×List ((((Bool×List (Int))×(Bool×List (Int)))×((Bool×List (Int))×(Bool×List (Int)))))) :=
 ((Au (a0.1,(a0.2.1,a0.2.2)) (2:Int))).bind fun x0 =>
 bif x0.2 then
  ((CQ (x0.1.1,(x0.1.2.1,x0.1.2.2)))).bind fun x1 =>
  ((B8 x1.2)).bind fun x2 =>
  some ((x1.1.1,(x1.1.2.1,x1.1.2.2)),x2.1)
 else
 ((Af (x0.1.1,(x0.1.2.1,x0.1.2.2)) (7:Int))).bind fun x3 =>
 (((Au (x3.1.1,(x3.1.2.1,x3.1.2.2)) (20:Int))).bind fun x4 =>
  bif x4.2 then
   ((Af (x4.1.1,(x4.1.2.1,x4.1.2.2)) (3:Int))).bind fun x5 =>
   some (Sum.inr ((x5.1.1,(x5.1.2.1,x5.1.2.2)),((List.nil:List (((Bool×(List Int))×(Bool×(List Int)))×((Bool×(List Int))×(Bool×(List Int))))),(Go.IntKind.wrap Go.IntKind.i64 ((39:Int) + x5.2)))))
  else
  some (Sum.inr ((x4.1.1,(x4.1.2.1,x4.1.2.2)),((List.nil:List (((Bool×(List Int))×(Bool×(List Int)))×((Bool×(List Int))×(Bool×(List Int))))),x3.2)))).bind fun x6 =>
 Sum.elim
  (fun x7 =>
  some x7)
  (fun x8 =>
  (loopM (fun (s:(((List Int)×(Int×Int))×((List (((Bool×(List Int))×(Bool×(List Int)))×((Bool×(List Int))×(Bool×(List Int)))))×Int)))=>Ba s.1 s.2.1 s.2.2) ((x8.1.1,(x8.1.2.1,x8.1.2.2)),(x8.2.1,x8.2.2))).bind fun x9 =>
  some ((x9.1.1,(x9.1.2.1,x9.1.2.2)),x9.2))
  x6
noncomputable def JA:Ent:=⟨GJ,fun x=>C7 x⟩
noncomputable def Kw:TX:=⟨tyTab,codTab,[],[4],[B6,HO,MA,AT,LP],GJ⟩
set_option maxHeartbeats 2000000 in
theorem T6 (a0:(List (Int)×Int×Int)):wtF Kw Tryz.f73 (a0)=C7 a0:=by kernel_rfl
theorem Ra:EntOK RR JA:=Ab (X:=Kw) ⟨tyOK,boolOK,eqOK⟩ (Ad (by exact ⟨⟨Cd,rfl⟩,⟨⟨JS,rfl⟩,⟨⟨PF,rfl⟩,⟨⟨AW,rfl⟩,⟨⟨Rz,rfl⟩,trivial⟩⟩⟩⟩⟩)) (Ae (by kernel_rfl)) ⟨Tryz.func73,rfl,by kernel_rfl,rfl⟩ (fun x=>by exact T6 x)
noncomputable def BX (a0:((List Int)×(Int×Int))):Option ((List (Int)×Int×Int)×(Bool×List (Int)×Bool×List (Int))) :=
 ((Af (a0.1,(a0.2.1,a0.2.2)) (17:Int))).bind fun x0 =>
 ((Af (x0.1.1,(x0.1.2.1,x0.1.2.2)) (2:Int))).bind fun x1 =>
 ((D7 (Go.IntKind.wrap Go.IntKind.i64 (x0.2-(3:Int))) (Go.IntKind.wrap Go.IntKind.i64 ((1:Int) + x1.2)))).bind fun x2 =>
 some ((x1.1.1,(x1.1.2.1,x1.1.2.2)),(x2.1.1,(x2.1.2.1,(x2.1.2.2.1,x2.1.2.2.2))))
noncomputable def Jo:Ent:=⟨FT,fun x=>BX x⟩
noncomputable def Jt:TX:=⟨tyTab,codTab,[],[4],[AT,K4],FT⟩
set_option maxHeartbeats 2000000 in
theorem Q7 (a0:(List (Int)×Int×Int)):wtF Jt Tryz.f74 (a0)=BX a0:=by kernel_rfl
theorem Pb:EntOK RR Jo:=Ab (X:=Jt) ⟨tyOK,boolOK,eqOK⟩ (Ad (by exact ⟨⟨AW,rfl⟩,⟨⟨L9,rfl⟩,trivial⟩⟩)) (Ae (by kernel_rfl)) ⟨Tryz.func74,rfl,by kernel_rfl,rfl⟩ (fun x=>by exact Q7 x)
noncomputable def Cj (s0:(List Int)) (s1:(List Int)) (s2:Int) (s3:Int) (s4:Int) (s5:Int) (s6:(List Int)) (s7:Int) (s8:Int):Option (((List Int)×((List Int)×(Int×(Int×(Int×(Int×((List Int)×(Int×Int)))))))) ⊕ ((List Int)×((List Int)×((List Int)×(Int×Int))))) :=
 (bif decide (s5<(((List.length s1):Nat):Int)) then
   some (Sum.inr (s0,(s1,(s2,(s3,(s4,(s5,(s6,(s7,s8)))))))))
  else
  bif decide (s4>(0:Int)) then
   some (Sum.inr (s0,(s1,(s2,(s3,(s4,(s5,(s6,(s7,s8)))))))))
  else
  some (Sum.inl (Sum.inr (s0,(s1,(s6,(s7,s8))))))).bind fun x0 =>
 Sum.elim
  (fun x1 =>
  some x1)
  (fun x2 =>
  ((idxI (Go.IntKind.wrap Go.IntKind.i64 (x2.2.2.1 + x2.2.2.2.2.2.1)) (List.length x2.1))).bind fun x3 =>
  ((getN x2.1 x3)).bind fun x4 =>
  ((BR x2.2.1 x2.2.2.2.2.2.1)).bind fun x5 =>
  ((idxI (Go.IntKind.wrap Go.IntKind.i64 (x2.2.2.1 + x2.2.2.2.2.2.1)) (List.length x2.1))).bind fun x6 =>
  ((getN x2.1 x6)).bind fun x7 =>
  some (Sum.inl ((List.set x2.1 x6 (Int.tmod (Go.IntKind.wrap Go.IntKind.i64 ((Go.IntKind.wrap Go.IntKind.i64 (x4 + (Go.IntKind.wrap Go.IntKind.i64 (x2.2.2.2.1*x5)))) + x2.2.2.2.2.1)) (65536:Int))),(x2.2.1,(x2.2.2.1,(x2.2.2.2.1,((Go.IntKind.wrap Go.IntKind.i64 (Int.tdiv (Go.IntKind.wrap Go.IntKind.i64 ((Go.IntKind.wrap Go.IntKind.i64 (x4 + (Go.IntKind.wrap Go.IntKind.i64 (x2.2.2.2.1*x5)))) + x2.2.2.2.2.1)) (65536:Int))),((Go.IntKind.wrap Go.IntKind.i64 (x2.2.2.2.2.2.1 + (1:Int))),(x2.2.2.2.2.2.2.1,(x2.2.2.2.2.2.2.2.1,x2.2.2.2.2.2.2.2.2))))))))))
  x0
noncomputable def Df (s0:(List Int)) (s1:(List Int)) (s2:(List Int)) (s3:Int) (s4:Int):Option (((List Int)×((List Int)×((List Int)×(Int×Int)))) ⊕ (List Int)) :=
 bif decide (s4<s3) then
  ((getI s2 s4)).bind fun x0 =>
  (loopM (fun (s:((List Int)×((List Int)×(Int×(Int×(Int×(Int×((List Int)×(Int×Int)))))))))=>Cj s.1 s.2.1 s.2.2.1 s.2.2.2.1 s.2.2.2.2.1 s.2.2.2.2.2.1 s.2.2.2.2.2.2.1 s.2.2.2.2.2.2.2.1 s.2.2.2.2.2.2.2.2) (s0,(s1,(s4,(x0,((0:Int),((0:Int),(s2,(s3,s4))))))))).bind fun x1 =>
  some (Sum.inl (x1.1,(x1.2.1,(x1.2.2.1,(x1.2.2.2.1,(Go.IntKind.wrap Go.IntKind.i64 (x1.2.2.2.2 + (1:Int))))))))
 else
 some (Sum.inr s0)
noncomputable def C1 (a0:(List Int)) (a1:(List Int)):Option (List (Int)) :=
 ((lenI (Go.IntKind.wrap Go.IntKind.i64 ((Go.IntKind.wrap Go.IntKind.i64 ((((List.length a0):Nat):Int) + (((List.length a1):Nat):Int))) + (1:Int))) 8 1)).bind fun x0 =>
 (loopM (fun (s:((List Int)×((List Int)×((List Int)×(Int×Int)))))=>Df s.1 s.2.1 s.2.2.1 s.2.2.2.1 s.2.2.2.2) ((List.replicate x0 (0:Int)),(a1,(a0,((((List.length a0):Nat):Int),(0:Int)))))).bind fun x1 =>
 ((Br x1)).bind fun x2 =>
 some x2
noncomputable def KL:Ent:=⟨G4,fun x=>C1 x.1 x.2⟩
noncomputable def K3:TX:=⟨tyTab,codTab,[],[4],[D1,Ea],G4⟩
set_option maxHeartbeats 2000000 in
theorem Uf (a0:List (Int)) (a1:List (Int)):wtF K3 Tryz.f235 (a0,a1)=C1 a0 a1:=by kernel_rfl
theorem Q4:EntOK RR KL:=Ab (X:=K3) ⟨tyOK,boolOK,eqOK⟩ (Ad (by exact ⟨⟨D2,rfl⟩,⟨⟨DZ,rfl⟩,trivial⟩⟩)) (Ae (by kernel_rfl)) ⟨Tryz.func235,rfl,by kernel_rfl,rfl⟩ (fun x=>by exact Uf x.1 x.2)
noncomputable def BM (a0:(Bool×(List Int))) (a1:(Bool×(List Int))):Option ((Bool×List (Int))) :=
 ((C1 a0.2 a1.2)).bind fun x0 =>
 ((AH (!(a0.1==a1.1)) x0)).bind fun x1 =>
 some (x1.2,x1.1)
noncomputable def Iz:Ent:=⟨Pt,fun x=>BM x.1 x.2⟩
noncomputable def Wy:TX:=⟨tyTab,codTab,[],[4],[KL,CA],Pt⟩
set_option maxHeartbeats 2000000 in
theorem Av8 (a0:(Bool×List (Int))) (a1:(Bool×List (Int))):wtF Wy Tryz.f166 (a0,a1)=BM a0 a1:=by kernel_rfl
theorem II:EntOK RR Iz:=Ab (X:=Wy) ⟨tyOK,boolOK,eqOK⟩ (Ad (by exact ⟨⟨Q4,rfl⟩,⟨⟨Cu,rfl⟩,trivial⟩⟩)) (Ae (by kernel_rfl)) ⟨Tryz.func166,rfl,by kernel_rfl,rfl⟩ (fun x=>by exact Av8 x.1 x.2)
noncomputable def Cm (s0:(List Int)) (s1:(List Int)) (s2:(List Int)) (s3:Int) (s4:Int):Option (((List Int)×((List Int)×((List Int)×(Int×Int)))) ⊕ (List Int)) :=
 (bif decide (s4<(((List.length s1):Nat):Int)) then
   some (Sum.inr (s0,(s1,(s2,(s3,s4)))))
  else
  bif decide (s4<(((List.length s2):Nat):Int)) then
   some (Sum.inr (s0,(s1,(s2,(s3,s4)))))
  else
  bif decide (s3>(0:Int)) then
   some (Sum.inr (s0,(s1,(s2,(s3,s4)))))
  else
  some (Sum.inl (Sum.inr s0))).bind fun x0 =>
 Sum.elim
  (fun x1 =>
  some x1)
  (fun x2 =>
  ((BR x2.2.1 x2.2.2.2.2)).bind fun x3 =>
  ((BR x2.2.2.1 x2.2.2.2.2)).bind fun x4 =>
  ((appL 8 1 x2.1 (List.cons (Int.tmod (Go.IntKind.wrap Go.IntKind.i64 ((Go.IntKind.wrap Go.IntKind.i64 (x3 + x4)) + x2.2.2.2.1)) (65536:Int)) (List.nil:List Int)))).bind fun x5 =>
  some (Sum.inl (x5,(x2.2.1,(x2.2.2.1,((Go.IntKind.wrap Go.IntKind.i64 (Int.tdiv (Go.IntKind.wrap Go.IntKind.i64 ((Go.IntKind.wrap Go.IntKind.i64 (x3 + x4)) + x2.2.2.2.1)) (65536:Int))),(Go.IntKind.wrap Go.IntKind.i64 (x2.2.2.2.2 + (1:Int)))))))))
  x0
noncomputable def C5 (a0:(List Int)) (a1:(List Int)):Option (List (Int)) :=
 (loopM (fun (s:((List Int)×((List Int)×((List Int)×(Int×Int)))))=>Cm s.1 s.2.1 s.2.2.1 s.2.2.2.1 s.2.2.2.2) ((List.nil:List Int),(a0,(a1,((0:Int),(0:Int)))))).bind fun x0 =>
 some x0
noncomputable def JQ:Ent:=⟨Ht,fun x=>C5 x.1 x.2⟩
noncomputable def Jz:TX:=⟨tyTab,codTab,[],[4],[D1],Ht⟩
set_option maxHeartbeats 2000000 in
theorem TP (a0:List (Int)) (a1:List (Int)):wtF Jz Tryz.f233 (a0,a1)=C5 a0 a1:=by kernel_rfl
theorem Q1:EntOK RR JQ:=Ab (X:=Jz) ⟨tyOK,boolOK,eqOK⟩ (Ad (by exact ⟨⟨D2,rfl⟩,trivial⟩)) (Ae (by kernel_rfl)) ⟨Tryz.func233,rfl,by kernel_rfl,rfl⟩ (fun x=>by exact TP x.1 x.2)
noncomputable def Dt (s0:(List Int)) (s1:(List Int)) (s2:(List Int)) (s3:Int) (s4:Int) (s5:Int):Option (((List Int)×((List Int)×((List Int)×(Int×(Int×Int))))) ⊕ (List Int)) :=
 bif decide (s5<s4) then
  ((getI s1 s5)).bind fun x0 =>
  ((BR s2 s5)).bind fun x1 =>
  bif decide ((Go.IntKind.wrap Go.IntKind.i64 ((Go.IntKind.wrap Go.IntKind.i64 (x0-x1))-s3))<(0:Int)) then
   ((appL 8 1 s0 (List.cons (Go.IntKind.wrap Go.IntKind.i64 ((Go.IntKind.wrap Go.IntKind.i64 ((Go.IntKind.wrap Go.IntKind.i64 (x0-x1))-s3)) + (65536:Int))) (List.nil:List Int)))).bind fun x2 =>
   some (Sum.inl (x2,(s1,(s2,((1:Int),(s4,(Go.IntKind.wrap Go.IntKind.i64 (s5 + (1:Int)))))))))
  else
  ((appL 8 1 s0 (List.cons (Go.IntKind.wrap Go.IntKind.i64 ((Go.IntKind.wrap Go.IntKind.i64 (x0-x1))-s3)) (List.nil:List Int)))).bind fun x3 =>
  some (Sum.inl (x3,(s1,(s2,((0:Int),(s4,(Go.IntKind.wrap Go.IntKind.i64 (s5 + (1:Int)))))))))
 else
 some (Sum.inr s0)
noncomputable def Cp (a0:(List Int)) (a1:(List Int)):Option (List (Int)) :=
 (loopM (fun (s:((List Int)×((List Int)×((List Int)×(Int×(Int×Int))))))=>Dt s.1 s.2.1 s.2.2.1 s.2.2.2.1 s.2.2.2.2.1 s.2.2.2.2.2) ((List.nil:List Int),(a0,(a1,((0:Int),((((List.length a0):Nat):Int),(0:Int))))))).bind fun x0 =>
 ((Br x0)).bind fun x1 =>
 some x1
noncomputable def JK:Ent:=⟨GE,fun x=>Cp x.1 x.2⟩
noncomputable def J3:TX:=⟨tyTab,codTab,[],[4],[D1,Ea],GE⟩
set_option maxHeartbeats 2000000 in
theorem T9 (a0:List (Int)) (a1:List (Int)):wtF J3 Tryz.f234 (a0,a1)=Cp a0 a1:=by kernel_rfl
theorem QY:EntOK RR JK:=Ab (X:=J3) ⟨tyOK,boolOK,eqOK⟩ (Ad (by exact ⟨⟨D2,rfl⟩,⟨⟨DZ,rfl⟩,trivial⟩⟩)) (Ae (by kernel_rfl)) ⟨Tryz.func234,rfl,by kernel_rfl,rfl⟩ (fun x=>by exact T9 x.1 x.2)
noncomputable def H2 (a0:(Bool×(List Int))) (a1:(Bool×(List Int))):Option ((Bool×List (Int))) :=
 bif (a0.1==a1.1) then
  ((C5 a0.2 a1.2)).bind fun x0 =>
  ((AH a0.1 x0)).bind fun x1 =>
  some (x1.2,x1.1)
 else
 ((Bo a0.2 a1.2)).bind fun x2 =>
 bif decide (x2≥(0:Int)) then
  ((Cp a0.2 a1.2)).bind fun x3 =>
  ((AH a0.1 x3)).bind fun x4 =>
  some (x4.2,x4.1)
 else
 ((Cp a1.2 a0.2)).bind fun x5 =>
 ((AH a1.1 x5)).bind fun x6 =>
 some (x6.2,x6.1)
noncomputable def Vp:Ent:=⟨O7,fun x=>H2 x.1 x.2⟩
noncomputable def Vy:TX:=⟨tyTab,codTab,[],[4],[JQ,CA,Id,JK],O7⟩
set_option maxHeartbeats 2000000 in
theorem Az5 (a0:(Bool×List (Int))) (a1:(Bool×List (Int))):wtF Vy Tryz.f165 (a0,a1)=H2 a0 a1:=by kernel_rfl
theorem Ai3:EntOK RR Vp:=Ab (X:=Vy) ⟨tyOK,boolOK,eqOK⟩ (Ad (by exact ⟨⟨Q1,rfl⟩,⟨⟨Cu,rfl⟩,⟨⟨IG,rfl⟩,⟨⟨QY,rfl⟩,trivial⟩⟩⟩⟩)) (Ae (by kernel_rfl)) ⟨Tryz.func165,rfl,by kernel_rfl,rfl⟩ (fun x=>by exact Az5 x.1 x.2)
noncomputable def Eh (a0:(Bool×((List Int)×(Bool×(List Int))))) (a1:(Bool×((List Int)×(Bool×(List Int))))):Option ((Bool×List (Int)×Bool×List (Int))) :=
 ((BM (a0.1,a0.2.1) (a1.2.2.1,a1.2.2.2))).bind fun x0 =>
 ((BM (a1.1,a1.2.1) (a0.2.2.1,a0.2.2.2))).bind fun x1 =>
 ((H2 (x0.1,x0.2) (x1.1,x1.2))).bind fun x2 =>
 ((BM (a0.2.2.1,a0.2.2.2) (a1.2.2.1,a1.2.2.2))).bind fun x3 =>
 ((CC (x2.1,x2.2) (x3.1,x3.2))).bind fun x4 =>
 some (x4.1,(x4.2.1,(x4.2.2.1,x4.2.2.2)))
noncomputable def Ll:Ent:=⟨OR,fun x=>Eh x.1 x.2⟩
noncomputable def V4:TX:=⟨tyTab,codTab,[],[4],[Iz,Vp,EZ],OR⟩
set_option maxHeartbeats 2000000 in
theorem As8 (a0:(Bool×List (Int)×Bool×List (Int))) (a1:(Bool×List (Int)×Bool×List (Int))):wtF V4 Tryz.f75 (a0,a1)=Eh a0 a1:=by kernel_rfl
theorem Mr:EntOK RR Ll:=Ab (X:=V4) ⟨tyOK,boolOK,eqOK⟩ (Ad (by exact ⟨⟨II,rfl⟩,⟨⟨Ai3,rfl⟩,⟨⟨FE,rfl⟩,trivial⟩⟩⟩)) (Ae (by kernel_rfl)) ⟨Tryz.func75,rfl,by kernel_rfl,rfl⟩ (fun x=>by exact As8 x.1 x.2)
noncomputable def BY (a0:(List Int)):Option (List ((((Bool×List (Int))×(Bool×List (Int)))×((Bool×List (Int))×(Bool×List (Int)))))×(Bool×List (Int)×Bool×List (Int)×Bool×List (Int)×Bool×List (Int))×(Bool×List (Int)×Bool×List (Int)×Bool×List (Int)×Bool×List (Int))) :=
 ((C7 (a0,((0:Int),(0:Int))))).bind fun x0 =>
 ((BX (x0.1.1,(x0.1.2.1,x0.1.2.2)))).bind fun x1 =>
 ((BX (x1.1.1,(x1.1.2.1,x1.1.2.2)))).bind fun x2 =>
 ((Af (x2.1.1,(x2.1.2.1,x2.1.2.2)) (6:Int))).bind fun x3 =>
 ((Af (x3.1.1,(x3.1.2.1,x3.1.2.2)) (9:Int))).bind fun x4 =>
 ((D9 (Go.IntKind.wrap Go.IntKind.i64 (x3.2-(Go.IntKind.wrap Go.IntKind.i64 (Int.tdiv x4.2 (8:Int))))))).bind fun x5 =>
 ((Eh (x1.2.1,(x1.2.2.1,(x1.2.2.2.1,x1.2.2.2.2))) (x5.1,(x5.2.1,(x5.2.2.1,x5.2.2.2))))).bind fun x6 =>
 ((Af (x4.1.1,(x4.1.2.1,x4.1.2.2)) (6:Int))).bind fun x7 =>
 ((D9 x7.2)).bind fun x8 =>
 ((Eh (x2.2.1,(x2.2.2.1,(x2.2.2.2.1,x2.2.2.2.2))) (x8.1,(x8.2.1,(x8.2.2.1,x8.2.2.2))))).bind fun x9 =>
 some (x0.2,((x1.2.1,(x1.2.2.1,(x1.2.2.2.1,(x1.2.2.2.2,(x2.2.1,(x2.2.2.1,(x2.2.2.2.1,x2.2.2.2.2))))))),(x6.1,(x6.2.1,(x6.2.2.1,(x6.2.2.2,(x9.1,(x9.2.1,(x9.2.2.1,x9.2.2.2)))))))))
noncomputable def Ju:Ent:=⟨FV,fun x=>BY x⟩
noncomputable def Jn:TX:=⟨tyTab,codTab,[],[4],[JA,Jo,AT,Pq,Ll],FV⟩
set_option maxHeartbeats 2000000 in
theorem Q6 (a0:List (Int)):wtF Jn Tryz.f8 (a0)=BY a0:=by kernel_rfl
theorem Ph:EntOK RR Ju:=Ab (X:=Jn) ⟨tyOK,boolOK,eqOK⟩ (Ad (by exact ⟨⟨Ra,rfl⟩,⟨⟨Pb,rfl⟩,⟨⟨AW,rfl⟩,⟨⟨SI,rfl⟩,⟨⟨Mr,rfl⟩,trivial⟩⟩⟩⟩⟩)) (Ae (by kernel_rfl)) ⟨Tryz.func8,rfl,by kernel_rfl,rfl⟩ (fun x=>by exact Q6 x)
noncomputable def BE (a0:Int) (a1:Int) (a2:Int):Option (Bool) :=
 bif decide (a0≥a1) then
  some (decide (a0≤a2))
 else
 some false
noncomputable def Hv:Ent:=⟨Me,fun x=>BE x.1 x.2.1 x.2.2⟩
noncomputable def Rw:TX:=⟨tyTab,codTab,[],[4],[],Me⟩
set_option maxHeartbeats 2000000 in
theorem Ah2 (a0:Int) (a1:Int) (a2:Int):wtF Rw Tryz.f103 (a0,a1,a2)=BE a0 a1 a2:=by kernel_rfl
theorem HG:EntOK RR Hv:=Ab (X:=Rw) ⟨tyOK,boolOK,eqOK⟩ (Ad (by exact trivial)) (Ae (by kernel_rfl)) ⟨Tryz.func103,rfl,by kernel_rfl,rfl⟩ (fun x=>by exact Ah2 x.1 x.2.1 x.2.2)
noncomputable def DD (a0:Int):Option (Bool) :=
 ((BE a0 (0:Int) (65535:Int))).bind fun x0 =>
 some (!x0)
noncomputable def LN:Ent:=⟨HU,fun x=>DD x⟩
noncomputable def LS:TX:=⟨tyTab,codTab,[],[4],[Hv],HU⟩
set_option maxHeartbeats 2000000 in
theorem Uz (a0:Int):wtF LS Tryz.f258 (a0)=DD a0:=by kernel_rfl
theorem TO:EntOK RR LN:=Ab (X:=LS) ⟨tyOK,boolOK,eqOK⟩ (Ad (by exact ⟨⟨HG,rfl⟩,trivial⟩)) (Ae (by kernel_rfl)) ⟨Tryz.func258,rfl,by kernel_rfl,rfl⟩ (fun x=>by exact Uz x)
noncomputable def AE (s0:(List Int)) (s1:Int) (s2:Int):Option (((List Int)×(Int×Int)) ⊕ (Unit ⊕ Int)) :=
 bif decide (s2<s1) then
  ((getI s0 s2)).bind fun x0 =>
  ((DD x0)).bind fun x1 =>
  bif x1 then
   some (Sum.inr (Sum.inr s2))
  else
  some (Sum.inl (s0,(s1,(Go.IntKind.wrap Go.IntKind.i64 (s2 + (1:Int))))))
 else
 some (Sum.inr (Sum.inl ()))
noncomputable def Be (a0:(List Int)):Option (Int) :=
 (loopM (fun (s:((List Int)×(Int×Int)))=>AE s.1 s.2.1 s.2.2) (a0,((((List.length a0):Nat):Int),(0:Int)))).bind fun x0 =>
 Sum.elim
  (fun x1 =>
  some (-(1:Int)))
  (fun x2 =>
  some x2)
  x0
noncomputable def CT:Ent:=⟨BH,fun x=>Be x⟩
noncomputable def CS:TX:=⟨tyTab,codTab,[],[4],[LN],BH⟩
set_option maxHeartbeats 2000000 in
theorem F4 (a0:List (Int)):wtF CS Tryz.f221 (a0)=Be a0:=by kernel_rfl
theorem FZ:EntOK RR CT:=Ab (X:=CS) ⟨tyOK,boolOK,eqOK⟩ (Ad (by exact ⟨⟨TO,rfl⟩,trivial⟩)) (Ae (by kernel_rfl)) ⟨Tryz.func221,rfl,by kernel_rfl,rfl⟩ (fun x=>by exact F4 x)
noncomputable def Am (a0:(List Int)):Option (Bool) :=
 ((Be a0)).bind fun x0 =>
 some (decide (x0≥(0:Int)))
noncomputable def Cq:Ent:=⟨Bq,fun x=>Am x⟩
noncomputable def Cl:TX:=⟨tyTab,codTab,[],[4],[CT],Bq⟩
set_option maxHeartbeats 2000000 in
theorem Fe (a0:List (Int)):wtF Cl Tryz.f155 (a0)=Am a0:=by kernel_rfl
theorem ES:EntOK RR Cq:=Ab (X:=Cl) ⟨tyOK,boolOK,eqOK⟩ (Ad (by exact ⟨⟨FZ,rfl⟩,trivial⟩)) (Ae (by kernel_rfl)) ⟨Tryz.func155,rfl,by kernel_rfl,rfl⟩ (fun x=>by exact Fe x)
noncomputable def Fz (a0:(Bool×(List Int))):Option (Bool) :=
 bif decide ((((List.length a0.2):Nat):Int)>(40:Int)) then
  some false
 else
 bif ((((List.length a0.2):Nat):Int)==(0:Int)) then
  bif a0.1 then
   some false
  else
  bif decide ((((List.length a0.2):Nat):Int)>(0:Int)) then
   ((getI a0.2 (Go.IntKind.wrap Go.IntKind.i64 ((((List.length a0.2):Nat):Int)-(1:Int))))).bind fun x0 =>
   bif (x0==(0:Int)) then
    some false
   else
   ((Am a0.2)).bind fun x1 =>
   some (!x1)
  else
  ((Am a0.2)).bind fun x2 =>
  some (!x2)
 else
 bif decide ((((List.length a0.2):Nat):Int)>(0:Int)) then
  ((getI a0.2 (Go.IntKind.wrap Go.IntKind.i64 ((((List.length a0.2):Nat):Int)-(1:Int))))).bind fun x3 =>
  bif (x3==(0:Int)) then
   some false
  else
  ((Am a0.2)).bind fun x4 =>
  some (!x4)
 else
 ((Am a0.2)).bind fun x5 =>
 some (!x5)
noncomputable def P1:Ent:=⟨Ks,fun x=>Fz x⟩
noncomputable def Qa:TX:=⟨tyTab,codTab,[],[4],[Cq],Ks⟩
set_option maxHeartbeats 2000000 in
theorem Zb (a0:(Bool×List (Int))):wtF Qa Tryz.f231 (a0)=Fz a0:=by kernel_rfl
theorem WA:EntOK RR P1:=Ab (X:=Qa) ⟨tyOK,boolOK,eqOK⟩ (Ad (by exact ⟨⟨ES,rfl⟩,trivial⟩)) (Ae (by kernel_rfl)) ⟨Tryz.func231,rfl,by kernel_rfl,rfl⟩ (fun x=>by exact Zb x)
noncomputable def EJ (a0:(Bool×(List Int))):Option (Bool) :=
 ((Fz (a0.1,a0.2))).bind fun x0 =>
 some (!x0)
noncomputable def MO:Ent:=⟨Jh,fun x=>EJ x⟩
noncomputable def Ni:TX:=⟨tyTab,codTab,[],[4],[P1],Jh⟩
set_option maxHeartbeats 2000000 in
theorem WB (a0:(Bool×List (Int))):wtF Ni Tryz.f261 (a0)=EJ a0:=by kernel_rfl
theorem UU:EntOK RR MO:=Ab (X:=Ni) ⟨tyOK,boolOK,eqOK⟩ (Ad (by exact ⟨⟨WA,rfl⟩,trivial⟩)) (Ae (by kernel_rfl)) ⟨Tryz.func261,rfl,by kernel_rfl,rfl⟩ (fun x=>by exact WB x)
noncomputable def As (s0:(List (Bool×(List Int)))) (s1:Int) (s2:Int):Option (((List (Bool×(List Int)))×(Int×Int)) ⊕ (Unit ⊕ Int)) :=
 bif decide (s2<s1) then
  ((getI s0 s2)).bind fun x0 =>
  ((EJ (x0.1,x0.2))).bind fun x1 =>
  bif x1 then
   some (Sum.inr (Sum.inr s2))
  else
  some (Sum.inl (s0,(s1,(Go.IntKind.wrap Go.IntKind.i64 (s2 + (1:Int))))))
 else
 some (Sum.inr (Sum.inl ()))
noncomputable def AO (a0:(List (Bool×(List Int)))):Option (Int) :=
 (loopM (fun (s:((List (Bool×(List Int)))×(Int×Int)))=>As s.1 s.2.1 s.2.2) (a0,((((List.length a0):Nat):Int),(0:Int)))).bind fun x0 =>
 Sum.elim
  (fun x1 =>
  some (-(1:Int)))
  (fun x2 =>
  some x2)
  x0
noncomputable def Cc:Ent:=⟨Bm,fun x=>AO x⟩
noncomputable def B9:TX:=⟨tyTab,codTab,[],[4],[MO],Bm⟩
set_option maxHeartbeats 2000000 in
theorem EU (a0:List ((Bool×List (Int)))):wtF B9 Tryz.f257 (a0)=AO a0:=by kernel_rfl
theorem Es:EntOK RR Cc:=Ab (X:=B9) ⟨tyOK,boolOK,eqOK⟩ (Ad (by exact ⟨⟨UU,rfl⟩,trivial⟩)) (Ae (by kernel_rfl)) ⟨Tryz.func257,rfl,by kernel_rfl,rfl⟩ (fun x=>by exact EU x)
noncomputable def AG (a0:(List (Bool×(List Int)))):Option (Bool) :=
 ((AO a0)).bind fun x0 =>
 some (decide (x0≥(0:Int)))
noncomputable def BW:Ent:=⟨A7,fun x=>AG x⟩
noncomputable def BU:TX:=⟨tyTab,codTab,[],[4],[Cc],A7⟩
set_option maxHeartbeats 2000000 in
theorem DY (a0:List ((Bool×List (Int)))):wtF BU Tryz.f229 (a0)=AG a0:=by kernel_rfl
theorem DF:EntOK RR BW:=Ab (X:=BU) ⟨tyOK,boolOK,eqOK⟩ (Ad (by exact ⟨⟨Es,rfl⟩,trivial⟩)) (Ae (by kernel_rfl)) ⟨Tryz.func229,rfl,by kernel_rfl,rfl⟩ (fun x=>by exact DY x)
noncomputable def Fk (a0:(List (Bool×(List Int)))):Option (Bool) :=
 ((AG a0)).bind fun x0 =>
 some (!x0)
noncomputable def Ub:Ent:=⟨L5,fun x=>Fk x⟩
noncomputable def RJ:TX:=⟨tyTab,codTab,[],[4],[BW],L5⟩
set_option maxHeartbeats 2000000 in
theorem Aa9 (a0:List ((Bool×List (Int)))):wtF RJ Tryz.f241 (a0)=Fk a0:=by kernel_rfl
theorem YO:EntOK RR Ub:=Ab (X:=RJ) ⟨tyOK,boolOK,eqOK⟩ (Ad (by exact ⟨⟨DF,rfl⟩,trivial⟩)) (Ae (by kernel_rfl)) ⟨Tryz.func241,rfl,by kernel_rfl,rfl⟩ (fun x=>by exact Aa9 x)
noncomputable def AY (a0:(Bool×(List Int))):Option (Int) :=
 bif ((((List.length a0.2):Nat):Int)==(0:Int)) then
  some (0:Int)
 else
 bif a0.1 then
  some (-(1:Int))
 else
 some (1:Int)
noncomputable def Ga:Ent:=⟨I5,fun x=>AY x⟩
noncomputable def NW:TX:=⟨tyTab,codTab,[],[4],[],I5⟩
set_option maxHeartbeats 2000000 in
theorem W7 (a0:(Bool×List (Int))):wtF NW Tryz.f212 (a0)=AY a0:=by kernel_rfl
theorem H0:EntOK RR Ga:=Ab (X:=NW) ⟨tyOK,boolOK,eqOK⟩ (Ad (by exact trivial)) (Ae (by kernel_rfl)) ⟨Tryz.func212,rfl,by kernel_rfl,rfl⟩ (fun x=>by exact W7 x)
noncomputable def CF (a0:Int):Option (Bool) :=
 some (a0 != a0)
noncomputable def Jx:Ent:=⟨FW,fun x=>CF x⟩
noncomputable def Jp:TX:=⟨tyTab,codTab,[],[4],[],FW⟩
set_option maxHeartbeats 2000000 in
theorem Rb (a0:Int):wtF Jp Tryz.f263 (a0)=CF a0:=by kernel_rfl
theorem Px:EntOK RR Jx:=Ab (X:=Jp) ⟨tyOK,boolOK,eqOK⟩ (Ad (by exact trivial)) (Ae (by kernel_rfl)) ⟨Tryz.func263,rfl,by kernel_rfl,rfl⟩ (fun x=>by exact Rb x)
noncomputable def Bg (a0:Int) (a1:Int):Option (Int) :=
 ((CF a0)).bind fun x0 =>
 ((CF a1)).bind fun x1 =>
 bif x0 then
  bif x1 then
   some (0:Int)
  else
  some (-(1:Int))
 else
 bif x1 then
  some (1:Int)
 else
 bif decide (a0<a1) then
  some (-(1:Int))
 else
 bif decide (a0>a1) then
  some (1:Int)
 else
 some (0:Int)
noncomputable def Ey:Ent:=⟨EH,fun x=>Bg x.1 x.2⟩
noncomputable def Hx:TX:=⟨tyTab,codTab,[],[4],[Jx],EH⟩
set_option maxHeartbeats 2000000 in
theorem N7 (a0:Int) (a1:Int):wtF Hx Tryz.f245 (a0,a1)=Bg a0 a1:=by kernel_rfl
theorem Gz:EntOK RR Ey:=Ab (X:=Hx) ⟨tyOK,boolOK,eqOK⟩ (Ad (by exact ⟨⟨Px,rfl⟩,trivial⟩)) (Ae (by kernel_rfl)) ⟨Tryz.func245,rfl,by kernel_rfl,rfl⟩ (fun x=>by exact N7 x.1 x.2)
noncomputable def AI (s0:(List Int)) (s1:(List Int)) (s2:Int):Option (((List Int)×((List Int)×Int)) ⊕ (Unit ⊕ Int)) :=
 bif decide (s2≥(0:Int)) then
  ((getI s0 s2)).bind fun x0 =>
  ((getI s1 s2)).bind fun x1 =>
  bif (x0 != x1) then
   ((getI s0 s2)).bind fun x2 =>
   ((getI s1 s2)).bind fun x3 =>
   ((Bg x2 x3)).bind fun x4 =>
   some (Sum.inr (Sum.inr x4))
  else
  some (Sum.inl (s0,(s1,(Go.IntKind.wrap Go.IntKind.i64 (s2-(1:Int))))))
 else
 some (Sum.inr (Sum.inl ()))
noncomputable def A8 (a0:(List Int)) (a1:(List Int)):Option (Int) :=
 bif ((((List.length a0):Nat):Int) != (((List.length a1):Nat):Int)) then
  ((Bg (((List.length a0):Nat):Int) (((List.length a1):Nat):Int))).bind fun x0 =>
  some x0
 else
 (loopM (fun (s:((List Int)×((List Int)×Int)))=>AI s.1 s.2.1 s.2.2) (a0,(a1,(Go.IntKind.wrap Go.IntKind.i64 ((((List.length a0):Nat):Int)-(1:Int)))))).bind fun x1 =>
 Sum.elim
  (fun x2 =>
  some (0:Int))
  (fun x3 =>
  some x3)
  x1
noncomputable def Dp:Ent:=⟨E8,fun x=>A8 x.1 x.2⟩
noncomputable def H6:TX:=⟨tyTab,codTab,[],[4],[Ey],E8⟩
set_option maxHeartbeats 2000000 in
theorem Pw (a0:List (Int)) (a1:List (Int)):wtF H6 Tryz.f184 (a0,a1)=A8 a0 a1:=by kernel_rfl
theorem Eu:EntOK RR Dp:=Ab (X:=H6) ⟨tyOK,boolOK,eqOK⟩ (Ad (by exact ⟨⟨Gz,rfl⟩,trivial⟩)) (Ae (by kernel_rfl)) ⟨Tryz.func184,rfl,by kernel_rfl,rfl⟩ (fun x=>by exact Pw x.1 x.2)
noncomputable def Lj (s0:(List Int)) (s1:Int):Option (((List Int)×Int) ⊕ ((List Int)×Int)) :=
 bif decide (s1>(0:Int)) then
  ((getI s0 (Go.IntKind.wrap Go.IntKind.i64 (s1-(1:Int))))).bind fun x0 =>
  bif (x0==(0:Int)) then
   some (Sum.inl (s0,(Go.IntKind.wrap Go.IntKind.i64 (s1-(1:Int)))))
  else
  some (Sum.inr (s0,s1))
 else
 some (Sum.inr (s0,s1))
noncomputable def Ft (a0:(List Int)):Option (List (Int)) :=
 (loopM (fun (s:((List Int)×Int))=>Lj s.1 s.2) (a0,(((List.length a0):Nat):Int))).bind fun x0 =>
 ((subI (0:Int) x0.2 (List.length x0.1))).bind fun x1 =>
 some (List.drop x1.1 (List.take x1.2 x0.1))
noncomputable def Nx:Ent:=⟨W8,fun x=>Ft x⟩
noncomputable def An3:TX:=⟨tyTab,codTab,[],[4],[],W8⟩
set_option maxHeartbeats 2000000 in
theorem AM6 (a0:List (Int)):wtF An3 Tryz.f243 (a0)=Ft a0:=by kernel_rfl
theorem MS:EntOK RR Nx:=Ab (X:=An3) ⟨tyOK,boolOK,eqOK⟩ (Ad (by exact trivial)) (Ae (by kernel_rfl)) ⟨Tryz.func243,rfl,by kernel_rfl,rfl⟩ (fun x=>by exact AM6 x)
noncomputable def C4 (s0:(List Int)) (s1:(List Int)) (s2:Int) (s3:Int) (s4:Int):Option (((List Int)×((List Int)×(Int×(Int×Int)))) ⊕ ((List Int)×Int)) :=
 bif decide (s4≥(0:Int)) then
  ((getI s1 s4)).bind fun x0 =>
  bif (s2==(0:Int)) then
   none
  else
  ((idxI s4 (List.length s0))).bind fun x1 =>
  ((getN s0 x1)).bind fun x2 =>
  bif (s2==(0:Int)) then
   none
  else
  some (Sum.inl ((List.set s0 x1 (Go.IntKind.wrap Go.IntKind.i64 (Int.tdiv (Go.IntKind.wrap Go.IntKind.i64 ((Go.IntKind.wrap Go.IntKind.i64 (s3*(65536:Int))) + x0)) s2))),(s1,(s2,((Int.tmod (Go.IntKind.wrap Go.IntKind.i64 ((Go.IntKind.wrap Go.IntKind.i64 (s3*(65536:Int))) + x0)) s2),(Go.IntKind.wrap Go.IntKind.i64 (s4-(1:Int))))))))
 else
 some (Sum.inr (s0,s3))
noncomputable def Dk (a0:(List Int)) (a1:Int):Option (List (Int)×Int) :=
 ((lenI (((List.length a0):Nat):Int) 8 1)).bind fun x0 =>
 (loopM (fun (s:((List Int)×((List Int)×(Int×(Int×Int)))))=>C4 s.1 s.2.1 s.2.2.1 s.2.2.2.1 s.2.2.2.2) ((List.replicate x0 (0:Int)),(a0,(a1,((0:Int),(Go.IntKind.wrap Go.IntKind.i64 ((((List.length a0):Nat):Int)-(1:Int)))))))).bind fun x1 =>
 ((Ft x1.1)).bind fun x2 =>
 some (x2,x1.2)
noncomputable def M3:Ent:=⟨Jg,fun x=>Dk x.1 x.2⟩
noncomputable def N9:TX:=⟨tyTab,codTab,[],[4],[Nx],Jg⟩
set_option maxHeartbeats 2000000 in
theorem XT (a0:List (Int)) (a1:Int):wtF N9 Tryz.f262 (a0,a1)=Dk a0 a1:=by kernel_rfl
theorem UY:EntOK RR M3:=Ab (X:=N9) ⟨tyOK,boolOK,eqOK⟩ (Ad (by exact ⟨⟨MS,rfl⟩,trivial⟩)) (Ae (by kernel_rfl)) ⟨Tryz.func262,rfl,by kernel_rfl,rfl⟩ (fun x=>by exact XT x.1 x.2)
noncomputable def Bf (a0:(List Int)):Option (List (Int)) :=
 ((neL a0)).bind fun x0 =>
 bif (roomI (List.length a0) 8 1) then
  some a0
 else
 none
noncomputable def GZ:Ent:=⟨Bb,fun x=>Bf x⟩
noncomputable def D3:TX:=⟨tyTab,codTab,[],[4],[],Bb⟩
set_option maxHeartbeats 2000000 in
theorem H9 (a0:List (Int)):wtF D3 Tryz.f242 a0=Bf a0:=by kernel_rfl
theorem Hw:EntOK (Runs Tryz.prog cfC noExt) GZ:=Ab (X:=D3) ⟨tyOK,boolOK,eqOK⟩ (AJ5 rfl) (Ae (by kernel_rfl)) ⟨Tryz.func242,rfl,by kernel_rfl,rfl⟩ (fun x=>by exact H9 x)
noncomputable def Bc (a0:List (Int)):Option (List (Int)):=orNil Bf a0
noncomputable def Cn:Ent:=⟨Bb,fun x=>Bc x⟩
theorem DH:EntOK RR Cn:=At2 Hw (.head _)
noncomputable def AL (a0:Bool) (a1:(List Int)):Option (List (Int)×(Bool)) :=
 ((Ft a1)).bind fun x0 =>
 ((Bc x0)).bind fun x1 =>
 bif a0 then
  some (x1,decide ((((List.length x1):Nat):Int)>(0:Int)))
 else
 some (x1,false)
noncomputable def CN:Ent:=⟨ON,fun x=>AL x.1 x.2⟩
noncomputable def Vs:TX:=⟨tyTab,codTab,[],[4],[Nx,Cn],ON⟩
set_option maxHeartbeats 2000000 in
theorem Au5 (a0:Bool) (a1:List (Int)):wtF Vs Tryz.f177 (a0,a1)=AL a0 a1:=by kernel_rfl
theorem CD:EntOK RR CN:=Ab (X:=Vs) ⟨tyOK,boolOK,eqOK⟩ (Ad (by exact ⟨⟨MS,rfl⟩,⟨⟨DH,rfl⟩,trivial⟩⟩)) (Ae (by kernel_rfl)) ⟨Tryz.func177,rfl,by kernel_rfl,rfl⟩ (fun x=>by exact Au5 x.1 x.2)
noncomputable def HJ (s0:(Bool×(List Int))) (s1:(List Int)) (s2:Bool) (s3:Int):Option (((Bool×(List Int))×((List Int)×(Bool×Int))) ⊕ ((Bool×(List Int))×((List Int)×Bool))) :=
 bif decide (s3>(0:Int)) then
  ((appL 8 1 s1 (List.cons (Go.IntKind.wrap Go.IntKind.i64 (Int.tmod s3 (65536:Int))) (List.nil:List Int)))).bind fun x0 =>
  some (Sum.inl ((s0.1,s0.2),(x0,(s2,(Go.IntKind.wrap Go.IntKind.u64 (Int.tdiv s3 (65536:Int)))))))
 else
 some (Sum.inr ((s0.1,s0.2),(s1,s2)))
noncomputable def BB (a0:Int):Option ((Bool×List (Int))) :=
 (bif decide (a0<(0:Int)) then
   some (Sum.inr ((false,(List.nil:List Int)),(decide (a0<(0:Int)),(Go.IntKind.wrap Go.IntKind.u64 ((0:Int)-(Go.IntKind.wrap Go.IntKind.u64 a0))))))
  else
  some (Sum.inr ((false,(List.nil:List Int)),(decide (a0<(0:Int)),(Go.IntKind.wrap Go.IntKind.u64 a0))))).bind fun x0 =>
 Sum.elim
  (fun x1 =>
  some x1)
  (fun x2 =>
  (loopM (fun (s:((Bool×(List Int))×((List Int)×(Bool×Int))))=>HJ s.1 s.2.1 s.2.2.1 s.2.2.2) ((x2.1.1,x2.1.2),((List.nil:List Int),(x2.2.1,x2.2.2)))).bind fun x3 =>
  some (x3.2.2,x3.2.1))
  x0
noncomputable def EX:Ent:=⟨Ok,fun x=>BB x⟩
noncomputable def Wt:TX:=⟨tyTab,codTab,[],[4],[],Ok⟩
set_option maxHeartbeats 2000000 in
theorem Au6 (a0:Int):wtF Wt Tryz.f104 (a0)=BB a0:=by kernel_rfl
theorem EW:EntOK RR EX:=Ab (X:=Wt) ⟨tyOK,boolOK,eqOK⟩ (Ad (by exact trivial)) (Ae (by kernel_rfl)) ⟨Tryz.func104,rfl,by kernel_rfl,rfl⟩ (fun x=>by exact Au6 x)
noncomputable def DL (s0:(Bool×(List Int))) (s1:(Bool×(List Int))) (s2:(Bool×(List Int))) (s3:(List Int)) (s4:Int) (s5:Int) (s6:Int) (s7:(List Int)) (s8:Int) (s9:Int) (s10:(List Int)) (s11:Int) (s12:Int):Option (((Bool×(List Int))×((Bool×(List Int))×((Bool×(List Int))×((List Int)×(Int×(Int×(Int×((List Int)×(Int×(Int×((List Int)×(Int×Int)))))))))))) ⊕ ((Bool×(List Int))×((Bool×(List Int))×((Bool×(List Int))×((List Int)×(Int×(Int×((List Int)×(Int×Int))))))))) :=
 bif decide (s12<s11) then
  ((getI s10 s12)).bind fun x0 =>
  ((idxI (Go.IntKind.wrap Go.IntKind.i64 (s4 + s12)) (List.length s3))).bind fun x1 =>
  ((getN s3 x1)).bind fun x2 =>
  ((idxI (Go.IntKind.wrap Go.IntKind.i64 (s4 + s12)) (List.length s3))).bind fun x3 =>
  ((getN s3 x3)).bind fun x4 =>
  some (Sum.inl ((s0.1,s0.2),((s1.1,s1.2),((s2.1,s2.2),((List.set s3 x3 (Int.tmod (Go.IntKind.wrap Go.IntKind.i64 (s6 + (Go.IntKind.wrap Go.IntKind.i64 (x2 + (Go.IntKind.wrap Go.IntKind.i64 (s5*x0)))))) (65536:Int))),(s4,(s5,((Go.IntKind.wrap Go.IntKind.i64 (Int.tdiv (Go.IntKind.wrap Go.IntKind.i64 (s6 + (Go.IntKind.wrap Go.IntKind.i64 (x2 + (Go.IntKind.wrap Go.IntKind.i64 (s5*x0)))))) (65536:Int))),(s7,(s8,(s9,(s10,(s11,(Go.IntKind.wrap Go.IntKind.i64 (s12 + (1:Int))))))))))))))))
 else
 some (Sum.inr ((s0.1,s0.2),((s1.1,s1.2),((s2.1,s2.2),(s3,(s4,(s6,(s7,(s8,s9)))))))))
noncomputable def Fq (s0:(Bool×(List Int))) (s1:(Bool×(List Int))) (s2:(Bool×(List Int))) (s3:(List Int)) (s4:(List Int)) (s5:Int) (s6:Int):Option (((Bool×(List Int))×((Bool×(List Int))×((Bool×(List Int))×((List Int)×((List Int)×(Int×Int)))))) ⊕ ((Bool×(List Int))×((Bool×(List Int))×((Bool×(List Int))×(List Int))))) :=
 bif decide (s6<s5) then
  ((getI s4 s6)).bind fun x0 =>
  (loopM (fun (s:((Bool×(List Int))×((Bool×(List Int))×((Bool×(List Int))×((List Int)×(Int×(Int×(Int×((List Int)×(Int×(Int×((List Int)×(Int×Int)))))))))))))=>DL s.1 s.2.1 s.2.2.1 s.2.2.2.1 s.2.2.2.2.1 s.2.2.2.2.2.1 s.2.2.2.2.2.2.1 s.2.2.2.2.2.2.2.1 s.2.2.2.2.2.2.2.2.1 s.2.2.2.2.2.2.2.2.2.1 s.2.2.2.2.2.2.2.2.2.2.1 s.2.2.2.2.2.2.2.2.2.2.2.1 s.2.2.2.2.2.2.2.2.2.2.2.2) ((s0.1,s0.2),((s1.1,s1.2),((s2.1,s2.2),(s3,(s6,(x0,((0:Int),(s4,(s5,(s6,(s1.2,((((List.length s1.2):Nat):Int),(0:Int)))))))))))))).bind fun x1 =>
  ((idxI (Go.IntKind.wrap Go.IntKind.i64 (x1.2.2.2.2.1 + (((List.length x1.2.1.2):Nat):Int))) (List.length x1.2.2.2.1))).bind fun x2 =>
  ((getN x1.2.2.2.1 x2)).bind fun x3 =>
  ((idxI (Go.IntKind.wrap Go.IntKind.i64 (x1.2.2.2.2.1 + (((List.length x1.2.1.2):Nat):Int))) (List.length x1.2.2.2.1))).bind fun x4 =>
  ((getN x1.2.2.2.1 x4)).bind fun x5 =>
  some (Sum.inl ((x1.1.1,x1.1.2),((x1.2.1.1,x1.2.1.2),((x1.2.2.1.1,x1.2.2.1.2),((List.set x1.2.2.2.1 x4 (Go.IntKind.wrap Go.IntKind.i64 (x3 + x1.2.2.2.2.2.1))),(x1.2.2.2.2.2.2.1,(x1.2.2.2.2.2.2.2.1,(Go.IntKind.wrap Go.IntKind.i64 (x1.2.2.2.2.2.2.2.2 + (1:Int))))))))))
 else
 some (Sum.inr ((s0.1,s0.2),((s1.1,s1.2),((s2.1,s2.2),s3))))
noncomputable def AV (a0:(Bool×(List Int))) (a1:(Bool×(List Int))):Option (List (Int)×(Bool)) :=
 ((lenI (Go.IntKind.wrap Go.IntKind.i64 ((((List.length a0.2):Nat):Int) + (((List.length a1.2):Nat):Int))) 8 1)).bind fun x0 =>
 (loopM (fun (s:((Bool×(List Int))×((Bool×(List Int))×((Bool×(List Int))×((List Int)×((List Int)×(Int×Int)))))))=>Fq s.1 s.2.1 s.2.2.1 s.2.2.2.1 s.2.2.2.2.1 s.2.2.2.2.2.1 s.2.2.2.2.2.2) ((a0.1,a0.2),((a1.1,a1.2),((false,(List.nil:List Int)),((List.replicate x0 (0:Int)),(a0.2,((((List.length a0.2):Nat):Int),(0:Int)))))))).bind fun x1 =>
 ((AL (!(x1.1.1==x1.2.1.1)) x1.2.2.2)).bind fun x2 =>
 some (x2.1,x2.2)
noncomputable def D5:Ent:=⟨KC,fun x=>AV x.1 x.2⟩
noncomputable def Qc:TX:=⟨tyTab,codTab,[],[4],[CN],KC⟩
set_option maxHeartbeats 2000000 in
theorem YR (a0:(Bool×List (Int))) (a1:(Bool×List (Int))):wtF Qc Tryz.f179 (a0,a1)=AV a0 a1:=by kernel_rfl
theorem EP:EntOK RR D5:=Ab (X:=Qc) ⟨tyOK,boolOK,eqOK⟩ (Ad (by exact ⟨⟨CD,rfl⟩,trivial⟩)) (Ae (by kernel_rfl)) ⟨Tryz.func179,rfl,by kernel_rfl,rfl⟩ (fun x=>by exact YR x.1 x.2)
noncomputable def Kx (s0:(List Int)) (s1:(List Int)) (s2:(List Int)) (s3:Int) (s4:Int):Option (((List Int)×((List Int)×((List Int)×(Int×Int)))) ⊕ ((List Int)×((List Int)×(Int×Int)))) :=
 bif decide ((((List.length s0):Nat):Int)<(Go.IntKind.wrap Go.IntKind.i64 ((((List.length s2):Nat):Int) + (1:Int)))) then
  ((appL 8 1 s0 (List.cons (0:Int) (List.nil:List Int)))).bind fun x0 =>
  some (Sum.inl (x0,(s1,(s2,(s3,s4)))))
 else
 some (Sum.inr (s0,(s1,(s3,s4))))
noncomputable def BP (s0:(List Int)) (s1:(List Int)) (s2:(List Int)) (s3:Int) (s4:Int) (s5:Int) (s6:Int) (s7:Int):Option (((List Int)×((List Int)×((List Int)×(Int×(Int×(Int×(Int×Int))))))) ⊕ ((List Int)×((List Int)×((List Int)×(Int×(Int×(Int×Int))))))) :=
 (bif decide (s6≥(65536:Int)) then
   some (Sum.inr (s0,(s1,(s2,(s3,(s4,(s5,(s6,s7))))))))
  else
  bif decide (s7<(65536:Int)) then
   ((idxI (Go.IntKind.wrap Go.IntKind.i64 (s3-(2:Int))) (List.length s1))).bind fun x0 =>
   ((getN s1 x0)).bind fun x1 =>
   ((idxI (Go.IntKind.wrap Go.IntKind.i64 ((Go.IntKind.wrap Go.IntKind.i64 (s5 + s3))-(2:Int))) (List.length s0))).bind fun x2 =>
   ((getN s0 x2)).bind fun x3 =>
   bif decide ((Go.IntKind.wrap Go.IntKind.i64 (s6*x1))>(Go.IntKind.wrap Go.IntKind.i64 ((Go.IntKind.wrap Go.IntKind.i64 (s7*(65536:Int))) + x3))) then
    some (Sum.inr (s0,(s1,(s2,(s3,(s4,(s5,(s6,s7))))))))
   else
   some (Sum.inl (Sum.inr (s0,(s1,(s2,(s3,(s4,(s5,s6))))))))
  else
  some (Sum.inl (Sum.inr (s0,(s1,(s2,(s3,(s4,(s5,s6))))))))).bind fun x4 =>
 Sum.elim
  (fun x5 =>
  some x5)
  (fun x6 =>
  ((idxI (Go.IntKind.wrap Go.IntKind.i64 (x6.2.2.2.1-(1:Int))) (List.length x6.2.1))).bind fun x7 =>
  ((getN x6.2.1 x7)).bind fun x8 =>
  some (Sum.inl (x6.1,(x6.2.1,(x6.2.2.1,(x6.2.2.2.1,(x6.2.2.2.2.1,(x6.2.2.2.2.2.1,((Go.IntKind.wrap Go.IntKind.i64 (x6.2.2.2.2.2.2.1-(1:Int))),(Go.IntKind.wrap Go.IntKind.i64 (x6.2.2.2.2.2.2.2 + x8)))))))))))
  x4
noncomputable def Dc (s0:(List Int)) (s1:(List Int)) (s2:(List Int)) (s3:Int) (s4:Int) (s5:Int) (s6:Int) (s7:Int) (s8:Int) (s9:Int):Option (((List Int)×((List Int)×((List Int)×(Int×(Int×(Int×(Int×(Int×(Int×Int))))))))) ⊕ ((List Int)×((List Int)×((List Int)×(Int×(Int×(Int×(Int×Int)))))))) :=
 bif decide (s9<s8) then
  ((idxI (Go.IntKind.wrap Go.IntKind.i64 (s5 + s9)) (List.length s0))).bind fun x0 =>
  ((getN s0 x0)).bind fun x1 =>
  ((idxI s9 (List.length s1))).bind fun x2 =>
  ((getN s1 x2)).bind fun x3 =>
  (bif decide ((Go.IntKind.wrap Go.IntKind.i64 ((Go.IntKind.wrap Go.IntKind.i64 (x1-(Go.IntKind.wrap Go.IntKind.i64 (s6*x3))))-s7))<(0:Int)) then
    some (Sum.inr (s0,(s1,(s2,(s3,(s4,(s5,(s6,((Go.IntKind.wrap Go.IntKind.i64 (Int.tdiv (Go.IntKind.wrap Go.IntKind.i64 ((Go.IntKind.wrap Go.IntKind.i64 ((Go.IntKind.wrap Go.IntKind.i64 ((0:Int)-(Go.IntKind.wrap Go.IntKind.i64 ((Go.IntKind.wrap Go.IntKind.i64 (x1-(Go.IntKind.wrap Go.IntKind.i64 (s6*x3))))-s7)))) + (65536:Int)))-(1:Int))) (65536:Int))),(s9,((Go.IntKind.wrap Go.IntKind.i64 ((Go.IntKind.wrap Go.IntKind.i64 ((Go.IntKind.wrap Go.IntKind.i64 (x1-(Go.IntKind.wrap Go.IntKind.i64 (s6*x3))))-s7)) + (Go.IntKind.wrap Go.IntKind.i64 ((Go.IntKind.wrap Go.IntKind.i64 (Int.tdiv (Go.IntKind.wrap Go.IntKind.i64 ((Go.IntKind.wrap Go.IntKind.i64 ((Go.IntKind.wrap Go.IntKind.i64 ((0:Int)-(Go.IntKind.wrap Go.IntKind.i64 ((Go.IntKind.wrap Go.IntKind.i64 (x1-(Go.IntKind.wrap Go.IntKind.i64 (s6*x3))))-s7)))) + (65536:Int)))-(1:Int))) (65536:Int)))*(65536:Int))))),(s8,s9))))))))))))
   else
   some (Sum.inr (s0,(s1,(s2,(s3,(s4,(s5,(s6,((0:Int),(s9,((Go.IntKind.wrap Go.IntKind.i64 ((Go.IntKind.wrap Go.IntKind.i64 (x1-(Go.IntKind.wrap Go.IntKind.i64 (s6*x3))))-s7)),(s8,s9))))))))))))).bind fun x4 =>
  Sum.elim
   (fun x5 =>
   some x5)
   (fun x6 =>
   ((idxI (Go.IntKind.wrap Go.IntKind.i64 (x6.2.2.2.2.2.1 + x6.2.2.2.2.2.2.2.2.1)) (List.length x6.1))).bind fun x7 =>
   ((getN x6.1 x7)).bind fun x8 =>
   some (Sum.inl ((List.set x6.1 x7 x6.2.2.2.2.2.2.2.2.2.1),(x6.2.1,(x6.2.2.1,(x6.2.2.2.1,(x6.2.2.2.2.1,(x6.2.2.2.2.2.1,(x6.2.2.2.2.2.2.1,(x6.2.2.2.2.2.2.2.1,(x6.2.2.2.2.2.2.2.2.2.2.1,(Go.IntKind.wrap Go.IntKind.i64 (x6.2.2.2.2.2.2.2.2.2.2.2 + (1:Int))))))))))))))
   x4
 else
 some (Sum.inr (s0,(s1,(s2,(s3,(s4,(s5,(s6,s7))))))))
noncomputable def Db (s0:(List Int)) (s1:(List Int)) (s2:(List Int)) (s3:Int) (s4:Int) (s5:Int) (s6:Int) (s7:Int) (s8:Int) (s9:Int):Option (((List Int)×((List Int)×((List Int)×(Int×(Int×(Int×(Int×(Int×(Int×Int))))))))) ⊕ ((List Int)×((List Int)×((List Int)×(Int×(Int×(Int×(Int×Int)))))))) :=
 bif decide (s9<s8) then
  ((idxI (Go.IntKind.wrap Go.IntKind.i64 (s5 + s9)) (List.length s0))).bind fun x0 =>
  ((getN s0 x0)).bind fun x1 =>
  ((idxI s9 (List.length s1))).bind fun x2 =>
  ((getN s1 x2)).bind fun x3 =>
  ((idxI (Go.IntKind.wrap Go.IntKind.i64 (s5 + s9)) (List.length s0))).bind fun x4 =>
  ((getN s0 x4)).bind fun x5 =>
  some (Sum.inl ((List.set s0 x4 (Int.tmod (Go.IntKind.wrap Go.IntKind.i64 (s7 + (Go.IntKind.wrap Go.IntKind.i64 (x1 + x3)))) (65536:Int))),(s1,(s2,(s3,(s4,(s5,(s6,((Go.IntKind.wrap Go.IntKind.i64 (Int.tdiv (Go.IntKind.wrap Go.IntKind.i64 (s7 + (Go.IntKind.wrap Go.IntKind.i64 (x1 + x3)))) (65536:Int))),(s8,(Go.IntKind.wrap Go.IntKind.i64 (s9 + (1:Int)))))))))))))
 else
 some (Sum.inr (s0,(s1,(s2,(s3,(s4,(s5,(s6,s7))))))))
noncomputable def BO (s0:(List Int)) (s1:(List Int)) (s2:(List Int)) (s3:Int) (s4:Int) (s5:Int):Option (((List Int)×((List Int)×((List Int)×(Int×(Int×Int))))) ⊕ ((List Int)×((List Int)×(Int×Int)))) :=
 bif decide (s5≥(0:Int)) then
  ((idxI (Go.IntKind.wrap Go.IntKind.i64 (s5 + s3)) (List.length s0))).bind fun x0 =>
  ((getN s0 x0)).bind fun x1 =>
  ((idxI (Go.IntKind.wrap Go.IntKind.i64 ((Go.IntKind.wrap Go.IntKind.i64 (s5 + s3))-(1:Int))) (List.length s0))).bind fun x2 =>
  ((getN s0 x2)).bind fun x3 =>
  ((idxI (Go.IntKind.wrap Go.IntKind.i64 (s3-(1:Int))) (List.length s1))).bind fun x4 =>
  ((getN s1 x4)).bind fun x5 =>
  bif (x5==(0:Int)) then
   none
  else
  ((idxI (Go.IntKind.wrap Go.IntKind.i64 (s3-(1:Int))) (List.length s1))).bind fun x6 =>
  ((getN s1 x6)).bind fun x7 =>
  bif (x7==(0:Int)) then
   none
  else
  (loopM (fun (s:((List Int)×((List Int)×((List Int)×(Int×(Int×(Int×(Int×Int))))))))=>BP s.1 s.2.1 s.2.2.1 s.2.2.2.1 s.2.2.2.2.1 s.2.2.2.2.2.1 s.2.2.2.2.2.2.1 s.2.2.2.2.2.2.2) (s0,(s1,(s2,(s3,(s4,(s5,((Go.IntKind.wrap Go.IntKind.i64 (Int.tdiv (Go.IntKind.wrap Go.IntKind.i64 ((Go.IntKind.wrap Go.IntKind.i64 (x1*(65536:Int))) + x3)) x5)),(Int.tmod (Go.IntKind.wrap Go.IntKind.i64 ((Go.IntKind.wrap Go.IntKind.i64 (x1*(65536:Int))) + x3)) x7))))))))).bind fun x8 =>
  (loopM (fun (s:((List Int)×((List Int)×((List Int)×(Int×(Int×(Int×(Int×(Int×(Int×Int))))))))))=>Dc s.1 s.2.1 s.2.2.1 s.2.2.2.1 s.2.2.2.2.1 s.2.2.2.2.2.1 s.2.2.2.2.2.2.1 s.2.2.2.2.2.2.2.1 s.2.2.2.2.2.2.2.2.1 s.2.2.2.2.2.2.2.2.2) (x8.1,(x8.2.1,(x8.2.2.1,(x8.2.2.2.1,(x8.2.2.2.2.1,(x8.2.2.2.2.2.1,(x8.2.2.2.2.2.2,((0:Int),(x8.2.2.2.1,(0:Int))))))))))).bind fun x9 =>
  ((idxI (Go.IntKind.wrap Go.IntKind.i64 (x9.2.2.2.2.2.1 + x9.2.2.2.1)) (List.length x9.1))).bind fun x10 =>
  ((getN x9.1 x10)).bind fun x11 =>
  ((idxI (Go.IntKind.wrap Go.IntKind.i64 (x9.2.2.2.2.2.1 + x9.2.2.2.1)) (List.length x9.1))).bind fun x12 =>
  ((getN x9.1 x12)).bind fun x13 =>
  ((idxI (Go.IntKind.wrap Go.IntKind.i64 (x9.2.2.2.2.2.1 + x9.2.2.2.1)) (List.length (List.set x9.1 x12 (Go.IntKind.wrap Go.IntKind.i64 (x11-x9.2.2.2.2.2.2.2)))))).bind fun x14 =>
  ((getN (List.set x9.1 x12 (Go.IntKind.wrap Go.IntKind.i64 (x11-x9.2.2.2.2.2.2.2))) x14)).bind fun x15 =>
  bif decide (x15<(0:Int)) then
   (loopM (fun (s:((List Int)×((List Int)×((List Int)×(Int×(Int×(Int×(Int×(Int×(Int×Int))))))))))=>Db s.1 s.2.1 s.2.2.1 s.2.2.2.1 s.2.2.2.2.1 s.2.2.2.2.2.1 s.2.2.2.2.2.2.1 s.2.2.2.2.2.2.2.1 s.2.2.2.2.2.2.2.2.1 s.2.2.2.2.2.2.2.2.2) ((List.set x9.1 x12 (Go.IntKind.wrap Go.IntKind.i64 (x11-x9.2.2.2.2.2.2.2))),(x9.2.1,(x9.2.2.1,(x9.2.2.2.1,(x9.2.2.2.2.1,(x9.2.2.2.2.2.1,((Go.IntKind.wrap Go.IntKind.i64 (x9.2.2.2.2.2.2.1-(1:Int))),((0:Int),(x9.2.2.2.1,(0:Int))))))))))).bind fun x16 =>
   ((idxI (Go.IntKind.wrap Go.IntKind.i64 (x16.2.2.2.2.2.1 + x16.2.2.2.1)) (List.length x16.1))).bind fun x17 =>
   ((getN x16.1 x17)).bind fun x18 =>
   ((idxI (Go.IntKind.wrap Go.IntKind.i64 (x16.2.2.2.2.2.1 + x16.2.2.2.1)) (List.length x16.1))).bind fun x19 =>
   ((getN x16.1 x19)).bind fun x20 =>
   ((idxI x16.2.2.2.2.2.1 (List.length x16.2.2.1))).bind fun x21 =>
   ((getN x16.2.2.1 x21)).bind fun x22 =>
   some (Sum.inl ((List.set x16.1 x19 (Go.IntKind.wrap Go.IntKind.i64 (x18 + x16.2.2.2.2.2.2.2))),(x16.2.1,((List.set x16.2.2.1 x21 x16.2.2.2.2.2.2.1),(x16.2.2.2.1,(x16.2.2.2.2.1,(Go.IntKind.wrap Go.IntKind.i64 (x16.2.2.2.2.2.1-(1:Int)))))))))
  else
  ((idxI x9.2.2.2.2.2.1 (List.length x9.2.2.1))).bind fun x23 =>
  ((getN x9.2.2.1 x23)).bind fun x24 =>
  some (Sum.inl ((List.set x9.1 x12 (Go.IntKind.wrap Go.IntKind.i64 (x11-x9.2.2.2.2.2.2.2))),(x9.2.1,((List.set x9.2.2.1 x23 x9.2.2.2.2.2.2.1),(x9.2.2.2.1,(x9.2.2.2.2.1,(Go.IntKind.wrap Go.IntKind.i64 (x9.2.2.2.2.2.1-(1:Int)))))))))
 else
 some (Sum.inr (s0,(s2,(s3,s4))))
noncomputable def Dj (a0:(List Int)) (a1:(List Int)):Option (List (Int)×List (Int)) :=
 ((A8 a0 a1)).bind fun x0 =>
 bif decide (x0<(0:Int)) then
  some ((List.nil:List Int),a0)
 else
 bif ((((List.length a1):Nat):Int)==(1:Int)) then
  ((getI a1 (0:Int))).bind fun x1 =>
  ((Dk a0 x1)).bind fun x2 =>
  ((Ft (List.cons x2.2 (List.nil:List Int)))).bind fun x3 =>
  some (x2.1,x3)
 else
 ((getI a1 (Go.IntKind.wrap Go.IntKind.i64 ((((List.length a1):Nat):Int)-(1:Int))))).bind fun x4 =>
 bif ((Go.IntKind.wrap Go.IntKind.i64 (x4 + (1:Int)))==(0:Int)) then
  none
 else
 ((AL false a0)).bind fun x5 =>
 ((BB (Go.IntKind.wrap Go.IntKind.i64 (Int.tdiv (65536:Int) (Go.IntKind.wrap Go.IntKind.i64 (x4 + (1:Int))))))).bind fun x6 =>
 ((AV (x5.2,x5.1) (x6.1,x6.2))).bind fun x7 =>
 ((appL 8 1 x7.1 (List.cons (0:Int) (List.nil:List Int)))).bind fun x8 =>
 ((AL false a1)).bind fun x9 =>
 ((BB (Go.IntKind.wrap Go.IntKind.i64 (Int.tdiv (65536:Int) (Go.IntKind.wrap Go.IntKind.i64 (x4 + (1:Int))))))).bind fun x10 =>
 ((AV (x9.2,x9.1) (x10.1,x10.2))).bind fun x11 =>
 (loopM (fun (s:((List Int)×((List Int)×((List Int)×(Int×Int)))))=>Kx s.1 s.2.1 s.2.2.1 s.2.2.2.1 s.2.2.2.2) (x8,(x11.1,(a0,((((List.length a1):Nat):Int),(Go.IntKind.wrap Go.IntKind.i64 (Int.tdiv (65536:Int) (Go.IntKind.wrap Go.IntKind.i64 (x4 + (1:Int)))))))))).bind fun x12 =>
 ((lenI (Go.IntKind.wrap Go.IntKind.i64 ((((List.length x12.1):Nat):Int)-x12.2.2.1)) 8 1)).bind fun x13 =>
 (loopM (fun (s:((List Int)×((List Int)×((List Int)×(Int×(Int×Int))))))=>BO s.1 s.2.1 s.2.2.1 s.2.2.2.1 s.2.2.2.2.1 s.2.2.2.2.2) (x12.1,(x12.2.1,((List.replicate x13 (0:Int)),(x12.2.2.1,(x12.2.2.2,(Go.IntKind.wrap Go.IntKind.i64 ((Go.IntKind.wrap Go.IntKind.i64 ((((List.length x12.1):Nat):Int)-x12.2.2.1))-(1:Int))))))))).bind fun x14 =>
 ((subI (0:Int) x14.2.2.1 (List.length x14.1))).bind fun x15 =>
 ((Ft (List.drop x15.1 (List.take (x15.1 + (x15.2-x15.1)) x14.1)))).bind fun x16 =>
 ((Dk x16 x14.2.2.2)).bind fun x17 =>
 ((Ft x14.2.1)).bind fun x18 =>
 some (x18,x17.1)
noncomputable def I4:Ent:=⟨IP,fun x=>Dj x.1 x.2⟩
noncomputable def Od:TX:=⟨tyTab,codTab,[],[4],[Dp,M3,Nx,CN,EX,D5],IP⟩
set_option maxHeartbeats 2000000 in
theorem Xh (a0:List (Int)) (a1:List (Int)):wtF Od Tryz.f244 (a0,a1)=Dj a0 a1:=by kernel_rfl
theorem LU:EntOK RR I4:=Ab (X:=Od) ⟨tyOK,boolOK,eqOK⟩ (Ad (by exact ⟨⟨Eu,rfl⟩,⟨⟨UY,rfl⟩,⟨⟨MS,rfl⟩,⟨⟨CD,rfl⟩,⟨⟨EW,rfl⟩,⟨⟨EP,rfl⟩,trivial⟩⟩⟩⟩⟩⟩)) (Ae (by kernel_rfl)) ⟨Tryz.func244,rfl,by kernel_rfl,rfl⟩ (fun x=>by exact Xh x.1 x.2)
noncomputable def Fp (s0:(Bool×(List Int))) (s1:(List Int)) (s2:(List Int)):Option (((Bool×(List Int))×((List Int)×(List Int))) ⊕ ((Bool×(List Int))×(List Int))) :=
 bif decide ((((List.length s2):Nat):Int)>(0:Int)) then
  ((Dj s1 s2)).bind fun x0 =>
  some (Sum.inl ((s0.1,s0.2),(s2,x0.2)))
 else
 some (Sum.inr ((s0.1,s0.2),s1))
noncomputable def Eb (a0:(Bool×(List Int))) (a1:(Bool×(List Int))):Option ((Bool×List (Int))) :=
 (loopM (fun (s:((Bool×(List Int))×((List Int)×(List Int))))=>Fp s.1 s.2.1 s.2.2) ((false,(List.nil:List Int)),(a0.2,a1.2))).bind fun x0 =>
 ((AL false x0.2)).bind fun x1 =>
 some (x1.2,x1.1)
noncomputable def KX:Ent:=⟨J9,fun x=>Eb x.1 x.2⟩
noncomputable def Qp:TX:=⟨tyTab,codTab,[],[4],[I4,CN],J9⟩
set_option maxHeartbeats 2000000 in
theorem YV (a0:(Bool×List (Int))) (a1:(Bool×List (Int))):wtF Qp Tryz.f180 (a0,a1)=Eb a0 a1:=by kernel_rfl
theorem Nt:EntOK RR KX:=Ab (X:=Qp) ⟨tyOK,boolOK,eqOK⟩ (Ad (by exact ⟨⟨LU,rfl⟩,⟨⟨CD,rfl⟩,trivial⟩⟩)) (Ae (by kernel_rfl)) ⟨Tryz.func180,rfl,by kernel_rfl,rfl⟩ (fun x=>by exact YV x.1 x.2)
noncomputable def Co (a0:(Bool×(List Int))) (a1:(Bool×(List Int))):Option (Int) :=
 ((AY (a0.1,a0.2))).bind fun x0 =>
 ((AY (a1.1,a1.2))).bind fun x1 =>
 bif (x0 != x1) then
  ((AY (a0.1,a0.2))).bind fun x2 =>
  ((AY (a1.1,a1.2))).bind fun x3 =>
  ((Bg x2 x3)).bind fun x4 =>
  some x4
 else
 ((AY (a0.1,a0.2))).bind fun x5 =>
 ((A8 a0.2 a1.2)).bind fun x6 =>
 some (Go.IntKind.wrap Go.IntKind.i64 (x5*x6))
noncomputable def Hj:Ent:=⟨GY,fun x=>Co x.1 x.2⟩
noncomputable def Kv:TX:=⟨tyTab,codTab,[],[4],[Ga,Ey,Dp],GY⟩
set_option maxHeartbeats 2000000 in
theorem S9 (a0:(Bool×List (Int))) (a1:(Bool×List (Int))):wtF Kv Tryz.f236 (a0,a1)=Co a0 a1:=by kernel_rfl
theorem Jy:EntOK RR Hj:=Ab (X:=Kv) ⟨tyOK,boolOK,eqOK⟩ (Ad (by exact ⟨⟨H0,rfl⟩,⟨⟨Gz,rfl⟩,⟨⟨Eu,rfl⟩,trivial⟩⟩⟩)) (Ae (by kernel_rfl)) ⟨Tryz.func236,rfl,by kernel_rfl,rfl⟩ (fun x=>by exact S9 x.1 x.2)
noncomputable def FH (a0:(Bool×((List Int)×(Bool×(List Int))))):Option (Bool) :=
 ((Fk (List.cons (a0.1,a0.2.1) (List.cons (a0.2.2.1,a0.2.2.2) (List.nil:List (Bool×(List Int))))))).bind fun x0 =>
 bif x0 then
  ((AY (a0.2.2.1,a0.2.2.2))).bind fun x1 =>
  bif decide (x1>(0:Int)) then
   ((Eb (a0.1,a0.2.1) (a0.2.2.1,a0.2.2.2))).bind fun x2 =>
   ((BB (1:Int))).bind fun x3 =>
   ((Co (x2.1,x2.2) (x3.1,x3.2))).bind fun x4 =>
   some (x4==(0:Int))
  else
  some false
 else
 some false
noncomputable def QR:Ent:=⟨Kj,fun x=>FH x⟩
noncomputable def Qk:TX:=⟨tyTab,codTab,[],[4],[Ub,Ga,KX,EX,Hj],Kj⟩
set_option maxHeartbeats 2000000 in
theorem ZQ (a0:(Bool×List (Int)×Bool×List (Int))):wtF Qk Tryz.f176 (a0)=FH a0:=by kernel_rfl
theorem WS:EntOK RR QR:=Ab (X:=Qk) ⟨tyOK,boolOK,eqOK⟩ (Ad (by exact ⟨⟨YO,rfl⟩,⟨⟨H0,rfl⟩,⟨⟨Nt,rfl⟩,⟨⟨EW,rfl⟩,⟨⟨Jy,rfl⟩,trivial⟩⟩⟩⟩⟩)) (Ae (by kernel_rfl)) ⟨Tryz.func176,rfl,by kernel_rfl,rfl⟩ (fun x=>by exact ZQ x)
noncomputable def Fs (s0:(List ((Bool×(List Int))×(Bool×(List Int))))) (s1:Int) (s2:Int):Option (((List ((Bool×(List Int))×(Bool×(List Int))))×(Int×Int)) ⊕ (Unit ⊕ Bool)) :=
 bif decide (s2<s1) then
  ((getI s0 s2)).bind fun x0 =>
  ((FH (x0.1.1,(x0.1.2,(x0.2.1,x0.2.2))))).bind fun x1 =>
  bif (!x1) then
   some (Sum.inr (Sum.inr false))
  else
  some (Sum.inl (s0,(s1,(Go.IntKind.wrap Go.IntKind.i64 (s2 + (1:Int))))))
 else
 some (Sum.inr (Sum.inl ()))
noncomputable def Bx (a0:(List ((Bool×(List Int))×(Bool×(List Int))))):Option (Bool) :=
 (loopM (fun (s:((List ((Bool×(List Int))×(Bool×(List Int))))×(Int×Int)))=>Fs s.1 s.2.1 s.2.2) (a0,((((List.length a0):Nat):Int),(0:Int)))).bind fun x0 =>
 Sum.elim
  (fun x1 =>
  some true)
  (fun x2 =>
  some x2)
  x0
noncomputable def HD:Ent:=⟨Kq,fun x=>Bx x⟩
noncomputable def PH:TX:=⟨tyTab,codTab,[],[4],[QR],Kq⟩
set_option maxHeartbeats 2000000 in
theorem Z7 (a0:List (((Bool×List (Int))×(Bool×List (Int))))):wtF PH Tryz.f88 (a0)=Bx a0:=by kernel_rfl
theorem IT:EntOK RR HD:=Ab (X:=PH) ⟨tyOK,boolOK,eqOK⟩ (Ad (by exact ⟨⟨WS,rfl⟩,trivial⟩)) (Ae (by kernel_rfl)) ⟨Tryz.func88,rfl,by kernel_rfl,rfl⟩ (fun x=>by exact Z7 x)
noncomputable def A4 (a0:(Bool×((List Int)×(Bool×(List Int))))) (a1:Int):Option (Bool) :=
 bif decide ((((List.length a0.2.1):Nat):Int)≤a1) then
  some (decide ((((List.length a0.2.2.2):Nat):Int)≤a1))
 else
 some false
noncomputable def FN:Ent:=⟨FY,fun x=>A4 x.1 x.2⟩
noncomputable def Jw:TX:=⟨tyTab,codTab,[],[4],[],FY⟩
set_option maxHeartbeats 2000000 in
theorem Q9 (a0:(Bool×List (Int)×Bool×List (Int))) (a1:Int):wtF Jw Tryz.f170 (a0,a1)=A4 a0 a1:=by kernel_rfl
theorem ID:EntOK RR FN:=Ab (X:=Jw) ⟨tyOK,boolOK,eqOK⟩ (Ad (by exact trivial)) (Ae (by kernel_rfl)) ⟨Tryz.func170,rfl,by kernel_rfl,rfl⟩ (fun x=>by exact Q9 x.1 x.2)
noncomputable def Dl (a0:(Bool×((List Int)×(Bool×((List Int)×(Bool×((List Int)×(Bool×(List Int))))))))) (a1:Int):Option (Bool) :=
 ((Bx (List.cons ((a0.1,a0.2.1),(a0.2.2.1,a0.2.2.2.1)) (List.cons ((a0.2.2.2.2.1,a0.2.2.2.2.2.1),(a0.2.2.2.2.2.2.1,a0.2.2.2.2.2.2.2)) (List.nil:List ((Bool×(List Int))×(Bool×(List Int)))))))).bind fun x0 =>
 bif x0 then
  ((A4 (a0.1,(a0.2.1,(a0.2.2.1,a0.2.2.2.1))) a1)).bind fun x1 =>
  bif x1 then
   ((A4 (a0.2.2.2.2.1,(a0.2.2.2.2.2.1,(a0.2.2.2.2.2.2.1,a0.2.2.2.2.2.2.2))) a1)).bind fun x2 =>
   some x2
  else
  some false
 else
 some false
noncomputable def Ox:Ent:=⟨Pe,fun x=>Dl x.1 x.2⟩
noncomputable def Wp:TX:=⟨tyTab,codTab,[],[4],[HD,FN],Pe⟩
set_option maxHeartbeats 2000000 in
theorem Au1 (a0:(Bool×List (Int)×Bool×List (Int)×Bool×List (Int)×Bool×List (Int))) (a1:Int):wtF Wp Tryz.f79 (a0,a1)=Dl a0 a1:=by kernel_rfl
theorem R6:EntOK RR Ox:=Ab (X:=Wp) ⟨tyOK,boolOK,eqOK⟩ (Ad (by exact ⟨⟨IT,rfl⟩,⟨⟨ID,rfl⟩,trivial⟩⟩)) (Ae (by kernel_rfl)) ⟨Tryz.func79,rfl,by kernel_rfl,rfl⟩ (fun x=>by exact Au1 x.1 x.2)
noncomputable def Da (a0:(Bool×((List Int)×(Bool×((List Int)×(Bool×((List Int)×(Bool×(List Int))))))))):Option (Bool) :=
 ((Dl (a0.1,(a0.2.1,(a0.2.2.1,(a0.2.2.2.1,(a0.2.2.2.2.1,(a0.2.2.2.2.2.1,(a0.2.2.2.2.2.2.1,a0.2.2.2.2.2.2.2))))))) (8:Int))).bind fun x0 =>
 some (!x0)
noncomputable def Kg:Ent:=⟨Hg,fun x=>Da x⟩
noncomputable def J0:TX:=⟨tyTab,codTab,[],[4],[Ox],Hg⟩
set_option maxHeartbeats 2000000 in
theorem TV (a0:(Bool×List (Int)×Bool×List (Int)×Bool×List (Int)×Bool×List (Int))):wtF J0 Tryz.f169 (a0)=Da a0:=by kernel_rfl
theorem Re:EntOK RR Kg:=Ab (X:=J0) ⟨tyOK,boolOK,eqOK⟩ (Ad (by exact ⟨⟨R6,rfl⟩,trivial⟩)) (Ae (by kernel_rfl)) ⟨Tryz.func169,rfl,by kernel_rfl,rfl⟩ (fun x=>by exact TV x)
noncomputable def Al (s0:(List (((Bool×(List Int))×(Bool×(List Int)))×((Bool×(List Int))×(Bool×(List Int)))))) (s1:Int) (s2:Int):Option (((List (((Bool×(List Int))×(Bool×(List Int)))×((Bool×(List Int))×(Bool×(List Int)))))×(Int×Int)) ⊕ (Unit ⊕ Int)) :=
 bif decide (s2<s1) then
  ((getI s0 s2)).bind fun x0 =>
  ((Da (x0.1.1.1,(x0.1.1.2,(x0.1.2.1,(x0.1.2.2,(x0.2.1.1,(x0.2.1.2,(x0.2.2.1,x0.2.2.2))))))))).bind fun x1 =>
  bif x1 then
   some (Sum.inr (Sum.inr s2))
  else
  some (Sum.inl (s0,(s1,(Go.IntKind.wrap Go.IntKind.i64 (s2 + (1:Int))))))
 else
 some (Sum.inr (Sum.inl ()))
noncomputable def AP (a0:(List (((Bool×(List Int))×(Bool×(List Int)))×((Bool×(List Int))×(Bool×(List Int)))))):Option (Int) :=
 (loopM (fun (s:((List (((Bool×(List Int))×(Bool×(List Int)))×((Bool×(List Int))×(Bool×(List Int)))))×(Int×Int)))=>Al s.1 s.2.1 s.2.2) (a0,((((List.length a0):Nat):Int),(0:Int)))).bind fun x0 =>
 Sum.elim
  (fun x1 =>
  some (-(1:Int)))
  (fun x2 =>
  some x2)
  x0
noncomputable def Cb:Ent:=⟨Bl,fun x=>AP x⟩
noncomputable def Ca:TX:=⟨tyTab,codTab,[],[4],[Kg],Bl⟩
set_option maxHeartbeats 2000000 in
theorem ET (a0:List ((((Bool×List (Int))×(Bool×List (Int)))×((Bool×List (Int))×(Bool×List (Int)))))):wtF Ca Tryz.f190 (a0)=AP a0:=by kernel_rfl
theorem EG:EntOK RR Cb:=Ab (X:=Ca) ⟨tyOK,boolOK,eqOK⟩ (Ad (by exact ⟨⟨Re,rfl⟩,trivial⟩)) (Ae (by kernel_rfl)) ⟨Tryz.func190,rfl,by kernel_rfl,rfl⟩ (fun x=>by exact ET x)
noncomputable def Aq (a0:(List (((Bool×(List Int))×(Bool×(List Int)))×((Bool×(List Int))×(Bool×(List Int)))))):Option (Bool) :=
 ((AP a0)).bind fun x0 =>
 some (decide (x0≥(0:Int)))
noncomputable def BN:Ent:=⟨A6,fun x=>Aq x⟩
noncomputable def BV:TX:=⟨tyTab,codTab,[],[4],[Cb],A6⟩
set_option maxHeartbeats 2000000 in
theorem DS (a0:List ((((Bool×List (Int))×(Bool×List (Int)))×((Bool×List (Int))×(Bool×List (Int)))))):wtF BV Tryz.f116 (a0)=Aq a0:=by kernel_rfl
theorem Dy:EntOK RR BN:=Ab (X:=BV) ⟨tyOK,boolOK,eqOK⟩ (Ad (by exact ⟨⟨EG,rfl⟩,trivial⟩)) (Ae (by kernel_rfl)) ⟨Tryz.func116,rfl,by kernel_rfl,rfl⟩ (fun x=>by exact DS x)
noncomputable def CE (a0:(List (((Bool×(List Int))×(Bool×(List Int)))×((Bool×(List Int))×(Bool×(List Int)))))):Option (Bool) :=
 bif decide ((((List.length a0):Nat):Int)≤(40:Int)) then
  ((Aq a0)).bind fun x0 =>
  some (!x0)
 else
 some false
noncomputable def Gf:Ent:=⟨IJ,fun x=>CE x⟩
noncomputable def Nm:TX:=⟨tyTab,codTab,[],[4],[BN],IJ⟩
set_option maxHeartbeats 2000000 in
theorem WP (a0:List ((((Bool×List (Int))×(Bool×List (Int)))×((Bool×List (Int))×(Bool×List (Int)))))):wtF Nm Tryz.f78 (a0)=CE a0:=by kernel_rfl
theorem HQ:EntOK RR Gf:=Ab (X:=Nm) ⟨tyOK,boolOK,eqOK⟩ (Ad (by exact ⟨⟨Dy,rfl⟩,trivial⟩)) (Ae (by kernel_rfl)) ⟨Tryz.func78,rfl,by kernel_rfl,rfl⟩ (fun x=>by exact WP x)
noncomputable def CU (a0:(Bool×((List Int)×(Bool×(List Int))))) (a1:(Bool×((List Int)×(Bool×(List Int))))):Option (Int) :=
 ((AV (a0.1,a0.2.1) (a1.2.2.1,a1.2.2.2))).bind fun x0 =>
 ((AV (a1.1,a1.2.1) (a0.2.2.1,a0.2.2.2))).bind fun x1 =>
 ((Co (x0.2,x0.1) (x1.2,x1.1))).bind fun x2 =>
 some x2
noncomputable def Kf:Ent:=⟨G7,fun x=>CU x.1 x.2⟩
noncomputable def KB:TX:=⟨tyTab,codTab,[],[4],[D5,Hj],G7⟩
set_option maxHeartbeats 2000000 in
theorem Ua (a0:(Bool×List (Int)×Bool×List (Int))) (a1:(Bool×List (Int)×Bool×List (Int))):wtF KB Tryz.f171 (a0,a1)=CU a0 a1:=by kernel_rfl
theorem Q5:EntOK RR Kf:=Ab (X:=KB) ⟨tyOK,boolOK,eqOK⟩ (Ad (by exact ⟨⟨EP,rfl⟩,⟨⟨Jy,rfl⟩,trivial⟩⟩)) (Ae (by kernel_rfl)) ⟨Tryz.func171,rfl,by kernel_rfl,rfl⟩ (fun x=>by exact Ua x.1 x.2)
noncomputable def A5 (a0:(Bool×((List Int)×(Bool×(List Int))))) (a1:(Bool×((List Int)×(Bool×(List Int))))):Option (Bool) :=
 ((CU (a0.1,(a0.2.1,(a0.2.2.1,a0.2.2.2))) (a1.1,(a1.2.1,(a1.2.2.1,a1.2.2.2))))).bind fun x0 =>
 some (decide (x0<(0:Int)))
noncomputable def Gi:Ent:=⟨I3,fun x=>A5 x.1 x.2⟩
noncomputable def Nq:TX:=⟨tyTab,codTab,[],[4],[Kf],I3⟩
set_option maxHeartbeats 2000000 in
theorem Xc (a0:(Bool×List (Int)×Bool×List (Int))) (a1:(Bool×List (Int)×Bool×List (Int))):wtF Nq Tryz.f80 (a0,a1)=A5 a0 a1:=by kernel_rfl
theorem HY:EntOK RR Gi:=Ab (X:=Nq) ⟨tyOK,boolOK,eqOK⟩ (Ad (by exact ⟨⟨Q5,rfl⟩,trivial⟩)) (Ae (by kernel_rfl)) ⟨Tryz.func80,rfl,by kernel_rfl,rfl⟩ (fun x=>by exact Xc x.1 x.2)
noncomputable def AR (a0:(Bool×((List Int)×(Bool×((List Int)×(Bool×((List Int)×(Bool×(List Int))))))))) (a1:Bool):Option ((Bool×List (Int)×Bool×List (Int))) :=
 bif a1 then
  some (a0.2.2.2.2.1,(a0.2.2.2.2.2.1,(a0.2.2.2.2.2.2.1,a0.2.2.2.2.2.2.2)))
 else
 some (a0.1,(a0.2.1,(a0.2.2.1,a0.2.2.2.1)))
noncomputable def DX:Ent:=⟨DQ,fun x=>AR x.1 x.2⟩
noncomputable def Hk:TX:=⟨tyTab,codTab,[],[4],[],DQ⟩
set_option maxHeartbeats 2000000 in
theorem Ma (a0:(Bool×List (Int)×Bool×List (Int)×Bool×List (Int)×Bool×List (Int))) (a1:Bool):wtF Hk Tryz.f238 (a0,a1)=AR a0 a1:=by kernel_rfl
theorem F3:EntOK RR DX:=Ab (X:=Hk) ⟨tyOK,boolOK,eqOK⟩ (Ad (by exact trivial)) (Ae (by kernel_rfl)) ⟨Tryz.func238,rfl,by kernel_rfl,rfl⟩ (fun x=>by exact Ma x.1 x.2)
noncomputable def DW (a0:Bool) (a1:Bool) (a2:(Bool×((List Int)×(Bool×(List Int))))) (a3:(Bool×((List Int)×(Bool×((List Int)×(Bool×((List Int)×(Bool×(List Int))))))))):Option ((Bool)×(Bool)×(Bool×List (Int)×Bool×List (Int))×Bool) :=
 bif a0 then
  ((AR (a3.1,(a3.2.1,(a3.2.2.1,(a3.2.2.2.1,(a3.2.2.2.2.1,(a3.2.2.2.2.2.1,(a3.2.2.2.2.2.2.1,a3.2.2.2.2.2.2.2))))))) a1)).bind fun x0 =>
  ((A5 (x0.1,(x0.2.1,(x0.2.2.1,x0.2.2.2))) (a2.1,(a2.2.1,(a2.2.2.1,a2.2.2.2))))).bind fun x1 =>
  some (a0,(a1,((a2.1,(a2.2.1,(a2.2.2.1,a2.2.2.2))),(!x1))))
 else
 ((AR (a3.1,(a3.2.1,(a3.2.2.1,(a3.2.2.2.1,(a3.2.2.2.2.1,(a3.2.2.2.2.2.1,(a3.2.2.2.2.2.2.1,a3.2.2.2.2.2.2.2))))))) a1)).bind fun x2 =>
 ((A5 (a2.1,(a2.2.1,(a2.2.2.1,a2.2.2.2))) (x2.1,(x2.2.1,(x2.2.2.1,x2.2.2.2))))).bind fun x3 =>
 some (a0,(a1,((a2.1,(a2.2.1,(a2.2.2.1,a2.2.2.2))),(!x3))))
noncomputable def Ue:Ent:=⟨MD,fun x=>DW x.1 x.2.1 x.2.2.1 x.2.2.2⟩
noncomputable def TL:TX:=⟨tyTab,codTab,[],[4],[DX,Gi],MD⟩
set_option maxHeartbeats 2000000 in
theorem Ah8 (a0:(Bool)) (a1:(Bool)) (a2:(Bool×List (Int)×Bool×List (Int))) (a3:(Bool×List (Int)×Bool×List (Int)×Bool×List (Int)×Bool×List (Int))):wtF TL Tryz.f237 (a0,a1,a2,a3)=DW a0 a1 a2 a3:=by kernel_rfl
theorem YT:EntOK RR Ue:=Ab (X:=TL) ⟨tyOK,boolOK,eqOK⟩ (Ad (by exact ⟨⟨F3,rfl⟩,⟨⟨HY,rfl⟩,trivial⟩⟩)) (Ae (by kernel_rfl)) ⟨Tryz.func237,rfl,by kernel_rfl,rfl⟩ (fun x=>by exact Ah8 x.1 x.2.1 x.2.2.1 x.2.2.2)
noncomputable def C8 (a0:(Bool×(List Int))):Option ((Bool×List (Int))) :=
 ((AL (!a0.1) a0.2)).bind fun x0 =>
 some (x0.2,x0.1)
noncomputable def HC:Ent:=⟨KY,fun x=>C8 x⟩
noncomputable def PZ:TX:=⟨tyTab,codTab,[],[4],[CN],KY⟩
set_option maxHeartbeats 2000000 in
theorem Zf (a0:(Bool×List (Int))):wtF PZ Tryz.f181 (a0)=C8 a0:=by kernel_rfl
theorem Jd:EntOK RR HC:=Ab (X:=PZ) ⟨tyOK,boolOK,eqOK⟩ (Ad (by exact ⟨⟨CD,rfl⟩,trivial⟩)) (Ae (by kernel_rfl)) ⟨Tryz.func181,rfl,by kernel_rfl,rfl⟩ (fun x=>by exact Zf x)
noncomputable def FG (a0:(Bool×((List Int)×(Bool×(List Int))))):Option ((Bool×List (Int)×Bool×List (Int))) :=
 ((C8 (a0.1,a0.2.1))).bind fun x0 =>
 ((AL false a0.2.2.2)).bind fun x1 =>
 some (x0.1,(x0.2,(x1.2,x1.1)))
noncomputable def QU:Ent:=⟨Kb,fun x=>FG x⟩
noncomputable def QN:TX:=⟨tyTab,codTab,[],[4],[HC,CN],Kb⟩
set_option maxHeartbeats 2000000 in
theorem Z0 (a0:(Bool×List (Int)×Bool×List (Int))):wtF QN Tryz.f246 (a0)=FG a0:=by kernel_rfl
theorem XB:EntOK RR QU:=Ab (X:=QN) ⟨tyOK,boolOK,eqOK⟩ (Ad (by exact ⟨⟨Jd,rfl⟩,⟨⟨CD,rfl⟩,trivial⟩⟩)) (Ae (by kernel_rfl)) ⟨Tryz.func246,rfl,by kernel_rfl,rfl⟩ (fun x=>by exact Z0 x)
noncomputable def C9 (s0:(List Int)) (s1:(List Int)) (s2:(List Int)) (s3:Int) (s4:Int):Option (((List Int)×((List Int)×((List Int)×(Int×Int)))) ⊕ (List Int)) :=
 (bif decide (s4<(maxL (List.cons (((List.length s1):Nat):Int) (List.cons (((List.length s2):Nat):Int) (List.nil:List Int))))) then
   some (Sum.inr (s0,(s1,(s2,(s3,s4)))))
  else
  bif decide (s3>(0:Int)) then
   some (Sum.inr (s0,(s1,(s2,(s3,s4)))))
  else
  some (Sum.inl (Sum.inr s0))).bind fun x0 =>
 Sum.elim
  (fun x1 =>
  some x1)
  (fun x2 =>
  (bif decide (x2.2.2.2.2<(((List.length x2.2.1):Nat):Int)) then
    ((getI x2.2.1 x2.2.2.2.2)).bind fun x3 =>
    some (Sum.inr (x2.1,(x2.2.1,(x2.2.2.1,((Go.IntKind.wrap Go.IntKind.i64 (x2.2.2.2.1 + x3)),x2.2.2.2.2)))))
   else
   some (Sum.inr (x2.1,(x2.2.1,(x2.2.2.1,(x2.2.2.2.1,x2.2.2.2.2)))))).bind fun x4 =>
  Sum.elim
   (fun x5 =>
   some x5)
   (fun x6 =>
   (bif decide (x6.2.2.2.2<(((List.length x6.2.2.1):Nat):Int)) then
     ((getI x6.2.2.1 x6.2.2.2.2)).bind fun x7 =>
     some (Sum.inr (x6.1,(x6.2.1,(x6.2.2.1,((Go.IntKind.wrap Go.IntKind.i64 (x6.2.2.2.1 + x7)),x6.2.2.2.2)))))
    else
    some (Sum.inr (x6.1,(x6.2.1,(x6.2.2.1,(x6.2.2.2.1,x6.2.2.2.2)))))).bind fun x8 =>
   Sum.elim
    (fun x9 =>
    some x9)
    (fun x10 =>
    ((appL 8 1 x10.1 (List.cons (Int.tmod x10.2.2.2.1 (65536:Int)) (List.nil:List Int)))).bind fun x11 =>
    some (Sum.inl (x11,(x10.2.1,(x10.2.2.1,((Go.IntKind.wrap Go.IntKind.i64 (Int.tdiv x10.2.2.2.1 (65536:Int))),(Go.IntKind.wrap Go.IntKind.i64 (x10.2.2.2.2 + (1:Int)))))))))
    x8)
   x4)
  x0
noncomputable def EC (a0:(List Int)) (a1:(List Int)):Option (List (Int)) :=
 (loopM (fun (s:((List Int)×((List Int)×((List Int)×(Int×Int)))))=>C9 s.1 s.2.1 s.2.2.1 s.2.2.2.1 s.2.2.2.2) ((List.nil:List Int),(a0,(a1,((0:Int),(0:Int)))))).bind fun x0 =>
 some x0
noncomputable def Nj:Ent:=⟨IU,fun x=>EC x.1 x.2⟩
noncomputable def Nv:TX:=⟨tyTab,codTab,[],[4],[],IU⟩
set_option maxHeartbeats 2000000 in
theorem Xg (a0:List (Int)) (a1:List (Int)):wtF Nv Tryz.f183 (a0,a1)=EC a0 a1:=by kernel_rfl
theorem UQ:EntOK RR Nj:=Ab (X:=Nv) ⟨tyOK,boolOK,eqOK⟩ (Ad (by exact trivial)) (Ae (by kernel_rfl)) ⟨Tryz.func183,rfl,by kernel_rfl,rfl⟩ (fun x=>by exact Xg x.1 x.2)
noncomputable def EQ (s0:(List Int)) (s1:(List Int)) (s2:Int) (s3:Int) (s4:Int):Option (((List Int)×((List Int)×(Int×(Int×Int)))) ⊕ (List Int)) :=
 bif decide (s4<s3) then
  ((idxI s4 (List.length s0))).bind fun x0 =>
  ((getN s0 x0)).bind fun x1 =>
  ((idxI s4 (List.length s0))).bind fun x2 =>
  ((getN s0 x2)).bind fun x3 =>
  (bif decide (s4<(((List.length s1):Nat):Int)) then
    ((idxI s4 (List.length (List.set s0 x2 (Go.IntKind.wrap Go.IntKind.i64 (x1-s2)))))).bind fun x4 =>
    ((getN (List.set s0 x2 (Go.IntKind.wrap Go.IntKind.i64 (x1-s2))) x4)).bind fun x5 =>
    ((getI s1 s4)).bind fun x6 =>
    ((idxI s4 (List.length (List.set s0 x2 (Go.IntKind.wrap Go.IntKind.i64 (x1-s2)))))).bind fun x7 =>
    ((getN (List.set s0 x2 (Go.IntKind.wrap Go.IntKind.i64 (x1-s2))) x7)).bind fun x8 =>
    some (Sum.inr ((List.set (List.set s0 x2 (Go.IntKind.wrap Go.IntKind.i64 (x1-s2))) x7 (Go.IntKind.wrap Go.IntKind.i64 (x5-x6))),(s1,(s4,(s3,s4)))))
   else
   some (Sum.inr ((List.set s0 x2 (Go.IntKind.wrap Go.IntKind.i64 (x1-s2))),(s1,(s4,(s3,s4)))))).bind fun x9 =>
  Sum.elim
   (fun x10 =>
   some x10)
   (fun x11 =>
   ((idxI x11.2.2.1 (List.length x11.1))).bind fun x12 =>
   ((getN x11.1 x12)).bind fun x13 =>
   bif decide (x13<(0:Int)) then
    ((idxI x11.2.2.1 (List.length x11.1))).bind fun x14 =>
    ((getN x11.1 x14)).bind fun x15 =>
    ((idxI x11.2.2.1 (List.length x11.1))).bind fun x16 =>
    ((getN x11.1 x16)).bind fun x17 =>
    some (Sum.inl ((List.set x11.1 x16 (Go.IntKind.wrap Go.IntKind.i64 (x15 + (65536:Int)))),(x11.2.1,((1:Int),(x11.2.2.2.1,(Go.IntKind.wrap Go.IntKind.i64 (x11.2.2.2.2 + (1:Int))))))))
   else
   some (Sum.inl (x11.1,(x11.2.1,((0:Int),(x11.2.2.2.1,(Go.IntKind.wrap Go.IntKind.i64 (x11.2.2.2.2 + (1:Int)))))))))
   x9
 else
 some (Sum.inr s0)
noncomputable def De (a0:(List Int)) (a1:(List Int)):Option (List (Int)) :=
 ((Bc a0)).bind fun x0 =>
 (loopM (fun (s:((List Int)×((List Int)×(Int×(Int×Int)))))=>EQ s.1 s.2.1 s.2.2.1 s.2.2.2.1 s.2.2.2.2) (x0,(a1,((0:Int),((((List.length x0):Nat):Int),(0:Int)))))).bind fun x1 =>
 ((Ft x1)).bind fun x2 =>
 some x2
noncomputable def MY:Ent:=⟨IL,fun x=>De x.1 x.2⟩
noncomputable def NM:TX:=⟨tyTab,codTab,[],[4],[Cn,Nx],IL⟩
set_option maxHeartbeats 2000000 in
theorem Xo (a0:List (Int)) (a1:List (Int)):wtF NM Tryz.f185 (a0,a1)=De a0 a1:=by kernel_rfl
theorem Uy:EntOK RR MY:=Ab (X:=NM) ⟨tyOK,boolOK,eqOK⟩ (Ad (by exact ⟨⟨DH,rfl⟩,⟨⟨MS,rfl⟩,trivial⟩⟩)) (Ae (by kernel_rfl)) ⟨Tryz.func185,rfl,by kernel_rfl,rfl⟩ (fun x=>by exact Xo x.1 x.2)
noncomputable def Cw (a0:(Bool×(List Int))) (a1:(Bool×(List Int))):Option ((Bool×List (Int))) :=
 bif (a0.1==a1.1) then
  ((EC a0.2 a1.2)).bind fun x0 =>
  ((AL a0.1 x0)).bind fun x1 =>
  some (x1.2,x1.1)
 else
 ((A8 a0.2 a1.2)).bind fun x2 =>
 bif decide (x2≥(0:Int)) then
  ((De a0.2 a1.2)).bind fun x3 =>
  ((AL a0.1 x3)).bind fun x4 =>
  some (x4.2,x4.1)
 else
 ((De a1.2 a0.2)).bind fun x5 =>
 ((AL a1.1 x5)).bind fun x6 =>
 some (x6.2,x6.1)
noncomputable def HF:Ent:=⟨JJ,fun x=>Cw x.1 x.2⟩
noncomputable def PB:TX:=⟨tyTab,codTab,[],[4],[Nj,CN,Dp,MY],JJ⟩
set_option maxHeartbeats 2000000 in
theorem YF (a0:(Bool×List (Int))) (a1:(Bool×List (Int))):wtF PB Tryz.f95 (a0,a1)=Cw a0 a1:=by kernel_rfl
theorem Jj:EntOK RR HF:=Ab (X:=PB) ⟨tyOK,boolOK,eqOK⟩ (Ad (by exact ⟨⟨UQ,rfl⟩,⟨⟨CD,rfl⟩,⟨⟨Eu,rfl⟩,⟨⟨Uy,rfl⟩,trivial⟩⟩⟩⟩)) (Ae (by kernel_rfl)) ⟨Tryz.func95,rfl,by kernel_rfl,rfl⟩ (fun x=>by exact YF x.1 x.2)
noncomputable def CY (a0:(Bool×(List Int))) (a1:(Bool×(List Int))):Option ((Bool×List (Int))×(Bool×List (Int))) :=
 ((Dj a0.2 a1.2)).bind fun x0 =>
 ((AL (!(a0.1==a1.1)) x0.1)).bind fun x1 =>
 ((AL a0.1 x0.2)).bind fun x2 =>
 some ((x1.2,x1.1),(x2.2,x2.1))
noncomputable def KO:Ent:=⟨JE,fun x=>CY x.1 x.2⟩
noncomputable def PX:TX:=⟨tyTab,codTab,[],[4],[I4,CN],JE⟩
set_option maxHeartbeats 2000000 in
theorem Yt (a0:(Bool×List (Int))) (a1:(Bool×List (Int))):wtF PX Tryz.f182 (a0,a1)=CY a0 a1:=by kernel_rfl
theorem Oa:EntOK RR KO:=Ab (X:=PX) ⟨tyOK,boolOK,eqOK⟩ (Ad (by exact ⟨⟨LU,rfl⟩,⟨⟨CD,rfl⟩,trivial⟩⟩)) (Ae (by kernel_rfl)) ⟨Tryz.func182,rfl,by kernel_rfl,rfl⟩ (fun x=>by exact Yt x.1 x.2)
noncomputable def Ds (a0:(Bool×(List Int))) (a1:(Bool×(List Int))):Option ((Bool×List (Int)×Bool×List (Int))) :=
 ((Eb (a0.1,a0.2) (a1.1,a1.2))).bind fun x0 =>
 (bif a1.1 then
   ((C8 (x0.1,x0.2))).bind fun x1 =>
   some (Sum.inr ((a0.1,a0.2),((a1.1,a1.2),((false,((List.nil:List Int),(false,(List.nil:List Int)))),(x1.1,x1.2)))))
  else
  some (Sum.inr ((a0.1,a0.2),((a1.1,a1.2),((false,((List.nil:List Int),(false,(List.nil:List Int)))),(x0.1,x0.2)))))).bind fun x2 =>
 Sum.elim
  (fun x3 =>
  some x3)
  (fun x4 =>
  ((CY (x4.1.1,x4.1.2) (x4.2.2.2.1,x4.2.2.2.2))).bind fun x5 =>
  ((CY (x4.2.1.1,x4.2.1.2) (x4.2.2.2.1,x4.2.2.2.2))).bind fun x6 =>
  some (x5.1.1,(x5.1.2,(x6.1.1,x6.1.2))))
  x2
noncomputable def Gr:Ent:=⟨Pk,fun x=>Ds x.1 x.2⟩
noncomputable def Wd:TX:=⟨tyTab,codTab,[],[4],[KX,HC,KO],Pk⟩
set_option maxHeartbeats 2000000 in
theorem Aw6 (a0:(Bool×List (Int))) (a1:(Bool×List (Int))):wtF Wd Tryz.f94 (a0,a1)=Ds a0 a1:=by kernel_rfl
theorem Hm:EntOK RR Gr:=Ab (X:=Wd) ⟨tyOK,boolOK,eqOK⟩ (Ad (by exact ⟨⟨Nt,rfl⟩,⟨⟨Jd,rfl⟩,⟨⟨Oa,rfl⟩,trivial⟩⟩⟩)) (Ae (by kernel_rfl)) ⟨Tryz.func94,rfl,by kernel_rfl,rfl⟩ (fun x=>by exact Aw6 x.1 x.2)
noncomputable def BJ (a0:(Bool×((List Int)×(Bool×(List Int))))) (a1:(Bool×((List Int)×(Bool×(List Int))))):Option ((Bool×List (Int)×Bool×List (Int))) :=
 ((AV (a0.1,a0.2.1) (a1.2.2.1,a1.2.2.2))).bind fun x0 =>
 ((AV (a1.1,a1.2.1) (a0.2.2.1,a0.2.2.2))).bind fun x1 =>
 ((Cw (x0.2,x0.1) (x1.2,x1.1))).bind fun x2 =>
 ((AV (a0.2.2.1,a0.2.2.2) (a1.2.2.1,a1.2.2.2))).bind fun x3 =>
 ((Ds (x2.1,x2.2) (x3.2,x3.1))).bind fun x4 =>
 some (x4.1,(x4.2.1,(x4.2.2.1,x4.2.2.2)))
noncomputable def D6:Ent:=⟨KP,fun x=>BJ x.1 x.2⟩
noncomputable def QS:TX:=⟨tyTab,codTab,[],[4],[D5,HF,Gr],KP⟩
set_option maxHeartbeats 2000000 in
theorem X1 (a0:(Bool×List (Int)×Bool×List (Int))) (a1:(Bool×List (Int)×Bool×List (Int))):wtF QS Tryz.f91 (a0,a1)=BJ a0 a1:=by kernel_rfl
theorem Ep:EntOK RR D6:=Ab (X:=QS) ⟨tyOK,boolOK,eqOK⟩ (Ad (by exact ⟨⟨EP,rfl⟩,⟨⟨Jj,rfl⟩,⟨⟨Hm,rfl⟩,trivial⟩⟩⟩)) (Ae (by kernel_rfl)) ⟨Tryz.func91,rfl,by kernel_rfl,rfl⟩ (fun x=>by exact X1 x.1 x.2)
noncomputable def Ct (a0:(Bool×((List Int)×(Bool×(List Int))))) (a1:(Bool×((List Int)×(Bool×(List Int))))):Option ((Bool×List (Int)×Bool×List (Int))) :=
 ((FG (a1.1,(a1.2.1,(a1.2.2.1,a1.2.2.2))))).bind fun x0 =>
 ((BJ (a0.1,(a0.2.1,(a0.2.2.1,a0.2.2.2))) (x0.1,(x0.2.1,(x0.2.2.1,x0.2.2.2))))).bind fun x1 =>
 some (x1.1,(x1.2.1,(x1.2.2.1,x1.2.2.2)))
noncomputable def HI:Ent:=⟨JM,fun x=>Ct x.1 x.2⟩
noncomputable def QQ:TX:=⟨tyTab,codTab,[],[4],[QU,D6],JM⟩
set_option maxHeartbeats 2000000 in
theorem YL (a0:(Bool×List (Int)×Bool×List (Int))) (a1:(Bool×List (Int)×Bool×List (Int))):wtF QQ Tryz.f186 (a0,a1)=Ct a0 a1:=by kernel_rfl
theorem I7:EntOK RR HI:=Ab (X:=QQ) ⟨tyOK,boolOK,eqOK⟩ (Ad (by exact ⟨⟨XB,rfl⟩,⟨⟨Ep,rfl⟩,trivial⟩⟩)) (Ae (by kernel_rfl)) ⟨Tryz.func186,rfl,by kernel_rfl,rfl⟩ (fun x=>by exact YL x.1 x.2)
noncomputable def C0 (a0:(Bool×((List Int)×(Bool×(List Int))))) (a1:(Bool×((List Int)×(Bool×(List Int))))):Option ((Bool×List (Int)×Bool×List (Int))) :=
 ((AV (a0.1,a0.2.1) (a1.2.2.1,a1.2.2.2))).bind fun x0 =>
 ((AV (a0.2.2.1,a0.2.2.2) (a1.1,a1.2.1))).bind fun x1 =>
 ((Ds (x0.2,x0.1) (x1.2,x1.1))).bind fun x2 =>
 some (x2.1,(x2.2.1,(x2.2.2.1,x2.2.2.2)))
noncomputable def JY:Ent:=⟨JT,fun x=>C0 x.1 x.2⟩
noncomputable def P4:TX:=⟨tyTab,codTab,[],[4],[D5,Gr],JT⟩
set_option maxHeartbeats 2000000 in
theorem YH (a0:(Bool×List (Int)×Bool×List (Int))) (a1:(Bool×List (Int)×Bool×List (Int))):wtF P4 Tryz.f121 (a0,a1)=C0 a0 a1:=by kernel_rfl
theorem Ng:EntOK RR JY:=Ab (X:=P4) ⟨tyOK,boolOK,eqOK⟩ (Ad (by exact ⟨⟨EP,rfl⟩,⟨⟨Hm,rfl⟩,trivial⟩⟩)) (Ae (by kernel_rfl)) ⟨Tryz.func121,rfl,by kernel_rfl,rfl⟩ (fun x=>by exact YH x.1 x.2)
noncomputable def BC (a0:Int):Option ((Bool×List (Int)×Bool×List (Int))) :=
 ((BB a0)).bind fun x0 =>
 ((BB (1:Int))).bind fun x1 =>
 some (x0.1,(x0.2,(x1.1,x1.2)))
noncomputable def Gn:Ent:=⟨OG,fun x=>BC x⟩
noncomputable def V3:TX:=⟨tyTab,codTab,[],[4],[EX],OG⟩
set_option maxHeartbeats 2000000 in
theorem Ay6 (a0:Int):wtF V3 Tryz.f92 (a0)=BC a0:=by kernel_rfl
theorem Hr:EntOK RR Gn:=Ab (X:=V3) ⟨tyOK,boolOK,eqOK⟩ (Ad (by exact ⟨⟨EW,rfl⟩,trivial⟩)) (Ae (by kernel_rfl)) ⟨Tryz.func92,rfl,by kernel_rfl,rfl⟩ (fun x=>by exact Ay6 x)
noncomputable def BK (a0:(Bool×((List Int)×(Bool×(List Int))))) (a1:(Bool×((List Int)×(Bool×(List Int))))):Option ((Bool×List (Int)×Bool×List (Int))) :=
 ((AV (a0.1,a0.2.1) (a1.1,a1.2.1))).bind fun x0 =>
 ((AV (a0.2.2.1,a0.2.2.2) (a1.2.2.1,a1.2.2.2))).bind fun x1 =>
 ((Ds (x0.2,x0.1) (x1.2,x1.1))).bind fun x2 =>
 some (x2.1,(x2.2.1,(x2.2.2.1,x2.2.2.2)))
noncomputable def Ki:Ent:=⟨KZ,fun x=>BK x.1 x.2⟩
noncomputable def Qw:TX:=⟨tyTab,codTab,[],[4],[D5,Gr],KZ⟩
set_option maxHeartbeats 2000000 in
theorem Zh (a0:(Bool×List (Int)×Bool×List (Int))) (a1:(Bool×List (Int)×Bool×List (Int))):wtF Qw Tryz.f119 (a0,a1)=BK a0 a1:=by kernel_rfl
theorem NJ:EntOK RR Ki:=Ab (X:=Qw) ⟨tyOK,boolOK,eqOK⟩ (Ad (by exact ⟨⟨EP,rfl⟩,⟨⟨Hm,rfl⟩,trivial⟩⟩)) (Ae (by kernel_rfl)) ⟨Tryz.func119,rfl,by kernel_rfl,rfl⟩ (fun x=>by exact Zh x.1 x.2)
noncomputable def MQ (a0:(Bool×((List Int)×(Bool×((List Int)×(Bool×((List Int)×(Bool×(List Int))))))))) (a1:(Bool×((List Int)×(Bool×((List Int)×(Bool×((List Int)×(Bool×(List Int))))))))) (a2:(Bool×((List Int)×(Bool×(List Int))))):Option ((Bool×List (Int)×Bool×List (Int)×Bool×List (Int)×Bool×List (Int))) :=
 ((BC (1:Int))).bind fun x0 =>
 ((Ct (x0.1,(x0.2.1,(x0.2.2.1,x0.2.2.2))) (a2.1,(a2.2.1,(a2.2.2.1,a2.2.2.2))))).bind fun x1 =>
 ((BK (x1.1,(x1.2.1,(x1.2.2.1,x1.2.2.2))) (a0.1,(a0.2.1,(a0.2.2.1,a0.2.2.2.1))))).bind fun x2 =>
 ((BK (a2.1,(a2.2.1,(a2.2.2.1,a2.2.2.2))) (a1.1,(a1.2.1,(a1.2.2.1,a1.2.2.2.1))))).bind fun x3 =>
 ((BJ (x2.1,(x2.2.1,(x2.2.2.1,x2.2.2.2))) (x3.1,(x3.2.1,(x3.2.2.1,x3.2.2.2))))).bind fun x4 =>
 ((BK (x1.1,(x1.2.1,(x1.2.2.1,x1.2.2.2))) (a0.2.2.2.2.1,(a0.2.2.2.2.2.1,(a0.2.2.2.2.2.2.1,a0.2.2.2.2.2.2.2))))).bind fun x5 =>
 ((BK (a2.1,(a2.2.1,(a2.2.2.1,a2.2.2.2))) (a1.2.2.2.2.1,(a1.2.2.2.2.2.1,(a1.2.2.2.2.2.2.1,a1.2.2.2.2.2.2.2))))).bind fun x6 =>
 ((BJ (x5.1,(x5.2.1,(x5.2.2.1,x5.2.2.2))) (x6.1,(x6.2.1,(x6.2.2.1,x6.2.2.2))))).bind fun x7 =>
 some (x4.1,(x4.2.1,(x4.2.2.1,(x4.2.2.2,(x7.1,(x7.2.1,(x7.2.2.1,x7.2.2.2)))))))
noncomputable def Ao4:Ent:=⟨XJ,fun x=>MQ x.1 x.2.1 x.2.2⟩
noncomputable def Ap3:TX:=⟨tyTab,codTab,[],[4],[Gn,HI,Ki,D6],XJ⟩
set_option maxHeartbeats 2000000 in
theorem AP7 (a0:(Bool×List (Int)×Bool×List (Int)×Bool×List (Int)×Bool×List (Int))) (a1:(Bool×List (Int)×Bool×List (Int)×Bool×List (Int)×Bool×List (Int))) (a2:(Bool×List (Int)×Bool×List (Int))):wtF Ap3 Tryz.f120 (a0,a1,a2)=MQ a0 a1 a2:=by kernel_rfl
theorem AG2:EntOK RR Ao4:=Ab (X:=Ap3) ⟨tyOK,boolOK,eqOK⟩ (Ad (by exact ⟨⟨Hr,rfl⟩,⟨⟨I7,rfl⟩,⟨⟨NJ,rfl⟩,⟨⟨Ep,rfl⟩,trivial⟩⟩⟩⟩)) (Ae (by kernel_rfl)) ⟨Tryz.func120,rfl,by kernel_rfl,rfl⟩ (fun x=>by exact AP7 x.1 x.2.1 x.2.2)
noncomputable def CW (s0:Bool) (s1:(Bool×((List Int)×(Bool×(List Int))))) (s2:Bool) (s3:(List (((Bool×(List Int))×(Bool×(List Int)))×((Bool×(List Int))×(Bool×(List Int)))))) (s4:(List (((Bool×(List Int))×(Bool×(List Int)))×((Bool×(List Int))×(Bool×(List Int)))))) (s5:(List (((Bool×(List Int))×(Bool×(List Int)))×((Bool×(List Int))×(Bool×(List Int)))))) (s6:Int) (s7:Int):Option ((Bool×((Bool×((List Int)×(Bool×(List Int))))×(Bool×((List (((Bool×(List Int))×(Bool×(List Int)))×((Bool×(List Int))×(Bool×(List Int)))))×((List (((Bool×(List Int))×(Bool×(List Int)))×((Bool×(List Int))×(Bool×(List Int)))))×((List (((Bool×(List Int))×(Bool×(List Int)))×((Bool×(List Int))×(Bool×(List Int)))))×(Int×Int))))))) ⊕ (List (((Bool×(List Int))×(Bool×(List Int)))×((Bool×(List Int))×(Bool×(List Int)))))) :=
 bif decide (s7<s6) then
  ((getI s5 s7)).bind fun x0 =>
  bif ((((List.length s4):Nat):Int)==(0:Int)) then
   none
  else
  ((getI s4 (Int.tmod (Go.IntKind.wrap Go.IntKind.i64 ((Go.IntKind.wrap Go.IntKind.i64 (s7 + (((List.length s4):Nat):Int)))-(1:Int))) (((List.length s4):Nat):Int)))).bind fun x1 =>
  (((DW s2 s0 (s1.1,(s1.2.1,(s1.2.2.1,s1.2.2.2))) (x1.1.1.1,(x1.1.1.2,(x1.1.2.1,(x1.1.2.2,(x1.2.1.1,(x1.2.1.2,(x1.2.2.1,x1.2.2.2))))))))).bind fun x2 =>
   ((DW x2.1 x2.2.1 (x2.2.2.1.1,(x2.2.2.1.2.1,(x2.2.2.1.2.2.1,x2.2.2.1.2.2.2))) (x0.1.1.1,(x0.1.1.2,(x0.1.2.1,(x0.1.2.2,(x0.2.1.1,(x0.2.1.2,(x0.2.2.1,x0.2.2.2))))))))).bind fun x3 =>
   bif (!(x2.2.2.2==x3.2.2.2)) then
    ((AR (x1.1.1.1,(x1.1.1.2,(x1.1.2.1,(x1.1.2.2,(x1.2.1.1,(x1.2.1.2,(x1.2.2.1,x1.2.2.2))))))) x3.2.1)).bind fun x4 =>
    ((Ct (x3.2.2.1.1,(x3.2.2.1.2.1,(x3.2.2.1.2.2.1,x3.2.2.1.2.2.2))) (x4.1,(x4.2.1,(x4.2.2.1,x4.2.2.2))))).bind fun x5 =>
    ((AR (x0.1.1.1,(x0.1.1.2,(x0.1.2.1,(x0.1.2.2,(x0.2.1.1,(x0.2.1.2,(x0.2.2.1,x0.2.2.2))))))) x3.2.1)).bind fun x6 =>
    ((AR (x1.1.1.1,(x1.1.1.2,(x1.1.2.1,(x1.1.2.2,(x1.2.1.1,(x1.2.1.2,(x1.2.2.1,x1.2.2.2))))))) x3.2.1)).bind fun x7 =>
    ((Ct (x6.1,(x6.2.1,(x6.2.2.1,x6.2.2.2))) (x7.1,(x7.2.1,(x7.2.2.1,x7.2.2.2))))).bind fun x8 =>
    ((C0 (x5.1,(x5.2.1,(x5.2.2.1,x5.2.2.2))) (x8.1,(x8.2.1,(x8.2.2.1,x8.2.2.2))))).bind fun x9 =>
    ((MQ (x1.1.1.1,(x1.1.1.2,(x1.1.2.1,(x1.1.2.2,(x1.2.1.1,(x1.2.1.2,(x1.2.2.1,x1.2.2.2))))))) (x0.1.1.1,(x0.1.1.2,(x0.1.2.1,(x0.1.2.2,(x0.2.1.1,(x0.2.1.2,(x0.2.2.1,x0.2.2.2))))))) (x9.1,(x9.2.1,(x9.2.2.1,x9.2.2.2))))).bind fun x10 =>
    ((appL 128 8 s3 (List.cons (((x10.1,x10.2.1),(x10.2.2.1,x10.2.2.2.1)),((x10.2.2.2.2.1,x10.2.2.2.2.2.1),(x10.2.2.2.2.2.2.1,x10.2.2.2.2.2.2.2))) (List.nil:List (((Bool×(List Int))×(Bool×(List Int)))×((Bool×(List Int))×(Bool×(List Int)))))))).bind fun x11 =>
    some (Sum.inr (x3.2.1,((x3.2.2.1.1,(x3.2.2.1.2.1,(x3.2.2.1.2.2.1,x3.2.2.1.2.2.2))),(x3.1,(x11,((x0.1.1.1,(x0.1.1.2,(x0.1.2.1,(x0.1.2.2,(x0.2.1.1,(x0.2.1.2,(x0.2.2.1,x0.2.2.2))))))),(s4,(s5,(s6,s7)))))))))
   else
   some (Sum.inr (x3.2.1,((x3.2.2.1.1,(x3.2.2.1.2.1,(x3.2.2.1.2.2.1,x3.2.2.1.2.2.2))),(x3.1,(s3,((x0.1.1.1,(x0.1.1.2,(x0.1.2.1,(x0.1.2.2,(x0.2.1.1,(x0.2.1.2,(x0.2.2.1,x0.2.2.2))))))),(s4,(s5,(s6,s7)))))))))).bind fun x12 =>
  Sum.elim
   (fun x13 =>
   some x13)
   (fun x14 =>
   ((DW x14.2.2.1 x14.1 (x14.2.1.1,(x14.2.1.2.1,(x14.2.1.2.2.1,x14.2.1.2.2.2))) (x14.2.2.2.2.1.1,(x14.2.2.2.2.1.2.1,(x14.2.2.2.2.1.2.2.1,(x14.2.2.2.2.1.2.2.2.1,(x14.2.2.2.2.1.2.2.2.2.1,(x14.2.2.2.2.1.2.2.2.2.2.1,(x14.2.2.2.2.1.2.2.2.2.2.2.1,x14.2.2.2.2.1.2.2.2.2.2.2.2))))))))).bind fun x15 =>
   bif x15.2.2.2 then
    ((appL 128 8 x14.2.2.2.1 (List.cons (((x14.2.2.2.2.1.1,x14.2.2.2.2.1.2.1),(x14.2.2.2.2.1.2.2.1,x14.2.2.2.2.1.2.2.2.1)),((x14.2.2.2.2.1.2.2.2.2.1,x14.2.2.2.2.1.2.2.2.2.2.1),(x14.2.2.2.2.1.2.2.2.2.2.2.1,x14.2.2.2.2.1.2.2.2.2.2.2.2))) (List.nil:List (((Bool×(List Int))×(Bool×(List Int)))×((Bool×(List Int))×(Bool×(List Int)))))))).bind fun x16 =>
    some (Sum.inl (x15.2.1,((x15.2.2.1.1,(x15.2.2.1.2.1,(x15.2.2.1.2.2.1,x15.2.2.1.2.2.2))),(x15.1,(x16,(x14.2.2.2.2.2.1,(x14.2.2.2.2.2.2.1,(x14.2.2.2.2.2.2.2.1,(Go.IntKind.wrap Go.IntKind.i64 (x14.2.2.2.2.2.2.2.2 + (1:Int)))))))))))
   else
   some (Sum.inl (x15.2.1,((x15.2.2.1.1,(x15.2.2.1.2.1,(x15.2.2.1.2.2.1,x15.2.2.1.2.2.2))),(x15.1,(x14.2.2.2.1,(x14.2.2.2.2.2.1,(x14.2.2.2.2.2.2.1,(x14.2.2.2.2.2.2.2.1,(Go.IntKind.wrap Go.IntKind.i64 (x14.2.2.2.2.2.2.2.2 + (1:Int))))))))))))
   x12
 else
 some (Sum.inr s3)
noncomputable def Fw (a0:(List (((Bool×(List Int))×(Bool×(List Int)))×((Bool×(List Int))×(Bool×(List Int)))))) (a1:Bool) (a2:Bool) (a3:(Bool×((List Int)×(Bool×(List Int))))):Option (List ((((Bool×List (Int))×(Bool×List (Int)))×((Bool×List (Int))×(Bool×List (Int)))))) :=
 (loopM (fun (s:(Bool×((Bool×((List Int)×(Bool×(List Int))))×(Bool×((List (((Bool×(List Int))×(Bool×(List Int)))×((Bool×(List Int))×(Bool×(List Int)))))×((List (((Bool×(List Int))×(Bool×(List Int)))×((Bool×(List Int))×(Bool×(List Int)))))×((List (((Bool×(List Int))×(Bool×(List Int)))×((Bool×(List Int))×(Bool×(List Int)))))×(Int×Int))))))))=>CW s.1 s.2.1 s.2.2.1 s.2.2.2.1 s.2.2.2.2.1 s.2.2.2.2.2.1 s.2.2.2.2.2.2.1 s.2.2.2.2.2.2.2) (a1,((a3.1,(a3.2.1,(a3.2.2.1,a3.2.2.2))),(a2,((List.nil:List (((Bool×(List Int))×(Bool×(List Int)))×((Bool×(List Int))×(Bool×(List Int))))),(a0,(a0,((((List.length a0):Nat):Int),(0:Int))))))))).bind fun x0 =>
 some x0
noncomputable def Zm:Ent:=⟨S0,fun x=>Fw x.1 x.2.1 x.2.2.1 x.2.2.2⟩
noncomputable def Y2:TX:=⟨tyTab,codTab,[],[4],[Ue,DX,HI,JY,Ao4],S0⟩
set_option maxHeartbeats 2000000 in
theorem AG7 (a0:List ((((Bool×List (Int))×(Bool×List (Int)))×((Bool×List (Int))×(Bool×List (Int)))))) (a1:Bool) (a2:Bool) (a3:(Bool×List (Int)×Bool×List (Int))):wtF Y2 Tryz.f172 (a0,a1,a2,a3)=Fw a0 a1 a2 a3:=by kernel_rfl
theorem Au7:EntOK RR Zm:=Ab (X:=Y2) ⟨tyOK,boolOK,eqOK⟩ (Ad (by exact ⟨⟨YT,rfl⟩,⟨⟨F3,rfl⟩,⟨⟨I7,rfl⟩,⟨⟨Ng,rfl⟩,⟨⟨AG2,rfl⟩,trivial⟩⟩⟩⟩⟩)) (Ae (by kernel_rfl)) ⟨Tryz.func172,rfl,by kernel_rfl,rfl⟩ (fun x=>by exact AG7 x.1 x.2.1 x.2.2.1 x.2.2.2)
noncomputable def FB (a0:(List (((Bool×(List Int))×(Bool×(List Int)))×((Bool×(List Int))×(Bool×(List Int)))))) (a1:(Bool×((List Int)×(Bool×((List Int)×(Bool×((List Int)×(Bool×(List Int))))))))) (a2:(Bool×((List Int)×(Bool×((List Int)×(Bool×((List Int)×(Bool×(List Int))))))))):Option (List ((((Bool×List (Int))×(Bool×List (Int)))×((Bool×List (Int))×(Bool×List (Int)))))) :=
 ((Fw a0 false true (a1.1,(a1.2.1,(a1.2.2.1,a1.2.2.2.1))))).bind fun x0 =>
 ((Fw x0 false false (a2.1,(a2.2.1,(a2.2.2.1,a2.2.2.2.1))))).bind fun x1 =>
 ((Fw x1 true true (a1.2.2.2.2.1,(a1.2.2.2.2.2.1,(a1.2.2.2.2.2.2.1,a1.2.2.2.2.2.2.2))))).bind fun x2 =>
 ((Fw x2 true false (a2.2.2.2.2.1,(a2.2.2.2.2.2.1,(a2.2.2.2.2.2.2.1,a2.2.2.2.2.2.2.2))))).bind fun x3 =>
 some x3
noncomputable def PL:Ent:=⟨Kt,fun x=>FB x.1 x.2.1 x.2.2⟩
noncomputable def QW:TX:=⟨tyTab,codTab,[],[4],[Zm],Kt⟩
set_option maxHeartbeats 2000000 in
theorem Z9 (a0:List ((((Bool×List (Int))×(Bool×List (Int)))×((Bool×List (Int))×(Bool×List (Int)))))) (a1:(Bool×List (Int)×Bool×List (Int)×Bool×List (Int)×Bool×List (Int))) (a2:(Bool×List (Int)×Bool×List (Int)×Bool×List (Int)×Bool×List (Int))):wtF QW Tryz.f82 (a0,a1,a2)=FB a0 a1 a2:=by kernel_rfl
theorem WG:EntOK RR PL:=Ab (X:=QW) ⟨tyOK,boolOK,eqOK⟩ (Ad (by exact ⟨⟨Au7,rfl⟩,trivial⟩)) (Ae (by kernel_rfl)) ⟨Tryz.func82,rfl,by kernel_rfl,rfl⟩ (fun x=>by exact Z9 x.1 x.2.1 x.2.2)
noncomputable def EV (a0:(Bool×((List Int)×(Bool×(List Int))))):Option ((Bool×List (Int)×Bool×List (Int))) :=
 ((AL a0.1 a0.2.1)).bind fun x0 =>
 ((AL false a0.2.2.2)).bind fun x1 =>
 some (x0.2,(x0.1,(x1.2,x1.1)))
noncomputable def S1:Ent:=⟨Ml,fun x=>EV x⟩
noncomputable def Sd:TX:=⟨tyTab,codTab,[],[4],[CN],Ml⟩
set_option maxHeartbeats 2000000 in
theorem Ae8 (a0:(Bool×List (Int)×Bool×List (Int))):wtF Sd Tryz.f224 (a0)=EV a0:=by kernel_rfl
theorem YY:EntOK RR S1:=Ab (X:=Sd) ⟨tyOK,boolOK,eqOK⟩ (Ad (by exact ⟨⟨CD,rfl⟩,trivial⟩)) (Ae (by kernel_rfl)) ⟨Tryz.func224,rfl,by kernel_rfl,rfl⟩ (fun x=>by exact Ae8 x)
noncomputable def Gy (a0:(Bool×((List Int)×(Bool×((List Int)×(Bool×((List Int)×(Bool×(List Int))))))))):Option ((Bool×List (Int)×Bool×List (Int)×Bool×List (Int)×Bool×List (Int))) :=
 ((EV (a0.1,(a0.2.1,(a0.2.2.1,a0.2.2.2.1))))).bind fun x0 =>
 ((EV (a0.2.2.2.2.1,(a0.2.2.2.2.2.1,(a0.2.2.2.2.2.2.1,a0.2.2.2.2.2.2.2))))).bind fun x1 =>
 some (x0.1,(x0.2.1,(x0.2.2.1,(x0.2.2.2,(x1.1,(x1.2.1,(x1.2.2.1,x1.2.2.2)))))))
noncomputable def T2:Ent:=⟨Mb,fun x=>Gy x⟩
noncomputable def Tw:TX:=⟨tyTab,codTab,[],[4],[S1],Mb⟩
set_option maxHeartbeats 2000000 in
theorem Ab8 (a0:(Bool×List (Int)×Bool×List (Int)×Bool×List (Int)×Bool×List (Int))):wtF Tw Tryz.f189 (a0)=Gy a0:=by kernel_rfl
theorem YW:EntOK RR T2:=Ab (X:=Tw) ⟨tyOK,boolOK,eqOK⟩ (Ad (by exact ⟨⟨YY,rfl⟩,trivial⟩)) (Ae (by kernel_rfl)) ⟨Tryz.func189,rfl,by kernel_rfl,rfl⟩ (fun x=>by exact Ab8 x)
noncomputable def B7 (s0:(List (((Bool×(List Int))×(Bool×(List Int)))×((Bool×(List Int))×(Bool×(List Int)))))) (s1:(List (((Bool×(List Int))×(Bool×(List Int)))×((Bool×(List Int))×(Bool×(List Int)))))) (s2:Int) (s3:Int):Option (((List (((Bool×(List Int))×(Bool×(List Int)))×((Bool×(List Int))×(Bool×(List Int)))))×((List (((Bool×(List Int))×(Bool×(List Int)))×((Bool×(List Int))×(Bool×(List Int)))))×(Int×Int))) ⊕ (List (((Bool×(List Int))×(Bool×(List Int)))×((Bool×(List Int))×(Bool×(List Int)))))) :=
 bif decide (s3<s2) then
  ((getI s1 s3)).bind fun x0 =>
  ((Gy (x0.1.1.1,(x0.1.1.2,(x0.1.2.1,(x0.1.2.2,(x0.2.1.1,(x0.2.1.2,(x0.2.2.1,x0.2.2.2))))))))).bind fun x1 =>
  ((appL 128 8 s0 (List.cons (((x1.1,x1.2.1),(x1.2.2.1,x1.2.2.2.1)),((x1.2.2.2.2.1,x1.2.2.2.2.2.1),(x1.2.2.2.2.2.2.1,x1.2.2.2.2.2.2.2))) (List.nil:List (((Bool×(List Int))×(Bool×(List Int)))×((Bool×(List Int))×(Bool×(List Int)))))))).bind fun x2 =>
  some (Sum.inl (x2,(s1,(s2,(Go.IntKind.wrap Go.IntKind.i64 (s3 + (1:Int)))))))
 else
 some (Sum.inr s0)
noncomputable def FF (a0:(List (((Bool×(List Int))×(Bool×(List Int)))×((Bool×(List Int))×(Bool×(List Int)))))):Option (List ((((Bool×List (Int))×(Bool×List (Int)))×((Bool×List (Int))×(Bool×List (Int)))))) :=
 (loopM (fun (s:((List (((Bool×(List Int))×(Bool×(List Int)))×((Bool×(List Int))×(Bool×(List Int)))))×((List (((Bool×(List Int))×(Bool×(List Int)))×((Bool×(List Int))×(Bool×(List Int)))))×(Int×Int))))=>B7 s.1 s.2.1 s.2.2.1 s.2.2.2) ((List.nil:List (((Bool×(List Int))×(Bool×(List Int)))×((Bool×(List Int))×(Bool×(List Int))))),(a0,((((List.length a0):Nat):Int),(0:Int))))).bind fun x0 =>
 some x0
noncomputable def Qh:Ent:=⟨JN,fun x=>FF x⟩
noncomputable def PI:TX:=⟨tyTab,codTab,[],[4],[T2],JN⟩
set_option maxHeartbeats 2000000 in
theorem YD (a0:List ((((Bool×List (Int))×(Bool×List (Int)))×((Bool×List (Int))×(Bool×List (Int)))))):wtF PI Tryz.f109 (a0)=FF a0:=by kernel_rfl
theorem Xx:EntOK RR Qh:=Ab (X:=PI) ⟨tyOK,boolOK,eqOK⟩ (Ad (by exact ⟨⟨YW,rfl⟩,trivial⟩)) (Ae (by kernel_rfl)) ⟨Tryz.func109,rfl,by kernel_rfl,rfl⟩ (fun x=>by exact YD x)
noncomputable def CG (a0:(List (((Bool×(List Int))×(Bool×(List Int)))×((Bool×(List Int))×(Bool×(List Int)))))):Option (List ((((Bool×List (Int))×(Bool×List (Int)))×((Bool×List (Int))×(Bool×List (Int)))))×Bool) :=
 ((CE a0)).bind fun x0 =>
 bif (!x0) then
  some ((List.nil:List (((Bool×(List Int))×(Bool×(List Int)))×((Bool×(List Int))×(Bool×(List Int))))),false)
 else
 ((FF a0)).bind fun x1 =>
 some (x1,true)
noncomputable def Jv:Ent:=⟨FS,fun x=>CG x⟩
noncomputable def Js:TX:=⟨tyTab,codTab,[],[4],[Gf,Qh],FS⟩
set_option maxHeartbeats 2000000 in
theorem Rf (a0:List ((((Bool×List (Int))×(Bool×List (Int)))×((Bool×List (Int))×(Bool×List (Int)))))):wtF Js Tryz.f81 (a0)=CG a0:=by kernel_rfl
theorem O3:EntOK RR Jv:=Ab (X:=Js) ⟨tyOK,boolOK,eqOK⟩ (Ad (by exact ⟨⟨HQ,rfl⟩,⟨⟨Xx,rfl⟩,trivial⟩⟩)) (Ae (by kernel_rfl)) ⟨Tryz.func81,rfl,by kernel_rfl,rfl⟩ (fun x=>by exact Rf x)
noncomputable def Ar (a0:(List (((Bool×(List Int))×(Bool×(List Int)))×((Bool×(List Int))×(Bool×(List Int)))))) (a1:(Bool×((List Int)×(Bool×((List Int)×(Bool×((List Int)×(Bool×(List Int))))))))) (a2:(Bool×((List Int)×(Bool×((List Int)×(Bool×((List Int)×(Bool×(List Int))))))))):Option (List ((((Bool×List (Int))×(Bool×List (Int)))×((Bool×List (Int))×(Bool×List (Int)))))×Bool) :=
 ((CE a0)).bind fun x0 =>
 bif (!x0) then
  some ((List.nil:List (((Bool×(List Int))×(Bool×(List Int)))×((Bool×(List Int))×(Bool×(List Int))))),false)
 else
 ((Dl (a1.1,(a1.2.1,(a1.2.2.1,(a1.2.2.2.1,(a1.2.2.2.2.1,(a1.2.2.2.2.2.1,(a1.2.2.2.2.2.2.1,a1.2.2.2.2.2.2.2))))))) (2:Int))).bind fun x1 =>
 bif (!x1) then
  some ((List.nil:List (((Bool×(List Int))×(Bool×(List Int)))×((Bool×(List Int))×(Bool×(List Int))))),false)
 else
 ((Dl (a2.1,(a2.2.1,(a2.2.2.1,(a2.2.2.2.1,(a2.2.2.2.2.1,(a2.2.2.2.2.2.1,(a2.2.2.2.2.2.2.1,a2.2.2.2.2.2.2.2))))))) (2:Int))).bind fun x2 =>
 bif (!x2) then
  some ((List.nil:List (((Bool×(List Int))×(Bool×(List Int)))×((Bool×(List Int))×(Bool×(List Int))))),false)
 else
 ((A5 (a2.1,(a2.2.1,(a2.2.2.1,a2.2.2.2.1))) (a1.1,(a1.2.1,(a1.2.2.1,a1.2.2.2.1))))).bind fun x3 =>
 bif x3 then
  some ((List.nil:List (((Bool×(List Int))×(Bool×(List Int)))×((Bool×(List Int))×(Bool×(List Int))))),false)
 else
 ((A5 (a2.2.2.2.2.1,(a2.2.2.2.2.2.1,(a2.2.2.2.2.2.2.1,a2.2.2.2.2.2.2.2))) (a1.2.2.2.2.1,(a1.2.2.2.2.2.1,(a1.2.2.2.2.2.2.1,a1.2.2.2.2.2.2.2))))).bind fun x4 =>
 bif x4 then
  some ((List.nil:List (((Bool×(List Int))×(Bool×(List Int)))×((Bool×(List Int))×(Bool×(List Int))))),false)
 else
 ((FB a0 (a1.1,(a1.2.1,(a1.2.2.1,(a1.2.2.2.1,(a1.2.2.2.2.1,(a1.2.2.2.2.2.1,(a1.2.2.2.2.2.2.1,a1.2.2.2.2.2.2.2))))))) (a2.1,(a2.2.1,(a2.2.2.1,(a2.2.2.2.1,(a2.2.2.2.2.1,(a2.2.2.2.2.2.1,(a2.2.2.2.2.2.2.1,a2.2.2.2.2.2.2.2))))))))).bind fun x5 =>
 ((CG x5)).bind fun x6 =>
 some (x6.1,x6.2)
noncomputable def Qf:Ent:=⟨J4,fun x=>Ar x.1 x.2.1 x.2.2⟩
noncomputable def PU:TX:=⟨tyTab,codTab,[],[4],[Gf,Ox,Gi,PL,Jv],J4⟩
set_option maxHeartbeats 2000000 in
theorem Y3 (a0:List ((((Bool×List (Int))×(Bool×List (Int)))×((Bool×List (Int))×(Bool×List (Int)))))) (a1:(Bool×List (Int)×Bool×List (Int)×Bool×List (Int)×Bool×List (Int))) (a2:(Bool×List (Int)×Bool×List (Int)×Bool×List (Int)×Bool×List (Int))):wtF PU Tryz.f9 (a0,a1,a2)=Ar a0 a1 a2:=by kernel_rfl
theorem Xs:EntOK RR Qf:=Ab (X:=PU) ⟨tyOK,boolOK,eqOK⟩ (Ad (by exact ⟨⟨HQ,rfl⟩,⟨⟨R6,rfl⟩,⟨⟨HY,rfl⟩,⟨⟨WG,rfl⟩,⟨⟨O3,rfl⟩,trivial⟩⟩⟩⟩⟩)) (Ae (by kernel_rfl)) ⟨Tryz.func9,rfl,by kernel_rfl,rfl⟩ (fun x=>by exact Y3 x.1 x.2.1 x.2.2)
noncomputable def Ej (a0:(Bool×((List Int)×(Bool×(List Int))))):Option (Bool) :=
 ((Cr (a0.1,a0.2.1))).bind fun x0 =>
 bif (!x0) then
  some false
 else
 ((Cr (a0.2.2.1,a0.2.2.2))).bind fun x1 =>
 bif (!x1) then
  some false
 else
 bif a0.2.2.1 then
  some false
 else
 bif ((((List.length a0.2.2.2):Nat):Int)==(0:Int)) then
  some false
 else
 ((Gx a0.2.1 a0.2.2.2)).bind fun x2 =>
 ((Bo x2 (List.cons (1:Int) (List.nil:List Int)))).bind fun x3 =>
 some (x3==(0:Int))
noncomputable def KN:Ent:=⟨K2,fun x=>Ej x⟩
noncomputable def P5:TX:=⟨tyTab,codTab,[],[4],[Ke,Pd,Id],K2⟩
set_option maxHeartbeats 2000000 in
theorem Yy (a0:(Bool×List (Int)×Bool×List (Int))):wtF P5 Tryz.f143 (a0)=Ej a0:=by kernel_rfl
theorem M7:EntOK RR KN:=Ab (X:=P5) ⟨tyOK,boolOK,eqOK⟩ (Ad (by exact ⟨⟨NF,rfl⟩,⟨⟨Sb,rfl⟩,⟨⟨IG,rfl⟩,trivial⟩⟩⟩)) (Ae (by kernel_rfl)) ⟨Tryz.func143,rfl,by kernel_rfl,rfl⟩ (fun x=>by exact Yy x)
noncomputable def Ei (a0:(Bool×((List Int)×(Bool×(List Int))))):Option (Bool) :=
 bif decide ((((List.length a0.2.1):Nat):Int)≤(8:Int)) then
  bif decide ((((List.length a0.2.2.2):Nat):Int)≤(8:Int)) then
   ((Ej (a0.1,(a0.2.1,(a0.2.2.1,a0.2.2.2))))).bind fun x0 =>
   some x0
  else
  some false
 else
 some false
noncomputable def PA:Ent:=⟨JV,fun x=>Ei x⟩
noncomputable def Qi:TX:=⟨tyTab,codTab,[],[4],[KN],JV⟩
set_option maxHeartbeats 2000000 in
theorem ZG (a0:(Bool×List (Int)×Bool×List (Int))):wtF Qi Tryz.f173 (a0)=Ei a0:=by kernel_rfl
theorem Xw:EntOK RR PA:=Ab (X:=Qi) ⟨tyOK,boolOK,eqOK⟩ (Ad (by exact ⟨⟨M7,rfl⟩,trivial⟩)) (Ae (by kernel_rfl)) ⟨Tryz.func173,rfl,by kernel_rfl,rfl⟩ (fun x=>by exact ZG x)
noncomputable def Bz (s0:(List (((Bool×(List Int))×(Bool×(List Int)))×((Bool×(List Int))×(Bool×(List Int)))))) (s1:(List (((Bool×(List Int))×(Bool×(List Int)))×((Bool×(List Int))×(Bool×(List Int)))))) (s2:Int) (s3:Int):Option (((List (((Bool×(List Int))×(Bool×(List Int)))×((Bool×(List Int))×(Bool×(List Int)))))×((List (((Bool×(List Int))×(Bool×(List Int)))×((Bool×(List Int))×(Bool×(List Int)))))×(Int×Int))) ⊕ ((List (((Bool×(List Int))×(Bool×(List Int)))×((Bool×(List Int))×(Bool×(List Int))))) ⊕ Bool)) :=
 bif decide (s3<s2) then
  ((getI s1 s3)).bind fun x0 =>
  ((Ei (x0.1.1.1,(x0.1.1.2,(x0.1.2.1,x0.1.2.2))))).bind fun x1 =>
  bif (!x1) then
   some (Sum.inr (Sum.inr false))
  else
  ((Ei (x0.2.1.1,(x0.2.1.2,(x0.2.2.1,x0.2.2.2))))).bind fun x2 =>
  bif (!x2) then
   some (Sum.inr (Sum.inr false))
  else
  some (Sum.inl (s0,(s1,(s2,(Go.IntKind.wrap Go.IntKind.i64 (s3 + (1:Int)))))))
 else
 some (Sum.inr (Sum.inl s0))
noncomputable def Dd (a0:(List (((Bool×(List Int))×(Bool×(List Int)))×((Bool×(List Int))×(Bool×(List Int)))))):Option (Bool) :=
 (loopM (fun (s:((List (((Bool×(List Int))×(Bool×(List Int)))×((Bool×(List Int))×(Bool×(List Int)))))×((List (((Bool×(List Int))×(Bool×(List Int)))×((Bool×(List Int))×(Bool×(List Int)))))×(Int×Int))))=>Bz s.1 s.2.1 s.2.2.1 s.2.2.2) (a0,(a0,((((List.length a0):Nat):Int),(0:Int))))).bind fun x0 =>
 Sum.elim
  (fun x1 =>
  some (decide ((((List.length x1):Nat):Int)≤(40:Int))))
  (fun x2 =>
  some x2)
  x0
noncomputable def Jm:Ent:=⟨I8,fun x=>Dd x⟩
noncomputable def NX:TX:=⟨tyTab,codTab,[],[4],[PA],I8⟩
set_option maxHeartbeats 2000000 in
theorem Xr (a0:List ((((Bool×List (Int))×(Bool×List (Int)))×((Bool×List (Int))×(Bool×List (Int)))))):wtF NX Tryz.f83 (a0)=Dd a0:=by kernel_rfl
theorem LJ:EntOK RR Jm:=Ab (X:=NX) ⟨tyOK,boolOK,eqOK⟩ (Ad (by exact ⟨⟨Xw,rfl⟩,trivial⟩)) (Ae (by kernel_rfl)) ⟨Tryz.func83,rfl,by kernel_rfl,rfl⟩ (fun x=>by exact Xr x)
noncomputable def Dh (a0:(Bool×((List Int)×(Bool×(List Int))))):Option (Bool) :=
 bif decide ((((List.length a0.2.1):Nat):Int)≤(2:Int)) then
  bif decide ((((List.length a0.2.2.2):Nat):Int)≤(2:Int)) then
   ((Ej (a0.1,(a0.2.1,(a0.2.2.1,a0.2.2.2))))).bind fun x0 =>
   some x0
  else
  some false
 else
 some false
noncomputable def N6:Ent:=⟨IX,fun x=>Dh x⟩
noncomputable def NG:TX:=⟨tyTab,codTab,[],[4],[KN],IX⟩
set_option maxHeartbeats 2000000 in
theorem WN (a0:(Bool×List (Int)×Bool×List (Int))):wtF NG Tryz.f110 (a0)=Dh a0:=by kernel_rfl
theorem Us:EntOK RR N6:=Ab (X:=NG) ⟨tyOK,boolOK,eqOK⟩ (Ad (by exact ⟨⟨M7,rfl⟩,trivial⟩)) (Ae (by kernel_rfl)) ⟨Tryz.func110,rfl,by kernel_rfl,rfl⟩ (fun x=>by exact WN x)
noncomputable def Gw (a0:(Bool×((List Int)×(Bool×((List Int)×(Bool×((List Int)×(Bool×(List Int))))))))):Option (Bool) :=
 ((Dh (a0.1,(a0.2.1,(a0.2.2.1,a0.2.2.2.1))))).bind fun x0 =>
 bif x0 then
  ((Dh (a0.2.2.2.2.1,(a0.2.2.2.2.2.1,(a0.2.2.2.2.2.2.1,a0.2.2.2.2.2.2.2))))).bind fun x1 =>
  some x1
 else
 some false
noncomputable def VW:Ent:=⟨Oj,fun x=>Gw x⟩
noncomputable def U9:TX:=⟨tyTab,codTab,[],[4],[N6],Oj⟩
set_option maxHeartbeats 2000000 in
theorem Aq6 (a0:(Bool×List (Int)×Bool×List (Int)×Bool×List (Int)×Bool×List (Int))):wtF U9 Tryz.f84 (a0)=Gw a0:=by kernel_rfl
theorem Aa7:EntOK RR VW:=Ab (X:=U9) ⟨tyOK,boolOK,eqOK⟩ (Ad (by exact ⟨⟨Us,rfl⟩,trivial⟩)) (Ae (by kernel_rfl)) ⟨Tryz.func84,rfl,by kernel_rfl,rfl⟩ (fun x=>by exact Aq6 x)
noncomputable def Et (a0:(Bool×(List Int))) (a1:(Bool×(List Int))):Option (Int) :=
 bif a0.1 then
  bif (!a1.1) then
   some (-(1:Int))
  else
  bif (!a0.1) then
   bif a1.1 then
    some (1:Int)
   else
   bif a0.1 then
    ((Bo a1.2 a0.2)).bind fun x0 =>
    some x0
   else
   ((Bo a0.2 a1.2)).bind fun x1 =>
   some x1
  else
  bif a0.1 then
   ((Bo a1.2 a0.2)).bind fun x2 =>
   some x2
  else
  ((Bo a0.2 a1.2)).bind fun x3 =>
  some x3
 else
 bif (!a0.1) then
  bif a1.1 then
   some (1:Int)
  else
  bif a0.1 then
   ((Bo a1.2 a0.2)).bind fun x4 =>
   some x4
  else
  ((Bo a0.2 a1.2)).bind fun x5 =>
  some x5
 else
 bif a0.1 then
  ((Bo a1.2 a0.2)).bind fun x6 =>
  some x6
 else
 ((Bo a0.2 a1.2)).bind fun x7 =>
 some x7
noncomputable def N4:Ent:=⟨I1,fun x=>Et x.1 x.2⟩
noncomputable def Nc:TX:=⟨tyTab,codTab,[],[4],[Id],I1⟩
set_option maxHeartbeats 2000000 in
theorem Xt (a0:(Bool×List (Int))) (a1:(Bool×List (Int))):wtF Nc Tryz.f174 (a0,a1)=Et a0 a1:=by kernel_rfl
theorem UE:EntOK RR N4:=Ab (X:=Nc) ⟨tyOK,boolOK,eqOK⟩ (Ad (by exact ⟨⟨IG,rfl⟩,trivial⟩)) (Ae (by kernel_rfl)) ⟨Tryz.func174,rfl,by kernel_rfl,rfl⟩ (fun x=>by exact Xt x.1 x.2)
noncomputable def E5 (a0:(Bool×((List Int)×(Bool×(List Int))))) (a1:(Bool×((List Int)×(Bool×(List Int))))):Option (Int) :=
 ((BM (a0.1,a0.2.1) (a1.2.2.1,a1.2.2.2))).bind fun x0 =>
 ((BM (a1.1,a1.2.1) (a0.2.2.1,a0.2.2.2))).bind fun x1 =>
 ((Et (x0.1,x0.2) (x1.1,x1.2))).bind fun x2 =>
 some x2
noncomputable def Ps:Ent:=⟨Ow,fun x=>E5 x.1 x.2⟩
noncomputable def UZ:TX:=⟨tyTab,codTab,[],[4],[Iz,N4],Ow⟩
set_option maxHeartbeats 2000000 in
theorem At4 (a0:(Bool×List (Int)×Bool×List (Int))) (a1:(Bool×List (Int)×Bool×List (Int))):wtF UZ Tryz.f85 (a0,a1)=E5 a0 a1:=by kernel_rfl
theorem R8:EntOK RR Ps:=Ab (X:=UZ) ⟨tyOK,boolOK,eqOK⟩ (Ad (by exact ⟨⟨II,rfl⟩,⟨⟨UE,rfl⟩,trivial⟩⟩)) (Ae (by kernel_rfl)) ⟨Tryz.func85,rfl,by kernel_rfl,rfl⟩ (fun x=>by exact At4 x.1 x.2)
noncomputable def Di (a0:(Bool×((List Int)×(Bool×((List Int)×(Bool×((List Int)×(Bool×(List Int))))))))) (a1:Bool):Option ((Bool×List (Int)×Bool×List (Int))) :=
 bif a1 then
  some (a0.2.2.2.2.1,(a0.2.2.2.2.2.1,(a0.2.2.2.2.2.2.1,a0.2.2.2.2.2.2.2)))
 else
 some (a0.1,(a0.2.1,(a0.2.2.1,a0.2.2.2.1)))
noncomputable def IH:Ent:=⟨IK,fun x=>Di x.1 x.2⟩
noncomputable def NO:TX:=⟨tyTab,codTab,[],[4],[],IK⟩
set_option maxHeartbeats 2000000 in
theorem Xd (a0:(Bool×List (Int)×Bool×List (Int)×Bool×List (Int)×Bool×List (Int))) (a1:Bool):wtF NO Tryz.f260 (a0,a1)=Di a0 a1:=by kernel_rfl
theorem LW:EntOK RR IH:=Ab (X:=NO) ⟨tyOK,boolOK,eqOK⟩ (Ad (by exact trivial)) (Ae (by kernel_rfl)) ⟨Tryz.func260,rfl,by kernel_rfl,rfl⟩ (fun x=>by exact Xd x.1 x.2)
noncomputable def Ec (a0:(Bool×((List Int)×(Bool×((List Int)×(Bool×((List Int)×(Bool×(List Int))))))))) (a1:Bool) (a2:(Bool×((List Int)×(Bool×(List Int))))) (a3:Bool):Option (Int) :=
 ((Di (a0.1,(a0.2.1,(a0.2.2.1,(a0.2.2.2.1,(a0.2.2.2.2.1,(a0.2.2.2.2.2.1,(a0.2.2.2.2.2.2.1,a0.2.2.2.2.2.2.2))))))) a1)).bind fun x0 =>
 ((E5 (x0.1,(x0.2.1,(x0.2.2.1,x0.2.2.2))) (a2.1,(a2.2.1,(a2.2.2.1,a2.2.2.2))))).bind fun x1 =>
 bif a3 then
  some (Go.IntKind.wrap Go.IntKind.i64 ((0:Int)-x1))
 else
 some x1
noncomputable def QL:Ent:=⟨KG,fun x=>Ec x.1 x.2.1 x.2.2.1 x.2.2.2⟩
noncomputable def PE:TX:=⟨tyTab,codTab,[],[4],[IH,Ps],KG⟩
set_option maxHeartbeats 2000000 in
theorem ZU (a0:(Bool×List (Int)×Bool×List (Int)×Bool×List (Int)×Bool×List (Int))) (a1:Bool) (a2:(Bool×List (Int)×Bool×List (Int))) (a3:Bool):wtF PE Tryz.f239 (a0,a1,a2,a3)=Ec a0 a1 a2 a3:=by kernel_rfl
theorem WM:EntOK RR QL:=Ab (X:=PE) ⟨tyOK,boolOK,eqOK⟩ (Ad (by exact ⟨⟨LW,rfl⟩,⟨⟨R8,rfl⟩,trivial⟩⟩)) (Ae (by kernel_rfl)) ⟨Tryz.func239,rfl,by kernel_rfl,rfl⟩ (fun x=>by exact ZU x.1 x.2.1 x.2.2.1 x.2.2.2)
noncomputable def Il (a0:(Bool×((List Int)×(Bool×(List Int))))):Option ((Bool×List (Int)×Bool×List (Int))) :=
 ((E7 (a0.1,a0.2.1))).bind fun x0 =>
 some (x0.1,(x0.2,(a0.2.2.1,a0.2.2.2)))
noncomputable def VZ:Ent:=⟨Oy,fun x=>Il x⟩
noncomputable def Vz:TX:=⟨tyTab,codTab,[],[4],[Pu],Oy⟩
set_option maxHeartbeats 2000000 in
theorem Aw1 (a0:(Bool×List (Int)×Bool×List (Int))):wtF Vz Tryz.f249 (a0)=Il a0:=by kernel_rfl
theorem Ab5:EntOK RR VZ:=Ab (X:=Vz) ⟨tyOK,boolOK,eqOK⟩ (Ad (by exact ⟨⟨Tz,rfl⟩,trivial⟩)) (Ae (by kernel_rfl)) ⟨Tryz.func249,rfl,by kernel_rfl,rfl⟩ (fun x=>by exact Aw1 x)
noncomputable def Fh (a0:(Bool×((List Int)×(Bool×(List Int))))) (a1:(Bool×((List Int)×(Bool×(List Int))))):Option ((Bool×List (Int)×Bool×List (Int))) :=
 ((Il (a1.1,(a1.2.1,(a1.2.2.1,a1.2.2.2))))).bind fun x0 =>
 ((Eh (a0.1,(a0.2.1,(a0.2.2.1,a0.2.2.2))) (x0.1,(x0.2.1,(x0.2.2.1,x0.2.2.2))))).bind fun x1 =>
 some (x1.1,(x1.2.1,(x1.2.2.1,x1.2.2.2)))
noncomputable def O6:Ent:=⟨Pz,fun x=>Fh x.1 x.2⟩
noncomputable def V1:TX:=⟨tyTab,codTab,[],[4],[VZ,Ll],Pz⟩
set_option maxHeartbeats 2000000 in
theorem Av6 (a0:(Bool×List (Int)×Bool×List (Int))) (a1:(Bool×List (Int)×Bool×List (Int))):wtF V1 Tryz.f196 (a0,a1)=Fh a0 a1:=by kernel_rfl
end Go.Proofs.YthipdlhknbhiiaaGreat.Ev

end
